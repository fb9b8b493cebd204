/- Part of a proof: see the last text of the claim. -/
import Derived.Test.YthfkhokmgolabaaDoorFxT7
set_option linter.unusedVariables false
set_option linter.unusedSimpArgs false
namespace Go.Fx.Tryd
open Go Go.Fm Go.Proofs

structure BalL where
  m : Int
  d : Int
  r : Int
  w : Int
def BalL.row (p : BalL) : List FV := [.int .i64 p.m, .int .i64 p.d, .int .i64 p.r, .int .i64 p.w]
def balsV (l : List BalL) : List (List FV) := l.map BalL.row
@[go_sem] theorem balsV_length (l : List BalL) : (balsV l).length = l.length := by simp [balsV]
theorem balsV_get {l : List BalL} {i : Nat} (h : i < l.length) : (balsV l)[i]? = some [.int .i64 l[i].m, .int .i64 l[i].d, .int .i64 l[i].r, .int .i64 l[i].w] := by simp [balsV, h, BalL.row]
theorem wrap_range (n : Int) : I64 (IntKind.i64.wrap n) := by
  unfold I64
  simp only [IntKind.wrap, IntKind.bits, IntKind.signed]
  have e : (2 ^ 64 : Int) = 18446744073709551616 := by decide
  have e2 : (2 ^ (64 - 1) : Int) = 9223372036854775808 := by decide
  simp only [e, e2, Bool.true_and, decide_eq_true_eq]
  split <;> rename_i hc <;> omega
theorem arr_range (b c : Int) : I64 (arrN b c) := by
  have := wrap_range (b - c)
  unfold I64 at *; unfold arrN; omega
theorem over_range (b c d : Int) : I64 (overN b c d) := by
  have := wrap_range (IntKind.i64.wrap (c - b) - d)
  unfold I64 at *; unfold overN; omega
def balS (p : BalL) : List UInt8 := monthT p.m ++ [32, 100, 117, 101, 32] ++ fixedS p.d 2 ++ [32, 114, 101, 99, 101, 105, 118, 101, 100, 32] ++ fixedS p.r 2 ++ [32, 119, 97, 105, 118, 101, 100, 32] ++ fixedS p.w 2 ++
  [32, 97, 114, 114, 101, 97, 114, 115, 32] ++ fixedS (arrN p.d p.r) 2 ++ [32, 111, 118, 101, 114, 112, 97, 121, 109, 101, 110, 116, 32] ++ fixedS (overN p.d p.r p.w) 2
def BalL.ok (p : BalL) : Prop := I64 p.d ∧ I64 p.r ∧ I64 p.w
theorem bals_call {f : Bool} {l : List BalL} (hl : l.length < 2 ^ 40) (hI : ∀ p ∈ l, p.ok) : FCall Tryd.prog 16 [.sl f (balsV l)] (· = .arr (strs (l.map balS))) := by
  refine FCall.walk Tryd.func16 k16 rfl ?_
  unfold c16
  simp only [go_sem, ↓reduceIte, reduceCtorEq, Nat.reduceEqDiff, Nat.reduceLT, Nat.reduceLeDiff, Nat.reduceAdd, Nat.reduceSub, Nat.reduceMul, Nat.reduceBNe, Nat.reduceBEq, Int.reduceToNat, Int.reduceLE, Int.reduceLT, Int.reduceEq, Int.reduceNe, Int.reduceAdd, Int.reduceSub, Int.reduceNeg, mixed, decide_eq_true_eq, decide_eq_false_iff_not, Bool.not_eq_true', Bool.not_eq_false', List.headD_cons, Option.some.injEq, Int.cast_ofNat_Int]
  refine FWT.loopK [0, 9] (fun i : Nat => [(3, .arr (strs ((l.take i).map balS))), (6, .sl f (balsV l)), (7, .int .i64 l.length), (8, .int .i64 i)]) (fun i => l.length - i) (fun i => i ≤ l.length) 0 ?_ (by omega) ?_
  · simp only [go_sem, ↓reduceIte, reduceCtorEq, Nat.reduceEqDiff, Nat.reduceLT, Nat.reduceLeDiff, Nat.reduceAdd, Nat.reduceSub, Nat.reduceMul, Nat.reduceBNe, Nat.reduceBEq, Int.reduceToNat, Int.reduceLE, Int.reduceLT, Int.reduceEq, Int.reduceNe, Int.reduceAdd, Int.reduceSub, Int.reduceNeg, mixed, decide_eq_true_eq, decide_eq_false_iff_not, Bool.not_eq_true', Bool.not_eq_false', List.headD_cons, Option.some.injEq, Int.cast_ofNat_Int]
    rfl
  intro i hi
  rcases Nat.lt_or_ge i l.length with h | h
  · have c1 : ((i : Int) < (l.length : Int)) = True := eq_true (by omega)
    have hx := balsV_get h
    obtain ⟨h1, h2, h3⟩ := hI _ (List.getElem_mem h)
    have l1 := monthT_len (m := l[i].m)
    have l2 := fixedS_len (k := 2) h1 (by omega)
    have l3 := fixedS_len (k := 2) h2 (by omega)
    have l4 := fixedS_len (k := 2) h3 (by omega)
    have l5 := fixedS_len (k := 2) (arr_range l[i].d l[i].r) (by omega)
    have l6 := fixedS_len (k := 2) (over_range l[i].d l[i].r l[i].w) (by omega)
    simp only [go_sem, ↓reduceIte, reduceCtorEq, Nat.reduceEqDiff, Nat.reduceLT, Nat.reduceLeDiff, Nat.reduceAdd, Nat.reduceSub, Nat.reduceMul, Nat.reduceBNe, Nat.reduceBEq, Int.reduceToNat, Int.reduceLE, Int.reduceLT, Int.reduceEq, Int.reduceNe, Int.reduceAdd, Int.reduceSub, Int.reduceNeg, mixed, decide_eq_true_eq, decide_eq_false_iff_not, Bool.not_eq_true', Bool.not_eq_false', List.headD_cons, Option.some.injEq, Int.cast_ofNat_Int, c1, Int.toNat_natCast, hx]
    refine detCall_of _ (monthT_call) ?_
    simp only [go_sem, ↓reduceIte, reduceCtorEq, Nat.reduceEqDiff, Nat.reduceLT, Nat.reduceLeDiff, Nat.reduceAdd, Nat.reduceSub, Nat.reduceMul, Nat.reduceBNe, Nat.reduceBEq, Int.reduceToNat, Int.reduceLE, Int.reduceLT, Int.reduceEq, Int.reduceNe, Int.reduceAdd, Int.reduceSub, Int.reduceNeg, mixed, decide_eq_true_eq, decide_eq_false_iff_not, Bool.not_eq_true', Bool.not_eq_false', List.headD_cons, Option.some.injEq, Int.cast_ofNat_Int]
    refine ⟨by first | omega | (simp; omega), ?_⟩
    refine detCall_of _ (amount_call h1) ?_
    simp only [go_sem, ↓reduceIte, reduceCtorEq, Nat.reduceEqDiff, Nat.reduceLT, Nat.reduceLeDiff, Nat.reduceAdd, Nat.reduceSub, Nat.reduceMul, Nat.reduceBNe, Nat.reduceBEq, Int.reduceToNat, Int.reduceLE, Int.reduceLT, Int.reduceEq, Int.reduceNe, Int.reduceAdd, Int.reduceSub, Int.reduceNeg, mixed, decide_eq_true_eq, decide_eq_false_iff_not, Bool.not_eq_true', Bool.not_eq_false', List.headD_cons, Option.some.injEq, Int.cast_ofNat_Int]
    refine ⟨by first | omega | (simp; omega), by first | omega | (simp; omega), ?_⟩
    refine detCall_of _ (amount_call h2) ?_
    simp only [go_sem, ↓reduceIte, reduceCtorEq, Nat.reduceEqDiff, Nat.reduceLT, Nat.reduceLeDiff, Nat.reduceAdd, Nat.reduceSub, Nat.reduceMul, Nat.reduceBNe, Nat.reduceBEq, Int.reduceToNat, Int.reduceLE, Int.reduceLT, Int.reduceEq, Int.reduceNe, Int.reduceAdd, Int.reduceSub, Int.reduceNeg, mixed, decide_eq_true_eq, decide_eq_false_iff_not, Bool.not_eq_true', Bool.not_eq_false', List.headD_cons, Option.some.injEq, Int.cast_ofNat_Int]
    refine ⟨by first | omega | (simp; omega), by first | omega | (simp; omega), ?_⟩
    refine detCall_of _ (amount_call h3) ?_
    simp only [go_sem, ↓reduceIte, reduceCtorEq, Nat.reduceEqDiff, Nat.reduceLT, Nat.reduceLeDiff, Nat.reduceAdd, Nat.reduceSub, Nat.reduceMul, Nat.reduceBNe, Nat.reduceBEq, Int.reduceToNat, Int.reduceLE, Int.reduceLT, Int.reduceEq, Int.reduceNe, Int.reduceAdd, Int.reduceSub, Int.reduceNeg, mixed, decide_eq_true_eq, decide_eq_false_iff_not, Bool.not_eq_true', Bool.not_eq_false', List.headD_cons, Option.some.injEq, Int.cast_ofNat_Int]
    refine ⟨by first | omega | (simp; omega), by first | omega | (simp; omega), ?_⟩
    refine detCall_of _ (arr_call) ?_
    simp only [go_sem, ↓reduceIte, reduceCtorEq, Nat.reduceEqDiff, Nat.reduceLT, Nat.reduceLeDiff, Nat.reduceAdd, Nat.reduceSub, Nat.reduceMul, Nat.reduceBNe, Nat.reduceBEq, Int.reduceToNat, Int.reduceLE, Int.reduceLT, Int.reduceEq, Int.reduceNe, Int.reduceAdd, Int.reduceSub, Int.reduceNeg, mixed, decide_eq_true_eq, decide_eq_false_iff_not, Bool.not_eq_true', Bool.not_eq_false', List.headD_cons, Option.some.injEq, Int.cast_ofNat_Int]
    refine detCall_of _ (amount_call (arr_range _ _)) ?_
    simp only [go_sem, ↓reduceIte, reduceCtorEq, Nat.reduceEqDiff, Nat.reduceLT, Nat.reduceLeDiff, Nat.reduceAdd, Nat.reduceSub, Nat.reduceMul, Nat.reduceBNe, Nat.reduceBEq, Int.reduceToNat, Int.reduceLE, Int.reduceLT, Int.reduceEq, Int.reduceNe, Int.reduceAdd, Int.reduceSub, Int.reduceNeg, mixed, decide_eq_true_eq, decide_eq_false_iff_not, Bool.not_eq_true', Bool.not_eq_false', List.headD_cons, Option.some.injEq, Int.cast_ofNat_Int]
    refine ⟨by first | omega | (simp; omega), by first | omega | (simp; omega), ?_⟩
    refine detCall_of _ (over_call) ?_
    simp only [go_sem, ↓reduceIte, reduceCtorEq, Nat.reduceEqDiff, Nat.reduceLT, Nat.reduceLeDiff, Nat.reduceAdd, Nat.reduceSub, Nat.reduceMul, Nat.reduceBNe, Nat.reduceBEq, Int.reduceToNat, Int.reduceLE, Int.reduceLT, Int.reduceEq, Int.reduceNe, Int.reduceAdd, Int.reduceSub, Int.reduceNeg, mixed, decide_eq_true_eq, decide_eq_false_iff_not, Bool.not_eq_true', Bool.not_eq_false', List.headD_cons, Option.some.injEq, Int.cast_ofNat_Int]
    refine detCall_of _ (amount_call (over_range _ _ _)) ?_
    simp only [go_sem, ↓reduceIte, reduceCtorEq, Nat.reduceEqDiff, Nat.reduceLT, Nat.reduceLeDiff, Nat.reduceAdd, Nat.reduceSub, Nat.reduceMul, Nat.reduceBNe, Nat.reduceBEq, Int.reduceToNat, Int.reduceLE, Int.reduceLT, Int.reduceEq, Int.reduceNe, Int.reduceAdd, Int.reduceSub, Int.reduceNeg, mixed, decide_eq_true_eq, decide_eq_false_iff_not, Bool.not_eq_true', Bool.not_eq_false', List.headD_cons, Option.some.injEq, Int.cast_ofNat_Int]
    refine ⟨by first | omega | (simp; omega), by first | omega | (simp; omega), i + 1, ?_, by omega, by omega⟩
    rw [w64 (by unfold I64; omega), take_map_snoc balS h, ← strs_snoc]
    rfl
  · have c1 : ((i : Int) < (l.length : Int)) = False := eq_false (by omega)
    simp only [go_sem, ↓reduceIte, reduceCtorEq, Nat.reduceEqDiff, Nat.reduceLT, Nat.reduceLeDiff, Nat.reduceAdd, Nat.reduceSub, Nat.reduceMul, Nat.reduceBNe, Nat.reduceBEq, Int.reduceToNat, Int.reduceLE, Int.reduceLT, Int.reduceEq, Int.reduceNe, Int.reduceAdd, Int.reduceSub, Int.reduceNeg, mixed, decide_eq_true_eq, decide_eq_false_iff_not, Bool.not_eq_true', Bool.not_eq_false', List.headD_cons, Option.some.injEq, Int.cast_ofNat_Int, c1]
    rw [List.take_of_length_le h]
theorem bals2_call {f : Bool} {l : List BalL} (hl : l.length < 2 ^ 40) (hI : ∀ p ∈ l, p.ok) : FCall Tryd.prog 17 [.sl f (balsV l)] (· = .arr (strs (l.map balS))) := by
  refine FCall.walk Tryd.func17 k17 rfl ?_
  unfold c17
  simp only [go_sem, ↓reduceIte, reduceCtorEq, Nat.reduceEqDiff, Nat.reduceLT, Nat.reduceLeDiff, Nat.reduceAdd, Nat.reduceSub, Nat.reduceMul, Nat.reduceBNe, Nat.reduceBEq, Int.reduceToNat, Int.reduceLE, Int.reduceLT, Int.reduceEq, Int.reduceNe, Int.reduceAdd, Int.reduceSub, Int.reduceNeg, mixed, decide_eq_true_eq, decide_eq_false_iff_not, Bool.not_eq_true', Bool.not_eq_false', List.headD_cons, Option.some.injEq, Int.cast_ofNat_Int]
  refine FWT.loopK [9] (fun i : Nat => [(0, .sl f (balsV l)), (3, .arr (strs ((l.take i).map balS))), (4, .int .i64 i)]) (fun i => l.length - i) (fun i => i ≤ l.length) 0 ?_ (by omega) ?_
  · simp only [go_sem, ↓reduceIte, reduceCtorEq, Nat.reduceEqDiff, Nat.reduceLT, Nat.reduceLeDiff, Nat.reduceAdd, Nat.reduceSub, Nat.reduceMul, Nat.reduceBNe, Nat.reduceBEq, Int.reduceToNat, Int.reduceLE, Int.reduceLT, Int.reduceEq, Int.reduceNe, Int.reduceAdd, Int.reduceSub, Int.reduceNeg, mixed, decide_eq_true_eq, decide_eq_false_iff_not, Bool.not_eq_true', Bool.not_eq_false', List.headD_cons, Option.some.injEq, Int.cast_ofNat_Int]
    rfl
  intro i hi
  rcases Nat.lt_or_ge i l.length with h | h
  · have c1 : ((i : Int) < (l.length : Int)) = True := eq_true (by omega)
    have hx := balsV_get h
    obtain ⟨h1, h2, h3⟩ := hI _ (List.getElem_mem h)
    have l1 := monthT_len (m := l[i].m)
    have l2 := fixedS_len (k := 2) h1 (by omega)
    have l3 := fixedS_len (k := 2) h2 (by omega)
    have l4 := fixedS_len (k := 2) h3 (by omega)
    have l5 := fixedS_len (k := 2) (arr_range l[i].d l[i].r) (by omega)
    have l6 := fixedS_len (k := 2) (over_range l[i].d l[i].r l[i].w) (by omega)
    simp only [go_sem, ↓reduceIte, reduceCtorEq, Nat.reduceEqDiff, Nat.reduceLT, Nat.reduceLeDiff, Nat.reduceAdd, Nat.reduceSub, Nat.reduceMul, Nat.reduceBNe, Nat.reduceBEq, Int.reduceToNat, Int.reduceLE, Int.reduceLT, Int.reduceEq, Int.reduceNe, Int.reduceAdd, Int.reduceSub, Int.reduceNeg, mixed, decide_eq_true_eq, decide_eq_false_iff_not, Bool.not_eq_true', Bool.not_eq_false', List.headD_cons, Option.some.injEq, Int.cast_ofNat_Int, c1, Int.toNat_natCast, hx]
    refine detCall_of _ (monthT2_call) ?_
    simp only [go_sem, ↓reduceIte, reduceCtorEq, Nat.reduceEqDiff, Nat.reduceLT, Nat.reduceLeDiff, Nat.reduceAdd, Nat.reduceSub, Nat.reduceMul, Nat.reduceBNe, Nat.reduceBEq, Int.reduceToNat, Int.reduceLE, Int.reduceLT, Int.reduceEq, Int.reduceNe, Int.reduceAdd, Int.reduceSub, Int.reduceNeg, mixed, decide_eq_true_eq, decide_eq_false_iff_not, Bool.not_eq_true', Bool.not_eq_false', List.headD_cons, Option.some.injEq, Int.cast_ofNat_Int]
    refine ⟨by first | omega | (simp; omega), ?_⟩
    refine detCall_of _ (amount2_call h1) ?_
    simp only [go_sem, ↓reduceIte, reduceCtorEq, Nat.reduceEqDiff, Nat.reduceLT, Nat.reduceLeDiff, Nat.reduceAdd, Nat.reduceSub, Nat.reduceMul, Nat.reduceBNe, Nat.reduceBEq, Int.reduceToNat, Int.reduceLE, Int.reduceLT, Int.reduceEq, Int.reduceNe, Int.reduceAdd, Int.reduceSub, Int.reduceNeg, mixed, decide_eq_true_eq, decide_eq_false_iff_not, Bool.not_eq_true', Bool.not_eq_false', List.headD_cons, Option.some.injEq, Int.cast_ofNat_Int]
    refine ⟨by first | omega | (simp; omega), by first | omega | (simp; omega), ?_⟩
    refine detCall_of _ (amount2_call h2) ?_
    simp only [go_sem, ↓reduceIte, reduceCtorEq, Nat.reduceEqDiff, Nat.reduceLT, Nat.reduceLeDiff, Nat.reduceAdd, Nat.reduceSub, Nat.reduceMul, Nat.reduceBNe, Nat.reduceBEq, Int.reduceToNat, Int.reduceLE, Int.reduceLT, Int.reduceEq, Int.reduceNe, Int.reduceAdd, Int.reduceSub, Int.reduceNeg, mixed, decide_eq_true_eq, decide_eq_false_iff_not, Bool.not_eq_true', Bool.not_eq_false', List.headD_cons, Option.some.injEq, Int.cast_ofNat_Int]
    refine ⟨by first | omega | (simp; omega), by first | omega | (simp; omega), ?_⟩
    refine detCall_of _ (amount2_call h3) ?_
    simp only [go_sem, ↓reduceIte, reduceCtorEq, Nat.reduceEqDiff, Nat.reduceLT, Nat.reduceLeDiff, Nat.reduceAdd, Nat.reduceSub, Nat.reduceMul, Nat.reduceBNe, Nat.reduceBEq, Int.reduceToNat, Int.reduceLE, Int.reduceLT, Int.reduceEq, Int.reduceNe, Int.reduceAdd, Int.reduceSub, Int.reduceNeg, mixed, decide_eq_true_eq, decide_eq_false_iff_not, Bool.not_eq_true', Bool.not_eq_false', List.headD_cons, Option.some.injEq, Int.cast_ofNat_Int]
    refine ⟨by first | omega | (simp; omega), by first | omega | (simp; omega), ?_⟩
    refine detCall_of _ (arr2_call) ?_
    simp only [go_sem, ↓reduceIte, reduceCtorEq, Nat.reduceEqDiff, Nat.reduceLT, Nat.reduceLeDiff, Nat.reduceAdd, Nat.reduceSub, Nat.reduceMul, Nat.reduceBNe, Nat.reduceBEq, Int.reduceToNat, Int.reduceLE, Int.reduceLT, Int.reduceEq, Int.reduceNe, Int.reduceAdd, Int.reduceSub, Int.reduceNeg, mixed, decide_eq_true_eq, decide_eq_false_iff_not, Bool.not_eq_true', Bool.not_eq_false', List.headD_cons, Option.some.injEq, Int.cast_ofNat_Int]
    refine detCall_of _ (amount2_call (arr_range _ _)) ?_
    simp only [go_sem, ↓reduceIte, reduceCtorEq, Nat.reduceEqDiff, Nat.reduceLT, Nat.reduceLeDiff, Nat.reduceAdd, Nat.reduceSub, Nat.reduceMul, Nat.reduceBNe, Nat.reduceBEq, Int.reduceToNat, Int.reduceLE, Int.reduceLT, Int.reduceEq, Int.reduceNe, Int.reduceAdd, Int.reduceSub, Int.reduceNeg, mixed, decide_eq_true_eq, decide_eq_false_iff_not, Bool.not_eq_true', Bool.not_eq_false', List.headD_cons, Option.some.injEq, Int.cast_ofNat_Int]
    refine ⟨by first | omega | (simp; omega), by first | omega | (simp; omega), ?_⟩
    refine detCall_of _ (over2_call) ?_
    simp only [go_sem, ↓reduceIte, reduceCtorEq, Nat.reduceEqDiff, Nat.reduceLT, Nat.reduceLeDiff, Nat.reduceAdd, Nat.reduceSub, Nat.reduceMul, Nat.reduceBNe, Nat.reduceBEq, Int.reduceToNat, Int.reduceLE, Int.reduceLT, Int.reduceEq, Int.reduceNe, Int.reduceAdd, Int.reduceSub, Int.reduceNeg, mixed, decide_eq_true_eq, decide_eq_false_iff_not, Bool.not_eq_true', Bool.not_eq_false', List.headD_cons, Option.some.injEq, Int.cast_ofNat_Int]
    refine detCall_of _ (amount2_call (over_range _ _ _)) ?_
    simp only [go_sem, ↓reduceIte, reduceCtorEq, Nat.reduceEqDiff, Nat.reduceLT, Nat.reduceLeDiff, Nat.reduceAdd, Nat.reduceSub, Nat.reduceMul, Nat.reduceBNe, Nat.reduceBEq, Int.reduceToNat, Int.reduceLE, Int.reduceLT, Int.reduceEq, Int.reduceNe, Int.reduceAdd, Int.reduceSub, Int.reduceNeg, mixed, decide_eq_true_eq, decide_eq_false_iff_not, Bool.not_eq_true', Bool.not_eq_false', List.headD_cons, Option.some.injEq, Int.cast_ofNat_Int]
    refine ⟨by first | omega | (simp; omega), by first | omega | (simp; omega), i + 1, ?_, by omega, by omega⟩
    rw [w64 (by unfold I64; omega), take_map_snoc balS h, ← strs_snoc]
    rfl
  · have c1 : ((i : Int) < (l.length : Int)) = False := eq_false (by omega)
    simp only [go_sem, ↓reduceIte, reduceCtorEq, Nat.reduceEqDiff, Nat.reduceLT, Nat.reduceLeDiff, Nat.reduceAdd, Nat.reduceSub, Nat.reduceMul, Nat.reduceBNe, Nat.reduceBEq, Int.reduceToNat, Int.reduceLE, Int.reduceLT, Int.reduceEq, Int.reduceNe, Int.reduceAdd, Int.reduceSub, Int.reduceNeg, mixed, decide_eq_true_eq, decide_eq_false_iff_not, Bool.not_eq_true', Bool.not_eq_false', List.headD_cons, Option.some.injEq, Int.cast_ofNat_Int, c1]
    rw [List.take_of_length_le h]
end Go.Fx.Tryd
