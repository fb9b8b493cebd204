/- Part of a proof: see the last text of the claim. -/
import Derived.Test.YthfkhokmgolabaaDoorFxT6
set_option linter.unusedVariables false
set_option linter.unusedSimpArgs false
namespace Go.Fx.Tryd
open Go Go.Fm Go.Proofs

structure PostL where
  d : Int
  m : Int
  k : Int
  c : Int
def PostL.row (p : PostL) : List FV := [.int .i64 p.d, .int .i64 p.m, .int .i64 p.k, .int .i64 p.c]
def postsV (l : List PostL) : List (List FV) := l.map PostL.row
@[go_sem] theorem postsV_length (l : List PostL) : (postsV l).length = l.length := by simp [postsV]
theorem postsV_get {l : List PostL} {i : Nat} (h : i < l.length) : (postsV l)[i]? = some [.int .i64 l[i].d, .int .i64 l[i].m, .int .i64 l[i].k, .int .i64 l[i].c] := by simp [postsV, h, PostL.row]
def postS (p : PostL) : List UInt8 := valT 5 0 p.d [] ++ [32] ++ monthT p.m ++ [32] ++ kindS p.k ++ [32] ++ fixedS p.c 2
theorem dateS_len {d : Int} : (dateS d).length ≤ 80 := by
  unfold dateS
  split
  · obtain ⟨b1, b2, b3⟩ := ymd_bd (d := d)
    have l1 := padL_len (w := 4) (itoa_len b1) (by omega)
    have l2 := padL_len (w := 2) (itoa_len b2) (by omega)
    have l3 := padL_len (w := 2) (itoa_len b3) (by omega)
    simp; omega
  · simp
theorem valT_date_len {d : Int} : (valT 5 0 d []).length ≤ 80 := by
  have := dateS_len (d := d)
  unfold valT valS
  repeat' split
  all_goals simp only [List.length_nil, List.length_cons] at *
  all_goals first | omega | contradiction
theorem monthT_len {m : Int} : (monthT m).length ≤ 60 := by
  have := monthS_len (m := m)
  unfold monthT; split <;> simp; omega
theorem kindS_len {k : Int} : (kindS k).length ≤ 20 := by unfold kindS; repeat' split
                                                          all_goals simp
theorem take_map_snoc {α β : Type} {l : List α} {i : Nat} (g : α → β) (h : i < l.length) : (l.take (i + 1)).map g = (l.take i).map g ++ [g l[i]] := by
  rw [List.take_succ_eq_append_getElem h, List.map_append]; rfl
theorem posts_call {f : Bool} {l : List PostL} (hl : l.length < 2 ^ 40) (hI : ∀ p ∈ l, I64 p.c) : FCall Tryd.prog 20 [.sl f (postsV l)] (· = .arr (strs (l.map postS))) := by
  refine FCall.walk Tryd.func20 k20 rfl ?_
  unfold c20
  simp only [go_sem, ↓reduceIte, reduceCtorEq, Nat.reduceEqDiff, Nat.reduceLT, Nat.reduceLeDiff, Nat.reduceAdd, Nat.reduceSub, Nat.reduceMul, Nat.reduceBNe, Nat.reduceBEq, Int.reduceToNat, Int.reduceLE, Int.reduceLT, Int.reduceEq, Int.reduceNe, Int.reduceAdd, Int.reduceSub, Int.reduceNeg, mixed, decide_eq_true_eq, decide_eq_false_iff_not, Bool.not_eq_true', Bool.not_eq_false', List.headD_cons, Option.some.injEq, Int.cast_ofNat_Int]
  refine FWT.loopK [0, 11] (fun i : Nat => [(3, .arr (strs ((l.take i).map postS))), (8, .sl f (postsV l)), (9, .int .i64 l.length), (10, .int .i64 i)]) (fun i => l.length - i) (fun i => i ≤ l.length) 0 ?_ (by omega) ?_
  · simp only [go_sem, ↓reduceIte, reduceCtorEq, Nat.reduceEqDiff, Nat.reduceLT, Nat.reduceLeDiff, Nat.reduceAdd, Nat.reduceSub, Nat.reduceMul, Nat.reduceBNe, Nat.reduceBEq, Int.reduceToNat, Int.reduceLE, Int.reduceLT, Int.reduceEq, Int.reduceNe, Int.reduceAdd, Int.reduceSub, Int.reduceNeg, mixed, decide_eq_true_eq, decide_eq_false_iff_not, Bool.not_eq_true', Bool.not_eq_false', List.headD_cons, Option.some.injEq, Int.cast_ofNat_Int]
    rfl
  intro i hi
  rcases Nat.lt_or_ge i l.length with h | h
  · have c1 : ((i : Int) < (l.length : Int)) = True := eq_true (by omega)
    have hx := postsV_get h
    have ho : (if (valS 5 0 l[i].d []).2 = 0 then (valS 5 0 l[i].d []).1 else [63]) = valT 5 0 l[i].d [] := rfl
    simp only [go_sem, ↓reduceIte, reduceCtorEq, Nat.reduceEqDiff, Nat.reduceLT, Nat.reduceLeDiff, Nat.reduceAdd, Nat.reduceSub, Nat.reduceMul, Nat.reduceBNe, Nat.reduceBEq, Int.reduceToNat, Int.reduceLE, Int.reduceLT, Int.reduceEq, Int.reduceNe, Int.reduceAdd, Int.reduceSub, Int.reduceNeg, mixed, decide_eq_true_eq, decide_eq_false_iff_not, Bool.not_eq_true', Bool.not_eq_false', List.headD_cons, Option.some.injEq, Int.cast_ofNat_Int, c1, Int.toNat_natCast, hx]
    refine FCallT.of (format_call (en := []) (by simp)) ?_
    rintro _ rfl
    simp only [go_sem, ↓reduceIte, reduceCtorEq, Nat.reduceEqDiff, Nat.reduceLT, Nat.reduceLeDiff, Nat.reduceAdd, Nat.reduceSub, Nat.reduceMul, Nat.reduceBNe, Nat.reduceBEq, Int.reduceToNat, Int.reduceLE, Int.reduceLT, Int.reduceEq, Int.reduceNe, Int.reduceAdd, Int.reduceSub, Int.reduceNeg, mixed, decide_eq_true_eq, decide_eq_false_iff_not, Bool.not_eq_true', Bool.not_eq_false', List.headD_cons, Option.some.injEq, Int.cast_ofNat_Int]
    refine detCall_of _ (or_call) ?_
    simp only [go_sem, ↓reduceIte, reduceCtorEq, Nat.reduceEqDiff, Nat.reduceLT, Nat.reduceLeDiff, Nat.reduceAdd, Nat.reduceSub, Nat.reduceMul, Nat.reduceBNe, Nat.reduceBEq, Int.reduceToNat, Int.reduceLE, Int.reduceLT, Int.reduceEq, Int.reduceNe, Int.reduceAdd, Int.reduceSub, Int.reduceNeg, mixed, decide_eq_true_eq, decide_eq_false_iff_not, Bool.not_eq_true', Bool.not_eq_false', List.headD_cons, Option.some.injEq, Int.cast_ofNat_Int, ho]
    have l1 := valT_date_len (d := l[i].d)
    refine ⟨by omega, ?_⟩
    refine detCall_of _ (monthT_call) ?_
    simp only [go_sem, ↓reduceIte, reduceCtorEq, Nat.reduceEqDiff, Nat.reduceLT, Nat.reduceLeDiff, Nat.reduceAdd, Nat.reduceSub, Nat.reduceMul, Nat.reduceBNe, Nat.reduceBEq, Int.reduceToNat, Int.reduceLE, Int.reduceLT, Int.reduceEq, Int.reduceNe, Int.reduceAdd, Int.reduceSub, Int.reduceNeg, mixed, decide_eq_true_eq, decide_eq_false_iff_not, Bool.not_eq_true', Bool.not_eq_false', List.headD_cons, Option.some.injEq, Int.cast_ofNat_Int]
    have l2 := monthT_len (m := l[i].m)
    refine ⟨by simp; omega, by simp; omega, ?_⟩
    refine detCall_of _ (kind_call) ?_
    simp only [go_sem, ↓reduceIte, reduceCtorEq, Nat.reduceEqDiff, Nat.reduceLT, Nat.reduceLeDiff, Nat.reduceAdd, Nat.reduceSub, Nat.reduceMul, Nat.reduceBNe, Nat.reduceBEq, Int.reduceToNat, Int.reduceLE, Int.reduceLT, Int.reduceEq, Int.reduceNe, Int.reduceAdd, Int.reduceSub, Int.reduceNeg, mixed, decide_eq_true_eq, decide_eq_false_iff_not, Bool.not_eq_true', Bool.not_eq_false', List.headD_cons, Option.some.injEq, Int.cast_ofNat_Int]
    have l3 := kindS_len (k := l[i].k)
    refine ⟨by simp; omega, by simp; omega, ?_⟩
    refine detCall_of _ (amount_call (hI _ (List.getElem_mem h))) ?_
    simp only [go_sem, ↓reduceIte, reduceCtorEq, Nat.reduceEqDiff, Nat.reduceLT, Nat.reduceLeDiff, Nat.reduceAdd, Nat.reduceSub, Nat.reduceMul, Nat.reduceBNe, Nat.reduceBEq, Int.reduceToNat, Int.reduceLE, Int.reduceLT, Int.reduceEq, Int.reduceNe, Int.reduceAdd, Int.reduceSub, Int.reduceNeg, mixed, decide_eq_true_eq, decide_eq_false_iff_not, Bool.not_eq_true', Bool.not_eq_false', List.headD_cons, Option.some.injEq, Int.cast_ofNat_Int]
    have l4 := fixedS_len (k := 2) (hI _ (List.getElem_mem h)) (by omega)
    refine ⟨by simp; omega, by simp; omega, i + 1, ?_, by omega, by omega⟩
    rw [w64 (by unfold I64; omega), take_map_snoc postS h, ← strs_snoc]
    rfl
  · have c1 : ((i : Int) < (l.length : Int)) = False := eq_false (by omega)
    simp only [go_sem, ↓reduceIte, reduceCtorEq, Nat.reduceEqDiff, Nat.reduceLT, Nat.reduceLeDiff, Nat.reduceAdd, Nat.reduceSub, Nat.reduceMul, Nat.reduceBNe, Nat.reduceBEq, Int.reduceToNat, Int.reduceLE, Int.reduceLT, Int.reduceEq, Int.reduceNe, Int.reduceAdd, Int.reduceSub, Int.reduceNeg, mixed, decide_eq_true_eq, decide_eq_false_iff_not, Bool.not_eq_true', Bool.not_eq_false', List.headD_cons, Option.some.injEq, Int.cast_ofNat_Int, c1]
    rw [List.take_of_length_le h]
theorem posts2_call {f : Bool} {l : List PostL} (hl : l.length < 2 ^ 40) (hI : ∀ p ∈ l, I64 p.c) : FCall Tryd.prog 21 [.sl f (postsV l)] (· = .arr (strs (l.map postS))) := by
  refine FCall.walk Tryd.func21 k21 rfl ?_
  unfold c21
  simp only [go_sem, ↓reduceIte, reduceCtorEq, Nat.reduceEqDiff, Nat.reduceLT, Nat.reduceLeDiff, Nat.reduceAdd, Nat.reduceSub, Nat.reduceMul, Nat.reduceBNe, Nat.reduceBEq, Int.reduceToNat, Int.reduceLE, Int.reduceLT, Int.reduceEq, Int.reduceNe, Int.reduceAdd, Int.reduceSub, Int.reduceNeg, mixed, decide_eq_true_eq, decide_eq_false_iff_not, Bool.not_eq_true', Bool.not_eq_false', List.headD_cons, Option.some.injEq, Int.cast_ofNat_Int]
  refine FWT.loopK [10] (fun i : Nat => [(0, .sl f (postsV l)), (3, .arr (strs ((l.take i).map postS))), (4, .int .i64 i)]) (fun i => l.length - i) (fun i => i ≤ l.length) 0 ?_ (by omega) ?_
  · simp only [go_sem, ↓reduceIte, reduceCtorEq, Nat.reduceEqDiff, Nat.reduceLT, Nat.reduceLeDiff, Nat.reduceAdd, Nat.reduceSub, Nat.reduceMul, Nat.reduceBNe, Nat.reduceBEq, Int.reduceToNat, Int.reduceLE, Int.reduceLT, Int.reduceEq, Int.reduceNe, Int.reduceAdd, Int.reduceSub, Int.reduceNeg, mixed, decide_eq_true_eq, decide_eq_false_iff_not, Bool.not_eq_true', Bool.not_eq_false', List.headD_cons, Option.some.injEq, Int.cast_ofNat_Int]
    rfl
  intro i hi
  rcases Nat.lt_or_ge i l.length with h | h
  · have c1 : ((i : Int) < (l.length : Int)) = True := eq_true (by omega)
    have hx := postsV_get h
    have ho : (if (valS 5 0 l[i].d []).2 = 0 then (valS 5 0 l[i].d []).1 else [63]) = valT 5 0 l[i].d [] := rfl
    simp only [go_sem, ↓reduceIte, reduceCtorEq, Nat.reduceEqDiff, Nat.reduceLT, Nat.reduceLeDiff, Nat.reduceAdd, Nat.reduceSub, Nat.reduceMul, Nat.reduceBNe, Nat.reduceBEq, Int.reduceToNat, Int.reduceLE, Int.reduceLT, Int.reduceEq, Int.reduceNe, Int.reduceAdd, Int.reduceSub, Int.reduceNeg, mixed, decide_eq_true_eq, decide_eq_false_iff_not, Bool.not_eq_true', Bool.not_eq_false', List.headD_cons, Option.some.injEq, Int.cast_ofNat_Int, c1, Int.toNat_natCast, hx]
    refine FCallT.of (valT_call (en := []) (by simp)) ?_
    rintro _ rfl
    simp only [go_sem, ↓reduceIte, reduceCtorEq, Nat.reduceEqDiff, Nat.reduceLT, Nat.reduceLeDiff, Nat.reduceAdd, Nat.reduceSub, Nat.reduceMul, Nat.reduceBNe, Nat.reduceBEq, Int.reduceToNat, Int.reduceLE, Int.reduceLT, Int.reduceEq, Int.reduceNe, Int.reduceAdd, Int.reduceSub, Int.reduceNeg, mixed, decide_eq_true_eq, decide_eq_false_iff_not, Bool.not_eq_true', Bool.not_eq_false', List.headD_cons, Option.some.injEq, Int.cast_ofNat_Int]
    have l1 := valT_date_len (d := l[i].d)
    refine ⟨by omega, ?_⟩
    refine detCall_of _ (monthT2_call) ?_
    simp only [go_sem, ↓reduceIte, reduceCtorEq, Nat.reduceEqDiff, Nat.reduceLT, Nat.reduceLeDiff, Nat.reduceAdd, Nat.reduceSub, Nat.reduceMul, Nat.reduceBNe, Nat.reduceBEq, Int.reduceToNat, Int.reduceLE, Int.reduceLT, Int.reduceEq, Int.reduceNe, Int.reduceAdd, Int.reduceSub, Int.reduceNeg, mixed, decide_eq_true_eq, decide_eq_false_iff_not, Bool.not_eq_true', Bool.not_eq_false', List.headD_cons, Option.some.injEq, Int.cast_ofNat_Int]
    have l2 := monthT_len (m := l[i].m)
    refine ⟨by simp; omega, by simp; omega, ?_⟩
    refine detCall_of _ (kind2_call) ?_
    simp only [go_sem, ↓reduceIte, reduceCtorEq, Nat.reduceEqDiff, Nat.reduceLT, Nat.reduceLeDiff, Nat.reduceAdd, Nat.reduceSub, Nat.reduceMul, Nat.reduceBNe, Nat.reduceBEq, Int.reduceToNat, Int.reduceLE, Int.reduceLT, Int.reduceEq, Int.reduceNe, Int.reduceAdd, Int.reduceSub, Int.reduceNeg, mixed, decide_eq_true_eq, decide_eq_false_iff_not, Bool.not_eq_true', Bool.not_eq_false', List.headD_cons, Option.some.injEq, Int.cast_ofNat_Int]
    have l3 := kindS_len (k := l[i].k)
    refine ⟨by simp; omega, by simp; omega, ?_⟩
    refine detCall_of _ (amount2_call (hI _ (List.getElem_mem h))) ?_
    simp only [go_sem, ↓reduceIte, reduceCtorEq, Nat.reduceEqDiff, Nat.reduceLT, Nat.reduceLeDiff, Nat.reduceAdd, Nat.reduceSub, Nat.reduceMul, Nat.reduceBNe, Nat.reduceBEq, Int.reduceToNat, Int.reduceLE, Int.reduceLT, Int.reduceEq, Int.reduceNe, Int.reduceAdd, Int.reduceSub, Int.reduceNeg, mixed, decide_eq_true_eq, decide_eq_false_iff_not, Bool.not_eq_true', Bool.not_eq_false', List.headD_cons, Option.some.injEq, Int.cast_ofNat_Int]
    have l4 := fixedS_len (k := 2) (hI _ (List.getElem_mem h)) (by omega)
    refine ⟨by simp; omega, by simp; omega, i + 1, ?_, by omega, by omega⟩
    rw [w64 (by unfold I64; omega), take_map_snoc postS h, ← strs_snoc]
    rfl
  · have c1 : ((i : Int) < (l.length : Int)) = False := eq_false (by omega)
    simp only [go_sem, ↓reduceIte, reduceCtorEq, Nat.reduceEqDiff, Nat.reduceLT, Nat.reduceLeDiff, Nat.reduceAdd, Nat.reduceSub, Nat.reduceMul, Nat.reduceBNe, Nat.reduceBEq, Int.reduceToNat, Int.reduceLE, Int.reduceLT, Int.reduceEq, Int.reduceNe, Int.reduceAdd, Int.reduceSub, Int.reduceNeg, mixed, decide_eq_true_eq, decide_eq_false_iff_not, Bool.not_eq_true', Bool.not_eq_false', List.headD_cons, Option.some.injEq, Int.cast_ofNat_Int, c1]
    rw [List.take_of_length_le h]
end Go.Fx.Tryd
