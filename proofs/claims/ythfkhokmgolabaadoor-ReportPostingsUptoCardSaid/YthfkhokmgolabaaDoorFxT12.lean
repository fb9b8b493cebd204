/- Part of a proof: see the last text of the claim. -/
import Derived.Test.YthfkhokmgolabaaDoorFxT11
set_option linter.unusedVariables false
set_option linter.unusedSimpArgs false
namespace Go.Fx.Tryd
open Go Go.Fm Go.Proofs

structure MemL where
  vf : Bool
  vals : List ValL
  rf : Bool
  rules : List Int
def MemL.row (x : MemL) : List FV := [.sl x.vf (valsV x.vals), .sl x.rf (intsV x.rules)]
def memsV (l : List MemL) : List (List FV) := l.map MemL.row
@[go_sem] theorem memsV_length (l : List MemL) : (memsV l).length = l.length := by simp [memsV]
theorem memsV_get {l : List MemL} {i : Nat} (h : i < l.length) : (memsV l)[i]? = some [.sl l[i].vf (valsV l[i].vals), .sl l[i].rf (intsV l[i].rules)] := by simp [memsV, h, MemL.row]
structure ResL where
  vf : Bool
  vals : List ValL
  rf : Bool
  rules : List Int
  mf : Bool
  mems : List MemL
def ResL.row (x : ResL) : List FV := [.sl x.vf (valsV x.vals), .sl x.rf (intsV x.rules), .sl x.mf (memsV x.mems)]
def ResL.ok (r : ResL) : Prop := r.vals.length ≤ 1048576 ∧ r.rules.length ≤ 1048576 ∧ r.mems.length ≤ 1048576 ∧ ∀ x ∈ r.mems, x.vals.length ≤ 1048576 ∧ x.rules.length ≤ 1048576
def LawL.ok (l : LawL) : Prop := enumsOk l.enums ∧ ∀ s ∈ l.scopes, scopeOk s
theorem scopeAt_ok {l : LawL} (h : l.ok) (i : Int) : scopeOk (scopeAtL l.scopes i) := by
  have no : scopeOk noScope := ⟨by simp [noScope], by simp [noScope]⟩
  rcases inR_cases (i := i) (n := l.scopes.length) with ⟨h1, h2⟩ | ⟨h1, h2, h3⟩ | ⟨j, rfl, h2, h3⟩
  · rw [scopeAtL_lo h1]; exact no
  · rw [scopeAtL_hi h2]; exact no
  · rw [scopeAtL_in h2]; exact h.2 _ (List.getElem_mem h2)
def preS (m : Nat) : List UInt8 := [109, 101, 109, 98, 101, 114, 32] ++ Lib.itoa m ++ [58, 32]
def memLines (l : LawL) (sc : Int) (ms : List MemL) (n : Nat) : List (List UInt8) :=
  (List.range n).flatMap fun m => linesS l.enums (memberL l.scopes sc) (preS m) (((ms[m]?).map (·.vals)).getD []) (((ms[m]?).map (·.rules)).getD []) (((ms[m]?).map (·.vals)).getD []).length
def resultS (l : LawL) (sc : Int) (r : ResL) : List (List UInt8) :=
  linesS l.enums (scopeAtL l.scopes sc) [] r.vals r.rules r.vals.length ++ memLines l sc r.mems r.mems.length
theorem memLines_succ {l : LawL} {sc : Int} {ms : List MemL} {m : Nat} (h : m < ms.length) : memLines l sc ms (m + 1) = memLines l sc ms m ++ linesS l.enums (memberL l.scopes sc) (preS m) ms[m].vals ms[m].rules ms[m].vals.length := by
  simp [memLines, List.range_succ, h]
theorem memLines_len {l : LawL} {sc : Int} {ms : List MemL} (hm : ∀ x ∈ ms, x.vals.length ≤ 1048576) : ∀ {n : Nat}, n ≤ ms.length → (memLines l sc ms n).length ≤ n * 1048576
  | 0, _ => by simp [memLines]
  | n + 1, h => by
    rw [memLines_succ h, List.length_append, linesS_length]
    have := memLines_len (l := l) (sc := sc) hm (n := n) (by omega)
    have := hm _ (List.getElem_mem h)
    omega
theorem preS_len {m : Nat} (h : m ≤ 1048576) : (preS m).length ≤ 40 := by
  have := itoa_len (n := m) (by unfold I64; omega)
  simp [preS]; omega
theorem strs_append (a b : List (List UInt8)) : strs a ++ strs b = strs (a ++ b) := by simp [strs]
theorem result_call {l : LawL} {sc : Int} {r : ResL} (hl : l.ok) (hr : r.ok) : FCall Tryd.prog 11 [.agg l.row, .int .i64 sc, .agg r.row] (· = .arr (strs (resultS l sc r))) := by
  obtain ⟨r1, r2, r3, r4⟩ := hr
  refine FCall.walk Tryd.func11 k11 rfl ?_
  unfold c11
  simp only [go_sem, ↓reduceIte, reduceCtorEq, Nat.reduceEqDiff, Nat.reduceLT, Nat.reduceLeDiff, Nat.reduceAdd, Nat.reduceSub, Nat.reduceMul, Nat.reduceBNe, Nat.reduceBEq, Int.reduceToNat, Int.reduceLE, Int.reduceLT, Int.reduceEq, Int.reduceNe, Int.reduceAdd, Int.reduceSub, Int.reduceNeg, mixed, decide_eq_true_eq, decide_eq_false_iff_not, Bool.not_eq_true', Bool.not_eq_false', List.headD_cons, Option.some.injEq, Int.cast_ofNat_Int, LawL.row, ResL.row]
  refine FCallT.of (scopeAt_call (l := l)) ?_
  rintro _ rfl
  simp only [go_sem, ↓reduceIte, reduceCtorEq, Nat.reduceEqDiff, Nat.reduceLT, Nat.reduceLeDiff, Nat.reduceAdd, Nat.reduceSub, Nat.reduceMul, Nat.reduceBNe, Nat.reduceBEq, Int.reduceToNat, Int.reduceLE, Int.reduceLT, Int.reduceEq, Int.reduceNe, Int.reduceAdd, Int.reduceSub, Int.reduceNeg, mixed, decide_eq_true_eq, decide_eq_false_iff_not, Bool.not_eq_true', Bool.not_eq_false', List.headD_cons, Option.some.injEq, Int.cast_ofNat_Int, ScopeL.row]
  refine FCallT.of (lines_call (l := l) (s := scopeAtL l.scopes sc) hl.1 (scopeAt_ok hl sc) (by simp) (by omega) (by omega)) ?_
  rintro _ rfl
  simp only [go_sem, ↓reduceIte, reduceCtorEq, Nat.reduceEqDiff, Nat.reduceLT, Nat.reduceLeDiff, Nat.reduceAdd, Nat.reduceSub, Nat.reduceMul, Nat.reduceBNe, Nat.reduceBEq, Int.reduceToNat, Int.reduceLE, Int.reduceLT, Int.reduceEq, Int.reduceNe, Int.reduceAdd, Int.reduceSub, Int.reduceNeg, mixed, decide_eq_true_eq, decide_eq_false_iff_not, Bool.not_eq_true', Bool.not_eq_false', List.headD_cons, Option.some.injEq, Int.cast_ofNat_Int, LawL.row, ScopeL.row]
  refine FWT.loopK [29] (fun m : Nat => [(1, .int .i64 sc), (3, .box l.row), (5, .box r.row), (9, .arr (strs (linesS l.enums (scopeAtL l.scopes sc) [] r.vals r.rules r.vals.length ++ memLines l sc r.mems m))), (25, .ptr 5 [(0, 2)]), (26, .sl r.mf (memsV r.mems)), (27, .int .i64 r.mems.length), (28, .int .i64 m)]) (fun m => r.mems.length - m) (fun m => m ≤ r.mems.length) 0 ?_ (by omega) ?_
  · simp only [go_sem, ↓reduceIte, reduceCtorEq, Nat.reduceEqDiff, Nat.reduceLT, Nat.reduceLeDiff, Nat.reduceAdd, Nat.reduceSub, Nat.reduceMul, Nat.reduceBNe, Nat.reduceBEq, Int.reduceToNat, Int.reduceLE, Int.reduceLT, Int.reduceEq, Int.reduceNe, Int.reduceAdd, Int.reduceSub, Int.reduceNeg, mixed, decide_eq_true_eq, decide_eq_false_iff_not, Bool.not_eq_true', Bool.not_eq_false', List.headD_cons, Option.some.injEq, Int.cast_ofNat_Int, memLines, List.range_zero]
    simp [LawL.row, ResL.row]
  intro m hm
  have hlen := memLines_len (l := l) (sc := sc) (fun x hx => (r4 x hx).1) hm
  rcases Nat.lt_or_ge m r.mems.length with h | h
  · have c1 : ((m : Int) < (r.mems.length : Int)) = True := eq_true (by omega)
    have hx := memsV_get h
    have r5 := r4 _ (List.getElem_mem h)
    have i1 : I64 (m : Int) := by unfold I64; omega
    have l1 := itoa_len i1
    simp only [go_sem, ↓reduceIte, reduceCtorEq, Nat.reduceEqDiff, Nat.reduceLT, Nat.reduceLeDiff, Nat.reduceAdd, Nat.reduceSub, Nat.reduceMul, Nat.reduceBNe, Nat.reduceBEq, Int.reduceToNat, Int.reduceLE, Int.reduceLT, Int.reduceEq, Int.reduceNe, Int.reduceAdd, Int.reduceSub, Int.reduceNeg, mixed, decide_eq_true_eq, decide_eq_false_iff_not, Bool.not_eq_true', Bool.not_eq_false', List.headD_cons, Option.some.injEq, Int.cast_ofNat_Int, LawL.row, ResL.row, c1, Int.toNat_natCast, hx]
    refine detCall_of _ (member_call (l := l)) ?_
    simp only [go_sem, ↓reduceIte, reduceCtorEq, Nat.reduceEqDiff, Nat.reduceLT, Nat.reduceLeDiff, Nat.reduceAdd, Nat.reduceSub, Nat.reduceMul, Nat.reduceBNe, Nat.reduceBEq, Int.reduceToNat, Int.reduceLE, Int.reduceLT, Int.reduceEq, Int.reduceNe, Int.reduceAdd, Int.reduceSub, Int.reduceNeg, mixed, decide_eq_true_eq, decide_eq_false_iff_not, Bool.not_eq_true', Bool.not_eq_false', List.headD_cons, Option.some.injEq, Int.cast_ofNat_Int, ScopeL.row]
    refine detCall_of _ (fmtInt_call i1) ?_
    simp only [go_sem, ↓reduceIte, reduceCtorEq, Nat.reduceEqDiff, Nat.reduceLT, Nat.reduceLeDiff, Nat.reduceAdd, Nat.reduceSub, Nat.reduceMul, Nat.reduceBNe, Nat.reduceBEq, Int.reduceToNat, Int.reduceLE, Int.reduceLT, Int.reduceEq, Int.reduceNe, Int.reduceAdd, Int.reduceSub, Int.reduceNeg, mixed, decide_eq_true_eq, decide_eq_false_iff_not, Bool.not_eq_true', Bool.not_eq_false', List.headD_cons, Option.some.injEq, Int.cast_ofNat_Int]
    refine ⟨by first | omega | (simp; omega), by first | omega | (simp; omega), ?_⟩
    refine detCall_of _ (lines_call (l := l) (s := memberL l.scopes sc) (pre := preS m) hl.1 (scopeAt_ok hl _) (by have := preS_len (m := m) (by omega); omega) (by omega) (by omega)) ?_
    simp only [go_sem, ↓reduceIte, reduceCtorEq, Nat.reduceEqDiff, Nat.reduceLT, Nat.reduceLeDiff, Nat.reduceAdd, Nat.reduceSub, Nat.reduceMul, Nat.reduceBNe, Nat.reduceBEq, Int.reduceToNat, Int.reduceLE, Int.reduceLT, Int.reduceEq, Int.reduceNe, Int.reduceAdd, Int.reduceSub, Int.reduceNeg, mixed, decide_eq_true_eq, decide_eq_false_iff_not, Bool.not_eq_true', Bool.not_eq_false', List.headD_cons, Option.some.injEq, Int.cast_ofNat_Int]
    refine ⟨by simp only [List.length_append, linesS_length]; omega, m + 1, ?_, by omega, by omega⟩
    rw [w64 (by unfold I64; omega), memLines_succ h, ← List.append_assoc, strs_append]
    rfl
  · have c1 : ((m : Int) < (r.mems.length : Int)) = False := eq_false (by omega)
    simp only [go_sem, ↓reduceIte, reduceCtorEq, Nat.reduceEqDiff, Nat.reduceLT, Nat.reduceLeDiff, Nat.reduceAdd, Nat.reduceSub, Nat.reduceMul, Nat.reduceBNe, Nat.reduceBEq, Int.reduceToNat, Int.reduceLE, Int.reduceLT, Int.reduceEq, Int.reduceNe, Int.reduceAdd, Int.reduceSub, Int.reduceNeg, mixed, decide_eq_true_eq, decide_eq_false_iff_not, Bool.not_eq_true', Bool.not_eq_false', List.headD_cons, Option.some.injEq, Int.cast_ofNat_Int, c1]
    rw [show m = r.mems.length by omega]
    rfl
theorem result2_call {l : LawL} {sc : Int} {r : ResL} (hl : l.ok) (hr : r.ok) : FCall Tryd.prog 12 [.agg l.row, .int .i64 sc, .agg r.row] (· = .arr (strs (resultS l sc r))) := by
  obtain ⟨r1, r2, r3, r4⟩ := hr
  refine FCall.walk Tryd.func12 k12 rfl ?_
  unfold c12
  simp only [go_sem, ↓reduceIte, reduceCtorEq, Nat.reduceEqDiff, Nat.reduceLT, Nat.reduceLeDiff, Nat.reduceAdd, Nat.reduceSub, Nat.reduceMul, Nat.reduceBNe, Nat.reduceBEq, Int.reduceToNat, Int.reduceLE, Int.reduceLT, Int.reduceEq, Int.reduceNe, Int.reduceAdd, Int.reduceSub, Int.reduceNeg, mixed, decide_eq_true_eq, decide_eq_false_iff_not, Bool.not_eq_true', Bool.not_eq_false', List.headD_cons, Option.some.injEq, Int.cast_ofNat_Int, LawL.row, ResL.row]
  refine FCallT.of (scopeAt2_call (l := l)) ?_
  rintro _ rfl
  simp only [go_sem, ↓reduceIte, reduceCtorEq, Nat.reduceEqDiff, Nat.reduceLT, Nat.reduceLeDiff, Nat.reduceAdd, Nat.reduceSub, Nat.reduceMul, Nat.reduceBNe, Nat.reduceBEq, Int.reduceToNat, Int.reduceLE, Int.reduceLT, Int.reduceEq, Int.reduceNe, Int.reduceAdd, Int.reduceSub, Int.reduceNeg, mixed, decide_eq_true_eq, decide_eq_false_iff_not, Bool.not_eq_true', Bool.not_eq_false', List.headD_cons, Option.some.injEq, Int.cast_ofNat_Int, ScopeL.row]
  refine FCallT.of (lines2_call (o := []) (l := l) (s := scopeAtL l.scopes sc) hl.1 (scopeAt_ok hl sc) (by simp) (by omega) (by omega) (by simp)) ?_
  rintro _ rfl
  simp only [go_sem, ↓reduceIte, reduceCtorEq, Nat.reduceEqDiff, Nat.reduceLT, Nat.reduceLeDiff, Nat.reduceAdd, Nat.reduceSub, Nat.reduceMul, Nat.reduceBNe, Nat.reduceBEq, Int.reduceToNat, Int.reduceLE, Int.reduceLT, Int.reduceEq, Int.reduceNe, Int.reduceAdd, Int.reduceSub, Int.reduceNeg, mixed, decide_eq_true_eq, decide_eq_false_iff_not, Bool.not_eq_true', Bool.not_eq_false', List.headD_cons, Option.some.injEq, Int.cast_ofNat_Int, LawL.row, ScopeL.row]
  refine FWT.loopK [24] (fun m : Nat => [(3, .box l.row), (5, .box r.row), (7, .box (scopeAtL l.scopes sc).row), (8, .arr (strs (linesS l.enums (scopeAtL l.scopes sc) [] r.vals r.rules r.vals.length ++ memLines l sc r.mems m))), (9, .int .i64 m)]) (fun m => r.mems.length - m) (fun m => m ≤ r.mems.length) 0 ?_ (by omega) ?_
  · simp only [go_sem, ↓reduceIte, reduceCtorEq, Nat.reduceEqDiff, Nat.reduceLT, Nat.reduceLeDiff, Nat.reduceAdd, Nat.reduceSub, Nat.reduceMul, Nat.reduceBNe, Nat.reduceBEq, Int.reduceToNat, Int.reduceLE, Int.reduceLT, Int.reduceEq, Int.reduceNe, Int.reduceAdd, Int.reduceSub, Int.reduceNeg, mixed, decide_eq_true_eq, decide_eq_false_iff_not, Bool.not_eq_true', Bool.not_eq_false', List.headD_cons, Option.some.injEq, Int.cast_ofNat_Int, memLines, List.range_zero]
    simp [LawL.row, ResL.row, ScopeL.row]
  intro m hm
  have hlen := memLines_len (l := l) (sc := sc) (fun x hx => (r4 x hx).1) hm
  rcases Nat.lt_or_ge m r.mems.length with h | h
  · have c1 : ((m : Int) < (r.mems.length : Int)) = True := eq_true (by omega)
    have hx := memsV_get h
    have r5 := r4 _ (List.getElem_mem h)
    have i1 : I64 (m : Int) := by unfold I64; omega
    have l1 := itoa_len i1
    simp only [go_sem, ↓reduceIte, reduceCtorEq, Nat.reduceEqDiff, Nat.reduceLT, Nat.reduceLeDiff, Nat.reduceAdd, Nat.reduceSub, Nat.reduceMul, Nat.reduceBNe, Nat.reduceBEq, Int.reduceToNat, Int.reduceLE, Int.reduceLT, Int.reduceEq, Int.reduceNe, Int.reduceAdd, Int.reduceSub, Int.reduceNeg, mixed, decide_eq_true_eq, decide_eq_false_iff_not, Bool.not_eq_true', Bool.not_eq_false', List.headD_cons, Option.some.injEq, Int.cast_ofNat_Int, LawL.row, ResL.row, ScopeL.row, c1, Int.toNat_natCast, hx]
    refine detCall_of _ (fmtInt2_call i1) ?_
    simp only [go_sem, ↓reduceIte, reduceCtorEq, Nat.reduceEqDiff, Nat.reduceLT, Nat.reduceLeDiff, Nat.reduceAdd, Nat.reduceSub, Nat.reduceMul, Nat.reduceBNe, Nat.reduceBEq, Int.reduceToNat, Int.reduceLE, Int.reduceLT, Int.reduceEq, Int.reduceNe, Int.reduceAdd, Int.reduceSub, Int.reduceNeg, mixed, decide_eq_true_eq, decide_eq_false_iff_not, Bool.not_eq_true', Bool.not_eq_false', List.headD_cons, Option.some.injEq, Int.cast_ofNat_Int]
    refine ⟨by first | omega | (simp; omega), by first | omega | (simp; omega), ?_⟩
    refine detCall_of _ (scopeAt2_call (l := l)) ?_
    simp only [go_sem, ↓reduceIte, reduceCtorEq, Nat.reduceEqDiff, Nat.reduceLT, Nat.reduceLeDiff, Nat.reduceAdd, Nat.reduceSub, Nat.reduceMul, Nat.reduceBNe, Nat.reduceBEq, Int.reduceToNat, Int.reduceLE, Int.reduceLT, Int.reduceEq, Int.reduceNe, Int.reduceAdd, Int.reduceSub, Int.reduceNeg, mixed, decide_eq_true_eq, decide_eq_false_iff_not, Bool.not_eq_true', Bool.not_eq_false', List.headD_cons, Option.some.injEq, Int.cast_ofNat_Int, ScopeL.row, Int.toNat_natCast, hx]
    refine FCallT.of (lines2_call (l := l) (s := memberL l.scopes sc) (pre := preS m) hl.1 (scopeAt_ok hl _) (by have := preS_len (m := m) (by omega); omega) (by omega) (by omega) (by simp only [List.length_append, linesS_length]; omega)) ?_
    rintro _ rfl
    simp only [go_sem, ↓reduceIte, reduceCtorEq, Nat.reduceEqDiff, Nat.reduceLT, Nat.reduceLeDiff, Nat.reduceAdd, Nat.reduceSub, Nat.reduceMul, Nat.reduceBNe, Nat.reduceBEq, Int.reduceToNat, Int.reduceLE, Int.reduceLT, Int.reduceEq, Int.reduceNe, Int.reduceAdd, Int.reduceSub, Int.reduceNeg, mixed, decide_eq_true_eq, decide_eq_false_iff_not, Bool.not_eq_true', Bool.not_eq_false', List.headD_cons, Option.some.injEq, Int.cast_ofNat_Int]
    refine ⟨m + 1, ?_, by omega, by omega⟩
    rw [w64 (by unfold I64; omega), memLines_succ h, ← List.append_assoc]
    rfl
  · have c1 : ((m : Int) < (r.mems.length : Int)) = False := eq_false (by omega)
    simp only [go_sem, ↓reduceIte, reduceCtorEq, Nat.reduceEqDiff, Nat.reduceLT, Nat.reduceLeDiff, Nat.reduceAdd, Nat.reduceSub, Nat.reduceMul, Nat.reduceBNe, Nat.reduceBEq, Int.reduceToNat, Int.reduceLE, Int.reduceLT, Int.reduceEq, Int.reduceNe, Int.reduceAdd, Int.reduceSub, Int.reduceNeg, mixed, decide_eq_true_eq, decide_eq_false_iff_not, Bool.not_eq_true', Bool.not_eq_false', List.headD_cons, Option.some.injEq, Int.cast_ofNat_Int, ResL.row, c1]
    rw [show m = r.mems.length by omega]
    rfl
end Go.Fx.Tryd
