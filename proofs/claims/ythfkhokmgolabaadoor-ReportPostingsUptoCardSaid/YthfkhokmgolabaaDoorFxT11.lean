/- Part of a proof: see the last text of the claim. -/
import Derived.Test.YthfkhokmgolabaaDoorFxT10
set_option linter.unusedVariables false
set_option linter.unusedSimpArgs false
namespace Go.Fx.Tryd
open Go Go.Fm Go.Proofs

theorem lines2_call {l : LawL} {s : ScopeL} {pre : List UInt8} {vf rf : Bool} {vs : List ValL} {rs : List Int} {o : List (List UInt8)} (he : enumsOk l.enums) (hs : scopeOk s) (hp : pre.length ≤ 1099511627776) (hv : vs.length < 2 ^ 40) (hr : rs.length < 2 ^ 40)
    (hol : o.length ≤ 4398046511104) :
    FCall Tryd.prog 29 [.arr (strs o), .str pre, .agg l.row, .agg s.row, .sl vf (valsV vs), .sl rf (intsV rs)] (· = .arr (strs (o ++ linesS l.enums s pre vs rs vs.length))) := by
  refine FCall.walk Tryd.func29 k29 rfl ?_
  unfold c29
  simp only [go_sem, ↓reduceIte, reduceCtorEq, Nat.reduceEqDiff, Nat.reduceLT, Nat.reduceLeDiff, Nat.reduceAdd, Nat.reduceSub, Nat.reduceMul, Nat.reduceBNe, Nat.reduceBEq, Int.reduceToNat, Int.reduceLE, Int.reduceLT, Int.reduceEq, Int.reduceNe, Int.reduceAdd, Int.reduceSub, Int.reduceNeg, mixed, decide_eq_true_eq, decide_eq_false_iff_not, Bool.not_eq_true', Bool.not_eq_false', List.headD_cons, Option.some.injEq, Int.cast_ofNat_Int, LawL.row, ScopeL.row]
  refine FWT.loopK [2, 3, 12, 18, 14] (fun i : Nat => [(0, .arr (strs (o ++ linesS l.enums s pre vs rs i))), (1, .str pre), (4, .sl vf (valsV vs)), (5, .sl rf (intsV rs)), (8, .box l.row), (9, .box s.row), (13, .int .i64 i)]) (fun i => vs.length - i) (fun i => i ≤ vs.length) 0 ?_ (by omega) ?_
  · simp only [go_sem, ↓reduceIte, reduceCtorEq, Nat.reduceEqDiff, Nat.reduceLT, Nat.reduceLeDiff, Nat.reduceAdd, Nat.reduceSub, Nat.reduceMul, Nat.reduceBNe, Nat.reduceBEq, Int.reduceToNat, Int.reduceLE, Int.reduceLT, Int.reduceEq, Int.reduceNe, Int.reduceAdd, Int.reduceSub, Int.reduceNeg, mixed, decide_eq_true_eq, decide_eq_false_iff_not, Bool.not_eq_true', Bool.not_eq_false', List.headD_cons, Option.some.injEq, Int.cast_ofNat_Int, linesS, List.range_zero]
    rfl
  intro i hi
  rcases Nat.lt_or_ge i vs.length with h | h
  · have c1 : ((i : Int) < (vs.length : Int)) = True := eq_true (by omega)
    have hx := valsV_get h
    have l1 := fieldName_len (i := (i : Int)) hs.1
    have l3 := valT_len (k := vs[i].k) (e := vs[i].e) (n := vs[i].n) he
    have key : ∀ r : Int, r = (rs[i]?).getD (-1) → (pre ++ fieldName s.defs ↑i ++ [32, 61, 32] ++ valT vs[i].k vs[i].e vs[i].n l.enums ++ [32, 98, 121, 32] ++ ruleNameL s.rules r) = lineS l.enums s pre i vs[i] ((rs[i]?).getD (-1)) := fun r e => by subst e; rfl
    rcases Nat.lt_or_ge i rs.length with h2 | h2
    · have c2 : ((i : Int) < (rs.length : Int)) = True := eq_true (by omega)
      have hy := intsV_get h2
      have l2 := ruleName_len (i := rs[i]) hs.2
      simp only [go_sem, ↓reduceIte, reduceCtorEq, Nat.reduceEqDiff, Nat.reduceLT, Nat.reduceLeDiff, Nat.reduceAdd, Nat.reduceSub, Nat.reduceMul, Nat.reduceBNe, Nat.reduceBEq, Int.reduceToNat, Int.reduceLE, Int.reduceLT, Int.reduceEq, Int.reduceNe, Int.reduceAdd, Int.reduceSub, Int.reduceNeg, mixed, decide_eq_true_eq, decide_eq_false_iff_not, Bool.not_eq_true', Bool.not_eq_false', List.headD_cons, Option.some.injEq, Int.cast_ofNat_Int, LawL.row, ScopeL.row, c1, c2, Int.toNat_natCast, hx, hy]
      refine detCall_of _ (defName2_call (s := s)) ?_
      simp only [go_sem, ↓reduceIte, reduceCtorEq, Nat.reduceEqDiff, Nat.reduceLT, Nat.reduceLeDiff, Nat.reduceAdd, Nat.reduceSub, Nat.reduceMul, Nat.reduceBNe, Nat.reduceBEq, Int.reduceToNat, Int.reduceLE, Int.reduceLT, Int.reduceEq, Int.reduceNe, Int.reduceAdd, Int.reduceSub, Int.reduceNeg, mixed, decide_eq_true_eq, decide_eq_false_iff_not, Bool.not_eq_true', Bool.not_eq_false', List.headD_cons, Option.some.injEq, Int.cast_ofNat_Int, Int.toNat_natCast, hx]
      refine ⟨by first | omega | (simp; omega), by first | omega | (simp; omega), ?_⟩
      refine detCall_of _ (valT_call (fun x hx => (he x hx).1)) ?_
      simp only [go_sem, ↓reduceIte, reduceCtorEq, Nat.reduceEqDiff, Nat.reduceLT, Nat.reduceLeDiff, Nat.reduceAdd, Nat.reduceSub, Nat.reduceMul, Nat.reduceBNe, Nat.reduceBEq, Int.reduceToNat, Int.reduceLE, Int.reduceLT, Int.reduceEq, Int.reduceNe, Int.reduceAdd, Int.reduceSub, Int.reduceNeg, mixed, decide_eq_true_eq, decide_eq_false_iff_not, Bool.not_eq_true', Bool.not_eq_false', List.headD_cons, Option.some.injEq, Int.cast_ofNat_Int]
      refine ⟨by first | omega | (simp only [List.length_append, List.length_cons, List.length_nil]; omega), by first | omega | (simp only [List.length_append, List.length_cons, List.length_nil]; omega), ?_⟩
      refine detCall_of _ (ruleName2_call (s := s)) ?_
      simp only [go_sem, ↓reduceIte, reduceCtorEq, Nat.reduceEqDiff, Nat.reduceLT, Nat.reduceLeDiff, Nat.reduceAdd, Nat.reduceSub, Nat.reduceMul, Nat.reduceBNe, Nat.reduceBEq, Int.reduceToNat, Int.reduceLE, Int.reduceLT, Int.reduceEq, Int.reduceNe, Int.reduceAdd, Int.reduceSub, Int.reduceNeg, mixed, decide_eq_true_eq, decide_eq_false_iff_not, Bool.not_eq_true', Bool.not_eq_false', List.headD_cons, Option.some.injEq, Int.cast_ofNat_Int]
      refine ⟨by first | omega | (simp only [List.length_append, List.length_cons, List.length_nil]; omega), by simp only [List.length_append, linesS_length]; omega, i + 1, ?_, by omega, by omega⟩
      rw [w64 (by unfold I64; omega), linesS_succ h, ← List.append_assoc, ← strs_snoc, key rs[i] (by simp [h2])]
      rfl
    · have c2 : ((i : Int) < (rs.length : Int)) = False := eq_false (by omega)
      have l2 := ruleName_len (i := -1) hs.2
      simp only [go_sem, ↓reduceIte, reduceCtorEq, Nat.reduceEqDiff, Nat.reduceLT, Nat.reduceLeDiff, Nat.reduceAdd, Nat.reduceSub, Nat.reduceMul, Nat.reduceBNe, Nat.reduceBEq, Int.reduceToNat, Int.reduceLE, Int.reduceLT, Int.reduceEq, Int.reduceNe, Int.reduceAdd, Int.reduceSub, Int.reduceNeg, mixed, decide_eq_true_eq, decide_eq_false_iff_not, Bool.not_eq_true', Bool.not_eq_false', List.headD_cons, Option.some.injEq, Int.cast_ofNat_Int, LawL.row, ScopeL.row, c1, c2, Int.toNat_natCast, hx]
      refine detCall_of _ (defName2_call (s := s)) ?_
      simp only [go_sem, ↓reduceIte, reduceCtorEq, Nat.reduceEqDiff, Nat.reduceLT, Nat.reduceLeDiff, Nat.reduceAdd, Nat.reduceSub, Nat.reduceMul, Nat.reduceBNe, Nat.reduceBEq, Int.reduceToNat, Int.reduceLE, Int.reduceLT, Int.reduceEq, Int.reduceNe, Int.reduceAdd, Int.reduceSub, Int.reduceNeg, mixed, decide_eq_true_eq, decide_eq_false_iff_not, Bool.not_eq_true', Bool.not_eq_false', List.headD_cons, Option.some.injEq, Int.cast_ofNat_Int, Int.toNat_natCast, hx]
      refine ⟨by first | omega | (simp; omega), by first | omega | (simp; omega), ?_⟩
      refine detCall_of _ (valT_call (fun x hx => (he x hx).1)) ?_
      simp only [go_sem, ↓reduceIte, reduceCtorEq, Nat.reduceEqDiff, Nat.reduceLT, Nat.reduceLeDiff, Nat.reduceAdd, Nat.reduceSub, Nat.reduceMul, Nat.reduceBNe, Nat.reduceBEq, Int.reduceToNat, Int.reduceLE, Int.reduceLT, Int.reduceEq, Int.reduceNe, Int.reduceAdd, Int.reduceSub, Int.reduceNeg, mixed, decide_eq_true_eq, decide_eq_false_iff_not, Bool.not_eq_true', Bool.not_eq_false', List.headD_cons, Option.some.injEq, Int.cast_ofNat_Int]
      refine ⟨by first | omega | (simp only [List.length_append, List.length_cons, List.length_nil]; omega), by first | omega | (simp only [List.length_append, List.length_cons, List.length_nil]; omega), ?_⟩
      refine detCall_of _ (ruleName2_call (s := s)) ?_
      simp only [go_sem, ↓reduceIte, reduceCtorEq, Nat.reduceEqDiff, Nat.reduceLT, Nat.reduceLeDiff, Nat.reduceAdd, Nat.reduceSub, Nat.reduceMul, Nat.reduceBNe, Nat.reduceBEq, Int.reduceToNat, Int.reduceLE, Int.reduceLT, Int.reduceEq, Int.reduceNe, Int.reduceAdd, Int.reduceSub, Int.reduceNeg, mixed, decide_eq_true_eq, decide_eq_false_iff_not, Bool.not_eq_true', Bool.not_eq_false', List.headD_cons, Option.some.injEq, Int.cast_ofNat_Int]
      refine ⟨by first | omega | (simp only [List.length_append, List.length_cons, List.length_nil]; omega), by simp only [List.length_append, linesS_length]; omega, i + 1, ?_, by omega, by omega⟩
      rw [w64 (by unfold I64; omega), linesS_succ h, ← List.append_assoc, ← strs_snoc, key (-1) (by simp [h2])]
      rfl
  · have c1 : ((i : Int) < (vs.length : Int)) = False := eq_false (by omega)
    simp only [go_sem, ↓reduceIte, reduceCtorEq, Nat.reduceEqDiff, Nat.reduceLT, Nat.reduceLeDiff, Nat.reduceAdd, Nat.reduceSub, Nat.reduceMul, Nat.reduceBNe, Nat.reduceBEq, Int.reduceToNat, Int.reduceLE, Int.reduceLT, Int.reduceEq, Int.reduceNe, Int.reduceAdd, Int.reduceSub, Int.reduceNeg, mixed, decide_eq_true_eq, decide_eq_false_iff_not, Bool.not_eq_true', Bool.not_eq_false', List.headD_cons, Option.some.injEq, Int.cast_ofNat_Int, c1]
    rw [show i = vs.length by omega]
end Go.Fx.Tryd
