/- Part of a proof: see the last text of the claim. -/
import Derived.Test.YthfkhokmgolabaaDoorFxT13
set_option linter.unusedVariables false
set_option linter.unusedSimpArgs false
namespace Go.Fx.Tryd
open Go Go.Fm Go.Proofs

/-- what is handed back, sealed -/
theorem seal_call {P : Program} {f : FuncId} {fs : List FV} {x : FV} (h : FCall P f fs (· = x)) : FCall P f fs (· = x.sealed) := by
  refine ⟨fun {w S R vs} hA hrep hnd hsep => ?_⟩
  refine (h.out hA hrep hnd hsep).mono ?_
  rintro e w' ⟨v, r, S', R', he, rfl, hr, hnd', hs', ext⟩
  refine ⟨v, _, fun b => S' b ∨ b ∈ R', [], he, rfl, ?_, by simp, ?_, ?_⟩
  · have := hr.seal (S' := fun b => S' b ∨ b ∈ R') (fun _ h => .inl h) (fun _ h => .inr h)
    simpa [sealedL] using this
  · intro b hb
    refine ⟨?_, by simp⟩
    rcases hb with hb | hb
    · exact (hs' b hb).1
    · exact hr.lt b hb
  · refine ⟨fun b hb => .inl (ext.seals b hb), fun b hb => ?_, ext.keep, ext.grow, by simp, ext.os, ext.tape, ext.output, ext.spare⟩
    rcases hb with hb | hb
    · exact ext.news b hb
    · exact .inr (ext.owns b hb)
def tinyL : LawL := ⟨true, [], true, [], false, [⟨[104, 111, 117, 115, 101], -1, false, [⟨[97], 3, 0⟩], false, [⟨[100], 3, 0⟩], false, [⟨[98, 97, 115, 101], 0, -1, 0, 0, 109573, true, [], true, [], []⟩]⟩]⟩
theorem tiny_call0 : FCall Tryd.prog 23 [.sl true []] (· = .agg [.sl true [], .sl true [], .arr [[.str [104, 111, 117, 115, 101], .int .i64 (-1), .arr [[.str [97], .int .i64 3, .int .i64 0]], .arr [[.str [100], .int .i64 3, .int .i64 0]],
    .arr [[.str [98, 97, 115, 101], .int .i64 0, .int .i64 (-1), .int .i64 0, .int .i64 0, .int .i64 109573, .sl true [], .sl true [], .str []]]]]]) := by
  refine FCall.walk Tryd.func23 k23 rfl ?_
  unfold c23
  simp only [go_sem, ↓reduceIte, reduceCtorEq, Nat.reduceEqDiff, Nat.reduceLT, Nat.reduceLeDiff, Nat.reduceAdd, Nat.reduceSub, Nat.reduceMul, Nat.reduceBNe, Nat.reduceBEq, Int.reduceToNat, Int.reduceLE, Int.reduceLT, Int.reduceEq, Int.reduceNe, Int.reduceAdd, Int.reduceSub, Int.reduceNeg, mixed, decide_eq_true_eq, decide_eq_false_iff_not, Bool.not_eq_true', Bool.not_eq_false', List.headD_cons, Option.some.injEq, Int.cast_ofNat_Int]
theorem tiny_call : FCall Tryd.prog 23 [.sl true []] (· = .agg tinyL.row) := seal_call tiny_call0
/-- the comparison of two slices of strings -/
theorem strings_call {u v : Bool} {a b : List (List UInt8)} (ha : a.length < 2 ^ 62) (hb : b.length < 2 ^ 62) : FCall Tryd.prog 10 [.sl u (strs a), .sl v (strs b)] (· = .bool (decide (a = b))) := by
  refine FCall.walk Tryd.func10 k10 rfl ?_
  unfold c10
  simp only [go_sem, ↓reduceIte, reduceCtorEq, Nat.reduceEqDiff, Nat.reduceLT, Nat.reduceLeDiff, Nat.reduceAdd, Nat.reduceSub, Nat.reduceMul, Nat.reduceBNe, Nat.reduceBEq, Int.reduceToNat, Int.reduceLE, Int.reduceLT, Int.reduceEq, Int.reduceNe, Int.reduceAdd, Int.reduceSub, Int.reduceNeg, mixed, decide_eq_true_eq, decide_eq_false_iff_not, Bool.not_eq_true', Bool.not_eq_false', List.headD_cons, Option.some.injEq, Int.cast_ofNat_Int]
  refine ⟨fun h => ?_, fun h => ?_⟩
  · congr 1; symm; simp only [decide_eq_false_iff_not]; intro e; subst e; exact h rfl
  have hlen : a.length = b.length := by omega
  refine FWT.loopK [] (fun i : Nat => [(0, .sl u (strs a)), (1, .sl v (strs b)), (5, .int .i64 (i : Int))]) (fun i => a.length - i) (fun i => i ≤ a.length ∧ a.take i = b.take i) 0 rfl ⟨by omega, rfl⟩ ?_
  intro i ⟨hi, ht⟩
  rcases Nat.lt_or_ge i a.length with hlt | hge
  · have c1 : ((i : Int) < (a.length : Int)) = True := eq_true (by omega)
    have c2 : ((i : Int) < (b.length : Int)) = True := eq_true (by omega)
    have x1 := strs_get hlt
    have x2 := strs_get (l := b) (i := i) (by omega)
    simp only [go_sem, ↓reduceIte, reduceCtorEq, Nat.reduceEqDiff, Nat.reduceLT, Nat.reduceLeDiff, Nat.reduceAdd, Nat.reduceSub, Nat.reduceMul, Nat.reduceBNe, Nat.reduceBEq, Int.reduceToNat, Int.reduceLE, Int.reduceLT, Int.reduceEq, Int.reduceNe, Int.reduceAdd, Int.reduceSub, Int.reduceNeg, mixed, decide_eq_true_eq, decide_eq_false_iff_not, Bool.not_eq_true', Bool.not_eq_false', List.headD_cons, Option.some.injEq, Int.cast_ofNat_Int, c1, c2, Int.toNat_natCast, x1, x2]
    refine ⟨fun hne => ?_, fun heq => ?_⟩
    · congr 1; symm; simp only [decide_eq_false_iff_not]; intro e; subst e; exact hne rfl
    · refine ⟨i + 1, by rw [w64 (by unfold I64; omega)]; rfl, ⟨by omega, ?_⟩, by omega⟩
      rw [List.take_succ_eq_append_getElem hlt, List.take_succ_eq_append_getElem (by omega), ht, heq]
  · have c1 : ((i : Int) < (a.length : Int)) = False := eq_false (by omega)
    simp only [go_sem, ↓reduceIte, reduceCtorEq, Nat.reduceEqDiff, Nat.reduceLT, Nat.reduceLeDiff, Nat.reduceAdd, Nat.reduceSub, Nat.reduceMul, Nat.reduceBNe, Nat.reduceBEq, Int.reduceToNat, Int.reduceLE, Int.reduceLT, Int.reduceEq, Int.reduceNe, Int.reduceAdd, Int.reduceSub, Int.reduceNeg, mixed, decide_eq_true_eq, decide_eq_false_iff_not, Bool.not_eq_true', Bool.not_eq_false', List.headD_cons, Option.some.injEq, Int.cast_ofNat_Int, c1]
    have e1 : i = a.length := by omega
    rw [List.take_of_length_le (by omega), List.take_of_length_le (by omega)] at ht
    simp [ht]
end Go.Fx.Tryd
