/- Part of a proof: see the last text of the claim. -/
import Derived.Test.YthfkhokmgolabaaDoorFxT14
set_option linter.unusedVariables false
set_option linter.unusedSimpArgs false
namespace Go.Fx.Tryd
open Go Go.Fm Go.Proofs

theorem strs_free (l : List (List UInt8)) : freeLL (strs l) = true := by
  induction l with
  | nil => rfl
  | cons s l ih => simp only [strs, List.map_cons, freeLL, freeL, FV.free] at ih ⊢; simp [ih]
def resAw : ResL := ⟨false, [⟨3, 0, 1250⟩], false, [0], true, []⟩
theorem tiny_ok : tinyL.ok := ⟨by simp [enumsOk, tinyL], by simp [tinyL, scopeOk]⟩
theorem f1 : fixedS 1250 2 = [49, 50, 46, 53, 48] := by simp [fixedS, padL, Lib.decDigits]
theorem f2 : fixedS 50000 2 = [53, 48, 48, 46, 48, 48] := by simp [fixedS, padL, Lib.decDigits]
theorem f3 : fixedS 20000 2 = [50, 48, 48, 46, 48, 48] := by simp [fixedS, padL, Lib.decDigits]
theorem f4 : fixedS 0 2 = [48, 46, 48, 48] := by simp [fixedS, padL, Lib.decDigits]
theorem f5 : fixedS 30000 2 = [51, 48, 48, 46, 48, 48] := by simp [fixedS, padL, Lib.decDigits]
theorem f6 : fixedS 250 2 = [50, 46, 53, 48] := by simp [fixedS, padL, Lib.decDigits]
theorem m1 : monthT 1200 = [50, 48, 48, 48, 45, 48, 49] := by
  have : monthS 1200 = [50, 48, 48, 48, 45, 48, 49] := by simp [monthS, Lib.itoa, Lib.decDigits, padL]
  simp [monthT, this]
theorem y1 : ymd 36524 = (2000, 1, 1) := by decide
theorem dd1 : dateS 36524 = [50, 48, 48, 48, 45, 48, 49, 45, 48, 49] := by simp [dateS, y1, padL, Lib.itoa, Lib.decDigits]
theorem v1 : valT 3 0 1250 [] = [49, 50, 46, 53, 48] := by simp [valT, valS, validT, inB, boundsV, f1]
theorem v2 : valT 5 0 36524 [] = [50, 48, 48, 48, 45, 48, 49, 45, 48, 49] := by simp [valT, valS, validT, inB, boundsV, dd1]
theorem a1 : arrN 50000 20000 = 30000 := by decide
theorem a2 : overN 50000 20000 0 = 0 := by decide
theorem r1 : resultS tinyL 0 resAw = [[100, 32, 61, 32, 49, 50, 46, 53, 48, 32, 98, 121, 32, 98, 97, 115, 101]] := by
  simp [resultS, linesS, memLines, resAw, tinyL, scopeAtL, lineS, fieldName, ruleNameL, v1, List.range_succ]
theorem r2 : balS ⟨1200, 50000, 20000, 0⟩ = [50, 48, 48, 48, 45, 48, 49, 32, 100, 117, 101, 32, 53, 48, 48, 46, 48, 48, 32, 114, 101, 99, 101, 105, 118, 101, 100, 32, 50, 48, 48, 46, 48, 48, 32, 119, 97, 105, 118, 101, 100, 32, 48, 46, 48, 48, 32, 97, 114, 114, 101, 97, 114, 115, 32, 51, 48, 48, 46, 48, 48, 32, 111, 118, 101, 114, 112, 97, 121, 109, 101, 110, 116, 32, 48, 46, 48, 48] := by
  simp [balS, m1, f2, f3, f4, f5, a1, a2]
theorem r3 : postS ⟨36524, 1200, 2, 250⟩ = [50, 48, 48, 48, 45, 48, 49, 45, 48, 49, 32, 50, 48, 48, 48, 45, 48, 49, 32, 114, 101, 99, 111, 118, 101, 114, 121, 32, 50, 46, 53, 48] := by
  simp [postS, v2, m1, kindS, f6]
theorem r4 : evalS tinyL 0 12 (-1) 0 0 = [101, 114, 114, 111, 114, 32, 49, 50, 32, 102, 111, 114, 32, 100, 32, 98, 121, 32, 98, 97, 115, 101] := by
  simp [evalS, words_join, Lib.itoa, Lib.decDigits, evScope, tinyL, scopeAtL, fieldName, ruleNameL]
theorem r5 : evalS tinyL 0 1 (-1) (-1) (-1) = [101, 114, 114, 111, 114, 32, 49] := by
  simp [evalS, words_join, Lib.itoa, Lib.decDigits]
theorem awake_call : FCall Tryd.prog 9 [] (· = .bool true) := by
  have hr : resAw.ok := by simp [ResL.ok, resAw]
  have c1 := result_call (sc := 0) tiny_ok hr
  rw [r1] at c1
  have c2 := bals_call (f := false) (l := [⟨1200, 50000, 20000, 0⟩]) (by simp) (by simp [BalL.ok, I64])
  rw [List.map_cons, r2, List.map_nil] at c2
  have c3 := posts_call (f := false) (l := [⟨36524, 1200, 2, 250⟩]) (by simp) (by simp [I64])
  rw [List.map_cons, r3, List.map_nil] at c3
  have c4 := evalError_call (l := tinyL) (sc := 0) (c := 12) (m := -1) (d := 0) (r := 0) tiny_ok (by simp [I64]) (by simp [I64])
  rw [r4] at c4
  have c5 := evalError_call (l := tinyL) (sc := 0) (c := 1) (m := -1) (d := -1) (r := -1) tiny_ok (by simp [I64]) (by simp [I64])
  rw [r5] at c5
  refine FCall.walk Tryd.func9 k9 rfl ?_
  unfold c9
  simp only [go_sem, ↓reduceIte, reduceCtorEq, Nat.reduceEqDiff, Nat.reduceLT, Nat.reduceLeDiff, Nat.reduceAdd, Nat.reduceSub, Nat.reduceMul, Nat.reduceBNe, Nat.reduceBEq, Int.reduceToNat, Int.reduceLE, Int.reduceLT, Int.reduceEq, Int.reduceNe, Int.reduceAdd, Int.reduceSub, Int.reduceNeg, mixed, decide_eq_true_eq, decide_eq_false_iff_not, Bool.not_eq_true', Bool.not_eq_false', List.headD_cons, Option.some.injEq, Int.cast_ofNat_Int, LawL.row]
  refine FCallT.of (tiny_call) ?_
  rintro _ rfl
  simp only [go_sem, ↓reduceIte, reduceCtorEq, Nat.reduceEqDiff, Nat.reduceLT, Nat.reduceLeDiff, Nat.reduceAdd, Nat.reduceSub, Nat.reduceMul, Nat.reduceBNe, Nat.reduceBEq, Int.reduceToNat, Int.reduceLE, Int.reduceLT, Int.reduceEq, Int.reduceNe, Int.reduceAdd, Int.reduceSub, Int.reduceNeg, mixed, decide_eq_true_eq, decide_eq_false_iff_not, Bool.not_eq_true', Bool.not_eq_false', List.headD_cons, Option.some.injEq, Int.cast_ofNat_Int, LawL.row]
  refine FCallT.of (c1) ?_
  rintro _ rfl
  simp only [go_sem, ↓reduceIte, reduceCtorEq, Nat.reduceEqDiff, Nat.reduceLT, Nat.reduceLeDiff, Nat.reduceAdd, Nat.reduceSub, Nat.reduceMul, Nat.reduceBNe, Nat.reduceBEq, Int.reduceToNat, Int.reduceLE, Int.reduceLT, Int.reduceEq, Int.reduceNe, Int.reduceAdd, Int.reduceSub, Int.reduceNeg, mixed, decide_eq_true_eq, decide_eq_false_iff_not, Bool.not_eq_true', Bool.not_eq_false', List.headD_cons, Option.some.injEq, Int.cast_ofNat_Int, strs_free]
  refine FCallT.of (c2) ?_
  rintro _ rfl
  simp only [go_sem, ↓reduceIte, reduceCtorEq, Nat.reduceEqDiff, Nat.reduceLT, Nat.reduceLeDiff, Nat.reduceAdd, Nat.reduceSub, Nat.reduceMul, Nat.reduceBNe, Nat.reduceBEq, Int.reduceToNat, Int.reduceLE, Int.reduceLT, Int.reduceEq, Int.reduceNe, Int.reduceAdd, Int.reduceSub, Int.reduceNeg, mixed, decide_eq_true_eq, decide_eq_false_iff_not, Bool.not_eq_true', Bool.not_eq_false', List.headD_cons, Option.some.injEq, Int.cast_ofNat_Int, strs_free]
  refine FCallT.of (c3) ?_
  rintro _ rfl
  simp only [go_sem, ↓reduceIte, reduceCtorEq, Nat.reduceEqDiff, Nat.reduceLT, Nat.reduceLeDiff, Nat.reduceAdd, Nat.reduceSub, Nat.reduceMul, Nat.reduceBNe, Nat.reduceBEq, Int.reduceToNat, Int.reduceLE, Int.reduceLT, Int.reduceEq, Int.reduceNe, Int.reduceAdd, Int.reduceSub, Int.reduceNeg, mixed, decide_eq_true_eq, decide_eq_false_iff_not, Bool.not_eq_true', Bool.not_eq_false', List.headD_cons, Option.some.injEq, Int.cast_ofNat_Int, strs_free]
  refine FCallT.of (c4) ?_
  rintro _ rfl
  simp only [go_sem, ↓reduceIte, reduceCtorEq, Nat.reduceEqDiff, Nat.reduceLT, Nat.reduceLeDiff, Nat.reduceAdd, Nat.reduceSub, Nat.reduceMul, Nat.reduceBNe, Nat.reduceBEq, Int.reduceToNat, Int.reduceLE, Int.reduceLT, Int.reduceEq, Int.reduceNe, Int.reduceAdd, Int.reduceSub, Int.reduceNeg, mixed, decide_eq_true_eq, decide_eq_false_iff_not, Bool.not_eq_true', Bool.not_eq_false', List.headD_cons, Option.some.injEq, Int.cast_ofNat_Int]
  refine FCallT.of (strings_call (u := false) (v := false) (b := [[100, 32, 61, 32, 49, 50, 46, 53, 48, 32, 98, 121, 32, 98, 97, 115, 101]]) (by simp) (by simp)) ?_
  rintro _ rfl
  simp only [go_sem, ↓reduceIte, reduceCtorEq, Nat.reduceEqDiff, Nat.reduceLT, Nat.reduceLeDiff, Nat.reduceAdd, Nat.reduceSub, Nat.reduceMul, Nat.reduceBNe, Nat.reduceBEq, Int.reduceToNat, Int.reduceLE, Int.reduceLT, Int.reduceEq, Int.reduceNe, Int.reduceAdd, Int.reduceSub, Int.reduceNeg, mixed, decide_eq_true_eq, decide_eq_false_iff_not, Bool.not_eq_true', Bool.not_eq_false', List.headD_cons, Option.some.injEq, Int.cast_ofNat_Int, strs_free]
  refine FCallT.of (strings_call (u := false) (v := false) (b := [[50, 48, 48, 48, 45, 48, 49, 32, 100, 117, 101, 32, 53, 48, 48, 46, 48, 48, 32, 114, 101, 99, 101, 105, 118, 101, 100, 32, 50, 48, 48, 46, 48, 48, 32, 119, 97, 105, 118, 101, 100, 32, 48, 46, 48, 48, 32, 97, 114, 114, 101, 97, 114, 115, 32, 51, 48, 48, 46, 48, 48, 32, 111, 118, 101, 114, 112, 97, 121, 109, 101, 110, 116, 32, 48, 46, 48, 48]]) (by simp) (by simp)) ?_
  rintro _ rfl
  simp only [go_sem, ↓reduceIte, reduceCtorEq, Nat.reduceEqDiff, Nat.reduceLT, Nat.reduceLeDiff, Nat.reduceAdd, Nat.reduceSub, Nat.reduceMul, Nat.reduceBNe, Nat.reduceBEq, Int.reduceToNat, Int.reduceLE, Int.reduceLT, Int.reduceEq, Int.reduceNe, Int.reduceAdd, Int.reduceSub, Int.reduceNeg, mixed, decide_eq_true_eq, decide_eq_false_iff_not, Bool.not_eq_true', Bool.not_eq_false', List.headD_cons, Option.some.injEq, Int.cast_ofNat_Int, strs_free]
  refine FCallT.of (strings_call (u := false) (v := false) (b := [[50, 48, 48, 48, 45, 48, 49, 45, 48, 49, 32, 50, 48, 48, 48, 45, 48, 49, 32, 114, 101, 99, 111, 118, 101, 114, 121, 32, 50, 46, 53, 48]]) (by simp) (by simp)) ?_
  rintro _ rfl
  simp only [go_sem, ↓reduceIte, reduceCtorEq, Nat.reduceEqDiff, Nat.reduceLT, Nat.reduceLeDiff, Nat.reduceAdd, Nat.reduceSub, Nat.reduceMul, Nat.reduceBNe, Nat.reduceBEq, Int.reduceToNat, Int.reduceLE, Int.reduceLT, Int.reduceEq, Int.reduceNe, Int.reduceAdd, Int.reduceSub, Int.reduceNeg, mixed, decide_eq_true_eq, decide_eq_false_iff_not, Bool.not_eq_true', Bool.not_eq_false', List.headD_cons, Option.some.injEq, Int.cast_ofNat_Int, strs_free]
  refine FCallT.of (c5) ?_
  rintro _ rfl
  simp only [go_sem, ↓reduceIte, reduceCtorEq, Nat.reduceEqDiff, Nat.reduceLT, Nat.reduceLeDiff, Nat.reduceAdd, Nat.reduceSub, Nat.reduceMul, Nat.reduceBNe, Nat.reduceBEq, Int.reduceToNat, Int.reduceLE, Int.reduceLT, Int.reduceEq, Int.reduceNe, Int.reduceAdd, Int.reduceSub, Int.reduceNeg, mixed, decide_eq_true_eq, decide_eq_false_iff_not, Bool.not_eq_true', Bool.not_eq_false', List.headD_cons, Option.some.injEq, Int.cast_ofNat_Int]
end Go.Fx.Tryd
