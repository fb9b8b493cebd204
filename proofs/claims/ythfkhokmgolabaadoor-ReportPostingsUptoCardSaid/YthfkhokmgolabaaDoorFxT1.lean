/- Part of a proof: see the last text of the claim. -/
import Derived.Test.YthfkhokmgolabaaDoorFxTc
import Derived.Test.YthfkhokmgolabaaDoorTrydShelf
set_option linter.unusedVariables false
set_option linter.unusedSimpArgs false
namespace Go.Fx.Tryd
open Go Go.Fm Go.Proofs

def I64 (n : Int) : Prop := -9223372036854775808 ≤ n ∧ n ≤ 9223372036854775807
theorem w64 {n : Int} (h : I64 n) : IntKind.i64.wrap n = n := by
  obtain ⟨h1, h2⟩ := h
  simp only [IntKind.wrap, IntKind.bits, IntKind.signed]
  have e : (2 ^ 64 : Int) = 18446744073709551616 := by decide
  have e2 : (2 ^ (64 - 1) : Int) = 9223372036854775808 := by decide
  simp only [e, e2, Bool.true_and, decide_eq_true_eq]
  split <;> rename_i hc <;> omega

theorem itoa_call {n : Int} (h : I64 n) : FCall Tryd.prog 54 [.int .i64 n] (· = .str (Lib.itoa n)) := by
  refine FCall.prim (us := [.int .i64 n]) rfl (v := .string ⟨(Lib.itoa n).toArray⟩) (by simp [constOk]) fun w S hA => ?_
  have hg : Tryd.prog.globalNamed "internal/strconv.uint64pow10" = some 1 := by kernel_rfl
  have ht := (hA ("internal/strconv.uint64pow10", .u64, Lib.pow10Tab) (by simp [ambTabs]) _ hg).2
  refine (Tryd.strconv_Itoa n h.1 h.2 w ht).mono ?_
  rintro e w' ⟨rfl, k, os, rfl⟩
  exact ⟨rfl, Stood.grow w k os⟩
theorem repeat_call {s : List UInt8} {c : Nat} (hc : c ≤ 9223372036854775807) (hl : s.length * c ≤ 140737488355328) : FCall Tryd.prog 74 [.str s, .int .i64 c] (· = .str (Lib.repeatL s c)) := by
  refine FCall.prim (us := [.string ⟨s.toArray⟩, .int .i64 c]) rfl (v := .string ⟨(Lib.repeatL s c).toArray⟩) (by simp [constOk]) fun w S hA => ?_
  refine (Tryd.strings_Repeat ⟨s.toArray⟩ c w hc (by simpa [ByteArray.size] using hl)).mono ?_
  rintro e w' ⟨rfl, hw⟩
  exact ⟨by simp, Stood.below hw⟩
theorem join_call {full : Bool} {xs : List (List UInt8)} {sep : List UInt8} (hN : xs.length ≤ 140737488355328) (hl : (Lib.join xs sep).length ≤ 140737488355328) : FCall Tryd.prog 33 [.sl full (strs xs), .str sep] (· = .str (Lib.join xs sep)) :=
  FCall.join Tryd.strings_Join_none Tryd.strings_Join hN hl
theorem cut_call {s p : List UInt8} : FCall Tryd.prog 73 [.str s, .str p] (· = .tup [.str (Lib.trimPrefix s p), .bool (Lib.hasPrefix s p)]) := by
  refine ⟨fun {w S R vs} hA hrep hnd hsep => ?_⟩
  obtain ⟨rfl, rfl⟩ := lits_rep (us := [.string ⟨s.toArray⟩, .string ⟨p.toArray⟩]) rfl hrep
  refine (Tryd.strings_CutPrefix ⟨s.toArray⟩ ⟨p.toArray⟩ w).mono ?_
  rintro e w' ⟨rfl, rfl⟩
  refine ⟨_, _, S, [], rfl, rfl, ?_, by simp, hsep, (Stood.refl _).ext S []⟩
  exact Rep.tup (cs := [.string ⟨(Lib.trimPrefix s p).toArray⟩, .bool (Lib.hasPrefix s p)]) (R1 := []) (.str (.bool .nil)) .nil
theorem fmtInt_call {n : Int} (h : I64 n) : FCall Tryd.prog 27 [.int .i64 n] (· = .str (Lib.itoa n)) := by
  refine FCall.walk Tryd.func27 k27 rfl ?_
  unfold c27
  simp only [go_sem, ↓reduceIte, reduceCtorEq, Nat.reduceEqDiff, Nat.reduceLT, Nat.reduceLeDiff, Nat.reduceAdd, Nat.reduceSub, Nat.reduceMul, Nat.reduceBNe, Nat.reduceBEq, Int.reduceToNat, Int.reduceLE, Int.reduceLT, Int.reduceEq, Int.reduceNe, Int.reduceAdd, Int.reduceSub, Int.reduceNeg, mixed, decide_eq_true_eq, decide_eq_false_iff_not, Bool.not_eq_true', Bool.not_eq_false', List.headD_cons, Option.some.injEq, Int.cast_ofNat_Int]
  refine FCallT.of (itoa_call h) ?_
  rintro r rfl
  simp only [go_sem, ↓reduceIte, reduceCtorEq, Nat.reduceEqDiff, Nat.reduceLT, Nat.reduceLeDiff, Nat.reduceAdd, Nat.reduceSub, Nat.reduceMul, Nat.reduceBNe, Nat.reduceBEq, Int.reduceToNat, Int.reduceLE, Int.reduceLT, Int.reduceEq, Int.reduceNe, Int.reduceAdd, Int.reduceSub, Int.reduceNeg, mixed, decide_eq_true_eq, decide_eq_false_iff_not, Bool.not_eq_true', Bool.not_eq_false', List.headD_cons, Option.some.injEq, Int.cast_ofNat_Int]
theorem or_call {s : List UInt8} {b : Bool} : FCall Tryd.prog 50 [.str s, .bool b] (· = .str (if b then s else [63])) := by
  refine FCall.walk Tryd.func50 k50 rfl ?_
  unfold c50
  simp only [go_sem, ↓reduceIte, reduceCtorEq, Nat.reduceEqDiff, Nat.reduceLT, Nat.reduceLeDiff, Nat.reduceAdd, Nat.reduceSub, Nat.reduceMul, Nat.reduceBNe, Nat.reduceBEq, Int.reduceToNat, Int.reduceLE, Int.reduceLT, Int.reduceEq, Int.reduceNe, Int.reduceAdd, Int.reduceSub, Int.reduceNeg, mixed, decide_eq_true_eq, decide_eq_false_iff_not, Bool.not_eq_true', Bool.not_eq_false', List.headD_cons, Option.some.injEq, Int.cast_ofNat_Int]
  cases b <;> simp
def kindS (n : Int) : List UInt8 := if n = 1 then [112, 97, 121, 109, 101, 110, 116] else if n = 2 then [114, 101, 99, 111, 118, 101, 114, 121] else if n = 3 then [114, 101, 112, 97, 121, 109, 101, 110, 116] else if n = 4 then [119, 97, 105, 118, 101, 114] else [63]
theorem kind_call {n : Int} : FCall Tryd.prog 51 [.int .i64 n] (· = .str (kindS n)) := by
  refine FCall.walk Tryd.func51 k51 rfl ?_
  unfold c51
  simp only [go_sem, ↓reduceIte, reduceCtorEq, Nat.reduceEqDiff, Nat.reduceLT, Nat.reduceLeDiff, Nat.reduceAdd, Nat.reduceSub, Nat.reduceMul, Nat.reduceBNe, Nat.reduceBEq, Int.reduceToNat, Int.reduceLE, Int.reduceLT, Int.reduceEq, Int.reduceNe, Int.reduceAdd, Int.reduceSub, Int.reduceNeg, mixed, decide_eq_true_eq, decide_eq_false_iff_not, Bool.not_eq_true', Bool.not_eq_false', List.headD_cons, Option.some.injEq, Int.cast_ofNat_Int]
  unfold kindS
  repeat' split <;> simp_all
theorem kind2_call {n : Int} : FCall Tryd.prog 53 [.int .i64 n] (· = .str (kindS n)) := by
  refine FCall.walk Tryd.func53 k53 rfl ?_
  unfold c53
  simp only [go_sem, ↓reduceIte, reduceCtorEq, Nat.reduceEqDiff, Nat.reduceLT, Nat.reduceLeDiff, Nat.reduceAdd, Nat.reduceSub, Nat.reduceMul, Nat.reduceBNe, Nat.reduceBEq, Int.reduceToNat, Int.reduceLE, Int.reduceLT, Int.reduceEq, Int.reduceNe, Int.reduceAdd, Int.reduceSub, Int.reduceNeg, mixed, decide_eq_true_eq, decide_eq_false_iff_not, Bool.not_eq_true', Bool.not_eq_false', List.headD_cons, Option.some.injEq, Int.cast_ofNat_Int]
  unfold kindS
  repeat' split <;> simp_all
def leap (n : Int) : Bool := decide (n.tmod 4 = 0) && (!decide (n.tmod 100 = 0) || decide (n.tmod 400 = 0))
theorem leap_call {n : Int} : FCall Tryd.prog 105 [.int .i64 n] (· = .bool (leap n)) := by
  refine FCall.walk Tryd.func105 k105 rfl ?_
  unfold c105
  simp only [go_sem, ↓reduceIte, reduceCtorEq, Nat.reduceEqDiff, Nat.reduceLT, Nat.reduceLeDiff, Nat.reduceAdd, Nat.reduceSub, Nat.reduceMul, Nat.reduceBNe, Nat.reduceBEq, Int.reduceToNat, Int.reduceLE, Int.reduceLT, Int.reduceEq, Int.reduceNe, Int.reduceAdd, Int.reduceSub, Int.reduceNeg, mixed, decide_eq_true_eq, decide_eq_false_iff_not, Bool.not_eq_true', Bool.not_eq_false', List.headD_cons, Option.some.injEq, Int.cast_ofNat_Int]
  unfold leap
  refine ⟨fun h => ⟨fun h2 => ?_, fun h2 => ?_⟩, fun h => ?_⟩ <;> simp_all
theorem leap2_call {n : Int} : FCall Tryd.prog 114 [.int .i64 n] (· = .bool (leap n)) := by
  refine FCall.walk Tryd.func114 k114 rfl ?_
  unfold c114
  simp only [go_sem, ↓reduceIte, reduceCtorEq, Nat.reduceEqDiff, Nat.reduceLT, Nat.reduceLeDiff, Nat.reduceAdd, Nat.reduceSub, Nat.reduceMul, Nat.reduceBNe, Nat.reduceBEq, Int.reduceToNat, Int.reduceLE, Int.reduceLT, Int.reduceEq, Int.reduceNe, Int.reduceAdd, Int.reduceSub, Int.reduceNeg, mixed, decide_eq_true_eq, decide_eq_false_iff_not, Bool.not_eq_true', Bool.not_eq_false', List.headD_cons, Option.some.injEq, Int.cast_ofNat_Int]
  unfold leap
  refine ⟨fun h => ⟨fun h2 => ?_, fun h2 => ?_⟩, fun h => ?_⟩ <;> simp_all
def diy (y : Int) : Int := if leap y then 366 else 365
theorem diy_call {n : Int} : FCall Tryd.prog 92 [.int .i64 n] (· = .int .i64 (diy n)) := by
  refine FCall.walk Tryd.func92 k92 rfl ?_
  unfold c92
  simp only [go_sem, ↓reduceIte, reduceCtorEq, Nat.reduceEqDiff, Nat.reduceLT, Nat.reduceLeDiff, Nat.reduceAdd, Nat.reduceSub, Nat.reduceMul, Nat.reduceBNe, Nat.reduceBEq, Int.reduceToNat, Int.reduceLE, Int.reduceLT, Int.reduceEq, Int.reduceNe, Int.reduceAdd, Int.reduceSub, Int.reduceNeg, mixed, decide_eq_true_eq, decide_eq_false_iff_not, Bool.not_eq_true', Bool.not_eq_false', List.headD_cons, Option.some.injEq, Int.cast_ofNat_Int]
  refine FCallT.of leap_call ?_
  rintro r rfl
  simp only [go_sem, ↓reduceIte, reduceCtorEq, Nat.reduceEqDiff, Nat.reduceLT, Nat.reduceLeDiff, Nat.reduceAdd, Nat.reduceSub, Nat.reduceMul, Nat.reduceBNe, Nat.reduceBEq, Int.reduceToNat, Int.reduceLE, Int.reduceLT, Int.reduceEq, Int.reduceNe, Int.reduceAdd, Int.reduceSub, Int.reduceNeg, mixed, decide_eq_true_eq, decide_eq_false_iff_not, Bool.not_eq_true', Bool.not_eq_false', List.headD_cons, Option.some.injEq, Int.cast_ofNat_Int]
  unfold diy
  constructor <;> intro h <;> simp [h]
theorem diy2_call {n : Int} : FCall Tryd.prog 107 [.int .i64 n] (· = .int .i64 (diy n)) := by
  refine FCall.walk Tryd.func107 k107 rfl ?_
  unfold c107
  simp only [go_sem, ↓reduceIte, reduceCtorEq, Nat.reduceEqDiff, Nat.reduceLT, Nat.reduceLeDiff, Nat.reduceAdd, Nat.reduceSub, Nat.reduceMul, Nat.reduceBNe, Nat.reduceBEq, Int.reduceToNat, Int.reduceLE, Int.reduceLT, Int.reduceEq, Int.reduceNe, Int.reduceAdd, Int.reduceSub, Int.reduceNeg, mixed, decide_eq_true_eq, decide_eq_false_iff_not, Bool.not_eq_true', Bool.not_eq_false', List.headD_cons, Option.some.injEq, Int.cast_ofNat_Int]
  refine FCallT.of leap2_call ?_
  rintro r rfl
  simp only [go_sem, ↓reduceIte, reduceCtorEq, Nat.reduceEqDiff, Nat.reduceLT, Nat.reduceLeDiff, Nat.reduceAdd, Nat.reduceSub, Nat.reduceMul, Nat.reduceBNe, Nat.reduceBEq, Int.reduceToNat, Int.reduceLE, Int.reduceLT, Int.reduceEq, Int.reduceNe, Int.reduceAdd, Int.reduceSub, Int.reduceNeg, mixed, decide_eq_true_eq, decide_eq_false_iff_not, Bool.not_eq_true', Bool.not_eq_false', List.headD_cons, Option.some.injEq, Int.cast_ofNat_Int]
  unfold diy
  constructor <;> intro h <;> simp [h]
end Go.Fx.Tryd
