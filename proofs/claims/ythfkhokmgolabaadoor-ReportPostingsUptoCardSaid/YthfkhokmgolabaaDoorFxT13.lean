/- Part of a proof: see the last text of the claim. -/
import Derived.Test.YthfkhokmgolabaaDoorFxT12
set_option linter.unusedVariables false
set_option linter.unusedSimpArgs false
namespace Go.Fx.Tryd
open Go Go.Fm Go.Proofs

def evScope (l : LawL) (sc m : Int) : ScopeL := if 0 ≤ m then memberL l.scopes sc else scopeAtL l.scopes sc
def wordsS (l : LawL) (sc c m d r : Int) : List (List UInt8) :=
  [[101, 114, 114, 111, 114], Lib.itoa c] ++ (if 0 ≤ m then [[105, 110], [109, 101, 109, 98, 101, 114], Lib.itoa m] else []) ++
    (if 0 ≤ d then [[102, 111, 114], fieldName (evScope l sc m).defs d] else []) ++ (if 0 ≤ r then [[98, 121], ruleNameL (evScope l sc m).rules r] else [])
def evalS (l : LawL) (sc c m d r : Int) : List UInt8 := if c = 0 then [111, 107] else Lib.join (wordsS l sc c m d r) [32]
theorem evScope_ok {l : LawL} (h : l.ok) (sc m : Int) : scopeOk (evScope l sc m) := by
  unfold evScope; split
  · exact scopeAt_ok h _
  · exact scopeAt_ok h _
theorem words_join {l : LawL} {sc c m d r : Int} : Lib.join (wordsS l sc c m d r) [32] = [101, 114, 114, 111, 114, 32] ++ Lib.itoa c ++ (if 0 ≤ m then [32, 105, 110, 32, 109, 101, 109, 98, 101, 114, 32] ++ Lib.itoa m else []) ++
    (if 0 ≤ d then [32, 102, 111, 114, 32] ++ fieldName (evScope l sc m).defs d else []) ++ (if 0 ≤ r then [32, 98, 121, 32] ++ ruleNameL (evScope l sc m).rules r else []) := by
  unfold wordsS
  split <;> split <;> split <;> simp [Lib.join, List.intercalate, List.intersperse]
theorem words_len {l : LawL} {sc c m d r : Int} (hl : l.ok) (hc : I64 c) (hm : I64 m) : (Lib.join (wordsS l sc c m d r) [32]).length ≤ 4398046511104 := by
  have l1 := itoa_len hc
  have l2 := itoa_len hm
  have l3 := fieldName_len (i := d) (evScope_ok hl sc m).1
  have l4 := ruleName_len (i := r) (evScope_ok hl sc m).2
  rw [words_join]
  split <;> split <;> split <;> simp <;> omega
theorem evalError_call {l : LawL} {sc c m d r : Int} (hl : l.ok) (hc : I64 c) (hm : I64 m) : FCall Tryd.prog 13 [.agg l.row, .int .i64 sc, .agg [.int .i64 c, .int .i64 m, .int .i64 d, .int .i64 r]] (· = .str (evalS l sc c m d r)) := by
  by_cases h0 : c = 0
  · subst h0
    refine FCall.walk Tryd.func13 k13 rfl ?_
    unfold c13
    simp only [go_sem, ↓reduceIte, reduceCtorEq, Nat.reduceEqDiff, Nat.reduceLT, Nat.reduceLeDiff, Nat.reduceAdd, Nat.reduceSub, Nat.reduceMul, Nat.reduceBNe, Nat.reduceBEq, Int.reduceToNat, Int.reduceLE, Int.reduceLT, Int.reduceEq, Int.reduceNe, Int.reduceAdd, Int.reduceSub, Int.reduceNeg, mixed, decide_eq_true_eq, decide_eq_false_iff_not, Bool.not_eq_true', Bool.not_eq_false', List.headD_cons, Option.some.injEq, Int.cast_ofNat_Int, LawL.row]
    rfl
  have hj := join_call (full := false) (xs := wordsS l sc c m d r) (sep := [32]) (by unfold wordsS; split <;> split <;> split <;> simp) (by have := words_len (sc := sc) (d := d) (r := r) hl hc hm; omega)
  have hf : evalS l sc c m d r = Lib.join (wordsS l sc c m d r) [32] := by unfold evalS; rw [if_neg h0]
  rw [hf]
  by_cases h1 : 0 ≤ m <;> by_cases h2 : 0 ≤ d <;> by_cases h3 : 0 ≤ r
  all_goals
    have hw : strs (wordsS l sc c m d r) = strs (wordsS l sc c m d r) := rfl
    conv at hw => rhs; simp only [wordsS, evScope, h1, h2, h3, if_true, if_false, strs, List.map_cons, List.map_nil, List.cons_append, List.nil_append, List.append_nil]
    rw [hw] at hj
    refine FCall.walk Tryd.func13 k13 rfl ?_
    unfold c13
    simp only [go_sem, ↓reduceIte, reduceCtorEq, Nat.reduceEqDiff, Nat.reduceLT, Nat.reduceLeDiff, Nat.reduceAdd, Nat.reduceSub, Nat.reduceMul, Nat.reduceBNe, Nat.reduceBEq, Int.reduceToNat, Int.reduceLE, Int.reduceLT, Int.reduceEq, Int.reduceNe, Int.reduceAdd, Int.reduceSub, Int.reduceNeg, mixed, decide_eq_true_eq, decide_eq_false_iff_not, Bool.not_eq_true', Bool.not_eq_false', List.headD_cons, Option.some.injEq, Int.cast_ofNat_Int, LawL.row, h0, h1, h2, h3]
    refine FCallT.of (scopeAt_call (l := l)) ?_
    rintro _ rfl
    simp only [go_sem, ↓reduceIte, reduceCtorEq, Nat.reduceEqDiff, Nat.reduceLT, Nat.reduceLeDiff, Nat.reduceAdd, Nat.reduceSub, Nat.reduceMul, Nat.reduceBNe, Nat.reduceBEq, Int.reduceToNat, Int.reduceLE, Int.reduceLT, Int.reduceEq, Int.reduceNe, Int.reduceAdd, Int.reduceSub, Int.reduceNeg, mixed, decide_eq_true_eq, decide_eq_false_iff_not, Bool.not_eq_true', Bool.not_eq_false', List.headD_cons, Option.some.injEq, Int.cast_ofNat_Int, ScopeL.row, LawL.row, h1, h2, h3]
    refine FCallT.of (fmtInt_call hc) ?_
    rintro _ rfl
    simp only [go_sem, ↓reduceIte, reduceCtorEq, Nat.reduceEqDiff, Nat.reduceLT, Nat.reduceLeDiff, Nat.reduceAdd, Nat.reduceSub, Nat.reduceMul, Nat.reduceBNe, Nat.reduceBEq, Int.reduceToNat, Int.reduceLE, Int.reduceLT, Int.reduceEq, Int.reduceNe, Int.reduceAdd, Int.reduceSub, Int.reduceNeg, mixed, decide_eq_true_eq, decide_eq_false_iff_not, Bool.not_eq_true', Bool.not_eq_false', List.headD_cons, Option.some.injEq, Int.cast_ofNat_Int, h1, h2, h3]
    try
      refine FCallT.of (member_call (l := l)) ?_
      rintro _ rfl
      simp only [go_sem, ↓reduceIte, reduceCtorEq, Nat.reduceEqDiff, Nat.reduceLT, Nat.reduceLeDiff, Nat.reduceAdd, Nat.reduceSub, Nat.reduceMul, Nat.reduceBNe, Nat.reduceBEq, Int.reduceToNat, Int.reduceLE, Int.reduceLT, Int.reduceEq, Int.reduceNe, Int.reduceAdd, Int.reduceSub, Int.reduceNeg, mixed, decide_eq_true_eq, decide_eq_false_iff_not, Bool.not_eq_true', Bool.not_eq_false', List.headD_cons, Option.some.injEq, Int.cast_ofNat_Int, ScopeL.row, h1, h2, h3]
      refine FCallT.of (fmtInt_call hm) ?_
      rintro _ rfl
      simp only [go_sem, ↓reduceIte, reduceCtorEq, Nat.reduceEqDiff, Nat.reduceLT, Nat.reduceLeDiff, Nat.reduceAdd, Nat.reduceSub, Nat.reduceMul, Nat.reduceBNe, Nat.reduceBEq, Int.reduceToNat, Int.reduceLE, Int.reduceLT, Int.reduceEq, Int.reduceNe, Int.reduceAdd, Int.reduceSub, Int.reduceNeg, mixed, decide_eq_true_eq, decide_eq_false_iff_not, Bool.not_eq_true', Bool.not_eq_false', List.headD_cons, Option.some.injEq, Int.cast_ofNat_Int, h1, h2, h3]
    try
      refine FCallT.of (defName_call (s := memberL l.scopes sc)) ?_
      rintro _ rfl
      simp only [go_sem, ↓reduceIte, reduceCtorEq, Nat.reduceEqDiff, Nat.reduceLT, Nat.reduceLeDiff, Nat.reduceAdd, Nat.reduceSub, Nat.reduceMul, Nat.reduceBNe, Nat.reduceBEq, Int.reduceToNat, Int.reduceLE, Int.reduceLT, Int.reduceEq, Int.reduceNe, Int.reduceAdd, Int.reduceSub, Int.reduceNeg, mixed, decide_eq_true_eq, decide_eq_false_iff_not, Bool.not_eq_true', Bool.not_eq_false', List.headD_cons, Option.some.injEq, Int.cast_ofNat_Int, h1, h2, h3]
    try
      refine FCallT.of (defName_call (s := scopeAtL l.scopes sc)) ?_
      rintro _ rfl
      simp only [go_sem, ↓reduceIte, reduceCtorEq, Nat.reduceEqDiff, Nat.reduceLT, Nat.reduceLeDiff, Nat.reduceAdd, Nat.reduceSub, Nat.reduceMul, Nat.reduceBNe, Nat.reduceBEq, Int.reduceToNat, Int.reduceLE, Int.reduceLT, Int.reduceEq, Int.reduceNe, Int.reduceAdd, Int.reduceSub, Int.reduceNeg, mixed, decide_eq_true_eq, decide_eq_false_iff_not, Bool.not_eq_true', Bool.not_eq_false', List.headD_cons, Option.some.injEq, Int.cast_ofNat_Int, h1, h2, h3]
    try
      refine FCallT.of (ruleName_call (s := memberL l.scopes sc)) ?_
      rintro _ rfl
      simp only [go_sem, ↓reduceIte, reduceCtorEq, Nat.reduceEqDiff, Nat.reduceLT, Nat.reduceLeDiff, Nat.reduceAdd, Nat.reduceSub, Nat.reduceMul, Nat.reduceBNe, Nat.reduceBEq, Int.reduceToNat, Int.reduceLE, Int.reduceLT, Int.reduceEq, Int.reduceNe, Int.reduceAdd, Int.reduceSub, Int.reduceNeg, mixed, decide_eq_true_eq, decide_eq_false_iff_not, Bool.not_eq_true', Bool.not_eq_false', List.headD_cons, Option.some.injEq, Int.cast_ofNat_Int, h1, h2, h3]
    try
      refine FCallT.of (ruleName_call (s := scopeAtL l.scopes sc)) ?_
      rintro _ rfl
      simp only [go_sem, ↓reduceIte, reduceCtorEq, Nat.reduceEqDiff, Nat.reduceLT, Nat.reduceLeDiff, Nat.reduceAdd, Nat.reduceSub, Nat.reduceMul, Nat.reduceBNe, Nat.reduceBEq, Int.reduceToNat, Int.reduceLE, Int.reduceLT, Int.reduceEq, Int.reduceNe, Int.reduceAdd, Int.reduceSub, Int.reduceNeg, mixed, decide_eq_true_eq, decide_eq_false_iff_not, Bool.not_eq_true', Bool.not_eq_false', List.headD_cons, Option.some.injEq, Int.cast_ofNat_Int, h1, h2, h3]
    refine FCallT.of (hj) ?_
    rintro _ rfl
    simp only [go_sem, ↓reduceIte, reduceCtorEq, Nat.reduceEqDiff, Nat.reduceLT, Nat.reduceLeDiff, Nat.reduceAdd, Nat.reduceSub, Nat.reduceMul, Nat.reduceBNe, Nat.reduceBEq, Int.reduceToNat, Int.reduceLE, Int.reduceLT, Int.reduceEq, Int.reduceNe, Int.reduceAdd, Int.reduceSub, Int.reduceNeg, mixed, decide_eq_true_eq, decide_eq_false_iff_not, Bool.not_eq_true', Bool.not_eq_false', List.headD_cons, Option.some.injEq, Int.cast_ofNat_Int]
theorem evalError2_call {l : LawL} {sc c m d r : Int} (hl : l.ok) (hc : I64 c) (hm : I64 m) : FCall Tryd.prog 14 [.agg l.row, .int .i64 sc, .agg [.int .i64 c, .int .i64 m, .int .i64 d, .int .i64 r]] (· = .str (evalS l sc c m d r)) := by
  by_cases h0 : c = 0
  · subst h0
    refine FCall.walk Tryd.func14 k14 rfl ?_
    unfold c14
    simp only [go_sem, ↓reduceIte, reduceCtorEq, Nat.reduceEqDiff, Nat.reduceLT, Nat.reduceLeDiff, Nat.reduceAdd, Nat.reduceSub, Nat.reduceMul, Nat.reduceBNe, Nat.reduceBEq, Int.reduceToNat, Int.reduceLE, Int.reduceLT, Int.reduceEq, Int.reduceNe, Int.reduceAdd, Int.reduceSub, Int.reduceNeg, mixed, decide_eq_true_eq, decide_eq_false_iff_not, Bool.not_eq_true', Bool.not_eq_false', List.headD_cons, Option.some.injEq, Int.cast_ofNat_Int, LawL.row]
    rfl
  have hf : evalS l sc c m d r = Lib.join (wordsS l sc c m d r) [32] := by unfold evalS; rw [if_neg h0]
  rw [hf, words_join]
  have l1 := itoa_len hc
  have l2 := itoa_len hm
  have l3 := fieldName_len (i := d) (evScope_ok hl sc m).1
  have l4 := ruleName_len (i := r) (evScope_ok hl sc m).2
  by_cases h1 : 0 ≤ m <;> by_cases h2 : 0 ≤ d <;> by_cases h3 : 0 ≤ r
  all_goals
    simp only [evScope, h1, h2, h3, if_true, if_false] at l3 l4 ⊢
    refine FCall.walk Tryd.func14 k14 rfl ?_
    unfold c14
    simp only [go_sem, ↓reduceIte, reduceCtorEq, Nat.reduceEqDiff, Nat.reduceLT, Nat.reduceLeDiff, Nat.reduceAdd, Nat.reduceSub, Nat.reduceMul, Nat.reduceBNe, Nat.reduceBEq, Int.reduceToNat, Int.reduceLE, Int.reduceLT, Int.reduceEq, Int.reduceNe, Int.reduceAdd, Int.reduceSub, Int.reduceNeg, mixed, decide_eq_true_eq, decide_eq_false_iff_not, Bool.not_eq_true', Bool.not_eq_false', List.headD_cons, Option.some.injEq, Int.cast_ofNat_Int, LawL.row, h0, h1, h2, h3]
    refine FCallT.of (scopeAt2_call (l := l)) ?_
    rintro _ rfl
    simp only [go_sem, ↓reduceIte, reduceCtorEq, Nat.reduceEqDiff, Nat.reduceLT, Nat.reduceLeDiff, Nat.reduceAdd, Nat.reduceSub, Nat.reduceMul, Nat.reduceBNe, Nat.reduceBEq, Int.reduceToNat, Int.reduceLE, Int.reduceLT, Int.reduceEq, Int.reduceNe, Int.reduceAdd, Int.reduceSub, Int.reduceNeg, mixed, decide_eq_true_eq, decide_eq_false_iff_not, Bool.not_eq_true', Bool.not_eq_false', List.headD_cons, Option.some.injEq, Int.cast_ofNat_Int, ScopeL.row, LawL.row, h1, h2, h3]
    refine FCallT.of (fmtInt2_call hc) ?_
    rintro _ rfl
    simp only [go_sem, ↓reduceIte, reduceCtorEq, Nat.reduceEqDiff, Nat.reduceLT, Nat.reduceLeDiff, Nat.reduceAdd, Nat.reduceSub, Nat.reduceMul, Nat.reduceBNe, Nat.reduceBEq, Int.reduceToNat, Int.reduceLE, Int.reduceLT, Int.reduceEq, Int.reduceNe, Int.reduceAdd, Int.reduceSub, Int.reduceNeg, mixed, decide_eq_true_eq, decide_eq_false_iff_not, Bool.not_eq_true', Bool.not_eq_false', List.headD_cons, Option.some.injEq, Int.cast_ofNat_Int, h1, h2, h3]
    repeat (refine ⟨by first | omega | (simp only [List.length_append, List.length_cons, List.length_nil]; omega), ?_⟩)
    try
      refine FCallT.of (scopeAt2_call (l := l)) ?_
      rintro _ rfl
      simp only [go_sem, ↓reduceIte, reduceCtorEq, Nat.reduceEqDiff, Nat.reduceLT, Nat.reduceLeDiff, Nat.reduceAdd, Nat.reduceSub, Nat.reduceMul, Nat.reduceBNe, Nat.reduceBEq, Int.reduceToNat, Int.reduceLE, Int.reduceLT, Int.reduceEq, Int.reduceNe, Int.reduceAdd, Int.reduceSub, Int.reduceNeg, mixed, decide_eq_true_eq, decide_eq_false_iff_not, Bool.not_eq_true', Bool.not_eq_false', List.headD_cons, Option.some.injEq, Int.cast_ofNat_Int, ScopeL.row, h1, h2, h3]
      repeat (refine ⟨by first | omega | (simp only [List.length_append, List.length_cons, List.length_nil]; omega), ?_⟩)
      refine FCallT.of (fmtInt2_call hm) ?_
      rintro _ rfl
      simp only [go_sem, ↓reduceIte, reduceCtorEq, Nat.reduceEqDiff, Nat.reduceLT, Nat.reduceLeDiff, Nat.reduceAdd, Nat.reduceSub, Nat.reduceMul, Nat.reduceBNe, Nat.reduceBEq, Int.reduceToNat, Int.reduceLE, Int.reduceLT, Int.reduceEq, Int.reduceNe, Int.reduceAdd, Int.reduceSub, Int.reduceNeg, mixed, decide_eq_true_eq, decide_eq_false_iff_not, Bool.not_eq_true', Bool.not_eq_false', List.headD_cons, Option.some.injEq, Int.cast_ofNat_Int, h1, h2, h3]
      repeat (refine ⟨by first | omega | (simp only [List.length_append, List.length_cons, List.length_nil]; omega), ?_⟩)
    try
      refine FCallT.of (defName2_call (s := memberL l.scopes sc)) ?_
      rintro _ rfl
      simp only [go_sem, ↓reduceIte, reduceCtorEq, Nat.reduceEqDiff, Nat.reduceLT, Nat.reduceLeDiff, Nat.reduceAdd, Nat.reduceSub, Nat.reduceMul, Nat.reduceBNe, Nat.reduceBEq, Int.reduceToNat, Int.reduceLE, Int.reduceLT, Int.reduceEq, Int.reduceNe, Int.reduceAdd, Int.reduceSub, Int.reduceNeg, mixed, decide_eq_true_eq, decide_eq_false_iff_not, Bool.not_eq_true', Bool.not_eq_false', List.headD_cons, Option.some.injEq, Int.cast_ofNat_Int, h1, h2, h3]
      repeat (refine ⟨by first | omega | (simp only [List.length_append, List.length_cons, List.length_nil]; omega), ?_⟩)
    try
      refine FCallT.of (defName2_call (s := scopeAtL l.scopes sc)) ?_
      rintro _ rfl
      simp only [go_sem, ↓reduceIte, reduceCtorEq, Nat.reduceEqDiff, Nat.reduceLT, Nat.reduceLeDiff, Nat.reduceAdd, Nat.reduceSub, Nat.reduceMul, Nat.reduceBNe, Nat.reduceBEq, Int.reduceToNat, Int.reduceLE, Int.reduceLT, Int.reduceEq, Int.reduceNe, Int.reduceAdd, Int.reduceSub, Int.reduceNeg, mixed, decide_eq_true_eq, decide_eq_false_iff_not, Bool.not_eq_true', Bool.not_eq_false', List.headD_cons, Option.some.injEq, Int.cast_ofNat_Int, h1, h2, h3]
      repeat (refine ⟨by first | omega | (simp only [List.length_append, List.length_cons, List.length_nil]; omega), ?_⟩)
    try
      refine FCallT.of (ruleName2_call (s := memberL l.scopes sc)) ?_
      rintro _ rfl
      simp only [go_sem, ↓reduceIte, reduceCtorEq, Nat.reduceEqDiff, Nat.reduceLT, Nat.reduceLeDiff, Nat.reduceAdd, Nat.reduceSub, Nat.reduceMul, Nat.reduceBNe, Nat.reduceBEq, Int.reduceToNat, Int.reduceLE, Int.reduceLT, Int.reduceEq, Int.reduceNe, Int.reduceAdd, Int.reduceSub, Int.reduceNeg, mixed, decide_eq_true_eq, decide_eq_false_iff_not, Bool.not_eq_true', Bool.not_eq_false', List.headD_cons, Option.some.injEq, Int.cast_ofNat_Int, h1, h2, h3]
      repeat (refine ⟨by first | omega | (simp only [List.length_append, List.length_cons, List.length_nil]; omega), ?_⟩)
    try
      refine FCallT.of (ruleName2_call (s := scopeAtL l.scopes sc)) ?_
      rintro _ rfl
      simp only [go_sem, ↓reduceIte, reduceCtorEq, Nat.reduceEqDiff, Nat.reduceLT, Nat.reduceLeDiff, Nat.reduceAdd, Nat.reduceSub, Nat.reduceMul, Nat.reduceBNe, Nat.reduceBEq, Int.reduceToNat, Int.reduceLE, Int.reduceLT, Int.reduceEq, Int.reduceNe, Int.reduceAdd, Int.reduceSub, Int.reduceNeg, mixed, decide_eq_true_eq, decide_eq_false_iff_not, Bool.not_eq_true', Bool.not_eq_false', List.headD_cons, Option.some.injEq, Int.cast_ofNat_Int, h1, h2, h3]
      repeat (refine ⟨by first | omega | (simp only [List.length_append, List.length_cons, List.length_nil]; omega), ?_⟩)
    first | rfl | omega | simp
end Go.Fx.Tryd
