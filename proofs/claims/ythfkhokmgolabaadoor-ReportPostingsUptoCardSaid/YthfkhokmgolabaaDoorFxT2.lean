/- Part of a proof: see the last text of the claim. -/
import Derived.Test.YthfkhokmgolabaaDoorFxT1
set_option linter.unusedVariables false
set_option linter.unusedSimpArgs false
namespace Go.Fx.Tryd
open Go Go.Fm Go.Proofs

def dim (y m : Int) : Int := if m < 1 ∨ 12 < m then 0 else if m = 2 then (if leap y then 29 else 28) else if m = 4 ∨ m = 6 ∨ m = 9 ∨ m = 11 then 30 else 31
theorem dim_call {y m : Int} : FCall Tryd.prog 93 [.int .i64 y, .int .i64 m] (· = .int .i64 (dim y m)) := by
  by_cases h1 : m < 1
  · refine FCall.walk Tryd.func93 k93 rfl ?_
    unfold c93
    simp only [go_sem, ↓reduceIte, reduceCtorEq, Nat.reduceEqDiff, Nat.reduceLT, Nat.reduceLeDiff, Nat.reduceAdd, Nat.reduceSub, Nat.reduceMul, Nat.reduceBNe, Nat.reduceBEq, Int.reduceToNat, Int.reduceLE, Int.reduceLT, Int.reduceEq, Int.reduceNe, Int.reduceAdd, Int.reduceSub, Int.reduceNeg, mixed, decide_eq_true_eq, decide_eq_false_iff_not, Bool.not_eq_true', Bool.not_eq_false', List.headD_cons, Option.some.injEq, Int.cast_ofNat_Int, h1]
    simp [dim, h1]
  by_cases h2 : 12 < m
  · refine FCall.walk Tryd.func93 k93 rfl ?_
    unfold c93
    simp only [go_sem, ↓reduceIte, reduceCtorEq, Nat.reduceEqDiff, Nat.reduceLT, Nat.reduceLeDiff, Nat.reduceAdd, Nat.reduceSub, Nat.reduceMul, Nat.reduceBNe, Nat.reduceBEq, Int.reduceToNat, Int.reduceLE, Int.reduceLT, Int.reduceEq, Int.reduceNe, Int.reduceAdd, Int.reduceSub, Int.reduceNeg, mixed, decide_eq_true_eq, decide_eq_false_iff_not, Bool.not_eq_true', Bool.not_eq_false', List.headD_cons, Option.some.injEq, Int.cast_ofNat_Int, h1, h2]
    simp [dim, h2]
  have hm : m = 1 ∨ m = 2 ∨ m = 3 ∨ m = 4 ∨ m = 5 ∨ m = 6 ∨ m = 7 ∨ m = 8 ∨ m = 9 ∨ m = 10 ∨ m = 11 ∨ m = 12 := by omega
  rcases hm with rfl | rfl | rfl | rfl | rfl | rfl | rfl | rfl | rfl | rfl | rfl | rfl
  case inr.inl =>
    refine FCall.walk Tryd.func93 k93 rfl ?_
    unfold c93
    simp only [go_sem, ↓reduceIte, reduceCtorEq, Nat.reduceEqDiff, Nat.reduceLT, Nat.reduceLeDiff, Nat.reduceAdd, Nat.reduceSub, Nat.reduceMul, Nat.reduceBNe, Nat.reduceBEq, Int.reduceToNat, Int.reduceLE, Int.reduceLT, Int.reduceEq, Int.reduceNe, Int.reduceAdd, Int.reduceSub, Int.reduceNeg, mixed, decide_eq_true_eq, decide_eq_false_iff_not, Bool.not_eq_true', Bool.not_eq_false', List.headD_cons, Option.some.injEq, Int.cast_ofNat_Int]
    refine FCallT.of (leap_call) ?_
    rintro _ rfl
    simp only [go_sem, ↓reduceIte, reduceCtorEq, Nat.reduceEqDiff, Nat.reduceLT, Nat.reduceLeDiff, Nat.reduceAdd, Nat.reduceSub, Nat.reduceMul, Nat.reduceBNe, Nat.reduceBEq, Int.reduceToNat, Int.reduceLE, Int.reduceLT, Int.reduceEq, Int.reduceNe, Int.reduceAdd, Int.reduceSub, Int.reduceNeg, mixed, decide_eq_true_eq, decide_eq_false_iff_not, Bool.not_eq_true', Bool.not_eq_false', List.headD_cons, Option.some.injEq, Int.cast_ofNat_Int]
    constructor <;> intro h <;> simp [dim, h]
  all_goals
    refine FCall.walk Tryd.func93 k93 rfl ?_
    unfold c93
    simp only [go_sem, ↓reduceIte, reduceCtorEq, Nat.reduceEqDiff, Nat.reduceLT, Nat.reduceLeDiff, Nat.reduceAdd, Nat.reduceSub, Nat.reduceMul, Nat.reduceBNe, Nat.reduceBEq, Int.reduceToNat, Int.reduceLE, Int.reduceLT, Int.reduceEq, Int.reduceNe, Int.reduceAdd, Int.reduceSub, Int.reduceNeg, mixed, decide_eq_true_eq, decide_eq_false_iff_not, Bool.not_eq_true', Bool.not_eq_false', List.headD_cons, Option.some.injEq, Int.cast_ofNat_Int]
    first | rfl | simp [dim]
theorem dim2_call {y m : Int} : FCall Tryd.prog 108 [.int .i64 y, .int .i64 m] (· = .int .i64 (dim y m)) := by
  by_cases hb : m < 1 ∨ 12 < m
  · have e : ∀ k : Int, 1 ≤ k → k ≤ 12 → (m = k) = False := fun k h1 h2 => eq_false (by omega)
    refine FCall.walk Tryd.func108 k108 rfl ?_
    unfold c108
    simp only [go_sem, ↓reduceIte, reduceCtorEq, Nat.reduceEqDiff, Nat.reduceLT, Nat.reduceLeDiff, Nat.reduceAdd, Nat.reduceSub, Nat.reduceMul, Nat.reduceBNe, Nat.reduceBEq, Int.reduceToNat, Int.reduceLE, Int.reduceLT, Int.reduceEq, Int.reduceNe, Int.reduceAdd, Int.reduceSub, Int.reduceNeg, mixed, decide_eq_true_eq, decide_eq_false_iff_not, Bool.not_eq_true', Bool.not_eq_false', List.headD_cons, Option.some.injEq, Int.cast_ofNat_Int, e 1 (by decide) (by decide), e 2 (by decide) (by decide), e 3 (by decide) (by decide), e 4 (by decide) (by decide), e 5 (by decide) (by decide), e 6 (by decide) (by decide), e 7 (by decide) (by decide), e 8 (by decide) (by decide), e 9 (by decide) (by decide), e 10 (by decide) (by decide), e 11 (by decide) (by decide), e 12 (by decide) (by decide)]
    simp [dim, hb]
  have hm : m = 1 ∨ m = 2 ∨ m = 3 ∨ m = 4 ∨ m = 5 ∨ m = 6 ∨ m = 7 ∨ m = 8 ∨ m = 9 ∨ m = 10 ∨ m = 11 ∨ m = 12 := by omega
  rcases hm with rfl | rfl | rfl | rfl | rfl | rfl | rfl | rfl | rfl | rfl | rfl | rfl
  case inr.inl =>
    refine FCall.walk Tryd.func108 k108 rfl ?_
    unfold c108
    simp only [go_sem, ↓reduceIte, reduceCtorEq, Nat.reduceEqDiff, Nat.reduceLT, Nat.reduceLeDiff, Nat.reduceAdd, Nat.reduceSub, Nat.reduceMul, Nat.reduceBNe, Nat.reduceBEq, Int.reduceToNat, Int.reduceLE, Int.reduceLT, Int.reduceEq, Int.reduceNe, Int.reduceAdd, Int.reduceSub, Int.reduceNeg, mixed, decide_eq_true_eq, decide_eq_false_iff_not, Bool.not_eq_true', Bool.not_eq_false', List.headD_cons, Option.some.injEq, Int.cast_ofNat_Int]
    refine FCallT.of (leap2_call) ?_
    rintro _ rfl
    simp only [go_sem, ↓reduceIte, reduceCtorEq, Nat.reduceEqDiff, Nat.reduceLT, Nat.reduceLeDiff, Nat.reduceAdd, Nat.reduceSub, Nat.reduceMul, Nat.reduceBNe, Nat.reduceBEq, Int.reduceToNat, Int.reduceLE, Int.reduceLT, Int.reduceEq, Int.reduceNe, Int.reduceAdd, Int.reduceSub, Int.reduceNeg, mixed, decide_eq_true_eq, decide_eq_false_iff_not, Bool.not_eq_true', Bool.not_eq_false', List.headD_cons, Option.some.injEq, Int.cast_ofNat_Int]
    constructor <;> intro h <;> simp [dim, h]
  all_goals
    refine FCall.walk Tryd.func108 k108 rfl ?_
    unfold c108
    simp only [go_sem, ↓reduceIte, reduceCtorEq, Nat.reduceEqDiff, Nat.reduceLT, Nat.reduceLeDiff, Nat.reduceAdd, Nat.reduceSub, Nat.reduceMul, Nat.reduceBNe, Nat.reduceBEq, Int.reduceToNat, Int.reduceLE, Int.reduceLT, Int.reduceEq, Int.reduceNe, Int.reduceAdd, Int.reduceSub, Int.reduceNeg, mixed, decide_eq_true_eq, decide_eq_false_iff_not, Bool.not_eq_true', Bool.not_eq_false', List.headD_cons, Option.some.injEq, Int.cast_ofNat_Int]
    first | rfl | simp [dim]

/-- the years that are full: what is left, and the year -/
def yl : Nat → Int → Int → Int × Int
  | 0, d, y => (d, y)
  | k + 1, d, y => if diy y ≤ d then yl k (d - diy y) (y + 1) else (d, y)
def ml : Nat → Int → Int → Int → Int × Int
  | 0, d, y, m => (d, m)
  | k + 1, d, y, m => if dim y m ≤ d then ml k (d - dim y m) y (m + 1) else (d, m)
theorem diy_ge (y : Int) : 365 ≤ diy y ∧ diy y ≤ 366 := by unfold diy; split <;> omega
/-- days of a year from a month on -/
def restM (y m : Int) : Int := if m ≤ 1 then diy y else if m = 2 then diy y - 31 else diy y - (if leap y then 29 else 28) - 31 - (if m = 3 then 0 else if m = 4 then 31 else if m = 5 then 61 else if m = 6 then 92 else if m = 7 then 122 else if m = 8 then 153 else if m = 9 then 184 else if m = 10 then 214 else if m = 11 then 245 else if m = 12 then 275 else 306)
theorem rest_step {y m : Int} (h1 : 1 ≤ m) (h2 : m ≤ 12) : restM y (m + 1) = restM y m - dim y m ∧ restM y 13 = 0 ∧ 28 ≤ dim y m ∧ dim y m ≤ 31 := by
  have hm : m = 1 ∨ m = 2 ∨ m = 3 ∨ m = 4 ∨ m = 5 ∨ m = 6 ∨ m = 7 ∨ m = 8 ∨ m = 9 ∨ m = 10 ∨ m = 11 ∨ m = 12 := by omega
  have hd : diy y = if leap y then 366 else 365 := rfl
  rcases hm with rfl | rfl | rfl | rfl | rfl | rfl | rfl | rfl | rfl | rfl | rfl | rfl <;> simp [restM, dim, hd] <;> split <;> omega
def ymd (d : Int) : Int × Int × Int :=
  if 0 ≤ d ∧ d ≤ 109572 then
    ((yl 400 d 1900).2, (ml 13 (yl 400 d 1900).1 (yl 400 d 1900).2 1).2, (ml 13 (yl 400 d 1900).1 (yl 400 d 1900).2 1).1 + 1)
  else (0, 0, 0)
theorem valid_call {d : Int} : FCall Tryd.prog 77 [.int .i64 d] (· = .bool (decide (0 ≤ d ∧ d ≤ 109572))) := by
  refine FCall.walk Tryd.func77 k77 rfl ?_
  unfold c77
  simp only [go_sem, ↓reduceIte, reduceCtorEq, Nat.reduceEqDiff, Nat.reduceLT, Nat.reduceLeDiff, Nat.reduceAdd, Nat.reduceSub, Nat.reduceMul, Nat.reduceBNe, Nat.reduceBEq, Int.reduceToNat, Int.reduceLE, Int.reduceLT, Int.reduceEq, Int.reduceNe, Int.reduceAdd, Int.reduceSub, Int.reduceNeg, mixed, decide_eq_true_eq, decide_eq_false_iff_not, Bool.not_eq_true', Bool.not_eq_false', List.headD_cons, Option.some.injEq, Int.cast_ofNat_Int]
  constructor <;> intro h <;> simp <;> omega
theorem valid2_call {d : Int} : FCall Tryd.prog 95 [.int .i64 d] (· = .bool (decide (0 ≤ d ∧ d ≤ 109572))) := by
  refine FCall.walk Tryd.func95 k95 rfl ?_
  unfold c95
  simp only [go_sem, ↓reduceIte, reduceCtorEq, Nat.reduceEqDiff, Nat.reduceLT, Nat.reduceLeDiff, Nat.reduceAdd, Nat.reduceSub, Nat.reduceMul, Nat.reduceBNe, Nat.reduceBEq, Int.reduceToNat, Int.reduceLE, Int.reduceLT, Int.reduceEq, Int.reduceNe, Int.reduceAdd, Int.reduceSub, Int.reduceNeg, mixed, decide_eq_true_eq, decide_eq_false_iff_not, Bool.not_eq_true', Bool.not_eq_false', List.headD_cons, Option.some.injEq, Int.cast_ofNat_Int]
  constructor <;> intro h <;> simp <;> omega
theorem ymd_call {d : Int} : FCall Tryd.prog 78 [.int .i64 d] (· = .tup [.int .i64 (ymd d).1, .int .i64 (ymd d).2.1, .int .i64 (ymd d).2.2]) := by
  refine FCall.walk Tryd.func78 k78 rfl ?_
  unfold c78
  simp only [go_sem, ↓reduceIte, reduceCtorEq, Nat.reduceEqDiff, Nat.reduceLT, Nat.reduceLeDiff, Nat.reduceAdd, Nat.reduceSub, Nat.reduceMul, Nat.reduceBNe, Nat.reduceBEq, Int.reduceToNat, Int.reduceLE, Int.reduceLT, Int.reduceEq, Int.reduceNe, Int.reduceAdd, Int.reduceSub, Int.reduceNeg, mixed, decide_eq_true_eq, decide_eq_false_iff_not, Bool.not_eq_true', Bool.not_eq_false', List.headD_cons, Option.some.injEq, Int.cast_ofNat_Int]
  refine FCallT.of (valid_call) ?_
  rintro _ rfl
  simp only [go_sem, ↓reduceIte, reduceCtorEq, Nat.reduceEqDiff, Nat.reduceLT, Nat.reduceLeDiff, Nat.reduceAdd, Nat.reduceSub, Nat.reduceMul, Nat.reduceBNe, Nat.reduceBEq, Int.reduceToNat, Int.reduceLE, Int.reduceLT, Int.reduceEq, Int.reduceNe, Int.reduceAdd, Int.reduceSub, Int.reduceNeg, mixed, decide_eq_true_eq, decide_eq_false_iff_not, Bool.not_eq_true', Bool.not_eq_false', List.headD_cons, Option.some.injEq, Int.cast_ofNat_Int]
  refine ⟨fun h => ?_, fun h => ?_⟩
  · simp [ymd, h]
  refine FWT.loopK [] (fun s : Nat × Int × Int => [(0, .int .i64 s.2.1), (5, .int .i64 s.2.2), (6, .int .i64 1)]) (fun s => s.1) (fun s => yl s.1 s.2.1 s.2.2 = yl 400 d 1900 ∧ 0 ≤ s.2.1 ∧ s.2.1 < 365 * s.1 ∧ s.2.2 + s.1 = 2300 ∧ s.1 ≤ 400) (400, d, 1900) rfl ⟨rfl, h.1, by simp; omega, by simp, by simp⟩ ?_
  rintro ⟨k, d1, y⟩ ⟨g1, g2, g3, g4, g5⟩
  simp only at g1 g2 g3 g4 g5
  have hdy := diy_ge y
  simp only [go_sem, ↓reduceIte, reduceCtorEq, Nat.reduceEqDiff, Nat.reduceLT, Nat.reduceLeDiff, Nat.reduceAdd, Nat.reduceSub, Nat.reduceMul, Nat.reduceBNe, Nat.reduceBEq, Int.reduceToNat, Int.reduceLE, Int.reduceLT, Int.reduceEq, Int.reduceNe, Int.reduceAdd, Int.reduceSub, Int.reduceNeg, mixed, decide_eq_true_eq, decide_eq_false_iff_not, Bool.not_eq_true', Bool.not_eq_false', List.headD_cons, Option.some.injEq, Int.cast_ofNat_Int]
  refine FCallT.of (diy_call) ?_
  rintro _ rfl
  simp only [go_sem, ↓reduceIte, reduceCtorEq, Nat.reduceEqDiff, Nat.reduceLT, Nat.reduceLeDiff, Nat.reduceAdd, Nat.reduceSub, Nat.reduceMul, Nat.reduceBNe, Nat.reduceBEq, Int.reduceToNat, Int.reduceLE, Int.reduceLT, Int.reduceEq, Int.reduceNe, Int.reduceAdd, Int.reduceSub, Int.reduceNeg, mixed, decide_eq_true_eq, decide_eq_false_iff_not, Bool.not_eq_true', Bool.not_eq_false', List.headD_cons, Option.some.injEq, Int.cast_ofNat_Int]
  refine ⟨fun h1 => ?_, fun h1 => ?_⟩
  · refine FCallT.of (diy_call) ?_
    rintro _ rfl
    simp only [go_sem, ↓reduceIte, reduceCtorEq, Nat.reduceEqDiff, Nat.reduceLT, Nat.reduceLeDiff, Nat.reduceAdd, Nat.reduceSub, Nat.reduceMul, Nat.reduceBNe, Nat.reduceBEq, Int.reduceToNat, Int.reduceLE, Int.reduceLT, Int.reduceEq, Int.reduceNe, Int.reduceAdd, Int.reduceSub, Int.reduceNeg, mixed, decide_eq_true_eq, decide_eq_false_iff_not, Bool.not_eq_true', Bool.not_eq_false', List.headD_cons, Option.some.injEq, Int.cast_ofNat_Int]
    match k, g1, g3, g4, g5 with
    | 0, _, g3, _, _ => simp at g3; omega
    | k + 1, g1, g3, g4, g5 =>
    refine ⟨(k, d1 - diy y, y + 1), ?_, ⟨?_, ?_, ?_, ?_, ?_⟩, by simp⟩
    · rw [w64 (by unfold I64; omega), w64 (by unfold I64; omega)]
    · rw [← g1]; simp only [yl, if_pos h1]
    all_goals (simp only; omega)
  have hyl : yl 400 d 1900 = (d1, y) := by
    rw [← g1]
    cases k <;> simp [yl, h1]
  refine FWT.loopK [13] (fun s : Nat × Int × Int => [(0, .int .i64 s.2.1), (5, .int .i64 y), (6, .int .i64 s.2.2)]) (fun s => s.1) (fun s => ml s.1 s.2.1 y s.2.2 = ml 13 d1 y 1 ∧ 0 ≤ s.2.1 ∧ s.2.1 < restM y s.2.2 ∧ s.2.2 + s.1 = 14 ∧ 1 ≤ s.2.2 ∧ s.2.2 ≤ 12 ∧ s.2.1 ≤ 366) (13, d1, 1) ?_ ⟨rfl, g2, by simp [restM]; omega, by simp, by simp, by simp, by simp only; omega⟩ ?_
  · simp only [go_sem, ↓reduceIte, reduceCtorEq, Nat.reduceEqDiff, Nat.reduceLT, Nat.reduceLeDiff, Nat.reduceAdd, Nat.reduceSub, Nat.reduceMul, Nat.reduceBNe, Nat.reduceBEq, Int.reduceToNat, Int.reduceLE, Int.reduceLT, Int.reduceEq, Int.reduceNe, Int.reduceAdd, Int.reduceSub, Int.reduceNeg, mixed, decide_eq_true_eq, decide_eq_false_iff_not, Bool.not_eq_true', Bool.not_eq_false', List.headD_cons, Option.some.injEq, Int.cast_ofNat_Int]
  rintro ⟨j, d2, m⟩ ⟨m1, m2, m3, m4, m5, m6, m7⟩
  simp only at m1 m2 m3 m4 m5 m6 m7
  have hst := rest_step (y := y) m5 m6
  simp only [go_sem, ↓reduceIte, reduceCtorEq, Nat.reduceEqDiff, Nat.reduceLT, Nat.reduceLeDiff, Nat.reduceAdd, Nat.reduceSub, Nat.reduceMul, Nat.reduceBNe, Nat.reduceBEq, Int.reduceToNat, Int.reduceLE, Int.reduceLT, Int.reduceEq, Int.reduceNe, Int.reduceAdd, Int.reduceSub, Int.reduceNeg, mixed, decide_eq_true_eq, decide_eq_false_iff_not, Bool.not_eq_true', Bool.not_eq_false', List.headD_cons, Option.some.injEq, Int.cast_ofNat_Int]
  refine FCallT.of (dim_call) ?_
  rintro _ rfl
  simp only [go_sem, ↓reduceIte, reduceCtorEq, Nat.reduceEqDiff, Nat.reduceLT, Nat.reduceLeDiff, Nat.reduceAdd, Nat.reduceSub, Nat.reduceMul, Nat.reduceBNe, Nat.reduceBEq, Int.reduceToNat, Int.reduceLE, Int.reduceLT, Int.reduceEq, Int.reduceNe, Int.reduceAdd, Int.reduceSub, Int.reduceNeg, mixed, decide_eq_true_eq, decide_eq_false_iff_not, Bool.not_eq_true', Bool.not_eq_false', List.headD_cons, Option.some.injEq, Int.cast_ofNat_Int]
  refine ⟨fun h2 => ?_, fun h2 => ?_⟩
  · refine FCallT.of (dim_call) ?_
    rintro _ rfl
    simp only [go_sem, ↓reduceIte, reduceCtorEq, Nat.reduceEqDiff, Nat.reduceLT, Nat.reduceLeDiff, Nat.reduceAdd, Nat.reduceSub, Nat.reduceMul, Nat.reduceBNe, Nat.reduceBEq, Int.reduceToNat, Int.reduceLE, Int.reduceLT, Int.reduceEq, Int.reduceNe, Int.reduceAdd, Int.reduceSub, Int.reduceNeg, mixed, decide_eq_true_eq, decide_eq_false_iff_not, Bool.not_eq_true', Bool.not_eq_false', List.headD_cons, Option.some.injEq, Int.cast_ofNat_Int]
    match j, m1, m4 with
    | 0, _, m4 => simp at m4; omega
    | j + 1, m1, m4 =>
    have hm : m + 1 ≤ 12 := by
      rcases Int.lt_or_le 12 (m + 1) with h3 | h3
      · have : m = 12 := by omega
        subst this
        have h13 : restM y (12 + 1) = 0 := hst.2.1
        omega
      · exact h3
    refine ⟨(j, d2 - dim y m, m + 1), ?_, ⟨?_, ?_, ?_, ?_, ?_, ?_, ?_⟩, by simp⟩
    · rw [w64 (by unfold I64; omega), w64 (by unfold I64; omega)]
    · rw [← m1]; simp only [ml, if_pos h2]
    all_goals (simp only; omega)
  have hml : ml 13 d1 y 1 = (d2, m) := by
    rw [← m1]
    cases j <;> simp [ml, h2]
  have hymd : ymd d = (y, m, d2 + 1) := by
    unfold ymd
    rw [if_pos h, hyl]
    simp only [hml]
  rw [hymd, w64 (by unfold I64; omega)]
end Go.Fx.Tryd
