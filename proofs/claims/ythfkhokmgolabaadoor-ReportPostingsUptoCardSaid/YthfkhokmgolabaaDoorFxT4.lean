/- Part of a proof: see the last text of the claim. -/
import Derived.Test.YthfkhokmgolabaaDoorFxT3
set_option linter.unusedVariables false
set_option linter.unusedSimpArgs false
namespace Go.Fx.Tryd
open Go Go.Fm Go.Proofs

def fixedS (n : Int) (k : Nat) : List UInt8 :=
  let t := padL (Lib.decDigits n.natAbs) (k + 1)
  let s := t.take (t.length - k) ++ [46] ++ t.drop (t.length - k)
  if n < 0 then 45 :: s else s
theorem padL_ge (s : List UInt8) (w : Nat) : w ≤ (padL s w).length := by simp [padL]; omega
theorem fixedS_of {n : Int} {k : Nat} {T : List UInt8} (hT : T = padL (Lib.decDigits n.natAbs) (k + 1)) : fixedS n k = if n < 0 then 45 :: (T.take (T.length - k) ++ [46] ++ T.drop (T.length - k)) else T.take (T.length - k) ++ [46] ++ T.drop (T.length - k) := by
  subst hT; rfl
theorem fixed_call {n : Int} {k : Nat} (h : I64 n) (hk : 1 ≤ k ∧ k ≤ 9) : FCall Tryd.prog 60 [.int .i64 n, .int .i64 (k : Int)] (· = .str (fixedS n k)) := by
  obtain ⟨i1, i2⟩ := h
  have hl := dig_len (u := n.natAbs) (by omega)
  have e0 : ((k : Int) = 0) = False := eq_false (by omega)
  have e1 : IntKind.i64.wrap ((k : Int) + 1) = ((k + 1 : Nat) : Int) := by rw [w64 (by unfold I64; omega)]; omega
  obtain ⟨T, hT⟩ : ∃ T, T = padL (Lib.decDigits n.natAbs) (k + 1) := ⟨_, rfl⟩
  have hTl : k + 1 ≤ T.length ∧ T.length ≤ 30 := by
    subst hT
    exact ⟨padL_ge _ _, by simp [padL]; omega⟩
  rw [fixedS_of hT]
  have e3 : IntKind.i64.wrap ((T.length : Int) - (k : Int)) = ((T.length - k : Nat) : Int) := by rw [w64 (by unfold I64; omega)]; omega
  have hfin : T.take (T.length - (T.length - k)) = T.take k := by congr 1; omega
  refine FCall.walk Tryd.func60 k60 rfl ?_
  unfold c60
  simp only [go_sem, ↓reduceIte, reduceCtorEq, Nat.reduceEqDiff, Nat.reduceLT, Nat.reduceLeDiff, Nat.reduceAdd, Nat.reduceSub, Nat.reduceMul, Nat.reduceBNe, Nat.reduceBEq, Int.reduceToNat, Int.reduceLE, Int.reduceLT, Int.reduceEq, Int.reduceNe, Int.reduceAdd, Int.reduceSub, Int.reduceNeg, mixed, decide_eq_true_eq, decide_eq_false_iff_not, Bool.not_eq_true', Bool.not_eq_false', List.headD_cons, Option.some.injEq, Int.cast_ofNat_Int]
  refine FCallT.of (clamp_call (n := k) (by omega)) ?_
  rintro _ rfl
  simp only [go_sem, ↓reduceIte, reduceCtorEq, Nat.reduceEqDiff, Nat.reduceLT, Nat.reduceLeDiff, Nat.reduceAdd, Nat.reduceSub, Nat.reduceMul, Nat.reduceBNe, Nat.reduceBEq, Int.reduceToNat, Int.reduceLE, Int.reduceLT, Int.reduceEq, Int.reduceNe, Int.reduceAdd, Int.reduceSub, Int.reduceNeg, mixed, decide_eq_true_eq, decide_eq_false_iff_not, Bool.not_eq_true', Bool.not_eq_false', List.headD_cons, Option.some.injEq, Int.cast_ofNat_Int, e0]
  refine FCallT.of (fmtInt_call ⟨i1, i2⟩) ?_
  rintro _ rfl
  simp only [go_sem, ↓reduceIte, reduceCtorEq, Nat.reduceEqDiff, Nat.reduceLT, Nat.reduceLeDiff, Nat.reduceAdd, Nat.reduceSub, Nat.reduceMul, Nat.reduceBNe, Nat.reduceBEq, Int.reduceToNat, Int.reduceLE, Int.reduceLT, Int.reduceEq, Int.reduceNe, Int.reduceAdd, Int.reduceSub, Int.reduceNeg, mixed, decide_eq_true_eq, decide_eq_false_iff_not, Bool.not_eq_true', Bool.not_eq_false', List.headD_cons, Option.some.injEq, Int.cast_ofNat_Int]
  refine FCallT.of (cut_itoa) ?_
  rintro _ rfl
  simp only [go_sem, ↓reduceIte, reduceCtorEq, Nat.reduceEqDiff, Nat.reduceLT, Nat.reduceLeDiff, Nat.reduceAdd, Nat.reduceSub, Nat.reduceMul, Nat.reduceBNe, Nat.reduceBEq, Int.reduceToNat, Int.reduceLE, Int.reduceLT, Int.reduceEq, Int.reduceNe, Int.reduceAdd, Int.reduceSub, Int.reduceNeg, mixed, decide_eq_true_eq, decide_eq_false_iff_not, Bool.not_eq_true', Bool.not_eq_false', List.headD_cons, Option.some.injEq, Int.cast_ofNat_Int, e1]
  rcases Nat.lt_or_ge (Lib.decDigits n.natAbs).length (k + 1) with hs | hs
  · have e2 : IntKind.i64.wrap (((k + 1 : Nat) : Int) - (Lib.decDigits n.natAbs).length) = ((k + 1 - (Lib.decDigits n.natAbs).length : Nat) : Int) := by rw [w64 (by unfold I64; omega)]; omega
    have ht : Lib.repeatL [48] (k + 1 - (Lib.decDigits n.natAbs).length) ++ Lib.decDigits n.natAbs = T := by rw [hT, rep48]; rfl
    have hr : (Lib.repeatL [48] (k + 1 - (Lib.decDigits n.natAbs).length)).length + (Lib.decDigits n.natAbs).length ≤ 9223372036854775807 := by rw [rep48]; simp; omega
    refine ⟨fun _ => ?_, fun hn => absurd (by rw [e2]; omega) hn⟩
    rw [e2]
    refine FCallT.of (repeat_call (by omega) (by simp; omega)) ?_
    rintro _ rfl
    simp only [go_sem, ↓reduceIte, reduceCtorEq, Nat.reduceEqDiff, Nat.reduceLT, Nat.reduceLeDiff, Nat.reduceAdd, Nat.reduceSub, Nat.reduceMul, Nat.reduceBNe, Nat.reduceBEq, Int.reduceToNat, Int.reduceLE, Int.reduceLT, Int.reduceEq, Int.reduceNe, Int.reduceAdd, Int.reduceSub, Int.reduceNeg, mixed, decide_eq_true_eq, decide_eq_false_iff_not, Bool.not_eq_true', Bool.not_eq_false', List.headD_cons, Option.some.injEq, Int.cast_ofNat_Int, ht, hr, e3, Int.toNat_natCast]
    have h5 : (T.length - (T.length - k)) = k := by omega
    repeat' (first | apply And.intro | intro _)
    all_goals first | omega | (simp only [List.length_append, List.length_take, List.length_drop, List.length_cons, List.length_nil]; omega) | (rename_i h6; simp [h6, h5, List.take_of_length_le])
  · have e2 : IntKind.i64.wrap (((k + 1 : Nat) : Int) - (Lib.decDigits n.natAbs).length) = (k + 1 : Int) - (Lib.decDigits n.natAbs).length := by rw [w64 (by unfold I64; omega)]; omega
    have ht : Lib.decDigits n.natAbs = T := by
      rw [hT]
      have : k + 1 - (Lib.decDigits n.natAbs).length = 0 := by omega
      simp [padL, this]
    refine ⟨fun hn => absurd hn (by rw [e2]; omega), fun _ => ?_⟩
    rw [ht, e3]
    simp only [Int.toNat_natCast]
    have h5 : (T.length - (T.length - k)) = k := by omega
    repeat' (first | apply And.intro | intro _)
    all_goals first | omega | (simp only [List.length_append, List.length_take, List.length_drop, List.length_cons, List.length_nil]; omega) | (rename_i h6; simp [h6, h5, List.take_of_length_le])
theorem fixed2_call {n : Int} {k : Nat} (h : I64 n) (hk : 1 ≤ k ∧ k ≤ 9) : FCall Tryd.prog 62 [.int .i64 n, .int .i64 (k : Int)] (· = .str (fixedS n k)) := by
  obtain ⟨i1, i2⟩ := h
  have hl := dig_len (u := n.natAbs) (by omega)
  have e0 : ((k : Int) = 0) = False := eq_false (by omega)
  refine FCall.walk Tryd.func62 k62 rfl ?_
  unfold c62
  simp only [go_sem, ↓reduceIte, reduceCtorEq, Nat.reduceEqDiff, Nat.reduceLT, Nat.reduceLeDiff, Nat.reduceAdd, Nat.reduceSub, Nat.reduceMul, Nat.reduceBNe, Nat.reduceBEq, Int.reduceToNat, Int.reduceLE, Int.reduceLT, Int.reduceEq, Int.reduceNe, Int.reduceAdd, Int.reduceSub, Int.reduceNeg, mixed, decide_eq_true_eq, decide_eq_false_iff_not, Bool.not_eq_true', Bool.not_eq_false', List.headD_cons, Option.some.injEq, Int.cast_ofNat_Int]
  refine FCallT.of (clamp2_call (n := k) (by omega)) ?_
  rintro _ rfl
  simp only [go_sem, ↓reduceIte, reduceCtorEq, Nat.reduceEqDiff, Nat.reduceLT, Nat.reduceLeDiff, Nat.reduceAdd, Nat.reduceSub, Nat.reduceMul, Nat.reduceBNe, Nat.reduceBEq, Int.reduceToNat, Int.reduceLE, Int.reduceLT, Int.reduceEq, Int.reduceNe, Int.reduceAdd, Int.reduceSub, Int.reduceNeg, mixed, decide_eq_true_eq, decide_eq_false_iff_not, Bool.not_eq_true', Bool.not_eq_false', List.headD_cons, Option.some.injEq, Int.cast_ofNat_Int, e0]
  refine FCallT.of (fmtInt2_call ⟨i1, i2⟩) ?_
  rintro _ rfl
  simp only [go_sem, ↓reduceIte, reduceCtorEq, Nat.reduceEqDiff, Nat.reduceLT, Nat.reduceLeDiff, Nat.reduceAdd, Nat.reduceSub, Nat.reduceMul, Nat.reduceBNe, Nat.reduceBEq, Int.reduceToNat, Int.reduceLE, Int.reduceLT, Int.reduceEq, Int.reduceNe, Int.reduceAdd, Int.reduceSub, Int.reduceNeg, mixed, decide_eq_true_eq, decide_eq_false_iff_not, Bool.not_eq_true', Bool.not_eq_false', List.headD_cons, Option.some.injEq, Int.cast_ofNat_Int]
  refine FCallT.of (sign_call) ?_
  rintro _ rfl
  simp only [go_sem, ↓reduceIte, reduceCtorEq, Nat.reduceEqDiff, Nat.reduceLT, Nat.reduceLeDiff, Nat.reduceAdd, Nat.reduceSub, Nat.reduceMul, Nat.reduceBNe, Nat.reduceBEq, Int.reduceToNat, Int.reduceLE, Int.reduceLT, Int.reduceEq, Int.reduceNe, Int.reduceAdd, Int.reduceSub, Int.reduceNeg, mixed, decide_eq_true_eq, decide_eq_false_iff_not, Bool.not_eq_true', Bool.not_eq_false', List.headD_cons, Option.some.injEq, Int.cast_ofNat_Int]
  refine FWT.loopK [] (fun s : List UInt8 => [(5, .int .i64 (k : Int)), (6, .str s), (7, .bool (decide (n < 0)))]) (fun s => k + 1 - s.length) (fun s => padL s (k + 1) = padL (Lib.decDigits n.natAbs) (k + 1) ∧ s.length ≤ 121) (Lib.decDigits n.natAbs) rfl ⟨rfl, by omega⟩ ?_
  rintro s ⟨g1, g2⟩
  simp only [go_sem, ↓reduceIte, reduceCtorEq, Nat.reduceEqDiff, Nat.reduceLT, Nat.reduceLeDiff, Nat.reduceAdd, Nat.reduceSub, Nat.reduceMul, Nat.reduceBNe, Nat.reduceBEq, Int.reduceToNat, Int.reduceLE, Int.reduceLT, Int.reduceEq, Int.reduceNe, Int.reduceAdd, Int.reduceSub, Int.reduceNeg, mixed, decide_eq_true_eq, decide_eq_false_iff_not, Bool.not_eq_true', Bool.not_eq_false', List.headD_cons, Option.some.injEq, Int.cast_ofNat_Int]
  refine ⟨fun h1 => ⟨by omega, [48] ++ s, rfl, ⟨?_, ?_⟩, ?_⟩, fun h1 => ?_⟩
  · rw [← g1]
    simp only [padL]
    have e : k + 1 - s.length = (k + 1 - ([48] ++ s).length) + 1 := by simp; omega
    rw [e, List.replicate_succ']
    simp
  · simp; omega
  · simp; omega
  have hT : s = padL (Lib.decDigits n.natAbs) (k + 1) := by
    rw [← g1]
    have : k + 1 - s.length = 0 := by omega
    simp [padL, this]
  have e3 : IntKind.i64.wrap ((s.length : Int) - (k : Int)) = ((s.length - k : Nat) : Int) := by rw [w64 (by unfold I64; omega)]; omega
  rw [fixedS_of hT, e3]
  simp only [Int.toNat_natCast]
  have h5 : (s.length - (s.length - k)) = k := by omega
  clear g1 hT
  repeat' (first | apply And.intro | intro _)
  all_goals first | omega | (simp only [List.length_append, List.length_take, List.length_drop, List.length_cons, List.length_nil]; omega) | (rename_i h6; simp [h6, h5, List.take_of_length_le])
theorem amount_call {n : Int} (h : I64 n) : FCall Tryd.prog 37 [.int .i64 n] (· = .str (fixedS n 2)) := by
  refine FCall.walk Tryd.func37 k37 rfl ?_
  unfold c37
  simp only [go_sem, ↓reduceIte, reduceCtorEq, Nat.reduceEqDiff, Nat.reduceLT, Nat.reduceLeDiff, Nat.reduceAdd, Nat.reduceSub, Nat.reduceMul, Nat.reduceBNe, Nat.reduceBEq, Int.reduceToNat, Int.reduceLE, Int.reduceLT, Int.reduceEq, Int.reduceNe, Int.reduceAdd, Int.reduceSub, Int.reduceNeg, mixed, decide_eq_true_eq, decide_eq_false_iff_not, Bool.not_eq_true', Bool.not_eq_false', List.headD_cons, Option.some.injEq, Int.cast_ofNat_Int]
  refine FCallT.of (fixed_call (k := 2) h (by omega)) ?_
  rintro _ rfl
  simp only [go_sem, ↓reduceIte, reduceCtorEq, Nat.reduceEqDiff, Nat.reduceLT, Nat.reduceLeDiff, Nat.reduceAdd, Nat.reduceSub, Nat.reduceMul, Nat.reduceBNe, Nat.reduceBEq, Int.reduceToNat, Int.reduceLE, Int.reduceLT, Int.reduceEq, Int.reduceNe, Int.reduceAdd, Int.reduceSub, Int.reduceNeg, mixed, decide_eq_true_eq, decide_eq_false_iff_not, Bool.not_eq_true', Bool.not_eq_false', List.headD_cons, Option.some.injEq, Int.cast_ofNat_Int]
theorem amount2_call {n : Int} (h : I64 n) : FCall Tryd.prog 41 [.int .i64 n] (· = .str (fixedS n 2)) := by
  refine FCall.walk Tryd.func41 k41 rfl ?_
  unfold c41
  simp only [go_sem, ↓reduceIte, reduceCtorEq, Nat.reduceEqDiff, Nat.reduceLT, Nat.reduceLeDiff, Nat.reduceAdd, Nat.reduceSub, Nat.reduceMul, Nat.reduceBNe, Nat.reduceBEq, Int.reduceToNat, Int.reduceLE, Int.reduceLT, Int.reduceEq, Int.reduceNe, Int.reduceAdd, Int.reduceSub, Int.reduceNeg, mixed, decide_eq_true_eq, decide_eq_false_iff_not, Bool.not_eq_true', Bool.not_eq_false', List.headD_cons, Option.some.injEq, Int.cast_ofNat_Int]
  refine FCallT.of (fixed2_call (k := 2) h (by omega)) ?_
  rintro _ rfl
  simp only [go_sem, ↓reduceIte, reduceCtorEq, Nat.reduceEqDiff, Nat.reduceLT, Nat.reduceLeDiff, Nat.reduceAdd, Nat.reduceSub, Nat.reduceMul, Nat.reduceBNe, Nat.reduceBEq, Int.reduceToNat, Int.reduceLE, Int.reduceLT, Int.reduceEq, Int.reduceNe, Int.reduceAdd, Int.reduceSub, Int.reduceNeg, mixed, decide_eq_true_eq, decide_eq_false_iff_not, Bool.not_eq_true', Bool.not_eq_false', List.headD_cons, Option.some.injEq, Int.cast_ofNat_Int]
theorem fixedS_len {n : Int} {k : Nat} (h : I64 n) (hk : k ≤ 9) : (fixedS n k).length ≤ 40 := by
  obtain ⟨i1, i2⟩ := h
  have hl := dig_len (u := n.natAbs) (by omega)
  unfold fixedS padL
  split <;> simp <;> omega
theorem mvalid_call {d : Int} : FCall Tryd.prog 71 [.int .i64 d] (· = .bool (decide (0 ≤ d ∧ d ≤ 3599))) := by
  refine FCall.walk Tryd.func71 k71 rfl ?_
  unfold c71
  simp only [go_sem, ↓reduceIte, reduceCtorEq, Nat.reduceEqDiff, Nat.reduceLT, Nat.reduceLeDiff, Nat.reduceAdd, Nat.reduceSub, Nat.reduceMul, Nat.reduceBNe, Nat.reduceBEq, Int.reduceToNat, Int.reduceLE, Int.reduceLT, Int.reduceEq, Int.reduceNe, Int.reduceAdd, Int.reduceSub, Int.reduceNeg, mixed, decide_eq_true_eq, decide_eq_false_iff_not, Bool.not_eq_true', Bool.not_eq_false', List.headD_cons, Option.some.injEq, Int.cast_ofNat_Int]
  constructor <;> intro h <;> simp <;> omega
theorem mvalid2_call {d : Int} : FCall Tryd.prog 75 [.int .i64 d] (· = .bool (decide (0 ≤ d ∧ d ≤ 3599))) := by
  refine FCall.walk Tryd.func75 k75 rfl ?_
  unfold c75
  simp only [go_sem, ↓reduceIte, reduceCtorEq, Nat.reduceEqDiff, Nat.reduceLT, Nat.reduceLeDiff, Nat.reduceAdd, Nat.reduceSub, Nat.reduceMul, Nat.reduceBNe, Nat.reduceBEq, Int.reduceToNat, Int.reduceLE, Int.reduceLT, Int.reduceEq, Int.reduceNe, Int.reduceAdd, Int.reduceSub, Int.reduceNeg, mixed, decide_eq_true_eq, decide_eq_false_iff_not, Bool.not_eq_true', Bool.not_eq_false', List.headD_cons, Option.some.injEq, Int.cast_ofNat_Int]
  constructor <;> intro h <;> simp <;> omega
def monthS (m : Int) : List UInt8 := if 0 ≤ m ∧ m ≤ 3599 then Lib.itoa (1900 + m.tdiv 12) ++ [45] ++ padL (Lib.itoa (m.tmod 12 + 1)) 2 else []
theorem month_call {m : Int} : FCall Tryd.prog 59 [.int .i64 m] (· = .str (monthS m)) := by
  by_cases hm : 0 ≤ m ∧ m ≤ 3599
  · have q : m.tdiv 12 = m / 12 := Int.tdiv_eq_ediv_of_nonneg hm.1
    have r : m.tmod 12 = m % 12 := Int.tmod_eq_emod_of_nonneg hm.1
    have i1 : I64 (m.tmod 12 + 1) := by unfold I64; omega
    have i2 : I64 (1900 + m.tdiv 12) := by unfold I64; omega
    have l1 := itoa_len i1
    have l2 := itoa_len i2
    have i3 : IntKind.i64.wrap (m.tdiv 12) = m.tdiv 12 := w64 (by unfold I64; omega)
    refine FCall.walk Tryd.func59 k59 rfl ?_
    unfold c59
    simp only [go_sem, ↓reduceIte, reduceCtorEq, Nat.reduceEqDiff, Nat.reduceLT, Nat.reduceLeDiff, Nat.reduceAdd, Nat.reduceSub, Nat.reduceMul, Nat.reduceBNe, Nat.reduceBEq, Int.reduceToNat, Int.reduceLE, Int.reduceLT, Int.reduceEq, Int.reduceNe, Int.reduceAdd, Int.reduceSub, Int.reduceNeg, mixed, decide_eq_true_eq, decide_eq_false_iff_not, Bool.not_eq_true', Bool.not_eq_false', List.headD_cons, Option.some.injEq, Int.cast_ofNat_Int]
    refine FCallT.of (mvalid_call) ?_
    rintro _ rfl
    simp only [go_sem, ↓reduceIte, reduceCtorEq, Nat.reduceEqDiff, Nat.reduceLT, Nat.reduceLeDiff, Nat.reduceAdd, Nat.reduceSub, Nat.reduceMul, Nat.reduceBNe, Nat.reduceBEq, Int.reduceToNat, Int.reduceLE, Int.reduceLT, Int.reduceEq, Int.reduceNe, Int.reduceAdd, Int.reduceSub, Int.reduceNeg, mixed, decide_eq_true_eq, decide_eq_false_iff_not, Bool.not_eq_true', Bool.not_eq_false', List.headD_cons, Option.some.injEq, Int.cast_ofNat_Int, hm, i3, w64 i1, w64 i2]
    refine FCallT.of (fmtInt_call i1) ?_
    rintro _ rfl
    simp only [go_sem, ↓reduceIte, reduceCtorEq, Nat.reduceEqDiff, Nat.reduceLT, Nat.reduceLeDiff, Nat.reduceAdd, Nat.reduceSub, Nat.reduceMul, Nat.reduceBNe, Nat.reduceBEq, Int.reduceToNat, Int.reduceLE, Int.reduceLT, Int.reduceEq, Int.reduceNe, Int.reduceAdd, Int.reduceSub, Int.reduceNeg, mixed, decide_eq_true_eq, decide_eq_false_iff_not, Bool.not_eq_true', Bool.not_eq_false', List.headD_cons, Option.some.injEq, Int.cast_ofNat_Int, i3, w64 i2]
    refine ⟨fun h => ⟨by omega, ?_⟩, fun h => ?_⟩
    · refine FCallT.of (fmtInt_call i2) ?_
      rintro _ rfl
      simp only [go_sem, ↓reduceIte, reduceCtorEq, Nat.reduceEqDiff, Nat.reduceLT, Nat.reduceLeDiff, Nat.reduceAdd, Nat.reduceSub, Nat.reduceMul, Nat.reduceBNe, Nat.reduceBEq, Int.reduceToNat, Int.reduceLE, Int.reduceLT, Int.reduceEq, Int.reduceNe, Int.reduceAdd, Int.reduceSub, Int.reduceNeg, mixed, decide_eq_true_eq, decide_eq_false_iff_not, Bool.not_eq_true', Bool.not_eq_false', List.headD_cons, Option.some.injEq, Int.cast_ofNat_Int]
      have h5 : 2 - (Lib.itoa (m.tmod 12 + 1)).length = 1 := by
        rcases itoa_cases (m.tmod 12 + 1) with h6 | h6
        · omega
        · obtain ⟨c, l, h7, _⟩ := dig_head (m.tmod 12 + 1).natAbs
          have : 0 < (Lib.itoa (m.tmod 12 + 1)).length := by rw [h6.2, h7]; simp
          omega
      refine ⟨by omega, by simp; omega, ?_⟩
      simp [monthS, hm, padL, h5]
    · refine FCallT.of (fmtInt_call i2) ?_
      rintro _ rfl
      simp only [go_sem, ↓reduceIte, reduceCtorEq, Nat.reduceEqDiff, Nat.reduceLT, Nat.reduceLeDiff, Nat.reduceAdd, Nat.reduceSub, Nat.reduceMul, Nat.reduceBNe, Nat.reduceBEq, Int.reduceToNat, Int.reduceLE, Int.reduceLT, Int.reduceEq, Int.reduceNe, Int.reduceAdd, Int.reduceSub, Int.reduceNeg, mixed, decide_eq_true_eq, decide_eq_false_iff_not, Bool.not_eq_true', Bool.not_eq_false', List.headD_cons, Option.some.injEq, Int.cast_ofNat_Int]
      have h5 : 2 - (Lib.itoa (m.tmod 12 + 1)).length = 0 := by omega
      refine ⟨by omega, by simp; omega, ?_⟩
      simp [monthS, hm, padL, h5]
  · refine FCall.walk Tryd.func59 k59 rfl ?_
    unfold c59
    simp only [go_sem, ↓reduceIte, reduceCtorEq, Nat.reduceEqDiff, Nat.reduceLT, Nat.reduceLeDiff, Nat.reduceAdd, Nat.reduceSub, Nat.reduceMul, Nat.reduceBNe, Nat.reduceBEq, Int.reduceToNat, Int.reduceLE, Int.reduceLT, Int.reduceEq, Int.reduceNe, Int.reduceAdd, Int.reduceSub, Int.reduceNeg, mixed, decide_eq_true_eq, decide_eq_false_iff_not, Bool.not_eq_true', Bool.not_eq_false', List.headD_cons, Option.some.injEq, Int.cast_ofNat_Int]
    refine FCallT.of (mvalid_call) ?_
    rintro _ rfl
    simp only [go_sem, ↓reduceIte, reduceCtorEq, Nat.reduceEqDiff, Nat.reduceLT, Nat.reduceLeDiff, Nat.reduceAdd, Nat.reduceSub, Nat.reduceMul, Nat.reduceBNe, Nat.reduceBEq, Int.reduceToNat, Int.reduceLE, Int.reduceLT, Int.reduceEq, Int.reduceNe, Int.reduceAdd, Int.reduceSub, Int.reduceNeg, mixed, decide_eq_true_eq, decide_eq_false_iff_not, Bool.not_eq_true', Bool.not_eq_false', List.headD_cons, Option.some.injEq, Int.cast_ofNat_Int, hm]
    simp [monthS, hm]
theorem month2_call {m : Int} : FCall Tryd.prog 61 [.int .i64 m] (· = .str (monthS m)) := by
  by_cases hm : 0 ≤ m ∧ m ≤ 3599
  · have q : m.tdiv 12 = m / 12 := Int.tdiv_eq_ediv_of_nonneg hm.1
    have r : m.tmod 12 = m % 12 := Int.tmod_eq_emod_of_nonneg hm.1
    have i1 : I64 (m.tmod 12 + 1) := by unfold I64; omega
    have i2 : I64 (1900 + m.tdiv 12) := by unfold I64; omega
    have l1 := itoa_len i1
    have l2 := itoa_len i2
    have i3 : IntKind.i64.wrap (m.tdiv 12) = m.tdiv 12 := w64 (by unfold I64; omega)
    refine FCall.walk Tryd.func61 k61 rfl ?_
    unfold c61
    simp only [go_sem, ↓reduceIte, reduceCtorEq, Nat.reduceEqDiff, Nat.reduceLT, Nat.reduceLeDiff, Nat.reduceAdd, Nat.reduceSub, Nat.reduceMul, Nat.reduceBNe, Nat.reduceBEq, Int.reduceToNat, Int.reduceLE, Int.reduceLT, Int.reduceEq, Int.reduceNe, Int.reduceAdd, Int.reduceSub, Int.reduceNeg, mixed, decide_eq_true_eq, decide_eq_false_iff_not, Bool.not_eq_true', Bool.not_eq_false', List.headD_cons, Option.some.injEq, Int.cast_ofNat_Int]
    refine FCallT.of (mvalid2_call) ?_
    rintro _ rfl
    simp only [go_sem, ↓reduceIte, reduceCtorEq, Nat.reduceEqDiff, Nat.reduceLT, Nat.reduceLeDiff, Nat.reduceAdd, Nat.reduceSub, Nat.reduceMul, Nat.reduceBNe, Nat.reduceBEq, Int.reduceToNat, Int.reduceLE, Int.reduceLT, Int.reduceEq, Int.reduceNe, Int.reduceAdd, Int.reduceSub, Int.reduceNeg, mixed, decide_eq_true_eq, decide_eq_false_iff_not, Bool.not_eq_true', Bool.not_eq_false', List.headD_cons, Option.some.injEq, Int.cast_ofNat_Int, hm, i3, w64 i1, w64 i2]
    refine FCallT.of (fmtInt2_call i1) ?_
    rintro _ rfl
    simp only [go_sem, ↓reduceIte, reduceCtorEq, Nat.reduceEqDiff, Nat.reduceLT, Nat.reduceLeDiff, Nat.reduceAdd, Nat.reduceSub, Nat.reduceMul, Nat.reduceBNe, Nat.reduceBEq, Int.reduceToNat, Int.reduceLE, Int.reduceLT, Int.reduceEq, Int.reduceNe, Int.reduceAdd, Int.reduceSub, Int.reduceNeg, mixed, decide_eq_true_eq, decide_eq_false_iff_not, Bool.not_eq_true', Bool.not_eq_false', List.headD_cons, Option.some.injEq, Int.cast_ofNat_Int, i3, w64 i2]
    refine ⟨fun h => ⟨by omega, ?_⟩, fun h => ?_⟩
    · refine FCallT.of (fmtInt2_call i2) ?_
      rintro _ rfl
      simp only [go_sem, ↓reduceIte, reduceCtorEq, Nat.reduceEqDiff, Nat.reduceLT, Nat.reduceLeDiff, Nat.reduceAdd, Nat.reduceSub, Nat.reduceMul, Nat.reduceBNe, Nat.reduceBEq, Int.reduceToNat, Int.reduceLE, Int.reduceLT, Int.reduceEq, Int.reduceNe, Int.reduceAdd, Int.reduceSub, Int.reduceNeg, mixed, decide_eq_true_eq, decide_eq_false_iff_not, Bool.not_eq_true', Bool.not_eq_false', List.headD_cons, Option.some.injEq, Int.cast_ofNat_Int]
      have h5 : 2 - (Lib.itoa (m.tmod 12 + 1)).length = 1 := by
        rcases itoa_cases (m.tmod 12 + 1) with h6 | h6
        · omega
        · obtain ⟨c, l, h7, _⟩ := dig_head (m.tmod 12 + 1).natAbs
          have : 0 < (Lib.itoa (m.tmod 12 + 1)).length := by rw [h6.2, h7]; simp
          omega
      refine ⟨by omega, by simp; omega, ?_⟩
      simp [monthS, hm, padL, h5]
    · refine FCallT.of (fmtInt2_call i2) ?_
      rintro _ rfl
      simp only [go_sem, ↓reduceIte, reduceCtorEq, Nat.reduceEqDiff, Nat.reduceLT, Nat.reduceLeDiff, Nat.reduceAdd, Nat.reduceSub, Nat.reduceMul, Nat.reduceBNe, Nat.reduceBEq, Int.reduceToNat, Int.reduceLE, Int.reduceLT, Int.reduceEq, Int.reduceNe, Int.reduceAdd, Int.reduceSub, Int.reduceNeg, mixed, decide_eq_true_eq, decide_eq_false_iff_not, Bool.not_eq_true', Bool.not_eq_false', List.headD_cons, Option.some.injEq, Int.cast_ofNat_Int]
      have h5 : 2 - (Lib.itoa (m.tmod 12 + 1)).length = 0 := by omega
      refine ⟨by omega, by simp; omega, ?_⟩
      simp [monthS, hm, padL, h5]
  · refine FCall.walk Tryd.func61 k61 rfl ?_
    unfold c61
    simp only [go_sem, ↓reduceIte, reduceCtorEq, Nat.reduceEqDiff, Nat.reduceLT, Nat.reduceLeDiff, Nat.reduceAdd, Nat.reduceSub, Nat.reduceMul, Nat.reduceBNe, Nat.reduceBEq, Int.reduceToNat, Int.reduceLE, Int.reduceLT, Int.reduceEq, Int.reduceNe, Int.reduceAdd, Int.reduceSub, Int.reduceNeg, mixed, decide_eq_true_eq, decide_eq_false_iff_not, Bool.not_eq_true', Bool.not_eq_false', List.headD_cons, Option.some.injEq, Int.cast_ofNat_Int]
    refine FCallT.of (mvalid2_call) ?_
    rintro _ rfl
    simp only [go_sem, ↓reduceIte, reduceCtorEq, Nat.reduceEqDiff, Nat.reduceLT, Nat.reduceLeDiff, Nat.reduceAdd, Nat.reduceSub, Nat.reduceMul, Nat.reduceBNe, Nat.reduceBEq, Int.reduceToNat, Int.reduceLE, Int.reduceLT, Int.reduceEq, Int.reduceNe, Int.reduceAdd, Int.reduceSub, Int.reduceNeg, mixed, decide_eq_true_eq, decide_eq_false_iff_not, Bool.not_eq_true', Bool.not_eq_false', List.headD_cons, Option.some.injEq, Int.cast_ofNat_Int, hm]
    simp [monthS, hm]

theorem monthS_len {m : Int} : (monthS m).length ≤ 60 := by
  unfold monthS
  split
  · rename_i hm
    have q : m.tdiv 12 = m / 12 := Int.tdiv_eq_ediv_of_nonneg hm.1
    have r : m.tmod 12 = m % 12 := Int.tmod_eq_emod_of_nonneg hm.1
    have l1 := itoa_len (n := m.tmod 12 + 1) (by unfold I64; omega)
    have l2 := itoa_len (n := 1900 + m.tdiv 12) (by unfold I64; omega)
    simp [padL]; omega
  · simp
def monthT (m : Int) : List UInt8 := if monthS m = [] then [63] else monthS m
theorem monthT_call {m : Int} : FCall Tryd.prog 36 [.int .i64 m] (· = .str (monthT m)) := by
  refine FCall.walk Tryd.func36 k36 rfl ?_
  unfold c36
  simp only [go_sem, ↓reduceIte, reduceCtorEq, Nat.reduceEqDiff, Nat.reduceLT, Nat.reduceLeDiff, Nat.reduceAdd, Nat.reduceSub, Nat.reduceMul, Nat.reduceBNe, Nat.reduceBEq, Int.reduceToNat, Int.reduceLE, Int.reduceLT, Int.reduceEq, Int.reduceNe, Int.reduceAdd, Int.reduceSub, Int.reduceNeg, mixed, decide_eq_true_eq, decide_eq_false_iff_not, Bool.not_eq_true', Bool.not_eq_false', List.headD_cons, Option.some.injEq, Int.cast_ofNat_Int]
  refine FCallT.of (month_call) ?_
  rintro _ rfl
  simp only [go_sem, ↓reduceIte, reduceCtorEq, Nat.reduceEqDiff, Nat.reduceLT, Nat.reduceLeDiff, Nat.reduceAdd, Nat.reduceSub, Nat.reduceMul, Nat.reduceBNe, Nat.reduceBEq, Int.reduceToNat, Int.reduceLE, Int.reduceLT, Int.reduceEq, Int.reduceNe, Int.reduceAdd, Int.reduceSub, Int.reduceNeg, mixed, decide_eq_true_eq, decide_eq_false_iff_not, Bool.not_eq_true', Bool.not_eq_false', List.headD_cons, Option.some.injEq, Int.cast_ofNat_Int]
  refine FCallT.of (or_call) ?_
  rintro _ rfl
  simp only [go_sem, ↓reduceIte, reduceCtorEq, Nat.reduceEqDiff, Nat.reduceLT, Nat.reduceLeDiff, Nat.reduceAdd, Nat.reduceSub, Nat.reduceMul, Nat.reduceBNe, Nat.reduceBEq, Int.reduceToNat, Int.reduceLE, Int.reduceLT, Int.reduceEq, Int.reduceNe, Int.reduceAdd, Int.reduceSub, Int.reduceNeg, mixed, decide_eq_true_eq, decide_eq_false_iff_not, Bool.not_eq_true', Bool.not_eq_false', List.headD_cons, Option.some.injEq, Int.cast_ofNat_Int]
  unfold monthT
  by_cases h : monthS m = [] <;> simp [h]
theorem monthT2_call {m : Int} : FCall Tryd.prog 40 [.int .i64 m] (· = .str (monthT m)) := by
  refine FCall.walk Tryd.func40 k40 rfl ?_
  unfold c40
  simp only [go_sem, ↓reduceIte, reduceCtorEq, Nat.reduceEqDiff, Nat.reduceLT, Nat.reduceLeDiff, Nat.reduceAdd, Nat.reduceSub, Nat.reduceMul, Nat.reduceBNe, Nat.reduceBEq, Int.reduceToNat, Int.reduceLE, Int.reduceLT, Int.reduceEq, Int.reduceNe, Int.reduceAdd, Int.reduceSub, Int.reduceNeg, mixed, decide_eq_true_eq, decide_eq_false_iff_not, Bool.not_eq_true', Bool.not_eq_false', List.headD_cons, Option.some.injEq, Int.cast_ofNat_Int]
  refine FCallT.of (month2_call) ?_
  rintro _ rfl
  simp only [go_sem, ↓reduceIte, reduceCtorEq, Nat.reduceEqDiff, Nat.reduceLT, Nat.reduceLeDiff, Nat.reduceAdd, Nat.reduceSub, Nat.reduceMul, Nat.reduceBNe, Nat.reduceBEq, Int.reduceToNat, Int.reduceLE, Int.reduceLT, Int.reduceEq, Int.reduceNe, Int.reduceAdd, Int.reduceSub, Int.reduceNeg, mixed, decide_eq_true_eq, decide_eq_false_iff_not, Bool.not_eq_true', Bool.not_eq_false', List.headD_cons, Option.some.injEq, Int.cast_ofNat_Int]
  unfold monthT
  refine ⟨fun h => ?_, fun h => ?_⟩ <;> simp [h]
/-- how the two amounts are computed -/
def arrN (b c : Int) : Int := max (IntKind.i64.wrap (b - c)) 0
def overN (b c d : Int) : Int := max (IntKind.i64.wrap (IntKind.i64.wrap (c - b) - d)) 0
theorem arr_call {a b c d : Int} : FCall Tryd.prog 38 [.agg [.int .i64 a, .int .i64 b, .int .i64 c, .int .i64 d]] (· = .int .i64 (arrN b c)) := by
  refine FCall.walk Tryd.func38 k38 rfl ?_
  unfold c38
  simp only [go_sem, ↓reduceIte, reduceCtorEq, Nat.reduceEqDiff, Nat.reduceLT, Nat.reduceLeDiff, Nat.reduceAdd, Nat.reduceSub, Nat.reduceMul, Nat.reduceBNe, Nat.reduceBEq, Int.reduceToNat, Int.reduceLE, Int.reduceLT, Int.reduceEq, Int.reduceNe, Int.reduceAdd, Int.reduceSub, Int.reduceNeg, mixed, decide_eq_true_eq, decide_eq_false_iff_not, Bool.not_eq_true', Bool.not_eq_false', List.headD_cons, Option.some.injEq, Int.cast_ofNat_Int]
  rfl
theorem arr2_call {a b c d : Int} : FCall Tryd.prog 42 [.agg [.int .i64 a, .int .i64 b, .int .i64 c, .int .i64 d]] (· = .int .i64 (arrN b c)) := by
  refine FCall.walk Tryd.func42 k42 rfl ?_
  unfold c42
  simp only [go_sem, ↓reduceIte, reduceCtorEq, Nat.reduceEqDiff, Nat.reduceLT, Nat.reduceLeDiff, Nat.reduceAdd, Nat.reduceSub, Nat.reduceMul, Nat.reduceBNe, Nat.reduceBEq, Int.reduceToNat, Int.reduceLE, Int.reduceLT, Int.reduceEq, Int.reduceNe, Int.reduceAdd, Int.reduceSub, Int.reduceNeg, mixed, decide_eq_true_eq, decide_eq_false_iff_not, Bool.not_eq_true', Bool.not_eq_false', List.headD_cons, Option.some.injEq, Int.cast_ofNat_Int]
  rfl
theorem over_call {a b c d : Int} : FCall Tryd.prog 39 [.agg [.int .i64 a, .int .i64 b, .int .i64 c, .int .i64 d]] (· = .int .i64 (overN b c d)) := by
  refine FCall.walk Tryd.func39 k39 rfl ?_
  unfold c39
  simp only [go_sem, ↓reduceIte, reduceCtorEq, Nat.reduceEqDiff, Nat.reduceLT, Nat.reduceLeDiff, Nat.reduceAdd, Nat.reduceSub, Nat.reduceMul, Nat.reduceBNe, Nat.reduceBEq, Int.reduceToNat, Int.reduceLE, Int.reduceLT, Int.reduceEq, Int.reduceNe, Int.reduceAdd, Int.reduceSub, Int.reduceNeg, mixed, decide_eq_true_eq, decide_eq_false_iff_not, Bool.not_eq_true', Bool.not_eq_false', List.headD_cons, Option.some.injEq, Int.cast_ofNat_Int]
  rfl
theorem over2_call {a b c d : Int} : FCall Tryd.prog 43 [.agg [.int .i64 a, .int .i64 b, .int .i64 c, .int .i64 d]] (· = .int .i64 (overN b c d)) := by
  refine FCall.walk Tryd.func43 k43 rfl ?_
  unfold c43
  simp only [go_sem, ↓reduceIte, reduceCtorEq, Nat.reduceEqDiff, Nat.reduceLT, Nat.reduceLeDiff, Nat.reduceAdd, Nat.reduceSub, Nat.reduceMul, Nat.reduceBNe, Nat.reduceBEq, Int.reduceToNat, Int.reduceLE, Int.reduceLT, Int.reduceEq, Int.reduceNe, Int.reduceAdd, Int.reduceSub, Int.reduceNeg, mixed, decide_eq_true_eq, decide_eq_false_iff_not, Bool.not_eq_true', Bool.not_eq_false', List.headD_cons, Option.some.injEq, Int.cast_ofNat_Int]
  rfl
end Go.Fx.Tryd
