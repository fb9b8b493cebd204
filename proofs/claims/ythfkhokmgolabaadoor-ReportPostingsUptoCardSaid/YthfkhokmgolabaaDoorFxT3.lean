/- Part of a proof: see the last text of the claim. -/
import Derived.Test.YthfkhokmgolabaaDoorFxT2
import Derived.Lib.ItoaLen
import Derived.Lib.ItoaMem
set_option linter.unusedVariables false
set_option linter.unusedSimpArgs false
namespace Go.Fx.Tryd
open Go Go.Fm Go.Proofs

theorem wu64 {n : Int} (h : 0 ≤ n ∧ n < 18446744073709551616) : IntKind.u64.wrap n = n := by
  obtain ⟨h1, h2⟩ := h
  simp only [IntKind.wrap, IntKind.bits, IntKind.signed]
  have e : (2 ^ 64 : Int) = 18446744073709551616 := by decide
  simp only [e, Bool.false_and, Bool.false_eq_true, if_false]
  omega
theorem wu8 {n : Int} (h : 0 ≤ n ∧ n < 256) : IntKind.u8.wrap n = n := by
  obtain ⟨h1, h2⟩ := h
  simp only [IntKind.wrap, IntKind.bits, IntKind.signed]
  have e : (2 ^ 8 : Int) = 256 := by decide
  simp only [e, Bool.false_and, Bool.false_eq_true, if_false]
  omega

theorem dig_len {u : Nat} (h : u < 18446744073709551616) : (Lib.decDigits u).length ≤ 20 := by rw [Lib.decDigits_length]; exact Lib.nDigits_le20 u h
theorem itoa_len {n : Int} (h : I64 n) : (Lib.itoa n).length ≤ 21 := Lib.itoa_length_le n h.1 h.2
theorem dig_head : ∀ (u : Nat), ∃ c l, Lib.decDigits u = c :: l ∧ c ≠ 45 := by
  intro u
  induction u using Nat.strongRecOn with
  | _ u ih =>
  by_cases h : u < 10
  · refine ⟨_, [], Lib.decDigits_one h, ?_⟩
    intro e
    have := congrArg UInt8.toNat e
    simp at this
    omega
  · obtain ⟨c, l, h1, h2⟩ := ih (u / 10) (by omega)
    rw [Lib.decDigits, dif_neg h, h1]
    exact ⟨c, l ++ [UInt8.ofNat (48 + u % 10)], rfl, h2⟩
theorem itoa_cases (n : Int) : (n < 0 ∧ Lib.itoa n = 45 :: Lib.decDigits n.natAbs) ∨ (0 ≤ n ∧ Lib.itoa n = Lib.decDigits n.natAbs) := by
  unfold Lib.itoa
  by_cases h : n < 0
  · exact .inl ⟨h, if_pos h⟩
  · refine .inr ⟨by omega, ?_⟩
    rw [if_neg h]
    congr 1
    omega

theorem digits_call : ∀ (u : Nat), u < 18446744073709551616 → FCall Tryd.prog 55 [.int .u64 (u : Int)] (· = .str (Lib.decDigits u)) := by
  intro u
  induction u using Nat.strongRecOn with
  | _ u ih =>
  intro hu
  by_cases h : u < 10
  · have e1 : ((u : Int) < 10) = True := eq_true (by omega)
    have e2 : IntKind.u64.wrap (48 + (u : Int)) = 48 + u := wu64 (by omega)
    have e3 : IntKind.u8.wrap (48 + (u : Int)) = 48 + u := wu8 (by omega)
    refine FCall.walk Tryd.func55 k55 rfl ?_
    unfold c55
    simp only [go_sem, ↓reduceIte, reduceCtorEq, Nat.reduceEqDiff, Nat.reduceLT, Nat.reduceLeDiff, Nat.reduceAdd, Nat.reduceSub, Nat.reduceMul, Nat.reduceBNe, Nat.reduceBEq, Int.reduceToNat, Int.reduceLE, Int.reduceLT, Int.reduceEq, Int.reduceNe, Int.reduceAdd, Int.reduceSub, Int.reduceNeg, mixed, decide_eq_true_eq, decide_eq_false_iff_not, Bool.not_eq_true', Bool.not_eq_false', List.headD_cons, Option.some.injEq, Int.cast_ofNat_Int, e1, e2, e3]
    rw [Lib.decDigits_one h]
    congr 3
  · have e1 : ((u : Int) < 10) = False := eq_false (by omega)
    have e0 : (u : Int).tdiv 10 = ((u / 10 : Nat) : Int) := rfl
    have em : (u : Int).tmod 10 = ((u % 10 : Nat) : Int) := rfl
    have e2 : IntKind.u64.wrap ((u / 10 : Nat) : Int) = ((u / 10 : Nat) : Int) := wu64 (by omega)
    have e3 : IntKind.u64.wrap (48 + ((u % 10 : Nat) : Int)) = 48 + ((u % 10 : Nat) : Int) := wu64 (by omega)
    have e4 : IntKind.u8.wrap (48 + ((u % 10 : Nat) : Int)) = 48 + ((u % 10 : Nat) : Int) := wu8 (by omega)
    refine FCall.walk Tryd.func55 k55 rfl ?_
    unfold c55
    simp only [go_sem, ↓reduceIte, reduceCtorEq, Nat.reduceEqDiff, Nat.reduceLT, Nat.reduceLeDiff, Nat.reduceAdd, Nat.reduceSub, Nat.reduceMul, Nat.reduceBNe, Nat.reduceBEq, Int.reduceToNat, Int.reduceLE, Int.reduceLT, Int.reduceEq, Int.reduceNe, Int.reduceAdd, Int.reduceSub, Int.reduceNeg, mixed, decide_eq_true_eq, decide_eq_false_iff_not, Bool.not_eq_true', Bool.not_eq_false', List.headD_cons, Option.some.injEq, Int.cast_ofNat_Int, e0, em, e1, e2, e3, e4]
    refine detCall_of _ (ih (u / 10) (by omega) (by omega)) ?_
    simp only [go_sem, ↓reduceIte, reduceCtorEq, Nat.reduceEqDiff, Nat.reduceLT, Nat.reduceLeDiff, Nat.reduceAdd, Nat.reduceSub, Nat.reduceMul, Nat.reduceBNe, Nat.reduceBEq, Int.reduceToNat, Int.reduceLE, Int.reduceLT, Int.reduceEq, Int.reduceNe, Int.reduceAdd, Int.reduceSub, Int.reduceNeg, mixed, decide_eq_true_eq, decide_eq_false_iff_not, Bool.not_eq_true', Bool.not_eq_false', List.headD_cons, Option.some.injEq, Int.cast_ofNat_Int, e0, em, e1, e2, e3, e4]
    have hl := dig_len (u := u / 10) (by omega)
    refine ⟨by omega, ?_⟩
    conv => rhs; rw [Lib.decDigits, dif_neg h]
    congr 3
theorem fmtInt2_call {n : Int} (h : I64 n) : FCall Tryd.prog 30 [.int .i64 n] (· = .str (Lib.itoa n)) := by
  obtain ⟨h1, h2⟩ := h
  by_cases hn : n < 0
  · have e1 : IntKind.i64.wrap (n + 1) = n + 1 := w64 (by unfold I64; omega)
    have e2 : IntKind.i64.wrap (0 - (n + 1)) = 0 - (n + 1) := w64 (by unfold I64; omega)
    have e3 : IntKind.u64.wrap (0 - (n + 1)) = 0 - (n + 1) := wu64 (by omega)
    have e4 : IntKind.u64.wrap (0 - (n + 1) + 1) = (n.natAbs : Int) := by rw [wu64 (by omega)]; omega
    refine FCall.walk Tryd.func30 k30 rfl ?_
    unfold c30
    simp only [go_sem, ↓reduceIte, reduceCtorEq, Nat.reduceEqDiff, Nat.reduceLT, Nat.reduceLeDiff, Nat.reduceAdd, Nat.reduceSub, Nat.reduceMul, Nat.reduceBNe, Nat.reduceBEq, Int.reduceToNat, Int.reduceLE, Int.reduceLT, Int.reduceEq, Int.reduceNe, Int.reduceAdd, Int.reduceSub, Int.reduceNeg, mixed, decide_eq_true_eq, decide_eq_false_iff_not, Bool.not_eq_true', Bool.not_eq_false', List.headD_cons, Option.some.injEq, Int.cast_ofNat_Int, hn, e1, e2, e3, e4]
    refine FCallT.of (digits_call n.natAbs (by omega)) ?_
    rintro _ rfl
    simp only [go_sem, ↓reduceIte, reduceCtorEq, Nat.reduceEqDiff, Nat.reduceLT, Nat.reduceLeDiff, Nat.reduceAdd, Nat.reduceSub, Nat.reduceMul, Nat.reduceBNe, Nat.reduceBEq, Int.reduceToNat, Int.reduceLE, Int.reduceLT, Int.reduceEq, Int.reduceNe, Int.reduceAdd, Int.reduceSub, Int.reduceNeg, mixed, decide_eq_true_eq, decide_eq_false_iff_not, Bool.not_eq_true', Bool.not_eq_false', List.headD_cons, Option.some.injEq, Int.cast_ofNat_Int]
    have hl := dig_len (u := n.natAbs) (by omega)
    refine ⟨by omega, ?_⟩
    rcases itoa_cases n with h | h
    · rw [h.2]
    · omega
  · have e3 : IntKind.u64.wrap n = (n.natAbs : Int) := by rw [wu64 (by omega)]; omega
    refine FCall.walk Tryd.func30 k30 rfl ?_
    unfold c30
    simp only [go_sem, ↓reduceIte, reduceCtorEq, Nat.reduceEqDiff, Nat.reduceLT, Nat.reduceLeDiff, Nat.reduceAdd, Nat.reduceSub, Nat.reduceMul, Nat.reduceBNe, Nat.reduceBEq, Int.reduceToNat, Int.reduceLE, Int.reduceLT, Int.reduceEq, Int.reduceNe, Int.reduceAdd, Int.reduceSub, Int.reduceNeg, mixed, decide_eq_true_eq, decide_eq_false_iff_not, Bool.not_eq_true', Bool.not_eq_false', List.headD_cons, Option.some.injEq, Int.cast_ofNat_Int, hn, e3]
    refine FCallT.of (digits_call n.natAbs (by omega)) ?_
    rintro _ rfl
    simp only [go_sem, ↓reduceIte, reduceCtorEq, Nat.reduceEqDiff, Nat.reduceLT, Nat.reduceLeDiff, Nat.reduceAdd, Nat.reduceSub, Nat.reduceMul, Nat.reduceBNe, Nat.reduceBEq, Int.reduceToNat, Int.reduceLE, Int.reduceLT, Int.reduceEq, Int.reduceNe, Int.reduceAdd, Int.reduceSub, Int.reduceNeg, mixed, decide_eq_true_eq, decide_eq_false_iff_not, Bool.not_eq_true', Bool.not_eq_false', List.headD_cons, Option.some.injEq, Int.cast_ofNat_Int]
    rcases itoa_cases n with h | h
    · omega
    · rw [h.2]
theorem clamp_call {n : Int} (h : 0 ≤ n ∧ n ≤ 9) : FCall Tryd.prog 72 [.int .i64 n] (· = .int .i64 n) := by
  refine FCall.walk Tryd.func72 k72 rfl ?_
  unfold c72
  simp only [go_sem, ↓reduceIte, reduceCtorEq, Nat.reduceEqDiff, Nat.reduceLT, Nat.reduceLeDiff, Nat.reduceAdd, Nat.reduceSub, Nat.reduceMul, Nat.reduceBNe, Nat.reduceBEq, Int.reduceToNat, Int.reduceLE, Int.reduceLT, Int.reduceEq, Int.reduceNe, Int.reduceAdd, Int.reduceSub, Int.reduceNeg, mixed, decide_eq_true_eq, decide_eq_false_iff_not, Bool.not_eq_true', Bool.not_eq_false', List.headD_cons, Option.some.injEq, Int.cast_ofNat_Int]
  congr 1; omega
theorem clamp2_call {n : Int} (h : 0 ≤ n ∧ n ≤ 9) : FCall Tryd.prog 44 [.int .i64 n] (· = .int .i64 n) := by
  refine FCall.walk Tryd.func44 k44 rfl ?_
  unfold c44
  simp only [go_sem, ↓reduceIte, reduceCtorEq, Nat.reduceEqDiff, Nat.reduceLT, Nat.reduceLeDiff, Nat.reduceAdd, Nat.reduceSub, Nat.reduceMul, Nat.reduceBNe, Nat.reduceBEq, Int.reduceToNat, Int.reduceLE, Int.reduceLT, Int.reduceEq, Int.reduceNe, Int.reduceAdd, Int.reduceSub, Int.reduceNeg, mixed, decide_eq_true_eq, decide_eq_false_iff_not, Bool.not_eq_true', Bool.not_eq_false', List.headD_cons, Option.some.injEq, Int.cast_ofNat_Int]
  congr 1; omega
theorem sign_call {n : Int} : FCall Tryd.prog 46 [.str (Lib.itoa n)] (· = .tup [.str (Lib.decDigits n.natAbs), .bool (decide (n < 0))]) := by
  obtain ⟨c, l, hd, hc⟩ := dig_head n.natAbs
  rcases itoa_cases n with ⟨h1, h2⟩ | ⟨h1, h2⟩
  · rw [h2]
    refine FCall.walk Tryd.func46 k46 rfl ?_
    unfold c46
    simp only [go_sem, ↓reduceIte, reduceCtorEq, Nat.reduceEqDiff, Nat.reduceLT, Nat.reduceLeDiff, Nat.reduceAdd, Nat.reduceSub, Nat.reduceMul, Nat.reduceBNe, Nat.reduceBEq, Int.reduceToNat, Int.reduceLE, Int.reduceLT, Int.reduceEq, Int.reduceNe, Int.reduceAdd, Int.reduceSub, Int.reduceNeg, mixed, decide_eq_true_eq, decide_eq_false_iff_not, Bool.not_eq_true', Bool.not_eq_false', List.headD_cons, Option.some.injEq, Int.cast_ofNat_Int]
    refine ⟨fun _ => ⟨fun _ => ⟨⟨by omega, by omega⟩, ?_⟩, fun hne => absurd rfl hne⟩, fun hn => absurd (by omega) hn⟩
    rw [List.take_of_length_le (by omega)]
    simp [h1]
  · rw [h2, hd]
    have hc2 : ¬ ((UInt8.toNat c : Nat) : Int) = 45 := by
      intro e
      have e2 : c.toNat = 45 := by omega
      exact hc (UInt8.toNat_inj.1 (e2.trans rfl))
    refine FCall.walk Tryd.func46 k46 rfl ?_
    unfold c46
    simp only [go_sem, ↓reduceIte, reduceCtorEq, Nat.reduceEqDiff, Nat.reduceLT, Nat.reduceLeDiff, Nat.reduceAdd, Nat.reduceSub, Nat.reduceMul, Nat.reduceBNe, Nat.reduceBEq, Int.reduceToNat, Int.reduceLE, Int.reduceLT, Int.reduceEq, Int.reduceNe, Int.reduceAdd, Int.reduceSub, Int.reduceNeg, mixed, decide_eq_true_eq, decide_eq_false_iff_not, Bool.not_eq_true', Bool.not_eq_false', List.headD_cons, Option.some.injEq, Int.cast_ofNat_Int]
    refine ⟨fun _ => ⟨fun h => absurd h hc2, fun _ => ?_⟩, fun hn => absurd (by omega) hn⟩
    have : ¬ n < 0 := by omega
    simp [this]
theorem cut_itoa {n : Int} : FCall Tryd.prog 73 [.str (Lib.itoa n), .str [45]] (· = .tup [.str (Lib.decDigits n.natAbs), .bool (decide (n < 0))]) := by
  obtain ⟨c, l, hd, hc⟩ := dig_head n.natAbs
  have hh : Lib.hasPrefix (Lib.itoa n) [45] = decide (n < 0) := by
    rcases itoa_cases n with ⟨h1, h2⟩ | ⟨h1, h2⟩
    · rw [h2]; simp [Lib.hasPrefix, h1]
    · have : ¬ n < 0 := by omega
      have h3 : ((45 : UInt8) == c) = false := by simpa using fun e => hc (Eq.symm e)
      rw [h2, hd]; simp [Lib.hasPrefix, this, List.isPrefixOf, h3]
  refine FCall.mono cut_call ?_
  rintro r rfl
  unfold Lib.trimPrefix
  rw [hh]
  rcases itoa_cases n with ⟨h1, h2⟩ | ⟨h1, h2⟩
  · rw [h2]; simp [h1]
  · have : ¬ n < 0 := by omega
    rw [h2]; simp [this]
/-- padded with zeros -/
def padL (s : List UInt8) (w : Nat) : List UInt8 := List.replicate (w - s.length) 48 ++ s
theorem rep48 (c : Nat) : Lib.repeatL [48] c = List.replicate c 48 := by
  have := Lib.repeatL_replicate 48 1 c
  simpa using this
theorem pad_call {n : Int} {w : Nat} (h : I64 n) (hw : w ≤ 100) : FCall Tryd.prog 79 [.int .i64 n, .int .i64 (w : Int)] (· = .str (padL (Lib.itoa n) w)) := by
  have hl := itoa_len h
  have e1 : max 0 (IntKind.i64.wrap ((w : Int) - (Lib.itoa n).length)) = ((w - (Lib.itoa n).length : Nat) : Int) := by
    rw [w64 (by unfold I64; omega)]; omega
  refine FCall.walk Tryd.func79 k79 rfl ?_
  unfold c79
  simp only [go_sem, ↓reduceIte, reduceCtorEq, Nat.reduceEqDiff, Nat.reduceLT, Nat.reduceLeDiff, Nat.reduceAdd, Nat.reduceSub, Nat.reduceMul, Nat.reduceBNe, Nat.reduceBEq, Int.reduceToNat, Int.reduceLE, Int.reduceLT, Int.reduceEq, Int.reduceNe, Int.reduceAdd, Int.reduceSub, Int.reduceNeg, mixed, decide_eq_true_eq, decide_eq_false_iff_not, Bool.not_eq_true', Bool.not_eq_false', List.headD_cons, Option.some.injEq, Int.cast_ofNat_Int]
  refine FCallT.of (fmtInt_call h) ?_
  rintro _ rfl
  simp only [go_sem, ↓reduceIte, reduceCtorEq, Nat.reduceEqDiff, Nat.reduceLT, Nat.reduceLeDiff, Nat.reduceAdd, Nat.reduceSub, Nat.reduceMul, Nat.reduceBNe, Nat.reduceBEq, Int.reduceToNat, Int.reduceLE, Int.reduceLT, Int.reduceEq, Int.reduceNe, Int.reduceAdd, Int.reduceSub, Int.reduceNeg, mixed, decide_eq_true_eq, decide_eq_false_iff_not, Bool.not_eq_true', Bool.not_eq_false', List.headD_cons, Option.some.injEq, Int.cast_ofNat_Int, e1]
  refine FCallT.of (repeat_call (by omega) (by simp; omega)) ?_
  rintro _ rfl
  simp only [go_sem, ↓reduceIte, reduceCtorEq, Nat.reduceEqDiff, Nat.reduceLT, Nat.reduceLeDiff, Nat.reduceAdd, Nat.reduceSub, Nat.reduceMul, Nat.reduceBNe, Nat.reduceBEq, Int.reduceToNat, Int.reduceLE, Int.reduceLT, Int.reduceEq, Int.reduceNe, Int.reduceAdd, Int.reduceSub, Int.reduceNeg, mixed, decide_eq_true_eq, decide_eq_false_iff_not, Bool.not_eq_true', Bool.not_eq_false', List.headD_cons, Option.some.injEq, Int.cast_ofNat_Int]
  rw [rep48]
  refine ⟨by simp; omega, rfl⟩
theorem pad2_call {n : Int} {w : Nat} (h : I64 n) (hw : w ≤ 100) : FCall Tryd.prog 97 [.int .i64 n, .int .i64 (w : Int)] (· = .str (padL (Lib.itoa n) w)) := by
  have hl := itoa_len h
  refine FCall.walk Tryd.func97 k97 rfl ?_
  unfold c97
  simp only [go_sem, ↓reduceIte, reduceCtorEq, Nat.reduceEqDiff, Nat.reduceLT, Nat.reduceLeDiff, Nat.reduceAdd, Nat.reduceSub, Nat.reduceMul, Nat.reduceBNe, Nat.reduceBEq, Int.reduceToNat, Int.reduceLE, Int.reduceLT, Int.reduceEq, Int.reduceNe, Int.reduceAdd, Int.reduceSub, Int.reduceNeg, mixed, decide_eq_true_eq, decide_eq_false_iff_not, Bool.not_eq_true', Bool.not_eq_false', List.headD_cons, Option.some.injEq, Int.cast_ofNat_Int]
  refine FCallT.of (fmtInt2_call h) ?_
  rintro _ rfl
  simp only [go_sem, ↓reduceIte, reduceCtorEq, Nat.reduceEqDiff, Nat.reduceLT, Nat.reduceLeDiff, Nat.reduceAdd, Nat.reduceSub, Nat.reduceMul, Nat.reduceBNe, Nat.reduceBEq, Int.reduceToNat, Int.reduceLE, Int.reduceLT, Int.reduceEq, Int.reduceNe, Int.reduceAdd, Int.reduceSub, Int.reduceNeg, mixed, decide_eq_true_eq, decide_eq_false_iff_not, Bool.not_eq_true', Bool.not_eq_false', List.headD_cons, Option.some.injEq, Int.cast_ofNat_Int]
  refine FWT.loopK [] (fun s : List UInt8 => [(1, .int .i64 (w : Int)), (5, .str s)]) (fun s => w - s.length) (fun s => padL s w = padL (Lib.itoa n) w ∧ s.length ≤ 121) (Lib.itoa n) rfl ⟨rfl, by omega⟩ ?_
  rintro s ⟨g1, g2⟩
  simp only [go_sem, ↓reduceIte, reduceCtorEq, Nat.reduceEqDiff, Nat.reduceLT, Nat.reduceLeDiff, Nat.reduceAdd, Nat.reduceSub, Nat.reduceMul, Nat.reduceBNe, Nat.reduceBEq, Int.reduceToNat, Int.reduceLE, Int.reduceLT, Int.reduceEq, Int.reduceNe, Int.reduceAdd, Int.reduceSub, Int.reduceNeg, mixed, decide_eq_true_eq, decide_eq_false_iff_not, Bool.not_eq_true', Bool.not_eq_false', List.headD_cons, Option.some.injEq, Int.cast_ofNat_Int]
  refine ⟨fun h1 => ⟨by omega, [48] ++ s, rfl, ⟨?_, ?_⟩, ?_⟩, fun h1 => ?_⟩
  · rw [← g1]
    simp only [padL]
    have e : w - s.length = (w - ([48] ++ s).length) + 1 := by simp; omega
    rw [e, List.replicate_succ']
    simp
  · simp; omega
  · simp; omega
  · rw [← g1]
    simp only [padL]
    have e : w - s.length = 0 := by omega
    rw [e]; rfl
def dateS (d : Int) : List UInt8 := if 0 ≤ d ∧ d ≤ 109572 then padL (Lib.itoa (ymd d).1) 4 ++ [45] ++ padL (Lib.itoa (ymd d).2.1) 2 ++ [45] ++ padL (Lib.itoa (ymd d).2.2) 2 else []
theorem yl_bd : ∀ (k : Nat) (d y : Int), 0 ≤ d → 0 ≤ (yl k d y).1 ∧ (yl k d y).1 ≤ d ∧ y ≤ (yl k d y).2 ∧ (yl k d y).2 ≤ y + k
  | 0, d, y, h => by simp [yl, h]
  | k + 1, d, y, h => by
    have hd := diy_ge y
    simp only [yl]
    split
    · have := yl_bd k (d - diy y) (y + 1) (by omega)
      omega
    · simp only; omega
theorem dim_ge (y m : Int) : 0 ≤ dim y m := by unfold dim; repeat' split
                                               all_goals omega
theorem ml_bd : ∀ (k : Nat) (d y m : Int), 0 ≤ d → 0 ≤ (ml k d y m).1 ∧ (ml k d y m).1 ≤ d ∧ m ≤ (ml k d y m).2 ∧ (ml k d y m).2 ≤ m + k
  | 0, d, y, m, h => by simp [ml, h]
  | k + 1, d, y, m, h => by
    have hd := dim_ge y m
    simp only [ml]
    split
    · have := ml_bd k (d - dim y m) y (m + 1) (by omega)
      omega
    · simp only; omega
theorem ymd_bd {d : Int} : I64 (ymd d).1 ∧ I64 (ymd d).2.1 ∧ I64 (ymd d).2.2 := by
  unfold ymd I64
  split
  · rename_i h
    have h1 := yl_bd 400 d 1900 h.1
    have h2 := ml_bd 13 (yl 400 d 1900).1 (yl 400 d 1900).2 1 h1.1
    simp only
    omega
  · simp
theorem padL_len {s : List UInt8} {w : Nat} (h1 : s.length ≤ 21) (h2 : w ≤ 4) : (padL s w).length ≤ 25 := by simp [padL]; omega
theorem date_call {d : Int} : FCall Tryd.prog 66 [.int .i64 d] (· = .str (dateS d)) := by
  refine FCall.walk Tryd.func66 k66 rfl ?_
  unfold c66
  simp only [go_sem, ↓reduceIte, reduceCtorEq, Nat.reduceEqDiff, Nat.reduceLT, Nat.reduceLeDiff, Nat.reduceAdd, Nat.reduceSub, Nat.reduceMul, Nat.reduceBNe, Nat.reduceBEq, Int.reduceToNat, Int.reduceLE, Int.reduceLT, Int.reduceEq, Int.reduceNe, Int.reduceAdd, Int.reduceSub, Int.reduceNeg, mixed, decide_eq_true_eq, decide_eq_false_iff_not, Bool.not_eq_true', Bool.not_eq_false', List.headD_cons, Option.some.injEq, Int.cast_ofNat_Int]
  refine FCallT.of (valid_call) ?_
  rintro _ rfl
  simp only [go_sem, ↓reduceIte, reduceCtorEq, Nat.reduceEqDiff, Nat.reduceLT, Nat.reduceLeDiff, Nat.reduceAdd, Nat.reduceSub, Nat.reduceMul, Nat.reduceBNe, Nat.reduceBEq, Int.reduceToNat, Int.reduceLE, Int.reduceLT, Int.reduceEq, Int.reduceNe, Int.reduceAdd, Int.reduceSub, Int.reduceNeg, mixed, decide_eq_true_eq, decide_eq_false_iff_not, Bool.not_eq_true', Bool.not_eq_false', List.headD_cons, Option.some.injEq, Int.cast_ofNat_Int]
  refine ⟨fun h => ?_, fun h => ?_⟩
  · simp [dateS, h]
  obtain ⟨b1, b2, b3⟩ := ymd_bd (d := d)
  refine FCallT.of (ymd_call) ?_
  rintro _ rfl
  simp only [go_sem, ↓reduceIte, reduceCtorEq, Nat.reduceEqDiff, Nat.reduceLT, Nat.reduceLeDiff, Nat.reduceAdd, Nat.reduceSub, Nat.reduceMul, Nat.reduceBNe, Nat.reduceBEq, Int.reduceToNat, Int.reduceLE, Int.reduceLT, Int.reduceEq, Int.reduceNe, Int.reduceAdd, Int.reduceSub, Int.reduceNeg, mixed, decide_eq_true_eq, decide_eq_false_iff_not, Bool.not_eq_true', Bool.not_eq_false', List.headD_cons, Option.some.injEq, Int.cast_ofNat_Int]
  refine FCallT.of (pad_call (w := 4) b1 (by omega)) ?_
  rintro _ rfl
  simp only [go_sem, ↓reduceIte, reduceCtorEq, Nat.reduceEqDiff, Nat.reduceLT, Nat.reduceLeDiff, Nat.reduceAdd, Nat.reduceSub, Nat.reduceMul, Nat.reduceBNe, Nat.reduceBEq, Int.reduceToNat, Int.reduceLE, Int.reduceLT, Int.reduceEq, Int.reduceNe, Int.reduceAdd, Int.reduceSub, Int.reduceNeg, mixed, decide_eq_true_eq, decide_eq_false_iff_not, Bool.not_eq_true', Bool.not_eq_false', List.headD_cons, Option.some.injEq, Int.cast_ofNat_Int]
  have l1 := padL_len (w := 4) (itoa_len b1) (by omega)
  have l2 := padL_len (w := 2) (itoa_len b2) (by omega)
  have l3 := padL_len (w := 2) (itoa_len b3) (by omega)
  refine ⟨by omega, ?_⟩
  refine FCallT.of (pad_call (w := 2) b2 (by omega)) ?_
  rintro _ rfl
  simp only [go_sem, ↓reduceIte, reduceCtorEq, Nat.reduceEqDiff, Nat.reduceLT, Nat.reduceLeDiff, Nat.reduceAdd, Nat.reduceSub, Nat.reduceMul, Nat.reduceBNe, Nat.reduceBEq, Int.reduceToNat, Int.reduceLE, Int.reduceLT, Int.reduceEq, Int.reduceNe, Int.reduceAdd, Int.reduceSub, Int.reduceNeg, mixed, decide_eq_true_eq, decide_eq_false_iff_not, Bool.not_eq_true', Bool.not_eq_false', List.headD_cons, Option.some.injEq, Int.cast_ofNat_Int]
  refine ⟨by simp; omega, by simp; omega, ?_⟩
  refine FCallT.of (pad_call (w := 2) b3 (by omega)) ?_
  rintro _ rfl
  simp only [go_sem, ↓reduceIte, reduceCtorEq, Nat.reduceEqDiff, Nat.reduceLT, Nat.reduceLeDiff, Nat.reduceAdd, Nat.reduceSub, Nat.reduceMul, Nat.reduceBNe, Nat.reduceBEq, Int.reduceToNat, Int.reduceLE, Int.reduceLT, Int.reduceEq, Int.reduceNe, Int.reduceAdd, Int.reduceSub, Int.reduceNeg, mixed, decide_eq_true_eq, decide_eq_false_iff_not, Bool.not_eq_true', Bool.not_eq_false', List.headD_cons, Option.some.injEq, Int.cast_ofNat_Int]
  refine ⟨by simp; omega, ?_⟩
  simp [dateS, h]
theorem ymd2_call {d : Int} : FCall Tryd.prog 96 [.int .i64 d] (· = .tup [.int .i64 (ymd d).1, .int .i64 (ymd d).2.1, .int .i64 (ymd d).2.2]) := by
  refine FCall.walk Tryd.func96 k96 rfl ?_
  unfold c96
  simp only [go_sem, ↓reduceIte, reduceCtorEq, Nat.reduceEqDiff, Nat.reduceLT, Nat.reduceLeDiff, Nat.reduceAdd, Nat.reduceSub, Nat.reduceMul, Nat.reduceBNe, Nat.reduceBEq, Int.reduceToNat, Int.reduceLE, Int.reduceLT, Int.reduceEq, Int.reduceNe, Int.reduceAdd, Int.reduceSub, Int.reduceNeg, mixed, decide_eq_true_eq, decide_eq_false_iff_not, Bool.not_eq_true', Bool.not_eq_false', List.headD_cons, Option.some.injEq, Int.cast_ofNat_Int]
  refine FCallT.of (valid2_call) ?_
  rintro _ rfl
  simp only [go_sem, ↓reduceIte, reduceCtorEq, Nat.reduceEqDiff, Nat.reduceLT, Nat.reduceLeDiff, Nat.reduceAdd, Nat.reduceSub, Nat.reduceMul, Nat.reduceBNe, Nat.reduceBEq, Int.reduceToNat, Int.reduceLE, Int.reduceLT, Int.reduceEq, Int.reduceNe, Int.reduceAdd, Int.reduceSub, Int.reduceNeg, mixed, decide_eq_true_eq, decide_eq_false_iff_not, Bool.not_eq_true', Bool.not_eq_false', List.headD_cons, Option.some.injEq, Int.cast_ofNat_Int]
  refine ⟨fun h => ?_, fun h => ?_⟩
  · simp [ymd, h]
  refine FWT.loopK [] (fun s : Nat × Int × Int => [(0, .int .i64 s.2.1), (5, .int .i64 s.2.2), (6, .int .i64 1)]) (fun s => s.1) (fun s => yl s.1 s.2.1 s.2.2 = yl 400 d 1900 ∧ 0 ≤ s.2.1 ∧ s.2.1 < 365 * s.1 ∧ s.2.2 + s.1 = 2300 ∧ s.1 ≤ 400) (400, d, 1900) rfl ⟨rfl, h.1, by simp; omega, by simp, by simp⟩ ?_
  rintro ⟨k, d1, y⟩ ⟨g1, g2, g3, g4, g5⟩
  simp only at g1 g2 g3 g4 g5
  have hdy := diy_ge y
  simp only [go_sem, ↓reduceIte, reduceCtorEq, Nat.reduceEqDiff, Nat.reduceLT, Nat.reduceLeDiff, Nat.reduceAdd, Nat.reduceSub, Nat.reduceMul, Nat.reduceBNe, Nat.reduceBEq, Int.reduceToNat, Int.reduceLE, Int.reduceLT, Int.reduceEq, Int.reduceNe, Int.reduceAdd, Int.reduceSub, Int.reduceNeg, mixed, decide_eq_true_eq, decide_eq_false_iff_not, Bool.not_eq_true', Bool.not_eq_false', List.headD_cons, Option.some.injEq, Int.cast_ofNat_Int]
  refine FCallT.of (diy2_call) ?_
  rintro _ rfl
  simp only [go_sem, ↓reduceIte, reduceCtorEq, Nat.reduceEqDiff, Nat.reduceLT, Nat.reduceLeDiff, Nat.reduceAdd, Nat.reduceSub, Nat.reduceMul, Nat.reduceBNe, Nat.reduceBEq, Int.reduceToNat, Int.reduceLE, Int.reduceLT, Int.reduceEq, Int.reduceNe, Int.reduceAdd, Int.reduceSub, Int.reduceNeg, mixed, decide_eq_true_eq, decide_eq_false_iff_not, Bool.not_eq_true', Bool.not_eq_false', List.headD_cons, Option.some.injEq, Int.cast_ofNat_Int]
  refine ⟨fun h1 => ?_, fun h1 => ?_⟩
  · refine FCallT.of (diy2_call) ?_
    rintro _ rfl
    simp only [go_sem, ↓reduceIte, reduceCtorEq, Nat.reduceEqDiff, Nat.reduceLT, Nat.reduceLeDiff, Nat.reduceAdd, Nat.reduceSub, Nat.reduceMul, Nat.reduceBNe, Nat.reduceBEq, Int.reduceToNat, Int.reduceLE, Int.reduceLT, Int.reduceEq, Int.reduceNe, Int.reduceAdd, Int.reduceSub, Int.reduceNeg, mixed, decide_eq_true_eq, decide_eq_false_iff_not, Bool.not_eq_true', Bool.not_eq_false', List.headD_cons, Option.some.injEq, Int.cast_ofNat_Int]
    match k, g1, g3, g4, g5 with
    | 0, _, g3, _, _ => simp at g3; omega
    | k + 1, g1, g3, g4, g5 =>
    refine ⟨(k, d1 - diy y, y + 1), ?_, ⟨?_, ?_, ?_, ?_, ?_⟩, by simp⟩
    · rw [w64 (by unfold I64; omega), w64 (by unfold I64; omega)]
    · rw [← g1]; simp only [yl, if_pos h1]
    all_goals (simp only; omega)
  have hyl : yl 400 d 1900 = (d1, y) := by
    rw [← g1]
    cases k <;> simp [yl, h1]
  refine FWT.loopK [13] (fun s : Nat × Int × Int => [(0, .int .i64 s.2.1), (5, .int .i64 y), (6, .int .i64 s.2.2)]) (fun s => s.1) (fun s => ml s.1 s.2.1 y s.2.2 = ml 13 d1 y 1 ∧ 0 ≤ s.2.1 ∧ s.2.1 < restM y s.2.2 ∧ s.2.2 + s.1 = 14 ∧ 1 ≤ s.2.2 ∧ s.2.2 ≤ 12 ∧ s.2.1 ≤ 366) (13, d1, 1) ?_ ⟨rfl, g2, by simp [restM]; omega, by simp, by simp, by simp, by simp only; omega⟩ ?_
  · simp only [go_sem, ↓reduceIte, reduceCtorEq, Nat.reduceEqDiff, Nat.reduceLT, Nat.reduceLeDiff, Nat.reduceAdd, Nat.reduceSub, Nat.reduceMul, Nat.reduceBNe, Nat.reduceBEq, Int.reduceToNat, Int.reduceLE, Int.reduceLT, Int.reduceEq, Int.reduceNe, Int.reduceAdd, Int.reduceSub, Int.reduceNeg, mixed, decide_eq_true_eq, decide_eq_false_iff_not, Bool.not_eq_true', Bool.not_eq_false', List.headD_cons, Option.some.injEq, Int.cast_ofNat_Int]
  rintro ⟨j, d2, m⟩ ⟨m1, m2, m3, m4, m5, m6, m7⟩
  simp only at m1 m2 m3 m4 m5 m6 m7
  have hst := rest_step (y := y) m5 m6
  simp only [go_sem, ↓reduceIte, reduceCtorEq, Nat.reduceEqDiff, Nat.reduceLT, Nat.reduceLeDiff, Nat.reduceAdd, Nat.reduceSub, Nat.reduceMul, Nat.reduceBNe, Nat.reduceBEq, Int.reduceToNat, Int.reduceLE, Int.reduceLT, Int.reduceEq, Int.reduceNe, Int.reduceAdd, Int.reduceSub, Int.reduceNeg, mixed, decide_eq_true_eq, decide_eq_false_iff_not, Bool.not_eq_true', Bool.not_eq_false', List.headD_cons, Option.some.injEq, Int.cast_ofNat_Int]
  refine FCallT.of (dim2_call) ?_
  rintro _ rfl
  simp only [go_sem, ↓reduceIte, reduceCtorEq, Nat.reduceEqDiff, Nat.reduceLT, Nat.reduceLeDiff, Nat.reduceAdd, Nat.reduceSub, Nat.reduceMul, Nat.reduceBNe, Nat.reduceBEq, Int.reduceToNat, Int.reduceLE, Int.reduceLT, Int.reduceEq, Int.reduceNe, Int.reduceAdd, Int.reduceSub, Int.reduceNeg, mixed, decide_eq_true_eq, decide_eq_false_iff_not, Bool.not_eq_true', Bool.not_eq_false', List.headD_cons, Option.some.injEq, Int.cast_ofNat_Int]
  refine ⟨fun h2 => ?_, fun h2 => ?_⟩
  · refine FCallT.of (dim2_call) ?_
    rintro _ rfl
    simp only [go_sem, ↓reduceIte, reduceCtorEq, Nat.reduceEqDiff, Nat.reduceLT, Nat.reduceLeDiff, Nat.reduceAdd, Nat.reduceSub, Nat.reduceMul, Nat.reduceBNe, Nat.reduceBEq, Int.reduceToNat, Int.reduceLE, Int.reduceLT, Int.reduceEq, Int.reduceNe, Int.reduceAdd, Int.reduceSub, Int.reduceNeg, mixed, decide_eq_true_eq, decide_eq_false_iff_not, Bool.not_eq_true', Bool.not_eq_false', List.headD_cons, Option.some.injEq, Int.cast_ofNat_Int]
    match j, m1, m4 with
    | 0, _, m4 => simp at m4; omega
    | j + 1, m1, m4 =>
    have hm : m + 1 ≤ 12 := by
      rcases Int.lt_or_le 12 (m + 1) with h3 | h3
      · have : m = 12 := by omega
        subst this
        have h13 : restM y (12 + 1) = 0 := hst.2.1
        omega
      · exact h3
    refine ⟨(j, d2 - dim y m, m + 1), ?_, ⟨?_, ?_, ?_, ?_, ?_, ?_, ?_⟩, by simp⟩
    · rw [w64 (by unfold I64; omega), w64 (by unfold I64; omega)]
    · rw [← m1]; simp only [ml, if_pos h2]
    all_goals (simp only; omega)
  have hml : ml 13 d1 y 1 = (d2, m) := by
    rw [← m1]
    cases j <;> simp [ml, h2]
  have hymd : ymd d = (y, m, d2 + 1) := by
    unfold ymd
    rw [if_pos h, hyl]
    simp only [hml]
  rw [hymd, w64 (by unfold I64; omega)]
theorem date2_call {d : Int} : FCall Tryd.prog 83 [.int .i64 d] (· = .str (dateS d)) := by
  refine FCall.walk Tryd.func83 k83 rfl ?_
  unfold c83
  simp only [go_sem, ↓reduceIte, reduceCtorEq, Nat.reduceEqDiff, Nat.reduceLT, Nat.reduceLeDiff, Nat.reduceAdd, Nat.reduceSub, Nat.reduceMul, Nat.reduceBNe, Nat.reduceBEq, Int.reduceToNat, Int.reduceLE, Int.reduceLT, Int.reduceEq, Int.reduceNe, Int.reduceAdd, Int.reduceSub, Int.reduceNeg, mixed, decide_eq_true_eq, decide_eq_false_iff_not, Bool.not_eq_true', Bool.not_eq_false', List.headD_cons, Option.some.injEq, Int.cast_ofNat_Int]
  refine FCallT.of (valid2_call) ?_
  rintro _ rfl
  simp only [go_sem, ↓reduceIte, reduceCtorEq, Nat.reduceEqDiff, Nat.reduceLT, Nat.reduceLeDiff, Nat.reduceAdd, Nat.reduceSub, Nat.reduceMul, Nat.reduceBNe, Nat.reduceBEq, Int.reduceToNat, Int.reduceLE, Int.reduceLT, Int.reduceEq, Int.reduceNe, Int.reduceAdd, Int.reduceSub, Int.reduceNeg, mixed, decide_eq_true_eq, decide_eq_false_iff_not, Bool.not_eq_true', Bool.not_eq_false', List.headD_cons, Option.some.injEq, Int.cast_ofNat_Int]
  refine ⟨fun h => ?_, fun h => ?_⟩
  · simp [dateS, h]
  obtain ⟨b1, b2, b3⟩ := ymd_bd (d := d)
  refine FCallT.of (ymd2_call) ?_
  rintro _ rfl
  simp only [go_sem, ↓reduceIte, reduceCtorEq, Nat.reduceEqDiff, Nat.reduceLT, Nat.reduceLeDiff, Nat.reduceAdd, Nat.reduceSub, Nat.reduceMul, Nat.reduceBNe, Nat.reduceBEq, Int.reduceToNat, Int.reduceLE, Int.reduceLT, Int.reduceEq, Int.reduceNe, Int.reduceAdd, Int.reduceSub, Int.reduceNeg, mixed, decide_eq_true_eq, decide_eq_false_iff_not, Bool.not_eq_true', Bool.not_eq_false', List.headD_cons, Option.some.injEq, Int.cast_ofNat_Int]
  refine FCallT.of (pad2_call (w := 4) b1 (by omega)) ?_
  rintro _ rfl
  simp only [go_sem, ↓reduceIte, reduceCtorEq, Nat.reduceEqDiff, Nat.reduceLT, Nat.reduceLeDiff, Nat.reduceAdd, Nat.reduceSub, Nat.reduceMul, Nat.reduceBNe, Nat.reduceBEq, Int.reduceToNat, Int.reduceLE, Int.reduceLT, Int.reduceEq, Int.reduceNe, Int.reduceAdd, Int.reduceSub, Int.reduceNeg, mixed, decide_eq_true_eq, decide_eq_false_iff_not, Bool.not_eq_true', Bool.not_eq_false', List.headD_cons, Option.some.injEq, Int.cast_ofNat_Int]
  have l1 := padL_len (w := 4) (itoa_len b1) (by omega)
  have l2 := padL_len (w := 2) (itoa_len b2) (by omega)
  have l3 := padL_len (w := 2) (itoa_len b3) (by omega)
  refine ⟨by omega, ?_⟩
  refine FCallT.of (pad2_call (w := 2) b2 (by omega)) ?_
  rintro _ rfl
  simp only [go_sem, ↓reduceIte, reduceCtorEq, Nat.reduceEqDiff, Nat.reduceLT, Nat.reduceLeDiff, Nat.reduceAdd, Nat.reduceSub, Nat.reduceMul, Nat.reduceBNe, Nat.reduceBEq, Int.reduceToNat, Int.reduceLE, Int.reduceLT, Int.reduceEq, Int.reduceNe, Int.reduceAdd, Int.reduceSub, Int.reduceNeg, mixed, decide_eq_true_eq, decide_eq_false_iff_not, Bool.not_eq_true', Bool.not_eq_false', List.headD_cons, Option.some.injEq, Int.cast_ofNat_Int]
  refine ⟨by simp; omega, by simp; omega, ?_⟩
  refine FCallT.of (pad2_call (w := 2) b3 (by omega)) ?_
  rintro _ rfl
  simp only [go_sem, ↓reduceIte, reduceCtorEq, Nat.reduceEqDiff, Nat.reduceLT, Nat.reduceLeDiff, Nat.reduceAdd, Nat.reduceSub, Nat.reduceMul, Nat.reduceBNe, Nat.reduceBEq, Int.reduceToNat, Int.reduceLE, Int.reduceLT, Int.reduceEq, Int.reduceNe, Int.reduceAdd, Int.reduceSub, Int.reduceNeg, mixed, decide_eq_true_eq, decide_eq_false_iff_not, Bool.not_eq_true', Bool.not_eq_false', List.headD_cons, Option.some.injEq, Int.cast_ofNat_Int]
  refine ⟨by simp; omega, ?_⟩
  simp [dateS, h]
end Go.Fx.Tryd
