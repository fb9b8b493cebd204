/- Part of a proof: see the last text of the claim. -/
import Derived.Test.YthfkhokmgolabaaDoorA4
import Derived.Test.YthfkhokmgolabaaDoorA3
import GoSem.ClaimChange
import Derived.Carry
import Derived.RowKit
import Derived.Stop.LaidErr
import Derived.WalkKit
import Derived.ProofKit
import Derived.OpenShut
import Derived.Deep.DeepHandedRow
import Derived.Test.YthfkhokmgolabaaDoorCards
import Derived.Test.YthfkhokmgolabaaDoorTie
set_option linter.unusedVariables false
set_option linter.unusedSimpArgs false
namespace Go.Fx.Tryd
open Go Go.Fm Go.Proofs

def fixedS (n : Int) (k : Nat) : List UInt8 :=
  let t := padL (Lib.decDigits n.natAbs) (k + 1)
  let s := t.take (t.length - k) ++ [46] ++ t.drop (t.length - k)
  if n < 0 then 45 :: s else s
theorem padL_ge (s : List UInt8) (w : Nat) : w ≤ (padL s w).length := by simp [padL]; omega
theorem fixedS_of {n : Int} {k : Nat} {T : List UInt8} (hT : T = padL (Lib.decDigits n.natAbs) (k + 1)) : fixedS n k = if n < 0 then 45 :: (T.take (T.length - k) ++ [46] ++ T.drop (T.length - k)) else T.take (T.length - k) ++ [46] ++ T.drop (T.length - k) := by
  subst hT; rfl
theorem fixed_call {n : Int} {k : Nat} (h : I64 n) (hk : 1 ≤ k ∧ k ≤ 9) : FCall Tryd.prog n_numtext_FormatFixed [.int .i64 n, .int .i64 (k : Int)] (· = .str (fixedS n k)) := by
  obtain ⟨i1, i2⟩ := h
  have hl := dig_len (u := n.natAbs) (by omega)
  have e0 : ((k : Int) = 0) = False := eq_false (by omega)
  have e1 : IntKind.i64.wrap ((k : Int) + 1) = ((k + 1 : Nat) : Int) := by rw [w64 (by unfold I64; omega)]; omega
  obtain ⟨T, hT⟩ : ∃ T, T = padL (Lib.decDigits n.natAbs) (k + 1) := ⟨_, rfl⟩
  have hTl : k + 1 ≤ T.length ∧ T.length ≤ 30 := by
    subst hT
    exact ⟨padL_ge _ _, by simp [padL]; omega⟩
  rw [fixedS_of hT]
  have e3 : IntKind.i64.wrap ((T.length : Int) - (k : Int)) = ((T.length - k : Nat) : Int) := by rw [w64 (by unfold I64; omega)]; omega
  have hfin : T.take (T.length - (T.length - k)) = T.take k := by congr 1; omega
  refine FCall.walk u_numtext_FormatFixed k_numtext_FormatFixed rfl ?_
  unfold c_numtext_FormatFixed
  simp only [go_sem, simprocAttr]
  refine FCallT.of (clamp_call (n := k) (by omega)) ?_
  rintro _ rfl
  simp only [go_sem, simprocAttr, e0]
  refine FCallT.of (fmtInt_call ⟨i1, i2⟩) ?_
  rintro _ rfl
  simp only [go_sem, simprocAttr]
  refine FCallT.of (cut_itoa) ?_
  rintro _ rfl
  simp only [go_sem, simprocAttr, e1]
  rcases Nat.lt_or_ge (Lib.decDigits n.natAbs).length (k + 1) with hs | hs
  · have e2 : IntKind.i64.wrap (((k + 1 : Nat) : Int) - (Lib.decDigits n.natAbs).length) = ((k + 1 - (Lib.decDigits n.natAbs).length : Nat) : Int) := by rw [w64 (by unfold I64; omega)]; omega
    have ht : Lib.repeatL [48] (k + 1 - (Lib.decDigits n.natAbs).length) ++ Lib.decDigits n.natAbs = T := by rw [hT, rep48]; rfl
    have hr : (Lib.repeatL [48] (k + 1 - (Lib.decDigits n.natAbs).length)).length + (Lib.decDigits n.natAbs).length ≤ 9223372036854775807 := by rw [rep48]; simp; omega
    refine ⟨fun _ => ?_, fun hn => absurd (by rw [e2]; omega) hn⟩
    rw [e2]
    refine FCallT.of (repeat_call (by omega) (by simp; omega)) ?_
    rintro _ rfl
    simp only [go_sem, simprocAttr, ht, hr, e3, Int.toNat_natCast]
    have h5 : (T.length - (T.length - k)) = k := by omega
    repeat' (first | apply And.intro | intro _)
    all_goals first | omega | (simp only [List.length_append, List.length_take, List.length_drop, List.length_cons, List.length_nil]; omega) | (rename_i h6; simp [h6, h5, List.take_of_length_le])
  · have e2 : IntKind.i64.wrap (((k + 1 : Nat) : Int) - (Lib.decDigits n.natAbs).length) = (k + 1 : Int) - (Lib.decDigits n.natAbs).length := by rw [w64 (by unfold I64; omega)]; omega
    have ht : Lib.decDigits n.natAbs = T := by
      rw [hT]
      have : k + 1 - (Lib.decDigits n.natAbs).length = 0 := by omega
      simp [padL, this]
    refine ⟨fun hn => absurd hn (by rw [e2]; omega), fun _ => ?_⟩
    rw [ht, e3]
    simp only [Int.toNat_natCast]
    have h5 : (T.length - (T.length - k)) = k := by omega
    repeat' (first | apply And.intro | intro _)
    all_goals first | omega | (simp only [List.length_append, List.length_take, List.length_drop, List.length_cons, List.length_nil]; omega) | (rename_i h6; simp [h6, h5, List.take_of_length_le])
theorem fixed2_call {n : Int} {k : Nat} (h : I64 n) (hk : 1 ≤ k ∧ k ≤ 9) : FCall Tryd.prog n_ref01_FormatFixed [.int .i64 n, .int .i64 (k : Int)] (· = .str (fixedS n k)) := by
  obtain ⟨i1, i2⟩ := h
  have hl := dig_len (u := n.natAbs) (by omega)
  have e0 : ((k : Int) = 0) = False := eq_false (by omega)
  refine FCall.walk u_ref01_FormatFixed k_ref01_FormatFixed rfl ?_
  unfold c_ref01_FormatFixed
  simp only [go_sem, simprocAttr]
  refine FCallT.of (clamp2_call (n := k) (by omega)) ?_
  rintro _ rfl
  simp only [go_sem, simprocAttr, e0]
  refine FCallT.of (fmtInt2_call ⟨i1, i2⟩) ?_
  rintro _ rfl
  simp only [go_sem, simprocAttr]
  refine FCallT.of (sign_call) ?_
  rintro _ rfl
  simp only [go_sem, simprocAttr]
  refine FWT.loopK [] (fun s : List UInt8 => [(5, .int .i64 (k : Int)), (6, .str s), (7, .bool (decide (n < 0)))]) (fun s => k + 1 - s.length) (fun s => padL s (k + 1) = padL (Lib.decDigits n.natAbs) (k + 1) ∧ s.length ≤ 121) (Lib.decDigits n.natAbs) rfl ⟨rfl, by omega⟩ ?_
  rintro s ⟨g1, g2⟩
  simp only [go_sem, simprocAttr]
  refine ⟨fun h1 => ⟨by omega, [48] ++ s, rfl, ⟨?_, ?_⟩, ?_⟩, fun h1 => ?_⟩
  · rw [← g1]
    simp only [padL]
    have e : k + 1 - s.length = (k + 1 - ([48] ++ s).length) + 1 := by simp; omega
    rw [e, List.replicate_succ']
    simp
  · simp; omega
  · simp; omega
  have hT : s = padL (Lib.decDigits n.natAbs) (k + 1) := by
    rw [← g1]
    have : k + 1 - s.length = 0 := by omega
    simp [padL, this]
  have e3 : IntKind.i64.wrap ((s.length : Int) - (k : Int)) = ((s.length - k : Nat) : Int) := by rw [w64 (by unfold I64; omega)]; omega
  rw [fixedS_of hT, e3]
  simp only [Int.toNat_natCast]
  have h5 : (s.length - (s.length - k)) = k := by omega
  clear g1 hT
  repeat' (first | apply And.intro | intro _)
  all_goals first | omega | (simp only [List.length_append, List.length_take, List.length_drop, List.length_cons, List.length_nil]; omega) | (rename_i h6; simp [h6, h5, List.take_of_length_le])
theorem amount_call {n : Int} (h : I64 n) : FCall Tryd.prog n_report_amount [.int .i64 n] (· = .str (fixedS n 2)) := by
  refine FCall.walk u_report_amount k_report_amount rfl ?_
  unfold c_report_amount
  simp only [go_sem, simprocAttr]
  refine FCallT.of (fixed_call (k := 2) h (by omega)) ?_
  rintro _ rfl
  simp only [go_sem, simprocAttr]
theorem amount2_call {n : Int} (h : I64 n) : FCall Tryd.prog n_ref54_amount [.int .i64 n] (· = .str (fixedS n 2)) := by
  refine FCall.walk u_ref54_amount k_ref54_amount rfl ?_
  unfold c_ref54_amount
  simp only [go_sem, simprocAttr]
  refine FCallT.of (fixed2_call (k := 2) h (by omega)) ?_
  rintro _ rfl
  simp only [go_sem, simprocAttr]
theorem fixedS_len {n : Int} {k : Nat} (h : I64 n) (hk : k ≤ 9) : (fixedS n k).length ≤ 40 := by
  obtain ⟨i1, i2⟩ := h
  have hl := dig_len (u := n.natAbs) (by omega)
  unfold fixedS padL
  split <;> simp <;> omega
theorem mvalid_call {d : Int} : FCall Tryd.prog n_month_valid [.int .i64 d] (· = .bool (decide (0 ≤ d ∧ d ≤ 3599))) := by
  refine FCall.walk u_month_valid k_month_valid rfl ?_
  unfold c_month_valid
  simp only [go_sem, simprocAttr]
  constructor <;> intro h <;> simp <;> omega
theorem mvalid2_call {d : Int} : FCall Tryd.prog n_ref07_valid [.int .i64 d] (· = .bool (decide (0 ≤ d ∧ d ≤ 3599))) := by
  refine FCall.walk u_ref07_valid k_ref07_valid rfl ?_
  unfold c_ref07_valid
  simp only [go_sem, simprocAttr]
  constructor <;> intro h <;> simp <;> omega
def monthS (m : Int) : List UInt8 := if 0 ≤ m ∧ m ≤ 3599 then Lib.itoa (1900 + m.tdiv 12) ++ [45] ++ padL (Lib.itoa (m.tmod 12 + 1)) 2 else []
theorem month_call {m : Int} : FCall Tryd.prog n_month_Format [.int .i64 m] (· = .str (monthS m)) := by
  by_cases hm : 0 ≤ m ∧ m ≤ 3599
  · have q : m.tdiv 12 = m / 12 := Int.tdiv_eq_ediv_of_nonneg hm.1
    have r : m.tmod 12 = m % 12 := Int.tmod_eq_emod_of_nonneg hm.1
    have i1 : I64 (m.tmod 12 + 1) := by unfold I64; omega
    have i2 : I64 (1900 + m.tdiv 12) := by unfold I64; omega
    have l1 := itoa_len i1
    have l2 := itoa_len i2
    have i3 : IntKind.i64.wrap (m.tdiv 12) = m.tdiv 12 := w64 (by unfold I64; omega)
    refine FCall.walk u_month_Format k_month_Format rfl ?_
    unfold c_month_Format
    simp only [go_sem, simprocAttr]
    refine FCallT.of (mvalid_call) ?_
    rintro _ rfl
    simp only [go_sem, simprocAttr, hm, i3, w64 i1, w64 i2]
    refine FCallT.of (fmtInt_call i1) ?_
    rintro _ rfl
    simp only [go_sem, simprocAttr, i3, w64 i2]
    refine ⟨fun h => ⟨by omega, ?_⟩, fun h => ?_⟩
    · refine FCallT.of (fmtInt_call i2) ?_
      rintro _ rfl
      simp only [go_sem, simprocAttr]
      have h5 : 2 - (Lib.itoa (m.tmod 12 + 1)).length = 1 := by
        rcases itoa_cases (m.tmod 12 + 1) with h6 | h6
        · omega
        · obtain ⟨c, l, h7, _⟩ := dig_head (m.tmod 12 + 1).natAbs
          have : 0 < (Lib.itoa (m.tmod 12 + 1)).length := by rw [h6.2, h7]; simp
          omega
      refine ⟨by omega, by simp; omega, ?_⟩
      simp [monthS, hm, padL, h5]
    · refine FCallT.of (fmtInt_call i2) ?_
      rintro _ rfl
      simp only [go_sem, simprocAttr]
      have h5 : 2 - (Lib.itoa (m.tmod 12 + 1)).length = 0 := by omega
      refine ⟨by omega, by simp; omega, ?_⟩
      simp [monthS, hm, padL, h5]
  · refine FCall.walk u_month_Format k_month_Format rfl ?_
    unfold c_month_Format
    simp only [go_sem, simprocAttr]
    refine FCallT.of (mvalid_call) ?_
    rintro _ rfl
    simp only [go_sem, simprocAttr, hm]
    simp [monthS, hm]
theorem month2_call {m : Int} : FCall Tryd.prog n_ref07_Format [.int .i64 m] (· = .str (monthS m)) := by
  by_cases hm : 0 ≤ m ∧ m ≤ 3599
  · have q : m.tdiv 12 = m / 12 := Int.tdiv_eq_ediv_of_nonneg hm.1
    have r : m.tmod 12 = m % 12 := Int.tmod_eq_emod_of_nonneg hm.1
    have i1 : I64 (m.tmod 12 + 1) := by unfold I64; omega
    have i2 : I64 (1900 + m.tdiv 12) := by unfold I64; omega
    have l1 := itoa_len i1
    have l2 := itoa_len i2
    have i3 : IntKind.i64.wrap (m.tdiv 12) = m.tdiv 12 := w64 (by unfold I64; omega)
    refine FCall.walk u_ref07_Format k_ref07_Format rfl ?_
    unfold c_ref07_Format
    simp only [go_sem, simprocAttr]
    refine FCallT.of (mvalid2_call) ?_
    rintro _ rfl
    simp only [go_sem, simprocAttr, hm, i3, w64 i1, w64 i2]
    refine FCallT.of (fmtInt2_call i1) ?_
    rintro _ rfl
    simp only [go_sem, simprocAttr, i3, w64 i2]
    refine ⟨fun h => ⟨by omega, ?_⟩, fun h => ?_⟩
    · refine FCallT.of (fmtInt2_call i2) ?_
      rintro _ rfl
      simp only [go_sem, simprocAttr]
      have h5 : 2 - (Lib.itoa (m.tmod 12 + 1)).length = 1 := by
        rcases itoa_cases (m.tmod 12 + 1) with h6 | h6
        · omega
        · obtain ⟨c, l, h7, _⟩ := dig_head (m.tmod 12 + 1).natAbs
          have : 0 < (Lib.itoa (m.tmod 12 + 1)).length := by rw [h6.2, h7]; simp
          omega
      refine ⟨by omega, by simp; omega, ?_⟩
      simp [monthS, hm, padL, h5]
    · refine FCallT.of (fmtInt2_call i2) ?_
      rintro _ rfl
      simp only [go_sem, simprocAttr]
      have h5 : 2 - (Lib.itoa (m.tmod 12 + 1)).length = 0 := by omega
      refine ⟨by omega, by simp; omega, ?_⟩
      simp [monthS, hm, padL, h5]
  · refine FCall.walk u_ref07_Format k_ref07_Format rfl ?_
    unfold c_ref07_Format
    simp only [go_sem, simprocAttr]
    refine FCallT.of (mvalid2_call) ?_
    rintro _ rfl
    simp only [go_sem, simprocAttr, hm]
    simp [monthS, hm]

theorem monthS_len {m : Int} : (monthS m).length ≤ 60 := by
  unfold monthS
  split
  · rename_i hm
    have q : m.tdiv 12 = m / 12 := Int.tdiv_eq_ediv_of_nonneg hm.1
    have r : m.tmod 12 = m % 12 := Int.tmod_eq_emod_of_nonneg hm.1
    have l1 := itoa_len (n := m.tmod 12 + 1) (by unfold I64; omega)
    have l2 := itoa_len (n := 1900 + m.tdiv 12) (by unfold I64; omega)
    simp [padL]; omega
  · simp
def monthT (m : Int) : List UInt8 := if monthS m = [] then [63] else monthS m
theorem monthT_call {m : Int} : FCall Tryd.prog n_report_monthText [.int .i64 m] (· = .str (monthT m)) := by
  refine FCall.walk u_report_monthText k_report_monthText rfl ?_
  unfold c_report_monthText
  simp only [go_sem, simprocAttr]
  refine FCallT.of (month_call) ?_
  rintro _ rfl
  simp only [go_sem, simprocAttr]
  refine FCallT.of (or_call) ?_
  rintro _ rfl
  simp only [go_sem, simprocAttr]
  unfold monthT
  by_cases h : monthS m = [] <;> simp [h]
theorem monthT2_call {m : Int} : FCall Tryd.prog n_ref54_monthText [.int .i64 m] (· = .str (monthT m)) := by
  refine FCall.walk u_ref54_monthText k_ref54_monthText rfl ?_
  unfold c_ref54_monthText
  simp only [go_sem, simprocAttr]
  refine FCallT.of (month2_call) ?_
  rintro _ rfl
  simp only [go_sem, simprocAttr]
  unfold monthT
  refine ⟨fun h => ?_, fun h => ?_⟩ <;> simp [h]
/-- how the two amounts are computed -/
def arrN (b c : Int) : Int := max (IntKind.i64.wrap (b - c)) 0
def overN (b c d : Int) : Int := max (IntKind.i64.wrap (IntKind.i64.wrap (c - b) - d)) 0
theorem arr_call {a b c d : Int} : FCall Tryd.prog n_balance_Arrears [.agg [.int .i64 a, .int .i64 b, .int .i64 c, .int .i64 d]] (· = .int .i64 (arrN b c)) := by
  refine FCall.walk u_balance_Arrears k_balance_Arrears rfl ?_
  unfold c_balance_Arrears
  simp only [go_sem, simprocAttr]
  rfl
theorem arr2_call {a b c d : Int} : FCall Tryd.prog n_ref38_Arrears [.agg [.int .i64 a, .int .i64 b, .int .i64 c, .int .i64 d]] (· = .int .i64 (arrN b c)) := by
  refine FCall.walk u_ref38_Arrears k_ref38_Arrears rfl ?_
  unfold c_ref38_Arrears
  simp only [go_sem, simprocAttr]
  rfl
theorem over_call {a b c d : Int} : FCall Tryd.prog n_balance_Overpayment [.agg [.int .i64 a, .int .i64 b, .int .i64 c, .int .i64 d]] (· = .int .i64 (overN b c d)) := by
  refine FCall.walk u_balance_Overpayment k_balance_Overpayment rfl ?_
  unfold c_balance_Overpayment
  simp only [go_sem, simprocAttr]
  rfl
theorem over2_call {a b c d : Int} : FCall Tryd.prog n_ref38_Overpayment [.agg [.int .i64 a, .int .i64 b, .int .i64 c, .int .i64 d]] (· = .int .i64 (overN b c d)) := by
  refine FCall.walk u_ref38_Overpayment k_ref38_Overpayment rfl ?_
  unfold c_ref38_Overpayment
  simp only [go_sem, simprocAttr]
  rfl
end Go.Fx.Tryd
set_option linter.unusedVariables false
set_option linter.unusedSimpArgs false
namespace Go.Fx.Tryd
open Go Go.Fm Go.Proofs

structure EnumL where
  name : List UInt8
  full : Bool
  members : List (List UInt8)
def EnumL.row (e : EnumL) : List FV := [.str e.name, .sl e.full (strs e.members)]
def enumsV (l : List EnumL) : List (List FV) := l.map EnumL.row
@[go_sem] theorem enumsV_length (l : List EnumL) : (enumsV l).length = l.length := by simp [enumsV]

def validT (k e : Int) (n : Nat) : Bool := if k = 6 then decide (0 ≤ e ∧ e < n) else decide (1 ≤ k ∧ k ≤ 5 ∧ e = 0)
theorem validT_call {k e : Int} {f : Bool} {en : List EnumL} : FCall Tryd.prog n_value_ValidType [.agg [.int .i64 k, .int .i64 e], .sl f (enumsV en)] (· = .bool (validT k e en.length)) := by
  by_cases h : 1 ≤ k ∧ k ≤ 5
  · have hk : k = 1 ∨ k = 2 ∨ k = 3 ∨ k = 4 ∨ k = 5 := by omega
    rcases hk with rfl | rfl | rfl | rfl | rfl
    all_goals
      refine FCall.walk u_value_ValidType k_value_ValidType rfl ?_
      unfold c_value_ValidType
      simp only [go_sem, simprocAttr]
      simp [validT]
  · have e1 : ∀ j : Int, 1 ≤ j → j ≤ 5 → (k = j) = False := fun j h1 h2 => eq_false (by omega)
    refine FCall.walk u_value_ValidType k_value_ValidType rfl ?_
    unfold c_value_ValidType
    simp only [go_sem, simprocAttr, e1 1 (by decide) (by decide), e1 2 (by decide) (by decide), e1 3 (by decide) (by decide), e1 4 (by decide) (by decide), e1 5 (by decide) (by decide)]
    unfold validT
    repeat' (first | apply And.intro | intro _)
    all_goals simp_all
    all_goals omega
theorem validT2_call {k e : Int} {f : Bool} {en : List EnumL} : FCall Tryd.prog n_ref09_ValidType [.agg [.int .i64 k, .int .i64 e], .sl f (enumsV en)] (· = .bool (validT k e en.length)) := by
  refine FCall.walk u_ref09_ValidType k_ref09_ValidType rfl ?_
  unfold c_ref09_ValidType
  simp only [go_sem, simprocAttr]
  unfold validT
  repeat' (first | apply And.intro | intro _)
  all_goals simp_all
  all_goals omega
theorem validT_cases {k e : Int} {n : Nat} (h : validT k e n = true) : (k = 1 ∧ e = 0) ∨ (k = 2 ∧ e = 0) ∨ (k = 3 ∧ e = 0) ∨ (k = 4 ∧ e = 0) ∨ (k = 5 ∧ e = 0) ∨ (k = 6 ∧ ∃ i : Nat, e = i ∧ i < n) := by
  unfold validT at h
  split at h
  · simp at h
    refine .inr (.inr (.inr (.inr (.inr ⟨by assumption, e.toNat, by omega, by omega⟩))))
  · simp at h
    omega
theorem enumsV_get {en : List EnumL} {i : Nat} (h : i < en.length) : (enumsV en)[i]? = some [.str en[i].name, .sl en[i].full (strs en[i].members)] := by
  simp [enumsV, h, EnumL.row]
def boundsV (k e : Int) (en : List EnumL) : Int × Int :=
  if validT k e en.length = false then (0, -1) else if k = 1 then (0, 1) else if k = 2 then (-1000000000000, 1000000000000) else if k = 3 then (-1000000000000000, 1000000000000000) else
    if k = 4 then (-1000000000, 1000000000) else if k = 5 then (0, 109572) else (0, (((en[e.toNat]?).map (·.members.length)).getD 0 : Nat) - 1)
theorem bounds_call {k e : Int} {f : Bool} {en : List EnumL} (hm : ∀ x ∈ en, x.members.length < 2 ^ 40) : FCall Tryd.prog n_value_Bounds [.agg [.int .i64 k, .int .i64 e], .sl f (enumsV en)] (· = .tup [.int .i64 (boundsV k e en).1, .int .i64 (boundsV k e en).2]) := by
  cases hv : validT k e en.length
  · refine FCall.walk u_value_Bounds k_value_Bounds rfl ?_
    unfold c_value_Bounds
    simp only [go_sem, simprocAttr]
    refine FCallT.of (validT_call) ?_
    rintro _ rfl
    simp only [go_sem, simprocAttr, hv]
    simp [boundsV, hv]
  · rcases validT_cases hv with ⟨rfl, rfl⟩ | ⟨rfl, rfl⟩ | ⟨rfl, rfl⟩ | ⟨rfl, rfl⟩ | ⟨rfl, rfl⟩ | ⟨rfl, i, rfl, hi⟩
    case inr.inr.inr.inr.inr =>
      have hx := enumsV_get hi
      have h2 := hm _ (List.getElem_mem hi)
      refine FCall.walk u_value_Bounds k_value_Bounds rfl ?_
      unfold c_value_Bounds
      simp only [go_sem, simprocAttr]
      refine FCallT.of (validT_call) ?_
      rintro _ rfl
      simp only [go_sem, simprocAttr, hv, Int.toNat_natCast, hx]
      simp only [boundsV, hv]
      simp [hi]
      exact w64 (by unfold I64; omega)
    all_goals
      refine FCall.walk u_value_Bounds k_value_Bounds rfl ?_
      unfold c_value_Bounds
      simp only [go_sem, simprocAttr]
      refine FCallT.of (validT_call) ?_
      rintro _ rfl
      simp only [go_sem, simprocAttr, hv]
      simp [boundsV, hv]
theorem bounds2_call {k e : Int} {f : Bool} {en : List EnumL} (hm : ∀ x ∈ en, x.members.length < 2 ^ 40) : FCall Tryd.prog n_ref09_Bounds [.agg [.int .i64 k, .int .i64 e], .sl f (enumsV en)] (· = .tup [.int .i64 (boundsV k e en).1, .int .i64 (boundsV k e en).2]) := by
  cases hv : validT k e en.length
  · refine FCall.walk u_ref09_Bounds k_ref09_Bounds rfl ?_
    unfold c_ref09_Bounds
    simp only [go_sem, simprocAttr]
    refine FCallT.of (validT2_call) ?_
    rintro _ rfl
    simp only [go_sem, simprocAttr, hv]
    simp [boundsV, hv]
  · rcases validT_cases hv with ⟨rfl, rfl⟩ | ⟨rfl, rfl⟩ | ⟨rfl, rfl⟩ | ⟨rfl, rfl⟩ | ⟨rfl, rfl⟩ | ⟨rfl, i, rfl, hi⟩
    case inr.inr.inr.inr.inr =>
      have hx := enumsV_get hi
      have h2 := hm _ (List.getElem_mem hi)
      refine FCall.walk u_ref09_Bounds k_ref09_Bounds rfl ?_
      unfold c_ref09_Bounds
      simp only [go_sem, simprocAttr]
      refine FCallT.of (validT2_call) ?_
      rintro _ rfl
      simp only [go_sem, simprocAttr, hv, Int.toNat_natCast, hx]
      simp only [boundsV, hv]
      simp [hi]
      exact w64 (by unfold I64; omega)
    all_goals
      refine FCall.walk u_ref09_Bounds k_ref09_Bounds rfl ?_
      unfold c_ref09_Bounds
      simp only [go_sem, simprocAttr]
      refine FCallT.of (validT2_call) ?_
      rintro _ rfl
      simp only [go_sem, simprocAttr, hv]
      simp [boundsV, hv]
def inB (n k e : Int) (en : List EnumL) : Bool := decide ((boundsV k e en).1 ≤ n ∧ n ≤ (boundsV k e en).2)
theorem within_call {n k e : Int} {f : Bool} {en : List EnumL} (hm : ∀ x ∈ en, x.members.length < 2 ^ 40) : FCall Tryd.prog n_value_within [.int .i64 n, .agg [.int .i64 k, .int .i64 e], .sl f (enumsV en)] (· = .bool (inB n k e en)) := by
  refine FCall.walk u_value_within k_value_within rfl ?_
  unfold c_value_within
  simp only [go_sem, simprocAttr]
  refine FCallT.of (bounds_call hm) ?_
  rintro _ rfl
  simp only [go_sem, simprocAttr]
  unfold inB
  refine ⟨fun h => ?_, fun h => ?_⟩ <;> simp [h]
theorem in_call {n k e : Int} {f : Bool} {en : List EnumL} (hm : ∀ x ∈ en, x.members.length < 2 ^ 40) : FCall Tryd.prog n_ref09_In [.int .i64 n, .agg [.int .i64 k, .int .i64 e], .sl f (enumsV en)] (· = .bool (inB n k e en)) := by
  refine FCall.walk u_ref09_In k_ref09_In rfl ?_
  unfold c_ref09_In
  simp only [go_sem, simprocAttr]
  refine FCallT.of (bounds2_call hm) ?_
  rintro _ rfl
  simp only [go_sem, simprocAttr]
  unfold inB
  refine ⟨fun h => ?_, fun h => ?_⟩ <;> simp [h]
theorem typeOf_call {k e n : Int} : FCall Tryd.prog n_value_typeOf [.agg [.int .i64 k, .int .i64 e, .int .i64 n]] (· = .agg [.int .i64 k, .int .i64 e]) := by
  refine FCall.walk u_value_typeOf k_value_typeOf rfl ?_
  unfold c_value_typeOf
  simp only [go_sem, simprocAttr]
theorem typeOf2_call {k e n : Int} : FCall Tryd.prog n_ref09_Type [.agg [.int .i64 k, .int .i64 e, .int .i64 n]] (· = .agg [.int .i64 k, .int .i64 e]) := by
  refine FCall.walk u_ref09_Type k_ref09_Type rfl ?_
  unfold c_ref09_Type
  simp only [go_sem, simprocAttr]
theorem bounds_bad {k e : Int} {en : List EnumL} {n : Int} (h : validT k e en.length = false) : inB n k e en = false := by
  simp [inB, boundsV, h]; omega
theorem valid3_call {k e n : Int} {f : Bool} {en : List EnumL} (hm : ∀ x ∈ en, x.members.length < 2 ^ 40) : FCall Tryd.prog n_value_Valid [.agg [.int .i64 k, .int .i64 e, .int .i64 n], .sl f (enumsV en)] (· = .bool (inB n k e en)) := by
  refine FCall.walk u_value_Valid k_value_Valid rfl ?_
  unfold c_value_Valid
  simp only [go_sem, simprocAttr]
  refine detCall_of _ typeOf_call ?_
  simp only [go_sem, simprocAttr]
  refine detCall_of _ (within_call hm) ?_
  simp only [go_sem, simprocAttr]
theorem valid4_call {k e n : Int} {f : Bool} {en : List EnumL} (hm : ∀ x ∈ en, x.members.length < 2 ^ 40) : FCall Tryd.prog n_ref09_Valid [.agg [.int .i64 k, .int .i64 e, .int .i64 n], .sl f (enumsV en)] (· = .bool (inB n k e en)) := by
  refine FCall.walk u_ref09_Valid k_ref09_Valid rfl ?_
  unfold c_ref09_Valid
  simp only [go_sem, simprocAttr]
  refine detCall_of _ typeOf2_call ?_
  simp only [go_sem, simprocAttr]
  refine detCall_of _ validT2_call ?_
  simp only [go_sem, simprocAttr]
  refine ⟨fun h => ?_, fun h => ?_⟩
  · refine detCall_of _ typeOf2_call ?_
    simp only [go_sem, simprocAttr]
    refine detCall_of _ (in_call hm) ?_
    simp only [go_sem, simprocAttr]
  · rw [bounds_bad h]
end Go.Fx.Tryd
set_option linter.unusedVariables false
set_option linter.unusedSimpArgs false
namespace Go.Fx.Tryd
open Go Go.Fm Go.Proofs

def valS (k e n : Int) (en : List EnumL) : List UInt8 × Int :=
  if validT k e en.length = false then ([], 8) else if inB n k e en = false then ([], 3) else
    if k = 1 then (if n = 1 then [116, 114, 117, 101] else [102, 97, 108, 115, 101], 0) else if k = 2 then (Lib.itoa n, 0) else if k = 3 then (fixedS n 2, 0) else
      if k = 4 then (fixedS n 4 ++ [37], 0) else if k = 5 then (dateS n, 0) else ((((en[e.toNat]?).bind fun x => x.members[n.toNat]?).getD []), 0)
theorem inB_bd {k e n : Int} {en : List EnumL} (hm : ∀ x ∈ en, x.members.length < 2 ^ 40) (h : inB n k e en = true) : -1000000000000000 ≤ n ∧ n ≤ 1000000000000000 := by
  unfold inB at h
  simp only [decide_eq_true_eq] at h
  unfold boundsV at h
  have hx : ((((en[e.toNat]?).map (·.members.length)).getD 0 : Nat) : Int) < 2 ^ 40 := by
    cases hg : en[e.toNat]? with
    | none => simp
    | some x => have := hm x (List.mem_of_getElem? hg); simp; omega
  repeat' split at h
  all_goals simp only at h
  all_goals omega
theorem inB_enum {n : Int} {i : Nat} {en : List EnumL} (hi : i < en.length) (h : inB n 6 (i : Int) en = true) : ∃ j : Nat, n = j ∧ j < en[i].members.length := by
  unfold inB at h
  simp only [decide_eq_true_eq] at h
  unfold boundsV at h
  have hv : validT 6 i en.length = true := by simp [validT, hi]
  simp only [hv] at h
  simp [hi] at h
  exact ⟨n.toNat, by omega, by omega⟩
theorem format_call {k e n : Int} {f : Bool} {en : List EnumL} (hm : ∀ x ∈ en, x.members.length < 2 ^ 40) :
    FCall Tryd.prog n_value_Format [.agg [.int .i64 k, .int .i64 e, .int .i64 n], .sl f (enumsV en)] (· = .tup [.str (valS k e n en).1, .int .i64 (valS k e n en).2]) := by
  cases hv : validT k e en.length
  · refine FCall.walk u_value_Format k_value_Format rfl ?_
    unfold c_value_Format
    simp only [go_sem, simprocAttr]
    refine FCallT.of (typeOf_call) ?_
    rintro _ rfl
    simp only [go_sem, simprocAttr]
    refine FCallT.of (validT_call) ?_
    rintro _ rfl
    simp only [go_sem, simprocAttr, hv]
    simp [valS, hv]
  cases hb : inB n k e en
  · refine FCall.walk u_value_Format k_value_Format rfl ?_
    unfold c_value_Format
    simp only [go_sem, simprocAttr]
    refine FCallT.of (typeOf_call) ?_
    rintro _ rfl
    simp only [go_sem, simprocAttr]
    refine FCallT.of (validT_call) ?_
    rintro _ rfl
    simp only [go_sem, simprocAttr, hv]
    refine FCallT.of (valid3_call hm) ?_
    rintro _ rfl
    simp only [go_sem, simprocAttr, hb]
    simp [valS, hv, hb]
  have hn := inB_bd hm hb
  have hI : I64 n := by unfold I64; omega
  rcases validT_cases hv with ⟨rfl, rfl⟩ | ⟨rfl, rfl⟩ | ⟨rfl, rfl⟩ | ⟨rfl, rfl⟩ | ⟨rfl, rfl⟩ | ⟨rfl, i, rfl, hi⟩
  · refine FCall.walk u_value_Format k_value_Format rfl ?_
    unfold c_value_Format
    simp only [go_sem, simprocAttr]
    refine FCallT.of (typeOf_call) ?_
    rintro _ rfl
    simp only [go_sem, simprocAttr]
    refine FCallT.of (validT_call) ?_
    rintro _ rfl
    simp only [go_sem, simprocAttr, hv]
    refine FCallT.of (valid3_call hm) ?_
    rintro _ rfl
    simp only [go_sem, simprocAttr, hb]
    simp only [valS, hv, hb]
    refine ⟨fun h => ?_, fun h => ?_⟩ <;> simp [h]
  · refine FCall.walk u_value_Format k_value_Format rfl ?_
    unfold c_value_Format
    simp only [go_sem, simprocAttr]
    refine FCallT.of (typeOf_call) ?_
    rintro _ rfl
    simp only [go_sem, simprocAttr]
    refine FCallT.of (validT_call) ?_
    rintro _ rfl
    simp only [go_sem, simprocAttr, hv]
    refine FCallT.of (valid3_call hm) ?_
    rintro _ rfl
    simp only [go_sem, simprocAttr, hb]
    refine FCallT.of (fmtInt_call hI) ?_
    rintro _ rfl
    simp only [go_sem, simprocAttr]
    simp [valS, hv, hb]
  · refine FCall.walk u_value_Format k_value_Format rfl ?_
    unfold c_value_Format
    simp only [go_sem, simprocAttr]
    refine FCallT.of (typeOf_call) ?_
    rintro _ rfl
    simp only [go_sem, simprocAttr]
    refine FCallT.of (validT_call) ?_
    rintro _ rfl
    simp only [go_sem, simprocAttr, hv]
    refine FCallT.of (valid3_call hm) ?_
    rintro _ rfl
    simp only [go_sem, simprocAttr, hb]
    refine FCallT.of (fixed_call (k := 2) hI (by omega)) ?_
    rintro _ rfl
    simp only [go_sem, simprocAttr]
    simp [valS, hv, hb]
  · refine FCall.walk u_value_Format k_value_Format rfl ?_
    unfold c_value_Format
    simp only [go_sem, simprocAttr]
    refine FCallT.of (typeOf_call) ?_
    rintro _ rfl
    simp only [go_sem, simprocAttr]
    refine FCallT.of (validT_call) ?_
    rintro _ rfl
    simp only [go_sem, simprocAttr, hv]
    refine FCallT.of (valid3_call hm) ?_
    rintro _ rfl
    simp only [go_sem, simprocAttr, hb]
    refine FCallT.of (fixed_call (k := 4) hI (by omega)) ?_
    rintro _ rfl
    simp only [go_sem, simprocAttr]
    have := fixedS_len (k := 4) hI (by omega)
    refine ⟨by omega, ?_⟩
    simp [valS, hv, hb]
  · refine FCall.walk u_value_Format k_value_Format rfl ?_
    unfold c_value_Format
    simp only [go_sem, simprocAttr]
    refine FCallT.of (typeOf_call) ?_
    rintro _ rfl
    simp only [go_sem, simprocAttr]
    refine FCallT.of (validT_call) ?_
    rintro _ rfl
    simp only [go_sem, simprocAttr, hv]
    refine FCallT.of (valid3_call hm) ?_
    rintro _ rfl
    simp only [go_sem, simprocAttr, hb]
    refine FCallT.of (date_call) ?_
    rintro _ rfl
    simp only [go_sem, simprocAttr]
    simp [valS, hv, hb]
  · obtain ⟨j, rfl, hj⟩ := inB_enum hi hb
    have hx := enumsV_get hi
    have hy := strs_get hj
    refine FCall.walk u_value_Format k_value_Format rfl ?_
    unfold c_value_Format
    simp only [go_sem, simprocAttr]
    refine FCallT.of (typeOf_call) ?_
    rintro _ rfl
    simp only [go_sem, simprocAttr]
    refine FCallT.of (validT_call) ?_
    rintro _ rfl
    simp only [go_sem, simprocAttr, hv]
    refine FCallT.of (valid3_call hm) ?_
    rintro _ rfl
    simp only [go_sem, simprocAttr, hb, Int.toNat_natCast, hx, hy]
    simp [valS, hv, hb, hi, hj]
theorem format2_call {k e n : Int} {f : Bool} {en : List EnumL} (hm : ∀ x ∈ en, x.members.length < 2 ^ 40) :
    FCall Tryd.prog n_ref09_Format [.agg [.int .i64 k, .int .i64 e, .int .i64 n], .sl f (enumsV en)] (· = .tup [.str (valS k e n en).1, .int .i64 (valS k e n en).2]) := by
  cases hv : validT k e en.length
  · refine FCall.walk u_ref09_Format k_ref09_Format rfl ?_
    unfold c_ref09_Format
    simp only [go_sem, simprocAttr]
    refine FCallT.of (typeOf2_call) ?_
    rintro _ rfl
    simp only [go_sem, simprocAttr]
    refine FCallT.of (validT2_call) ?_
    rintro _ rfl
    simp only [go_sem, simprocAttr, hv]
    simp [valS, hv]
  cases hb : inB n k e en
  · refine FCall.walk u_ref09_Format k_ref09_Format rfl ?_
    unfold c_ref09_Format
    simp only [go_sem, simprocAttr]
    refine FCallT.of (typeOf2_call) ?_
    rintro _ rfl
    simp only [go_sem, simprocAttr]
    refine FCallT.of (validT2_call) ?_
    rintro _ rfl
    simp only [go_sem, simprocAttr, hv]
    refine FCallT.of (valid4_call hm) ?_
    rintro _ rfl
    simp only [go_sem, simprocAttr, hb]
    simp [valS, hv, hb]
  have hn := inB_bd hm hb
  have hI : I64 n := by unfold I64; omega
  rcases validT_cases hv with ⟨rfl, rfl⟩ | ⟨rfl, rfl⟩ | ⟨rfl, rfl⟩ | ⟨rfl, rfl⟩ | ⟨rfl, rfl⟩ | ⟨rfl, i, rfl, hi⟩
  · refine FCall.walk u_ref09_Format k_ref09_Format rfl ?_
    unfold c_ref09_Format
    simp only [go_sem, simprocAttr]
    refine FCallT.of (typeOf2_call) ?_
    rintro _ rfl
    simp only [go_sem, simprocAttr]
    refine FCallT.of (validT2_call) ?_
    rintro _ rfl
    simp only [go_sem, simprocAttr, hv]
    refine FCallT.of (valid4_call hm) ?_
    rintro _ rfl
    simp only [go_sem, simprocAttr, hb]
    have h01 : n = 0 ∨ n = 1 := by
      simp [inB, boundsV, hv] at hb
      omega
    simp only [valS, hv, hb]
    refine ⟨fun h => ?_, fun h => ?_⟩
    · simp [h]
    · have : n = 1 := by omega
      simp [this]
  · refine FCall.walk u_ref09_Format k_ref09_Format rfl ?_
    unfold c_ref09_Format
    simp only [go_sem, simprocAttr]
    refine FCallT.of (typeOf2_call) ?_
    rintro _ rfl
    simp only [go_sem, simprocAttr]
    refine FCallT.of (validT2_call) ?_
    rintro _ rfl
    simp only [go_sem, simprocAttr, hv]
    refine FCallT.of (valid4_call hm) ?_
    rintro _ rfl
    simp only [go_sem, simprocAttr, hb]
    refine FCallT.of (fmtInt2_call hI) ?_
    rintro _ rfl
    simp only [go_sem, simprocAttr]
    simp [valS, hv, hb]
  · refine FCall.walk u_ref09_Format k_ref09_Format rfl ?_
    unfold c_ref09_Format
    simp only [go_sem, simprocAttr]
    refine FCallT.of (typeOf2_call) ?_
    rintro _ rfl
    simp only [go_sem, simprocAttr]
    refine FCallT.of (validT2_call) ?_
    rintro _ rfl
    simp only [go_sem, simprocAttr, hv]
    refine FCallT.of (valid4_call hm) ?_
    rintro _ rfl
    simp only [go_sem, simprocAttr, hb]
    refine FCallT.of (fixed2_call (k := 2) hI (by omega)) ?_
    rintro _ rfl
    simp only [go_sem, simprocAttr]
    simp [valS, hv, hb]
  · refine FCall.walk u_ref09_Format k_ref09_Format rfl ?_
    unfold c_ref09_Format
    simp only [go_sem, simprocAttr]
    refine FCallT.of (typeOf2_call) ?_
    rintro _ rfl
    simp only [go_sem, simprocAttr]
    refine FCallT.of (validT2_call) ?_
    rintro _ rfl
    simp only [go_sem, simprocAttr, hv]
    refine FCallT.of (valid4_call hm) ?_
    rintro _ rfl
    simp only [go_sem, simprocAttr, hb]
    refine FCallT.of (fixed2_call (k := 4) hI (by omega)) ?_
    rintro _ rfl
    simp only [go_sem, simprocAttr]
    have := fixedS_len (k := 4) hI (by omega)
    refine ⟨by omega, ?_⟩
    simp [valS, hv, hb]
  · refine FCall.walk u_ref09_Format k_ref09_Format rfl ?_
    unfold c_ref09_Format
    simp only [go_sem, simprocAttr]
    refine FCallT.of (typeOf2_call) ?_
    rintro _ rfl
    simp only [go_sem, simprocAttr]
    refine FCallT.of (validT2_call) ?_
    rintro _ rfl
    simp only [go_sem, simprocAttr, hv]
    refine FCallT.of (valid4_call hm) ?_
    rintro _ rfl
    simp only [go_sem, simprocAttr, hb]
    refine FCallT.of (date2_call) ?_
    rintro _ rfl
    simp only [go_sem, simprocAttr]
    simp [valS, hv, hb]
  · obtain ⟨j, rfl, hj⟩ := inB_enum hi hb
    have hx := enumsV_get hi
    have hy := strs_get hj
    refine FCall.walk u_ref09_Format k_ref09_Format rfl ?_
    unfold c_ref09_Format
    simp only [go_sem, simprocAttr]
    refine FCallT.of (typeOf2_call) ?_
    rintro _ rfl
    simp only [go_sem, simprocAttr]
    refine FCallT.of (validT2_call) ?_
    rintro _ rfl
    simp only [go_sem, simprocAttr, hv]
    refine FCallT.of (valid4_call hm) ?_
    rintro _ rfl
    simp only [go_sem, simprocAttr, hb, Int.toNat_natCast, hx, hy]
    simp [valS, hv, hb, hi, hj]
def valT (k e n : Int) (en : List EnumL) : List UInt8 := if (valS k e n en).2 = 0 then (valS k e n en).1 else [63]
theorem valT_call {k e n : Int} {f : Bool} {en : List EnumL} (hm : ∀ x ∈ en, x.members.length < 2 ^ 40) :
    FCall Tryd.prog n_ref54_valueText [.agg [.int .i64 k, .int .i64 e, .int .i64 n], .sl f (enumsV en)] (· = .str (valT k e n en)) := by
  refine FCall.walk u_ref54_valueText k_ref54_valueText rfl ?_
  unfold c_ref54_valueText
  simp only [go_sem, simprocAttr]
  refine FCallT.of (format2_call hm) ?_
  rintro _ rfl
  simp only [go_sem, simprocAttr]
  unfold valT
  refine ⟨fun h => ?_, fun h => ?_⟩ <;> simp [h]
end Go.Fx.Tryd
set_option linter.unusedVariables false
set_option linter.unusedSimpArgs false
namespace Go.Fx.Tryd
open Go Go.Fm Go.Proofs

structure PostL where
  d : Int
  m : Int
  k : Int
  c : Int
def PostL.row (p : PostL) : List FV := [.int .i64 p.d, .int .i64 p.m, .int .i64 p.k, .int .i64 p.c]
def postsV (l : List PostL) : List (List FV) := l.map PostL.row
@[go_sem] theorem postsV_length (l : List PostL) : (postsV l).length = l.length := by simp [postsV]
theorem postsV_get {l : List PostL} {i : Nat} (h : i < l.length) : (postsV l)[i]? = some [.int .i64 l[i].d, .int .i64 l[i].m, .int .i64 l[i].k, .int .i64 l[i].c] := by simp [postsV, h, PostL.row]
def postS (p : PostL) : List UInt8 := valT 5 0 p.d [] ++ [32] ++ monthT p.m ++ [32] ++ kindS p.k ++ [32] ++ fixedS p.c 2
theorem dateS_len {d : Int} : (dateS d).length ≤ 80 := by
  unfold dateS
  split
  · obtain ⟨b1, b2, b3⟩ := ymd_bd (d := d)
    have l1 := padL_len (w := 4) (itoa_len b1) (by omega)
    have l2 := padL_len (w := 2) (itoa_len b2) (by omega)
    have l3 := padL_len (w := 2) (itoa_len b3) (by omega)
    simp; omega
  · simp
theorem valT_date_len {d : Int} : (valT 5 0 d []).length ≤ 80 := by
  have := dateS_len (d := d)
  unfold valT valS
  repeat' split
  all_goals simp only [List.length_nil, List.length_cons] at *
  all_goals first | omega | contradiction
theorem monthT_len {m : Int} : (monthT m).length ≤ 60 := by
  have := monthS_len (m := m)
  unfold monthT; split <;> simp; omega
theorem kindS_len {k : Int} : (kindS k).length ≤ 20 := by unfold kindS; repeat' split
                                                          all_goals simp
theorem take_map_snoc {α β : Type} {l : List α} {i : Nat} (g : α → β) (h : i < l.length) : (l.take (i + 1)).map g = (l.take i).map g ++ [g l[i]] := by
  rw [List.take_succ_eq_append_getElem h, List.map_append]; rfl
theorem posts_call {f : Bool} {l : List PostL} (hl : l.length < 2 ^ 40) (hI : ∀ p ∈ l, I64 p.c) : FCall Tryd.prog n_report_Postings [.sl f (postsV l)] (· = .arr (strs (l.map postS))) := by
  refine FCall.walk u_report_Postings k_report_Postings rfl ?_
  unfold c_report_Postings
  simp only [go_sem, simprocAttr]
  refine FWT.loopK [0, 11] (fun i : Nat => [(3, .arr (strs ((l.take i).map postS))), (8, .sl f (postsV l)), (9, .int .i64 l.length), (10, .int .i64 i)]) (fun i => l.length - i) (fun i => i ≤ l.length) 0 ?_ (by omega) ?_
  · simp only [go_sem, simprocAttr]
    rfl
  intro i hi
  rcases Nat.lt_or_ge i l.length with h | h
  · have c1 : ((i : Int) < (l.length : Int)) = True := eq_true (by omega)
    have hx := postsV_get h
    have ho : (if (valS 5 0 l[i].d []).2 = 0 then (valS 5 0 l[i].d []).1 else [63]) = valT 5 0 l[i].d [] := rfl
    simp only [go_sem, simprocAttr, c1, Int.toNat_natCast, hx]
    refine FCallT.of (format_call (en := []) (by simp)) ?_
    rintro _ rfl
    simp only [go_sem, simprocAttr]
    refine detCall_of _ (or_call) ?_
    simp only [go_sem, simprocAttr, ho]
    have l1 := valT_date_len (d := l[i].d)
    refine ⟨by omega, ?_⟩
    refine detCall_of _ (monthT_call) ?_
    simp only [go_sem, simprocAttr]
    have l2 := monthT_len (m := l[i].m)
    refine ⟨by simp; omega, by simp; omega, ?_⟩
    refine detCall_of _ (kind_call) ?_
    simp only [go_sem, simprocAttr]
    have l3 := kindS_len (k := l[i].k)
    refine ⟨by simp; omega, by simp; omega, ?_⟩
    refine detCall_of _ (amount_call (hI _ (List.getElem_mem h))) ?_
    simp only [go_sem, simprocAttr]
    have l4 := fixedS_len (k := 2) (hI _ (List.getElem_mem h)) (by omega)
    refine ⟨by simp; omega, by simp; omega, i + 1, ?_, by omega, by omega⟩
    rw [w64 (by unfold I64; omega), take_map_snoc postS h, ← strs_snoc]
    rfl
  · have c1 : ((i : Int) < (l.length : Int)) = False := eq_false (by omega)
    simp only [go_sem, simprocAttr, c1]
    rw [List.take_of_length_le h]
theorem posts2_call {f : Bool} {l : List PostL} (hl : l.length < 2 ^ 40) (hI : ∀ p ∈ l, I64 p.c) : FCall Tryd.prog n_ref54_Postings [.sl f (postsV l)] (· = .arr (strs (l.map postS))) := by
  refine FCall.walk u_ref54_Postings k_ref54_Postings rfl ?_
  unfold c_ref54_Postings
  simp only [go_sem, simprocAttr]
  refine FWT.loopK [10] (fun i : Nat => [(0, .sl f (postsV l)), (3, .arr (strs ((l.take i).map postS))), (4, .int .i64 i)]) (fun i => l.length - i) (fun i => i ≤ l.length) 0 ?_ (by omega) ?_
  · simp only [go_sem, simprocAttr]
    rfl
  intro i hi
  rcases Nat.lt_or_ge i l.length with h | h
  · have c1 : ((i : Int) < (l.length : Int)) = True := eq_true (by omega)
    have hx := postsV_get h
    have ho : (if (valS 5 0 l[i].d []).2 = 0 then (valS 5 0 l[i].d []).1 else [63]) = valT 5 0 l[i].d [] := rfl
    simp only [go_sem, simprocAttr, c1, Int.toNat_natCast, hx]
    refine FCallT.of (valT_call (en := []) (by simp)) ?_
    rintro _ rfl
    simp only [go_sem, simprocAttr]
    have l1 := valT_date_len (d := l[i].d)
    refine ⟨by omega, ?_⟩
    refine detCall_of _ (monthT2_call) ?_
    simp only [go_sem, simprocAttr]
    have l2 := monthT_len (m := l[i].m)
    refine ⟨by simp; omega, by simp; omega, ?_⟩
    refine detCall_of _ (kind2_call) ?_
    simp only [go_sem, simprocAttr]
    have l3 := kindS_len (k := l[i].k)
    refine ⟨by simp; omega, by simp; omega, ?_⟩
    refine detCall_of _ (amount2_call (hI _ (List.getElem_mem h))) ?_
    simp only [go_sem, simprocAttr]
    have l4 := fixedS_len (k := 2) (hI _ (List.getElem_mem h)) (by omega)
    refine ⟨by simp; omega, by simp; omega, i + 1, ?_, by omega, by omega⟩
    rw [w64 (by unfold I64; omega), take_map_snoc postS h, ← strs_snoc]
    rfl
  · have c1 : ((i : Int) < (l.length : Int)) = False := eq_false (by omega)
    simp only [go_sem, simprocAttr, c1]
    rw [List.take_of_length_le h]
end Go.Fx.Tryd
set_option linter.unusedVariables false
set_option linter.unusedSimpArgs false
namespace Go.Fx.Tryd
open Go Go.Fm Go.Proofs

structure BalL where
  m : Int
  d : Int
  r : Int
  w : Int
def BalL.row (p : BalL) : List FV := [.int .i64 p.m, .int .i64 p.d, .int .i64 p.r, .int .i64 p.w]
def balsV (l : List BalL) : List (List FV) := l.map BalL.row
@[go_sem] theorem balsV_length (l : List BalL) : (balsV l).length = l.length := by simp [balsV]
theorem balsV_get {l : List BalL} {i : Nat} (h : i < l.length) : (balsV l)[i]? = some [.int .i64 l[i].m, .int .i64 l[i].d, .int .i64 l[i].r, .int .i64 l[i].w] := by simp [balsV, h, BalL.row]
theorem wrap_range (n : Int) : I64 (IntKind.i64.wrap n) := by
  unfold I64
  simp only [IntKind.wrap, IntKind.bits, IntKind.signed]
  have e : (2 ^ 64 : Int) = 18446744073709551616 := by decide
  have e2 : (2 ^ (64 - 1) : Int) = 9223372036854775808 := by decide
  simp only [e, e2, Bool.true_and, decide_eq_true_eq]
  split <;> rename_i hc <;> omega
theorem arr_range (b c : Int) : I64 (arrN b c) := by
  have := wrap_range (b - c)
  unfold I64 at *; unfold arrN; omega
theorem over_range (b c d : Int) : I64 (overN b c d) := by
  have := wrap_range (IntKind.i64.wrap (c - b) - d)
  unfold I64 at *; unfold overN; omega
def balS (p : BalL) : List UInt8 := monthT p.m ++ [32, 100, 117, 101, 32] ++ fixedS p.d 2 ++ [32, 114, 101, 99, 101, 105, 118, 101, 100, 32] ++ fixedS p.r 2 ++ [32, 119, 97, 105, 118, 101, 100, 32] ++ fixedS p.w 2 ++
  [32, 97, 114, 114, 101, 97, 114, 115, 32] ++ fixedS (arrN p.d p.r) 2 ++ [32, 111, 118, 101, 114, 112, 97, 121, 109, 101, 110, 116, 32] ++ fixedS (overN p.d p.r p.w) 2
def BalL.ok (p : BalL) : Prop := I64 p.d ∧ I64 p.r ∧ I64 p.w
theorem bals_call {f : Bool} {l : List BalL} (hl : l.length < 2 ^ 40) (hI : ∀ p ∈ l, p.ok) : FCall Tryd.prog n_report_Balances [.sl f (balsV l)] (· = .arr (strs (l.map balS))) := by
  refine FCall.walk u_report_Balances k_report_Balances rfl ?_
  unfold c_report_Balances
  simp only [go_sem, simprocAttr]
  refine FWT.loopK [0, 9] (fun i : Nat => [(3, .arr (strs ((l.take i).map balS))), (6, .sl f (balsV l)), (7, .int .i64 l.length), (8, .int .i64 i)]) (fun i => l.length - i) (fun i => i ≤ l.length) 0 ?_ (by omega) ?_
  · simp only [go_sem, simprocAttr]
    rfl
  intro i hi
  rcases Nat.lt_or_ge i l.length with h | h
  · have c1 : ((i : Int) < (l.length : Int)) = True := eq_true (by omega)
    have hx := balsV_get h
    obtain ⟨h1, h2, h3⟩ := hI _ (List.getElem_mem h)
    have l1 := monthT_len (m := l[i].m)
    have l2 := fixedS_len (k := 2) h1 (by omega)
    have l3 := fixedS_len (k := 2) h2 (by omega)
    have l4 := fixedS_len (k := 2) h3 (by omega)
    have l5 := fixedS_len (k := 2) (arr_range l[i].d l[i].r) (by omega)
    have l6 := fixedS_len (k := 2) (over_range l[i].d l[i].r l[i].w) (by omega)
    simp only [go_sem, simprocAttr, c1, Int.toNat_natCast, hx]
    refine detCall_of _ (monthT_call) ?_
    simp only [go_sem, simprocAttr]
    refine ⟨by first | omega | (simp; omega), ?_⟩
    refine detCall_of _ (amount_call h1) ?_
    simp only [go_sem, simprocAttr]
    refine ⟨by first | omega | (simp; omega), by first | omega | (simp; omega), ?_⟩
    refine detCall_of _ (amount_call h2) ?_
    simp only [go_sem, simprocAttr]
    refine ⟨by first | omega | (simp; omega), by first | omega | (simp; omega), ?_⟩
    refine detCall_of _ (amount_call h3) ?_
    simp only [go_sem, simprocAttr]
    refine ⟨by first | omega | (simp; omega), by first | omega | (simp; omega), ?_⟩
    refine detCall_of _ (arr_call) ?_
    simp only [go_sem, simprocAttr]
    refine detCall_of _ (amount_call (arr_range _ _)) ?_
    simp only [go_sem, simprocAttr]
    refine ⟨by first | omega | (simp; omega), by first | omega | (simp; omega), ?_⟩
    refine detCall_of _ (over_call) ?_
    simp only [go_sem, simprocAttr]
    refine detCall_of _ (amount_call (over_range _ _ _)) ?_
    simp only [go_sem, simprocAttr]
    refine ⟨by first | omega | (simp; omega), by first | omega | (simp; omega), i + 1, ?_, by omega, by omega⟩
    rw [w64 (by unfold I64; omega), take_map_snoc balS h, ← strs_snoc]
    rfl
  · have c1 : ((i : Int) < (l.length : Int)) = False := eq_false (by omega)
    simp only [go_sem, simprocAttr, c1]
    rw [List.take_of_length_le h]
theorem bals2_call {f : Bool} {l : List BalL} (hl : l.length < 2 ^ 40) (hI : ∀ p ∈ l, p.ok) : FCall Tryd.prog n_ref54_Balances [.sl f (balsV l)] (· = .arr (strs (l.map balS))) := by
  refine FCall.walk u_ref54_Balances k_ref54_Balances rfl ?_
  unfold c_ref54_Balances
  simp only [go_sem, simprocAttr]
  refine FWT.loopK [9] (fun i : Nat => [(0, .sl f (balsV l)), (3, .arr (strs ((l.take i).map balS))), (4, .int .i64 i)]) (fun i => l.length - i) (fun i => i ≤ l.length) 0 ?_ (by omega) ?_
  · simp only [go_sem, simprocAttr]
    rfl
  intro i hi
  rcases Nat.lt_or_ge i l.length with h | h
  · have c1 : ((i : Int) < (l.length : Int)) = True := eq_true (by omega)
    have hx := balsV_get h
    obtain ⟨h1, h2, h3⟩ := hI _ (List.getElem_mem h)
    have l1 := monthT_len (m := l[i].m)
    have l2 := fixedS_len (k := 2) h1 (by omega)
    have l3 := fixedS_len (k := 2) h2 (by omega)
    have l4 := fixedS_len (k := 2) h3 (by omega)
    have l5 := fixedS_len (k := 2) (arr_range l[i].d l[i].r) (by omega)
    have l6 := fixedS_len (k := 2) (over_range l[i].d l[i].r l[i].w) (by omega)
    simp only [go_sem, simprocAttr, c1, Int.toNat_natCast, hx]
    refine detCall_of _ (monthT2_call) ?_
    simp only [go_sem, simprocAttr]
    refine ⟨by first | omega | (simp; omega), ?_⟩
    refine detCall_of _ (amount2_call h1) ?_
    simp only [go_sem, simprocAttr]
    refine ⟨by first | omega | (simp; omega), by first | omega | (simp; omega), ?_⟩
    refine detCall_of _ (amount2_call h2) ?_
    simp only [go_sem, simprocAttr]
    refine ⟨by first | omega | (simp; omega), by first | omega | (simp; omega), ?_⟩
    refine detCall_of _ (amount2_call h3) ?_
    simp only [go_sem, simprocAttr]
    refine ⟨by first | omega | (simp; omega), by first | omega | (simp; omega), ?_⟩
    refine detCall_of _ (arr2_call) ?_
    simp only [go_sem, simprocAttr]
    refine detCall_of _ (amount2_call (arr_range _ _)) ?_
    simp only [go_sem, simprocAttr]
    refine ⟨by first | omega | (simp; omega), by first | omega | (simp; omega), ?_⟩
    refine detCall_of _ (over2_call) ?_
    simp only [go_sem, simprocAttr]
    refine detCall_of _ (amount2_call (over_range _ _ _)) ?_
    simp only [go_sem, simprocAttr]
    refine ⟨by first | omega | (simp; omega), by first | omega | (simp; omega), i + 1, ?_, by omega, by omega⟩
    rw [w64 (by unfold I64; omega), take_map_snoc balS h, ← strs_snoc]
    rfl
  · have c1 : ((i : Int) < (l.length : Int)) = False := eq_false (by omega)
    simp only [go_sem, simprocAttr, c1]
    rw [List.take_of_length_le h]
end Go.Fx.Tryd
set_option linter.unusedVariables false
set_option linter.unusedSimpArgs false
namespace Go.Fx.Tryd
open Go Go.Fm Go.Proofs

structure NodeL where
  op : Int
  n : Int
def NodeL.row (x : NodeL) : List FV := [.int .i64 x.op, .int .i64 x.n]
structure FieldL where
  name : List UInt8
  k : Int
  e : Int
def FieldL.row (x : FieldL) : List FV := [.str x.name, .int .i64 x.k, .int .i64 x.e]
structure RuleL where
  name : List UInt8
  d : Int
  p : Int
  pr : Int
  f : Int
  t : Int
  gfull : Bool
  guard : List NodeL
  vfull : Bool
  value : List NodeL
  src : List UInt8
def nodesV (l : List NodeL) : List (List FV) := l.map NodeL.row
def RuleL.row (x : RuleL) : List FV := [.str x.name, .int .i64 x.d, .int .i64 x.p, .int .i64 x.pr, .int .i64 x.f, .int .i64 x.t, .sl x.gfull (nodesV x.guard), .sl x.vfull (nodesV x.value), .str x.src]
structure RowL where
  f : Int
  t : Int
  lo : Int
  hi : Int
  n : Int
def RowL.row (x : RowL) : List FV := [.int .i64 x.f, .int .i64 x.t, .int .i64 x.lo, .int .i64 x.hi, .int .i64 x.n]
structure TableL where
  name : List UInt8
  kk : Int
  ke : Int
  vk : Int
  ve : Int
  rfull : Bool
  rows : List RowL
def rowsV (l : List RowL) : List (List FV) := l.map RowL.row
def TableL.row (x : TableL) : List FV := [.str x.name, .int .i64 x.kk, .int .i64 x.ke, .int .i64 x.vk, .int .i64 x.ve, .sl x.rfull (rowsV x.rows)]
def fieldsV (l : List FieldL) : List (List FV) := l.map FieldL.row
def rulesV (l : List RuleL) : List (List FV) := l.map RuleL.row
structure ScopeL where
  name : List UInt8
  ms : Int
  ifull : Bool
  inputs : List FieldL
  dfull : Bool
  defs : List FieldL
  rfull : Bool
  rules : List RuleL
def ScopeL.row (x : ScopeL) : List FV := [.str x.name, .int .i64 x.ms, .sl x.ifull (fieldsV x.inputs), .sl x.dfull (fieldsV x.defs), .sl x.rfull (rulesV x.rules)]
def tablesV (l : List TableL) : List (List FV) := l.map TableL.row
def scopesV (l : List ScopeL) : List (List FV) := l.map ScopeL.row
structure LawL where
  efull : Bool
  enums : List EnumL
  tfull : Bool
  tables : List TableL
  sfull : Bool
  scopes : List ScopeL
def LawL.row (x : LawL) : List FV := [.sl x.efull (enumsV x.enums), .sl x.tfull (tablesV x.tables), .sl x.sfull (scopesV x.scopes)]
@[go_sem] theorem nodesV_length (l : List NodeL) : (nodesV l).length = l.length := by simp [nodesV]
@[go_sem] theorem fieldsV_length (l : List FieldL) : (fieldsV l).length = l.length := by simp [fieldsV]
@[go_sem] theorem rulesV_length (l : List RuleL) : (rulesV l).length = l.length := by simp [rulesV]
@[go_sem] theorem rowsV_length (l : List RowL) : (rowsV l).length = l.length := by simp [rowsV]
@[go_sem] theorem tablesV_length (l : List TableL) : (tablesV l).length = l.length := by simp [tablesV]
@[go_sem] theorem scopesV_length (l : List ScopeL) : (scopesV l).length = l.length := by simp [scopesV]
theorem fieldsV_get {l : List FieldL} {i : Nat} (h : i < l.length) : (fieldsV l)[i]? = some l[i].row := by simp [fieldsV, h]
theorem rulesV_get {l : List RuleL} {i : Nat} (h : i < l.length) : (rulesV l)[i]? = some l[i].row := by simp [rulesV, h]
theorem tablesV_get {l : List TableL} {i : Nat} (h : i < l.length) : (tablesV l)[i]? = some l[i].row := by simp [tablesV, h]
theorem rowsV_get {l : List RowL} {i : Nat} (h : i < l.length) : (rowsV l)[i]? = some l[i].row := by simp [rowsV, h]
theorem scopesV_get {l : List ScopeL} {i : Nat} (h : i < l.length) : (scopesV l)[i]? = some l[i].row := by simp [scopesV, h]

def noScope : ScopeL := ⟨[], -1, true, [], true, [], true, []⟩
def inR (i : Int) (n : Nat) : Bool := decide (0 ≤ i ∧ i < n)
def scopeAtL (l : List ScopeL) (i : Int) : ScopeL := if 0 ≤ i then (l[i.toNat]?).getD noScope else noScope
theorem inR_cases {i : Int} {n : Nat} : (i < 0 ∧ inR i n = false) ∨ (¬ i < 0 ∧ (n : Int) ≤ i ∧ inR i n = false) ∨ (∃ j : Nat, i = j ∧ j < n ∧ inR i n = true) := by
  unfold inR
  by_cases h1 : i < 0
  · exact .inl ⟨h1, by simp; omega⟩
  · by_cases h2 : (n : Int) ≤ i
    · exact .inr (.inl ⟨h1, h2, by simp; omega⟩)
    · exact .inr (.inr ⟨i.toNat, by omega, by omega, by simp; omega⟩)
theorem scopeAtL_lo {l : List ScopeL} {i : Int} (h : i < 0) : scopeAtL l i = noScope := by unfold scopeAtL; rw [if_neg (by omega)]
theorem scopeAtL_hi {l : List ScopeL} {i : Int} (h : (l.length : Int) ≤ i) : scopeAtL l i = noScope := by
  unfold scopeAtL; rw [if_pos (by omega), List.getElem?_eq_none (by omega)]; rfl
theorem scopeAtL_in {l : List ScopeL} {j : Nat} (h : j < l.length) : scopeAtL l (j : Int) = l[j] := by
  unfold scopeAtL; rw [if_pos (by omega), Int.toNat_natCast, List.getElem?_eq_getElem h]; rfl
theorem scopeAt_call {l : LawL} {i : Int} : FCall Tryd.prog n_report_scopeAt [.agg l.row, .int .i64 i] (· = .tup [.agg (scopeAtL l.scopes i).row, .bool (inR i l.scopes.length)]) := by
  rcases inR_cases (i := i) (n := l.scopes.length) with ⟨h1, h2⟩ | ⟨h1, h2, h3⟩ | ⟨j, rfl, h2, h3⟩
  · rw [h2, scopeAtL_lo h1]
    refine FCall.walk u_report_scopeAt k_report_scopeAt rfl ?_
    unfold c_report_scopeAt
    simp only [go_sem, simprocAttr, LawL.row, h1]
    rfl
  · rw [h3, scopeAtL_hi h2]
    refine FCall.walk u_report_scopeAt k_report_scopeAt rfl ?_
    unfold c_report_scopeAt
    simp only [go_sem, simprocAttr, LawL.row, h1, h2]
    rfl
  · have hx := scopesV_get h2
    have h4 : ¬ (l.scopes.length : Int) ≤ (j : Int) := by omega
    have h5 : ¬ (j : Int) < 0 := by omega
    rw [h3, scopeAtL_in h2]
    refine FCall.walk u_report_scopeAt k_report_scopeAt rfl ?_
    unfold c_report_scopeAt
    simp only [go_sem, simprocAttr, LawL.row, hx, h4, h5, Int.toNat_natCast, ScopeL.row]
theorem scopeAt2_call {l : LawL} {i : Int} : FCall Tryd.prog n_ref54_scopeAt [.agg l.row, .int .i64 i] (· = .agg (scopeAtL l.scopes i).row) := by
  rcases inR_cases (i := i) (n := l.scopes.length) with ⟨h1, h2⟩ | ⟨h1, h2, h3⟩ | ⟨j, rfl, h2, h3⟩
  · rw [scopeAtL_lo h1]
    refine FCall.walk u_ref54_scopeAt k_ref54_scopeAt rfl ?_
    unfold c_ref54_scopeAt
    simp only [go_sem, simprocAttr, LawL.row, h1]
    rfl
  · rw [scopeAtL_hi h2]
    refine FCall.walk u_ref54_scopeAt k_ref54_scopeAt rfl ?_
    unfold c_ref54_scopeAt
    simp only [go_sem, simprocAttr, LawL.row, h1, h2]
    rfl
  · have hx := scopesV_get h2
    have h4 : ¬ (l.scopes.length : Int) ≤ (j : Int) := by omega
    have h5 : ¬ (j : Int) < 0 := by omega
    rw [scopeAtL_in h2]
    refine FCall.walk u_ref54_scopeAt k_ref54_scopeAt rfl ?_
    unfold c_ref54_scopeAt
    simp only [go_sem, simprocAttr, LawL.row, hx, h4, h5, Int.toNat_natCast, ScopeL.row]
def memberL (l : List ScopeL) (i : Int) : ScopeL := scopeAtL l (scopeAtL l i).ms
theorem member_call {l : LawL} {i : Int} : FCall Tryd.prog n_report_memberScope [.agg l.row, .int .i64 i] (· = .agg (memberL l.scopes i).row) := by
  refine FCall.walk u_report_memberScope k_report_memberScope rfl ?_
  unfold c_report_memberScope
  simp only [go_sem, simprocAttr, LawL.row]
  refine FCallT.of (scopeAt_call) ?_
  rintro _ rfl
  simp only [go_sem, simprocAttr, ScopeL.row, LawL.row]
  refine ⟨fun h => ?_, fun h => ?_⟩
  · have : scopeAtL l.scopes i = noScope := by
      rcases inR_cases (i := i) (n := l.scopes.length) with ⟨h1, h2⟩ | ⟨h1, h2, h3⟩ | ⟨j, rfl, h2, h3⟩
      · exact scopeAtL_lo h1
      · exact scopeAtL_hi h2
      · rw [h3] at h; cases h
    unfold memberL
    rw [this]
    rfl
  · refine FCallT.of (scopeAt_call) ?_
    rintro _ rfl
    simp only [go_sem, simprocAttr, ScopeL.row, LawL.row]
    rfl
def fieldName (l : List FieldL) (i : Int) : List UInt8 := if 0 ≤ i then ((l[i.toNat]?).map (·.name)).getD [63] else [63]
def ruleNameL (l : List RuleL) (i : Int) : List UInt8 := if 0 ≤ i then ((l[i.toNat]?).map (·.name)).getD [63] else [63]
theorem defName_call {s : ScopeL} {i : Int} : FCall Tryd.prog n_report_defName [.agg s.row, .int .i64 i] (· = .str (fieldName s.defs i)) := by
  rcases inR_cases (i := i) (n := s.defs.length) with ⟨h1, h2⟩ | ⟨h1, h2, h3⟩ | ⟨j, rfl, h2, h3⟩
  · refine FCall.walk u_report_defName k_report_defName rfl ?_
    unfold c_report_defName
    simp only [go_sem, simprocAttr, ScopeL.row, h1]
    unfold fieldName; rw [if_neg (by omega)]
  · refine FCall.walk u_report_defName k_report_defName rfl ?_
    unfold c_report_defName
    simp only [go_sem, simprocAttr, ScopeL.row, h1, h2]
    unfold fieldName; rw [if_pos (by omega), List.getElem?_eq_none (by omega)]; rfl
  · have hx := fieldsV_get h2
    have h4 : ¬ (s.defs.length : Int) ≤ (j : Int) := by omega
    have h5 : ¬ (j : Int) < 0 := by omega
    refine FCall.walk u_report_defName k_report_defName rfl ?_
    unfold c_report_defName
    simp only [go_sem, simprocAttr, ScopeL.row, hx, h4, h5, Int.toNat_natCast, FieldL.row]
    simp [fieldName, h2]
theorem ruleName_call {s : ScopeL} {i : Int} : FCall Tryd.prog n_report_ruleName [.agg s.row, .int .i64 i] (· = .str (ruleNameL s.rules i)) := by
  rcases inR_cases (i := i) (n := s.rules.length) with ⟨h1, h2⟩ | ⟨h1, h2, h3⟩ | ⟨j, rfl, h2, h3⟩
  · refine FCall.walk u_report_ruleName k_report_ruleName rfl ?_
    unfold c_report_ruleName
    simp only [go_sem, simprocAttr, ScopeL.row, h1]
    unfold ruleNameL; rw [if_neg (by omega)]
  · refine FCall.walk u_report_ruleName k_report_ruleName rfl ?_
    unfold c_report_ruleName
    simp only [go_sem, simprocAttr, ScopeL.row, h1, h2]
    unfold ruleNameL; rw [if_pos (by omega), List.getElem?_eq_none (by omega)]; rfl
  · have hx := rulesV_get h2
    have h4 : ¬ (s.rules.length : Int) ≤ (j : Int) := by omega
    have h5 : ¬ (j : Int) < 0 := by omega
    refine FCall.walk u_report_ruleName k_report_ruleName rfl ?_
    unfold c_report_ruleName
    simp only [go_sem, simprocAttr, ScopeL.row, hx, h4, h5, Int.toNat_natCast, RuleL.row]
    simp [ruleNameL, h2]
theorem defName2_call {s : ScopeL} {i : Int} : FCall Tryd.prog n_ref54_defName [.agg s.row, .int .i64 i] (· = .str (fieldName s.defs i)) := by
  rcases inR_cases (i := i) (n := s.defs.length) with ⟨h1, h2⟩ | ⟨h1, h2, h3⟩ | ⟨j, rfl, h2, h3⟩
  · refine FCall.walk u_ref54_defName k_ref54_defName rfl ?_
    unfold c_ref54_defName
    simp only [go_sem, simprocAttr, ScopeL.row, h1]
    unfold fieldName; rw [if_neg (by omega)]
  · refine FCall.walk u_ref54_defName k_ref54_defName rfl ?_
    unfold c_ref54_defName
    simp only [go_sem, simprocAttr, ScopeL.row, h1, h2]
    unfold fieldName; rw [if_pos (by omega), List.getElem?_eq_none (by omega)]; rfl
  · have hx := fieldsV_get h2
    have h4 : ¬ (s.defs.length : Int) ≤ (j : Int) := by omega
    have h5 : ¬ (j : Int) < 0 := by omega
    refine FCall.walk u_ref54_defName k_ref54_defName rfl ?_
    unfold c_ref54_defName
    simp only [go_sem, simprocAttr, ScopeL.row, hx, h4, h5, Int.toNat_natCast, FieldL.row]
    simp [fieldName, h2]
theorem ruleName2_call {s : ScopeL} {i : Int} : FCall Tryd.prog n_ref54_ruleName [.agg s.row, .int .i64 i] (· = .str (ruleNameL s.rules i)) := by
  rcases inR_cases (i := i) (n := s.rules.length) with ⟨h1, h2⟩ | ⟨h1, h2, h3⟩ | ⟨j, rfl, h2, h3⟩
  · refine FCall.walk u_ref54_ruleName k_ref54_ruleName rfl ?_
    unfold c_ref54_ruleName
    simp only [go_sem, simprocAttr, ScopeL.row, h1]
    unfold ruleNameL; rw [if_neg (by omega)]
  · refine FCall.walk u_ref54_ruleName k_ref54_ruleName rfl ?_
    unfold c_ref54_ruleName
    simp only [go_sem, simprocAttr, ScopeL.row, h1, h2]
    unfold ruleNameL; rw [if_pos (by omega), List.getElem?_eq_none (by omega)]; rfl
  · have hx := rulesV_get h2
    have h4 : ¬ (s.rules.length : Int) ≤ (j : Int) := by omega
    have h5 : ¬ (j : Int) < 0 := by omega
    refine FCall.walk u_ref54_ruleName k_ref54_ruleName rfl ?_
    unfold c_ref54_ruleName
    simp only [go_sem, simprocAttr, ScopeL.row, hx, h4, h5, Int.toNat_natCast, RuleL.row]
    simp [ruleNameL, h2]
end Go.Fx.Tryd
set_option linter.unusedVariables false
set_option linter.unusedSimpArgs false
namespace Go.Fx.Tryd
open Go Go.Fm Go.Proofs

structure ValL where
  k : Int
  e : Int
  n : Int
def ValL.row (x : ValL) : List FV := [.int .i64 x.k, .int .i64 x.e, .int .i64 x.n]
def valsV (l : List ValL) : List (List FV) := l.map ValL.row
def intsV (l : List Int) : List (List FV) := l.map fun n => [.int .i64 n]
@[go_sem] theorem valsV_length (l : List ValL) : (valsV l).length = l.length := by simp [valsV]
@[go_sem] theorem intsV_length (l : List Int) : (intsV l).length = l.length := by simp [intsV]
theorem valsV_get {l : List ValL} {i : Nat} (h : i < l.length) : (valsV l)[i]? = some [.int .i64 l[i].k, .int .i64 l[i].e, .int .i64 l[i].n] := by simp [valsV, h, ValL.row]
theorem intsV_get {l : List Int} {i : Nat} (h : i < l.length) : (intsV l)[i]? = some [.int .i64 l[i]] := by simp [intsV, h]

/-- names of moderate size -/
def enumsOk (en : List EnumL) : Prop := ∀ x ∈ en, x.members.length < 2 ^ 40 ∧ ∀ m ∈ x.members, m.length ≤ 1099511627776
def scopeOk (s : ScopeL) : Prop := (∀ x ∈ s.defs, x.name.length ≤ 1099511627776) ∧ (∀ x ∈ s.rules, x.name.length ≤ 1099511627776)
theorem fieldName_len {l : List FieldL} {i : Int} (h : ∀ x ∈ l, x.name.length ≤ 1099511627776) : (fieldName l i).length ≤ 1099511627776 := by
  unfold fieldName
  split
  · cases hg : l[i.toNat]? with
    | none => simp
    | some x => have := h x (List.mem_of_getElem? hg); simpa using this
  · simp
theorem ruleName_len {l : List RuleL} {i : Int} (h : ∀ x ∈ l, x.name.length ≤ 1099511627776) : (ruleNameL l i).length ≤ 1099511627776 := by
  unfold ruleNameL
  split
  · cases hg : l[i.toNat]? with
    | none => simp
    | some x => have := h x (List.mem_of_getElem? hg); simpa using this
  · simp
theorem valT_len {k e n : Int} {en : List EnumL} (h : enumsOk en) : (valT k e n en).length ≤ 1099511627776 := by
  unfold valT
  split
  · unfold valS
    split
    · simp
    split
    · simp
    rename_i hv hb
    have hb : inB n k e en = true := by simpa using hb
    have hn := inB_bd (fun x hx => (h x hx).1) hb
    have hI : I64 n := by unfold I64; omega
    have l1 := itoa_len hI
    have l2 := fixedS_len (k := 2) hI (by omega)
    have l3 := fixedS_len (k := 4) hI (by omega)
    have l4 := dateS_len (d := n)
    split
    · simp only; split <;> simp
    split
    · simp only; omega
    split
    · simp only; omega
    split
    · simp only [List.length_append, List.length_cons, List.length_nil]; omega
    split
    · simp only; omega
    · simp only
      cases hg : en[e.toNat]? with
      | none => simp
      | some x =>
        simp only [Option.bind_some]
        cases hg2 : x.members[n.toNat]? with
        | none => simp
        | some y => simpa using (h x (List.mem_of_getElem? hg)).2 y (List.mem_of_getElem? hg2)
  · simp
def lineS (en : List EnumL) (s : ScopeL) (pre : List UInt8) (i : Nat) (v : ValL) (r : Int) : List UInt8 :=
  pre ++ fieldName s.defs i ++ [32, 61, 32] ++ valT v.k v.e v.n en ++ [32, 98, 121, 32] ++ ruleNameL s.rules r
def linesS (en : List EnumL) (s : ScopeL) (pre : List UInt8) (vs : List ValL) (rs : List Int) (n : Nat) : List (List UInt8) :=
  (List.range n).map fun i => lineS en s pre i ((vs[i]?).getD ⟨0, 0, 0⟩) ((rs[i]?).getD (-1))
theorem linesS_succ {en : List EnumL} {s : ScopeL} {pre : List UInt8} {vs : List ValL} {rs : List Int} {i : Nat} (h : i < vs.length) : linesS en s pre vs rs (i + 1) = linesS en s pre vs rs i ++ [lineS en s pre i vs[i] ((rs[i]?).getD (-1))] := by
  simp [linesS, List.range_succ, h]
theorem linesS_length {en : List EnumL} {s : ScopeL} {pre : List UInt8} {vs : List ValL} {rs : List Int} {n : Nat} : (linesS en s pre vs rs n).length = n := by simp [linesS]
theorem lines_call {l : LawL} {s : ScopeL} {pre : List UInt8} {vf rf : Bool} {vs : List ValL} {rs : List Int} (he : enumsOk l.enums) (hs : scopeOk s) (hp : pre.length ≤ 1099511627776) (hv : vs.length < 2 ^ 40) (hr : rs.length < 2 ^ 40) :
    FCall Tryd.prog n_report_lines [.agg l.row, .agg s.row, .str pre, .sl vf (valsV vs), .sl rf (intsV rs)] (· = .arr (strs (linesS l.enums s pre vs rs vs.length))) := by
  refine FCall.walk u_report_lines k_report_lines rfl ?_
  unfold c_report_lines
  simp only [go_sem, simprocAttr, LawL.row, ScopeL.row]
  refine FWT.loopK [3, 20] (fun i : Nat => [(2, .str pre), (4, .sl rf (intsV rs)), (5, .box l.row), (6, .box s.row), (11, .arr (strs (linesS l.enums s pre vs rs i))), (17, .sl vf (valsV vs)), (18, .int .i64 vs.length), (19, .int .i64 i)]) (fun i => vs.length - i) (fun i => i ≤ vs.length) 0 ?_ (by omega) ?_
  · simp only [go_sem, simprocAttr]
    rfl
  intro i hi
  rcases Nat.lt_or_ge i vs.length with h | h
  · have c1 : ((i : Int) < (vs.length : Int)) = True := eq_true (by omega)
    have hx := valsV_get h
    have l1 := fieldName_len (i := (i : Int)) hs.1
    have l3 := valT_len (k := vs[i].k) (e := vs[i].e) (n := vs[i].n) he
    have ho : (if (valS vs[i].k vs[i].e vs[i].n l.enums).2 = 0 then (valS vs[i].k vs[i].e vs[i].n l.enums).1 else [63]) = valT vs[i].k vs[i].e vs[i].n l.enums := rfl
    rcases Nat.lt_or_ge i rs.length with h2 | h2
    · have c2 : ((i : Int) < (rs.length : Int)) = True := eq_true (by omega)
      have hy := intsV_get h2
      have l2 := ruleName_len (i := rs[i]) hs.2
      simp only [go_sem, simprocAttr, LawL.row, ScopeL.row, c1, Int.toNat_natCast, hx]
      refine FCallT.of (format_call (fun x hx => (he x hx).1)) ?_
      rintro _ rfl
      simp only [go_sem, simprocAttr, c2, Int.toNat_natCast, hy]
      refine detCall_of _ (ruleName_call (s := s)) ?_
      simp only [go_sem, simprocAttr]
      refine FCallT.of (defName_call (s := s)) ?_
      rintro _ rfl
      simp only [go_sem, simprocAttr]
      refine ⟨by first | omega | (simp; omega), by first | omega | (simp; omega), ?_⟩
      refine FCallT.of (or_call) ?_
      rintro _ rfl
      simp only [go_sem, simprocAttr, ho]
      refine ⟨by first | omega | (simp only [List.length_append, List.length_cons, List.length_nil]; omega), by first | omega | (simp only [List.length_append, List.length_cons, List.length_nil]; omega), by first | omega | (simp only [List.length_append, List.length_cons, List.length_nil]; omega), by rw [linesS_length]; omega, i + 1, ?_, by omega, by omega⟩
      rw [w64 (by unfold I64; omega), linesS_succ h, ← strs_snoc]
      have e : (rs[i]?).getD (-1) = rs[i] := by simp [h2]
      rw [e]
      rfl
    · have c2 : ((i : Int) < (rs.length : Int)) = False := eq_false (by omega)
      simp only [go_sem, simprocAttr, LawL.row, ScopeL.row, c1, Int.toNat_natCast, hx]
      refine FCallT.of (format_call (fun x hx => (he x hx).1)) ?_
      rintro _ rfl
      simp only [go_sem, simprocAttr, c2, Int.toNat_natCast]
      refine FCallT.of (defName_call (s := s)) ?_
      rintro _ rfl
      simp only [go_sem, simprocAttr]
      refine ⟨by first | omega | (simp; omega), by first | omega | (simp; omega), ?_⟩
      refine FCallT.of (or_call) ?_
      rintro _ rfl
      simp only [go_sem, simprocAttr, ho]
      refine ⟨by first | omega | (simp only [List.length_append, List.length_cons, List.length_nil]; omega), by first | omega | (simp only [List.length_append, List.length_cons, List.length_nil]; omega), by first | omega | (simp only [List.length_append, List.length_cons, List.length_nil]; omega), by rw [linesS_length]; omega, i + 1, ?_, by omega, by omega⟩
      rw [w64 (by unfold I64; omega), linesS_succ h, ← strs_snoc]
      have e : (rs[i]?).getD (-1) = -1 := by simp [h2]
      rw [e]
      rfl
  · have c1 : ((i : Int) < (vs.length : Int)) = False := eq_false (by omega)
    simp only [go_sem, simprocAttr, c1]
    rw [show i = vs.length by omega]
end Go.Fx.Tryd
set_option linter.unusedVariables false
set_option linter.unusedSimpArgs false
namespace Go.Fx.Tryd
open Go Go.Fm Go.Proofs

theorem lines2_call {l : LawL} {s : ScopeL} {pre : List UInt8} {vf rf : Bool} {vs : List ValL} {rs : List Int} {o : List (List UInt8)} (he : enumsOk l.enums) (hs : scopeOk s) (hp : pre.length ≤ 1099511627776) (hv : vs.length < 2 ^ 40) (hr : rs.length < 2 ^ 40)
    (hol : o.length ≤ 4398046511104) :
    FCall Tryd.prog n_ref54_lines [.arr (strs o), .str pre, .agg l.row, .agg s.row, .sl vf (valsV vs), .sl rf (intsV rs)] (· = .arr (strs (o ++ linesS l.enums s pre vs rs vs.length))) := by
  refine FCall.walk u_ref54_lines k_ref54_lines rfl ?_
  unfold c_ref54_lines
  simp only [go_sem, simprocAttr, LawL.row, ScopeL.row]
  refine FWT.loopK [2, 3, 12, 18, 14] (fun i : Nat => [(0, .arr (strs (o ++ linesS l.enums s pre vs rs i))), (1, .str pre), (4, .sl vf (valsV vs)), (5, .sl rf (intsV rs)), (8, .box l.row), (9, .box s.row), (13, .int .i64 i)]) (fun i => vs.length - i) (fun i => i ≤ vs.length) 0 ?_ (by omega) ?_
  · simp only [go_sem, simprocAttr, linesS, List.range_zero]
    rfl
  intro i hi
  rcases Nat.lt_or_ge i vs.length with h | h
  · have c1 : ((i : Int) < (vs.length : Int)) = True := eq_true (by omega)
    have hx := valsV_get h
    have l1 := fieldName_len (i := (i : Int)) hs.1
    have l3 := valT_len (k := vs[i].k) (e := vs[i].e) (n := vs[i].n) he
    have key : ∀ r : Int, r = (rs[i]?).getD (-1) → (pre ++ fieldName s.defs ↑i ++ [32, 61, 32] ++ valT vs[i].k vs[i].e vs[i].n l.enums ++ [32, 98, 121, 32] ++ ruleNameL s.rules r) = lineS l.enums s pre i vs[i] ((rs[i]?).getD (-1)) := fun r e => by subst e; rfl
    rcases Nat.lt_or_ge i rs.length with h2 | h2
    · have c2 : ((i : Int) < (rs.length : Int)) = True := eq_true (by omega)
      have hy := intsV_get h2
      have l2 := ruleName_len (i := rs[i]) hs.2
      simp only [go_sem, simprocAttr, LawL.row, ScopeL.row, c1, c2, Int.toNat_natCast, hx, hy]
      refine detCall_of _ (defName2_call (s := s)) ?_
      simp only [go_sem, simprocAttr, Int.toNat_natCast, hx]
      refine ⟨by first | omega | (simp; omega), by first | omega | (simp; omega), ?_⟩
      refine detCall_of _ (valT_call (fun x hx => (he x hx).1)) ?_
      simp only [go_sem, simprocAttr]
      refine ⟨by first | omega | (simp only [List.length_append, List.length_cons, List.length_nil]; omega), by first | omega | (simp only [List.length_append, List.length_cons, List.length_nil]; omega), ?_⟩
      refine detCall_of _ (ruleName2_call (s := s)) ?_
      simp only [go_sem, simprocAttr]
      refine ⟨by first | omega | (simp only [List.length_append, List.length_cons, List.length_nil]; omega), by simp only [List.length_append, linesS_length]; omega, i + 1, ?_, by omega, by omega⟩
      rw [w64 (by unfold I64; omega), linesS_succ h, ← List.append_assoc, ← strs_snoc, key rs[i] (by simp [h2])]
      rfl
    · have c2 : ((i : Int) < (rs.length : Int)) = False := eq_false (by omega)
      have l2 := ruleName_len (i := -1) hs.2
      simp only [go_sem, simprocAttr, LawL.row, ScopeL.row, c1, c2, Int.toNat_natCast, hx]
      refine detCall_of _ (defName2_call (s := s)) ?_
      simp only [go_sem, simprocAttr, Int.toNat_natCast, hx]
      refine ⟨by first | omega | (simp; omega), by first | omega | (simp; omega), ?_⟩
      refine detCall_of _ (valT_call (fun x hx => (he x hx).1)) ?_
      simp only [go_sem, simprocAttr]
      refine ⟨by first | omega | (simp only [List.length_append, List.length_cons, List.length_nil]; omega), by first | omega | (simp only [List.length_append, List.length_cons, List.length_nil]; omega), ?_⟩
      refine detCall_of _ (ruleName2_call (s := s)) ?_
      simp only [go_sem, simprocAttr]
      refine ⟨by first | omega | (simp only [List.length_append, List.length_cons, List.length_nil]; omega), by simp only [List.length_append, linesS_length]; omega, i + 1, ?_, by omega, by omega⟩
      rw [w64 (by unfold I64; omega), linesS_succ h, ← List.append_assoc, ← strs_snoc, key (-1) (by simp [h2])]
      rfl
  · have c1 : ((i : Int) < (vs.length : Int)) = False := eq_false (by omega)
    simp only [go_sem, simprocAttr, c1]
    rw [show i = vs.length by omega]
end Go.Fx.Tryd
set_option linter.unusedVariables false
set_option linter.unusedSimpArgs false
namespace Go.Fx.Tryd
open Go Go.Fm Go.Proofs

structure MemL where
  vf : Bool
  vals : List ValL
  rf : Bool
  rules : List Int
def MemL.row (x : MemL) : List FV := [.sl x.vf (valsV x.vals), .sl x.rf (intsV x.rules)]
def memsV (l : List MemL) : List (List FV) := l.map MemL.row
@[go_sem] theorem memsV_length (l : List MemL) : (memsV l).length = l.length := by simp [memsV]
theorem memsV_get {l : List MemL} {i : Nat} (h : i < l.length) : (memsV l)[i]? = some [.sl l[i].vf (valsV l[i].vals), .sl l[i].rf (intsV l[i].rules)] := by simp [memsV, h, MemL.row]
structure ResL where
  vf : Bool
  vals : List ValL
  rf : Bool
  rules : List Int
  mf : Bool
  mems : List MemL
def ResL.row (x : ResL) : List FV := [.sl x.vf (valsV x.vals), .sl x.rf (intsV x.rules), .sl x.mf (memsV x.mems)]
def ResL.ok (r : ResL) : Prop := r.vals.length ≤ 1048576 ∧ r.rules.length ≤ 1048576 ∧ r.mems.length ≤ 1048576 ∧ ∀ x ∈ r.mems, x.vals.length ≤ 1048576 ∧ x.rules.length ≤ 1048576
def LawL.ok (l : LawL) : Prop := enumsOk l.enums ∧ ∀ s ∈ l.scopes, scopeOk s
theorem scopeAt_ok {l : LawL} (h : l.ok) (i : Int) : scopeOk (scopeAtL l.scopes i) := by
  have no : scopeOk noScope := ⟨by simp [noScope], by simp [noScope]⟩
  rcases inR_cases (i := i) (n := l.scopes.length) with ⟨h1, h2⟩ | ⟨h1, h2, h3⟩ | ⟨j, rfl, h2, h3⟩
  · rw [scopeAtL_lo h1]; exact no
  · rw [scopeAtL_hi h2]; exact no
  · rw [scopeAtL_in h2]; exact h.2 _ (List.getElem_mem h2)
def preS (m : Nat) : List UInt8 := [109, 101, 109, 98, 101, 114, 32] ++ Lib.itoa m ++ [58, 32]
def memLines (l : LawL) (sc : Int) (ms : List MemL) (n : Nat) : List (List UInt8) :=
  (List.range n).flatMap fun m => linesS l.enums (memberL l.scopes sc) (preS m) (((ms[m]?).map (·.vals)).getD []) (((ms[m]?).map (·.rules)).getD []) (((ms[m]?).map (·.vals)).getD []).length
def resultS (l : LawL) (sc : Int) (r : ResL) : List (List UInt8) :=
  linesS l.enums (scopeAtL l.scopes sc) [] r.vals r.rules r.vals.length ++ memLines l sc r.mems r.mems.length
theorem memLines_succ {l : LawL} {sc : Int} {ms : List MemL} {m : Nat} (h : m < ms.length) : memLines l sc ms (m + 1) = memLines l sc ms m ++ linesS l.enums (memberL l.scopes sc) (preS m) ms[m].vals ms[m].rules ms[m].vals.length := by
  simp [memLines, List.range_succ, h]
theorem memLines_len {l : LawL} {sc : Int} {ms : List MemL} (hm : ∀ x ∈ ms, x.vals.length ≤ 1048576) : ∀ {n : Nat}, n ≤ ms.length → (memLines l sc ms n).length ≤ n * 1048576
  | 0, _ => by simp [memLines]
  | n + 1, h => by
    rw [memLines_succ h, List.length_append, linesS_length]
    have := memLines_len (l := l) (sc := sc) hm (n := n) (by omega)
    have := hm _ (List.getElem_mem h)
    omega
theorem preS_len {m : Nat} (h : m ≤ 1048576) : (preS m).length ≤ 40 := by
  have := itoa_len (n := m) (by unfold I64; omega)
  simp [preS]; omega
theorem strs_append (a b : List (List UInt8)) : strs a ++ strs b = strs (a ++ b) := by simp [strs]
theorem result_call {l : LawL} {sc : Int} {r : ResL} (hl : l.ok) (hr : r.ok) : FCall Tryd.prog n_report_Result [.agg l.row, .int .i64 sc, .agg r.row] (· = .arr (strs (resultS l sc r))) := by
  obtain ⟨r1, r2, r3, r4⟩ := hr
  refine FCall.walk u_report_Result k_report_Result rfl ?_
  unfold c_report_Result
  simp only [go_sem, simprocAttr, LawL.row, ResL.row]
  refine FCallT.of (scopeAt_call (l := l)) ?_
  rintro _ rfl
  simp only [go_sem, simprocAttr, ScopeL.row]
  refine FCallT.of (lines_call (l := l) (s := scopeAtL l.scopes sc) hl.1 (scopeAt_ok hl sc) (by simp) (by omega) (by omega)) ?_
  rintro _ rfl
  simp only [go_sem, simprocAttr, LawL.row, ScopeL.row]
  refine FWT.loopK [29] (fun m : Nat => [(1, .int .i64 sc), (3, .box l.row), (5, .box r.row), (9, .arr (strs (linesS l.enums (scopeAtL l.scopes sc) [] r.vals r.rules r.vals.length ++ memLines l sc r.mems m))), (25, .ptr 5 [(0, 2)]), (26, .sl r.mf (memsV r.mems)), (27, .int .i64 r.mems.length), (28, .int .i64 m)]) (fun m => r.mems.length - m) (fun m => m ≤ r.mems.length) 0 ?_ (by omega) ?_
  · simp only [go_sem, simprocAttr, memLines, List.range_zero]
    simp [LawL.row, ResL.row]
  intro m hm
  have hlen := memLines_len (l := l) (sc := sc) (fun x hx => (r4 x hx).1) hm
  rcases Nat.lt_or_ge m r.mems.length with h | h
  · have c1 : ((m : Int) < (r.mems.length : Int)) = True := eq_true (by omega)
    have hx := memsV_get h
    have r5 := r4 _ (List.getElem_mem h)
    have i1 : I64 (m : Int) := by unfold I64; omega
    have l1 := itoa_len i1
    simp only [go_sem, simprocAttr, LawL.row, ResL.row, c1, Int.toNat_natCast, hx]
    refine detCall_of _ (member_call (l := l)) ?_
    simp only [go_sem, simprocAttr, ScopeL.row]
    refine detCall_of _ (fmtInt_call i1) ?_
    simp only [go_sem, simprocAttr]
    refine ⟨by first | omega | (simp; omega), by first | omega | (simp; omega), ?_⟩
    refine detCall_of _ (lines_call (l := l) (s := memberL l.scopes sc) (pre := preS m) hl.1 (scopeAt_ok hl _) (by have := preS_len (m := m) (by omega); omega) (by omega) (by omega)) ?_
    simp only [go_sem, simprocAttr]
    refine ⟨by simp only [List.length_append, linesS_length]; omega, m + 1, ?_, by omega, by omega⟩
    rw [w64 (by unfold I64; omega), memLines_succ h, ← List.append_assoc, strs_append]
    rfl
  · have c1 : ((m : Int) < (r.mems.length : Int)) = False := eq_false (by omega)
    simp only [go_sem, simprocAttr, c1]
    rw [show m = r.mems.length by omega]
    rfl
theorem result2_call {l : LawL} {sc : Int} {r : ResL} (hl : l.ok) (hr : r.ok) : FCall Tryd.prog n_ref54_Result [.agg l.row, .int .i64 sc, .agg r.row] (· = .arr (strs (resultS l sc r))) := by
  obtain ⟨r1, r2, r3, r4⟩ := hr
  refine FCall.walk u_ref54_Result k_ref54_Result rfl ?_
  unfold c_ref54_Result
  simp only [go_sem, simprocAttr, LawL.row, ResL.row]
  refine FCallT.of (scopeAt2_call (l := l)) ?_
  rintro _ rfl
  simp only [go_sem, simprocAttr, ScopeL.row]
  refine FCallT.of (lines2_call (o := []) (l := l) (s := scopeAtL l.scopes sc) hl.1 (scopeAt_ok hl sc) (by simp) (by omega) (by omega) (by simp)) ?_
  rintro _ rfl
  simp only [go_sem, simprocAttr, LawL.row, ScopeL.row]
  refine FWT.loopK [24] (fun m : Nat => [(3, .box l.row), (5, .box r.row), (7, .box (scopeAtL l.scopes sc).row), (8, .arr (strs (linesS l.enums (scopeAtL l.scopes sc) [] r.vals r.rules r.vals.length ++ memLines l sc r.mems m))), (9, .int .i64 m)]) (fun m => r.mems.length - m) (fun m => m ≤ r.mems.length) 0 ?_ (by omega) ?_
  · simp only [go_sem, simprocAttr, memLines, List.range_zero]
    simp [LawL.row, ResL.row, ScopeL.row]
  intro m hm
  have hlen := memLines_len (l := l) (sc := sc) (fun x hx => (r4 x hx).1) hm
  rcases Nat.lt_or_ge m r.mems.length with h | h
  · have c1 : ((m : Int) < (r.mems.length : Int)) = True := eq_true (by omega)
    have hx := memsV_get h
    have r5 := r4 _ (List.getElem_mem h)
    have i1 : I64 (m : Int) := by unfold I64; omega
    have l1 := itoa_len i1
    simp only [go_sem, simprocAttr, LawL.row, ResL.row, ScopeL.row, c1, Int.toNat_natCast, hx]
    refine detCall_of _ (fmtInt2_call i1) ?_
    simp only [go_sem, simprocAttr]
    refine ⟨by first | omega | (simp; omega), by first | omega | (simp; omega), ?_⟩
    refine detCall_of _ (scopeAt2_call (l := l)) ?_
    simp only [go_sem, simprocAttr, ScopeL.row, Int.toNat_natCast, hx]
    refine FCallT.of (lines2_call (l := l) (s := memberL l.scopes sc) (pre := preS m) hl.1 (scopeAt_ok hl _) (by have := preS_len (m := m) (by omega); omega) (by omega) (by omega) (by simp only [List.length_append, linesS_length]; omega)) ?_
    rintro _ rfl
    simp only [go_sem, simprocAttr]
    refine ⟨m + 1, ?_, by omega, by omega⟩
    rw [w64 (by unfold I64; omega), memLines_succ h, ← List.append_assoc]
    rfl
  · have c1 : ((m : Int) < (r.mems.length : Int)) = False := eq_false (by omega)
    simp only [go_sem, simprocAttr, ResL.row, c1]
    rw [show m = r.mems.length by omega]
    rfl
end Go.Fx.Tryd
set_option linter.unusedVariables false
set_option linter.unusedSimpArgs false
namespace Go.Fx.Tryd
open Go Go.Fm Go.Proofs

def evScope (l : LawL) (sc m : Int) : ScopeL := if 0 ≤ m then memberL l.scopes sc else scopeAtL l.scopes sc
def wordsS (l : LawL) (sc c m d r : Int) : List (List UInt8) :=
  [[101, 114, 114, 111, 114], Lib.itoa c] ++ (if 0 ≤ m then [[105, 110], [109, 101, 109, 98, 101, 114], Lib.itoa m] else []) ++
    (if 0 ≤ d then [[102, 111, 114], fieldName (evScope l sc m).defs d] else []) ++ (if 0 ≤ r then [[98, 121], ruleNameL (evScope l sc m).rules r] else [])
def evalS (l : LawL) (sc c m d r : Int) : List UInt8 := if c = 0 then [111, 107] else Lib.join (wordsS l sc c m d r) [32]
theorem evScope_ok {l : LawL} (h : l.ok) (sc m : Int) : scopeOk (evScope l sc m) := by
  unfold evScope; split
  · exact scopeAt_ok h _
  · exact scopeAt_ok h _
theorem words_join {l : LawL} {sc c m d r : Int} : Lib.join (wordsS l sc c m d r) [32] = [101, 114, 114, 111, 114, 32] ++ Lib.itoa c ++ (if 0 ≤ m then [32, 105, 110, 32, 109, 101, 109, 98, 101, 114, 32] ++ Lib.itoa m else []) ++
    (if 0 ≤ d then [32, 102, 111, 114, 32] ++ fieldName (evScope l sc m).defs d else []) ++ (if 0 ≤ r then [32, 98, 121, 32] ++ ruleNameL (evScope l sc m).rules r else []) := by
  unfold wordsS
  split <;> split <;> split <;> simp [Lib.join, List.intercalate, List.intersperse]
theorem words_len {l : LawL} {sc c m d r : Int} (hl : l.ok) (hc : I64 c) (hm : I64 m) : (Lib.join (wordsS l sc c m d r) [32]).length ≤ 4398046511104 := by
  have l1 := itoa_len hc
  have l2 := itoa_len hm
  have l3 := fieldName_len (i := d) (evScope_ok hl sc m).1
  have l4 := ruleName_len (i := r) (evScope_ok hl sc m).2
  rw [words_join]
  split <;> split <;> split <;> simp <;> omega
theorem evalError_call {l : LawL} {sc c m d r : Int} (hl : l.ok) (hc : I64 c) (hm : I64 m) : FCall Tryd.prog n_report_EvalError [.agg l.row, .int .i64 sc, .agg [.int .i64 c, .int .i64 m, .int .i64 d, .int .i64 r]] (· = .str (evalS l sc c m d r)) := by
  by_cases h0 : c = 0
  · subst h0
    refine FCall.walk u_report_EvalError k_report_EvalError rfl ?_
    unfold c_report_EvalError
    simp only [go_sem, simprocAttr, LawL.row]
    rfl
  have hj := join_call (full := false) (xs := wordsS l sc c m d r) (sep := [32]) (by unfold wordsS; split <;> split <;> split <;> simp) (by have := words_len (sc := sc) (d := d) (r := r) hl hc hm; omega)
  have hf : evalS l sc c m d r = Lib.join (wordsS l sc c m d r) [32] := by unfold evalS; rw [if_neg h0]
  rw [hf]
  by_cases h1 : 0 ≤ m <;> by_cases h2 : 0 ≤ d <;> by_cases h3 : 0 ≤ r
  all_goals
    have hw : strs (wordsS l sc c m d r) = strs (wordsS l sc c m d r) := rfl
    conv at hw => rhs; simp only [wordsS, evScope, h1, h2, h3, if_true, if_false, strs, List.map_cons, List.map_nil, List.cons_append, List.nil_append, List.append_nil]
    rw [hw] at hj
    refine FCall.walk u_report_EvalError k_report_EvalError rfl ?_
    unfold c_report_EvalError
    simp only [go_sem, simprocAttr, LawL.row, h0, h1, h2, h3]
    refine FCallT.of (scopeAt_call (l := l)) ?_
    rintro _ rfl
    simp only [go_sem, simprocAttr, ScopeL.row, LawL.row, h1, h2, h3]
    refine FCallT.of (fmtInt_call hc) ?_
    rintro _ rfl
    simp only [go_sem, simprocAttr, h1, h2, h3]
    try
      refine FCallT.of (member_call (l := l)) ?_
      rintro _ rfl
      simp only [go_sem, simprocAttr, ScopeL.row, h1, h2, h3]
      refine FCallT.of (fmtInt_call hm) ?_
      rintro _ rfl
      simp only [go_sem, simprocAttr, h1, h2, h3]
    try
      refine FCallT.of (defName_call (s := memberL l.scopes sc)) ?_
      rintro _ rfl
      simp only [go_sem, simprocAttr, h1, h2, h3]
    try
      refine FCallT.of (defName_call (s := scopeAtL l.scopes sc)) ?_
      rintro _ rfl
      simp only [go_sem, simprocAttr, h1, h2, h3]
    try
      refine FCallT.of (ruleName_call (s := memberL l.scopes sc)) ?_
      rintro _ rfl
      simp only [go_sem, simprocAttr, h1, h2, h3]
    try
      refine FCallT.of (ruleName_call (s := scopeAtL l.scopes sc)) ?_
      rintro _ rfl
      simp only [go_sem, simprocAttr, h1, h2, h3]
    refine FCallT.of (hj) ?_
    rintro _ rfl
    simp only [go_sem, simprocAttr]
theorem evalError2_call {l : LawL} {sc c m d r : Int} (hl : l.ok) (hc : I64 c) (hm : I64 m) : FCall Tryd.prog n_ref54_EvalError [.agg l.row, .int .i64 sc, .agg [.int .i64 c, .int .i64 m, .int .i64 d, .int .i64 r]] (· = .str (evalS l sc c m d r)) := by
  by_cases h0 : c = 0
  · subst h0
    refine FCall.walk u_ref54_EvalError k_ref54_EvalError rfl ?_
    unfold c_ref54_EvalError
    simp only [go_sem, simprocAttr, LawL.row]
    rfl
  have hf : evalS l sc c m d r = Lib.join (wordsS l sc c m d r) [32] := by unfold evalS; rw [if_neg h0]
  rw [hf, words_join]
  have l1 := itoa_len hc
  have l2 := itoa_len hm
  have l3 := fieldName_len (i := d) (evScope_ok hl sc m).1
  have l4 := ruleName_len (i := r) (evScope_ok hl sc m).2
  by_cases h1 : 0 ≤ m <;> by_cases h2 : 0 ≤ d <;> by_cases h3 : 0 ≤ r
  all_goals
    simp only [evScope, h1, h2, h3, if_true, if_false] at l3 l4 ⊢
    refine FCall.walk u_ref54_EvalError k_ref54_EvalError rfl ?_
    unfold c_ref54_EvalError
    simp only [go_sem, simprocAttr, LawL.row, h0, h1, h2, h3]
    refine FCallT.of (scopeAt2_call (l := l)) ?_
    rintro _ rfl
    simp only [go_sem, simprocAttr, ScopeL.row, LawL.row, h1, h2, h3]
    refine FCallT.of (fmtInt2_call hc) ?_
    rintro _ rfl
    simp only [go_sem, simprocAttr, h1, h2, h3]
    repeat (refine ⟨by first | omega | (simp only [List.length_append, List.length_cons, List.length_nil]; omega), ?_⟩)
    try
      refine FCallT.of (scopeAt2_call (l := l)) ?_
      rintro _ rfl
      simp only [go_sem, simprocAttr, ScopeL.row, h1, h2, h3]
      repeat (refine ⟨by first | omega | (simp only [List.length_append, List.length_cons, List.length_nil]; omega), ?_⟩)
      refine FCallT.of (fmtInt2_call hm) ?_
      rintro _ rfl
      simp only [go_sem, simprocAttr, h1, h2, h3]
      repeat (refine ⟨by first | omega | (simp only [List.length_append, List.length_cons, List.length_nil]; omega), ?_⟩)
    try
      refine FCallT.of (defName2_call (s := memberL l.scopes sc)) ?_
      rintro _ rfl
      simp only [go_sem, simprocAttr, h1, h2, h3]
      repeat (refine ⟨by first | omega | (simp only [List.length_append, List.length_cons, List.length_nil]; omega), ?_⟩)
    try
      refine FCallT.of (defName2_call (s := scopeAtL l.scopes sc)) ?_
      rintro _ rfl
      simp only [go_sem, simprocAttr, h1, h2, h3]
      repeat (refine ⟨by first | omega | (simp only [List.length_append, List.length_cons, List.length_nil]; omega), ?_⟩)
    try
      refine FCallT.of (ruleName2_call (s := memberL l.scopes sc)) ?_
      rintro _ rfl
      simp only [go_sem, simprocAttr, h1, h2, h3]
      repeat (refine ⟨by first | omega | (simp only [List.length_append, List.length_cons, List.length_nil]; omega), ?_⟩)
    try
      refine FCallT.of (ruleName2_call (s := scopeAtL l.scopes sc)) ?_
      rintro _ rfl
      simp only [go_sem, simprocAttr, h1, h2, h3]
      repeat (refine ⟨by first | omega | (simp only [List.length_append, List.length_cons, List.length_nil]; omega), ?_⟩)
    first | rfl | omega | simp
end Go.Fx.Tryd
set_option linter.unusedVariables false
set_option linter.unusedSimpArgs false
namespace Go.Fx.Tryd
open Go Go.Fm Go.Proofs

/-- what is handed back, sealed -/
theorem seal_call {P : Program} {f : FuncId} {fs : List FV} {x : FV} (h : FCall P f fs (· = x)) : FCall P f fs (· = x.sealed) := by
  refine ⟨fun {w S R vs} hA hrep hnd hsep => ?_⟩
  refine (h.out hA hrep hnd hsep).mono ?_
  rintro e w' ⟨v, r, S', R', he, rfl, hr, hnd', hs', ext⟩
  refine ⟨v, _, fun b => S' b ∨ b ∈ R', [], he, rfl, ?_, by simp, ?_, ?_⟩
  · have := hr.seal (S' := fun b => S' b ∨ b ∈ R') (fun _ h => .inl h) (fun _ h => .inr h)
    simpa [sealedL] using this
  · intro b hb
    refine ⟨?_, by simp⟩
    rcases hb with hb | hb
    · exact (hs' b hb).1
    · exact hr.lt b hb
  · refine ⟨fun b hb => .inl (ext.seals b hb), fun b hb => ?_, ext.keep, ext.grow, by simp, ext.os, ext.tape, ext.output, ext.spare⟩
    rcases hb with hb | hb
    · exact ext.news b hb
    · exact .inr (ext.owns b hb)
def tinyL : LawL := ⟨true, [], true, [], false, [⟨[104, 111, 117, 115, 101], -1, false, [⟨[97], 3, 0⟩], false, [⟨[100], 3, 0⟩], false, [⟨[98, 97, 115, 101], 0, -1, 0, 0, 109573, true, [], true, [], []⟩]⟩]⟩
theorem tiny_call0 : FCall Tryd.prog n_same_TinyLaw [.sl true []] (· = .agg [.sl true [], .sl true [], .arr [[.str [104, 111, 117, 115, 101], .int .i64 (-1), .arr [[.str [97], .int .i64 3, .int .i64 0]], .arr [[.str [100], .int .i64 3, .int .i64 0]],
    .arr [[.str [98, 97, 115, 101], .int .i64 0, .int .i64 (-1), .int .i64 0, .int .i64 0, .int .i64 109573, .sl true [], .sl true [], .str []]]]]]) := by
  refine FCall.walk u_same_TinyLaw k_same_TinyLaw rfl ?_
  unfold c_same_TinyLaw
  simp only [go_sem, simprocAttr]
theorem tiny_call : FCall Tryd.prog n_same_TinyLaw [.sl true []] (· = .agg tinyL.row) := seal_call tiny_call0
/-- the comparison of two slices of strings -/
theorem strings_call {u v : Bool} {a b : List (List UInt8)} (ha : a.length < 2 ^ 62) (hb : b.length < 2 ^ 62) : FCall Tryd.prog n_same_Strings [.sl u (strs a), .sl v (strs b)] (· = .bool (decide (a = b))) := by
  refine FCall.walk u_same_Strings k_same_Strings rfl ?_
  unfold c_same_Strings
  simp only [go_sem, simprocAttr]
  refine ⟨fun h => ?_, fun h => ?_⟩
  · congr 1; symm; simp only [decide_eq_false_iff_not]; intro e; subst e; exact h rfl
  have hlen : a.length = b.length := by omega
  refine FWT.loopK [] (fun i : Nat => [(0, .sl u (strs a)), (1, .sl v (strs b)), (5, .int .i64 (i : Int))]) (fun i => a.length - i) (fun i => i ≤ a.length ∧ a.take i = b.take i) 0 rfl ⟨by omega, rfl⟩ ?_
  intro i ⟨hi, ht⟩
  rcases Nat.lt_or_ge i a.length with hlt | hge
  · have c1 : ((i : Int) < (a.length : Int)) = True := eq_true (by omega)
    have c2 : ((i : Int) < (b.length : Int)) = True := eq_true (by omega)
    have x1 := strs_get hlt
    have x2 := strs_get (l := b) (i := i) (by omega)
    simp only [go_sem, simprocAttr, c1, c2, Int.toNat_natCast, x1, x2]
    refine ⟨fun hne => ?_, fun heq => ?_⟩
    · congr 1; symm; simp only [decide_eq_false_iff_not]; intro e; subst e; exact hne rfl
    · refine ⟨i + 1, by rw [w64 (by unfold I64; omega)]; rfl, ⟨by omega, ?_⟩, by omega⟩
      rw [List.take_succ_eq_append_getElem hlt, List.take_succ_eq_append_getElem (by omega), ht, heq]
  · have c1 : ((i : Int) < (a.length : Int)) = False := eq_false (by omega)
    simp only [go_sem, simprocAttr, c1]
    have e1 : i = a.length := by omega
    rw [List.take_of_length_le (by omega), List.take_of_length_le (by omega)] at ht
    simp [ht]
end Go.Fx.Tryd
set_option linter.unusedVariables false
set_option linter.unusedSimpArgs false
namespace Go.Fx.Tryd
open Go Go.Fm Go.Proofs

theorem strs_free (l : List (List UInt8)) : freeLL (strs l) = true := by
  induction l with
  | nil => rfl
  | cons s l ih => simp only [strs, List.map_cons, freeLL, freeL, FV.free] at ih ⊢; simp [ih]
def resAw : ResL := ⟨false, [⟨3, 0, 1250⟩], false, [0], true, []⟩
theorem tiny_ok : tinyL.ok := ⟨by simp [enumsOk, tinyL], by simp [tinyL, scopeOk]⟩
theorem f1 : fixedS 1250 2 = [49, 50, 46, 53, 48] := by simp [fixedS, padL, Lib.decDigits]
theorem f2 : fixedS 50000 2 = [53, 48, 48, 46, 48, 48] := by simp [fixedS, padL, Lib.decDigits]
theorem f3 : fixedS 20000 2 = [50, 48, 48, 46, 48, 48] := by simp [fixedS, padL, Lib.decDigits]
theorem f4 : fixedS 0 2 = [48, 46, 48, 48] := by simp [fixedS, padL, Lib.decDigits]
theorem f5 : fixedS 30000 2 = [51, 48, 48, 46, 48, 48] := by simp [fixedS, padL, Lib.decDigits]
theorem f6 : fixedS 250 2 = [50, 46, 53, 48] := by simp [fixedS, padL, Lib.decDigits]
theorem m1 : monthT 1200 = [50, 48, 48, 48, 45, 48, 49] := by
  have : monthS 1200 = [50, 48, 48, 48, 45, 48, 49] := by simp [monthS, Lib.itoa, Lib.decDigits, padL]
  simp [monthT, this]
theorem y1 : ymd 36524 = (2000, 1, 1) := by decide
theorem dd1 : dateS 36524 = [50, 48, 48, 48, 45, 48, 49, 45, 48, 49] := by simp [dateS, y1, padL, Lib.itoa, Lib.decDigits]
theorem v1 : valT 3 0 1250 [] = [49, 50, 46, 53, 48] := by simp [valT, valS, validT, inB, boundsV, f1]
theorem v2 : valT 5 0 36524 [] = [50, 48, 48, 48, 45, 48, 49, 45, 48, 49] := by simp [valT, valS, validT, inB, boundsV, dd1]
theorem a1 : arrN 50000 20000 = 30000 := by decide
theorem a2 : overN 50000 20000 0 = 0 := by decide
theorem r1 : resultS tinyL 0 resAw = [[100, 32, 61, 32, 49, 50, 46, 53, 48, 32, 98, 121, 32, 98, 97, 115, 101]] := by
  simp [resultS, linesS, memLines, resAw, tinyL, scopeAtL, lineS, fieldName, ruleNameL, v1, List.range_succ]
theorem r2 : balS ⟨1200, 50000, 20000, 0⟩ = [50, 48, 48, 48, 45, 48, 49, 32, 100, 117, 101, 32, 53, 48, 48, 46, 48, 48, 32, 114, 101, 99, 101, 105, 118, 101, 100, 32, 50, 48, 48, 46, 48, 48, 32, 119, 97, 105, 118, 101, 100, 32, 48, 46, 48, 48, 32, 97, 114, 114, 101, 97, 114, 115, 32, 51, 48, 48, 46, 48, 48, 32, 111, 118, 101, 114, 112, 97, 121, 109, 101, 110, 116, 32, 48, 46, 48, 48] := by
  simp [balS, m1, f2, f3, f4, f5, a1, a2]
theorem r3 : postS ⟨36524, 1200, 2, 250⟩ = [50, 48, 48, 48, 45, 48, 49, 45, 48, 49, 32, 50, 48, 48, 48, 45, 48, 49, 32, 114, 101, 99, 111, 118, 101, 114, 121, 32, 50, 46, 53, 48] := by
  simp [postS, v2, m1, kindS, f6]
theorem r4 : evalS tinyL 0 12 (-1) 0 0 = [101, 114, 114, 111, 114, 32, 49, 50, 32, 102, 111, 114, 32, 100, 32, 98, 121, 32, 98, 97, 115, 101] := by
  simp [evalS, words_join, Lib.itoa, Lib.decDigits, evScope, tinyL, scopeAtL, fieldName, ruleNameL]
theorem r5 : evalS tinyL 0 1 (-1) (-1) (-1) = [101, 114, 114, 111, 114, 32, 49] := by
  simp [evalS, words_join, Lib.itoa, Lib.decDigits]
theorem awake_call : FCall Tryd.prog n_law54_awake [] (· = .bool true) := by
  have hr : resAw.ok := by simp [ResL.ok, resAw]
  have c1 := result_call (sc := 0) tiny_ok hr
  rw [r1] at c1
  have c2 := bals_call (f := false) (l := [⟨1200, 50000, 20000, 0⟩]) (by simp) (by simp [BalL.ok, I64])
  rw [List.map_cons, r2, List.map_nil] at c2
  have c3 := posts_call (f := false) (l := [⟨36524, 1200, 2, 250⟩]) (by simp) (by simp [I64])
  rw [List.map_cons, r3, List.map_nil] at c3
  have c4 := evalError_call (l := tinyL) (sc := 0) (c := 12) (m := -1) (d := 0) (r := 0) tiny_ok (by simp [I64]) (by simp [I64])
  rw [r4] at c4
  have c5 := evalError_call (l := tinyL) (sc := 0) (c := 1) (m := -1) (d := -1) (r := -1) tiny_ok (by simp [I64]) (by simp [I64])
  rw [r5] at c5
  refine FCall.walk u_law54_awake k_law54_awake rfl ?_
  unfold c_law54_awake
  simp only [go_sem, simprocAttr, LawL.row]
  refine FCallT.of (tiny_call) ?_
  rintro _ rfl
  simp only [go_sem, simprocAttr, LawL.row]
  refine FCallT.of (c1) ?_
  rintro _ rfl
  simp only [go_sem, simprocAttr, strs_free]
  refine FCallT.of (c2) ?_
  rintro _ rfl
  simp only [go_sem, simprocAttr, strs_free]
  refine FCallT.of (c3) ?_
  rintro _ rfl
  simp only [go_sem, simprocAttr, strs_free]
  refine FCallT.of (c4) ?_
  rintro _ rfl
  simp only [go_sem, simprocAttr]
  refine FCallT.of (strings_call (u := false) (v := false) (b := [[100, 32, 61, 32, 49, 50, 46, 53, 48, 32, 98, 121, 32, 98, 97, 115, 101]]) (by simp) (by simp)) ?_
  rintro _ rfl
  simp only [go_sem, simprocAttr, strs_free]
  refine FCallT.of (strings_call (u := false) (v := false) (b := [[50, 48, 48, 48, 45, 48, 49, 32, 100, 117, 101, 32, 53, 48, 48, 46, 48, 48, 32, 114, 101, 99, 101, 105, 118, 101, 100, 32, 50, 48, 48, 46, 48, 48, 32, 119, 97, 105, 118, 101, 100, 32, 48, 46, 48, 48, 32, 97, 114, 114, 101, 97, 114, 115, 32, 51, 48, 48, 46, 48, 48, 32, 111, 118, 101, 114, 112, 97, 121, 109, 101, 110, 116, 32, 48, 46, 48, 48]]) (by simp) (by simp)) ?_
  rintro _ rfl
  simp only [go_sem, simprocAttr, strs_free]
  refine FCallT.of (strings_call (u := false) (v := false) (b := [[50, 48, 48, 48, 45, 48, 49, 45, 48, 49, 32, 50, 48, 48, 48, 45, 48, 49, 32, 114, 101, 99, 111, 118, 101, 114, 121, 32, 50, 46, 53, 48]]) (by simp) (by simp)) ?_
  rintro _ rfl
  simp only [go_sem, simprocAttr, strs_free]
  refine FCallT.of (c5) ?_
  rintro _ rfl
  simp only [go_sem, simprocAttr]
end Go.Fx.Tryd
set_option linter.unusedVariables false
set_option linter.unusedSimpArgs false
namespace Go.Fx.Tryd
open Go Go.Fm Go.Proofs

theorem law_postings {f : Bool} {l : List PostL} (hl : l.length < 2 ^ 40) (hI : ∀ p ∈ l, I64 p.c) : FCall Tryd.prog n_law54_ReportPostings [.sl f (postsV l)] (· = .bool true) := by
  refine FCall.walk u_law54_ReportPostings k_law54_ReportPostings rfl ?_
  unfold c_law54_ReportPostings
  simp only [go_sem, simprocAttr]
  refine ⟨fun h => ?_, fun h => ?_⟩
  · refine FCallT.of (awake_call) ?_
    rintro _ rfl
    simp only [go_sem, simprocAttr]
  · refine FCallT.of (posts_call hl hI) ?_
    rintro _ rfl
    simp only [go_sem, simprocAttr]
    refine FCallT.of (posts2_call hl hI) ?_
    rintro _ rfl
    simp only [go_sem, simprocAttr]
    refine FCallT.of (strings_call (u := false) (v := false) (a := l.map postS) (b := l.map postS) (by simp; omega) (by simp; omega)) ?_
    rintro _ rfl
    simp only [go_sem, simprocAttr, strs_free]
    refine FCallT.of (awake_call) ?_
    rintro _ rfl
    simp only [go_sem, simprocAttr]
/-- the check of a law's size: it yields some bool -/
def smallB (P : Program) : Prop := ∀ l : LawL, ∃ b : Bool, FCall P n_same_SmallLaw [.agg l.row] (· = .bool b)
theorem law_evalError {l : LawL} {sc c m d r : Int} (hs : smallB Tryd.prog) (hl : l.ok) (hc : I64 c) (hm : I64 m) : FCall Tryd.prog n_law54_ReportEvalError [.agg l.row, .int .i64 sc, .agg [.int .i64 c, .int .i64 m, .int .i64 d, .int .i64 r]] (· = .bool true) := by
  obtain ⟨b, hb⟩ := hs l
  refine FCall.walk u_law54_ReportEvalError k_law54_ReportEvalError rfl ?_
  unfold c_law54_ReportEvalError
  simp only [go_sem, simprocAttr, LawL.row]
  refine FCallT.of (hb) ?_
  rintro _ rfl
  simp only [go_sem, simprocAttr, LawL.row]
  cases b
  · simp only [go_sem, simprocAttr]
    refine FCallT.of (awake_call) ?_
    rintro _ rfl
    simp only [go_sem, simprocAttr]
  · simp only [go_sem, simprocAttr, LawL.row]
    refine detCall_of _ (evalError_call (l := l) hl hc hm) ?_
    simp only [go_sem, simprocAttr]
    refine detCall_of _ (evalError2_call (l := l) hl hc hm) ?_
    simp only [go_sem, simprocAttr]
    refine detCall_of _ (awake_call) ?_
    simp only [go_sem, simprocAttr]
theorem law_result {l : LawL} {sc : Int} {r : ResL} (hs : smallB Tryd.prog) (hf : ∀ r : ResL, ∃ b : Bool, FCall Tryd.prog n_law54_few [.agg r.row] (· = .bool b)) (hl : l.ok) (hr : r.ok) (hn : (resultS l sc r).length < 2 ^ 62) : FCall Tryd.prog n_law54_ReportResult [.agg l.row, .int .i64 sc, .agg r.row] (· = .bool true) := by
  obtain ⟨b, hb⟩ := hs l
  obtain ⟨b2, hb2⟩ := hf r
  refine FCall.walk u_law54_ReportResult k_law54_ReportResult rfl ?_
  unfold c_law54_ReportResult
  simp only [go_sem, simprocAttr, LawL.row, ResL.row]
  refine FCallT.of (hb) ?_
  rintro _ rfl
  simp only [go_sem, simprocAttr, LawL.row, ResL.row]
  cases b
  · simp only [go_sem, simprocAttr]
    refine FCallT.of (awake_call) ?_
    rintro _ rfl
    simp only [go_sem, simprocAttr]
  · simp only [go_sem, simprocAttr, ResL.row]
    refine FCallT.of (hb2) ?_
    rintro _ rfl
    simp only [go_sem, simprocAttr, LawL.row, ResL.row]
    cases b2
    · simp only [go_sem, simprocAttr]
      refine FCallT.of (awake_call) ?_
      rintro _ rfl
      simp only [go_sem, simprocAttr]
    · simp only [go_sem, simprocAttr, LawL.row, ResL.row]
      refine detCall_of _ (result_call (l := l) (r := r) hl hr) ?_
      simp only [go_sem, simprocAttr, LawL.row, ResL.row]
      refine detCall_of _ (result2_call (l := l) (r := r) hl hr) ?_
      simp only [go_sem, simprocAttr, LawL.row, ResL.row]
      refine detCallB_of _ (strings_call (a := resultS l sc r) (b := resultS l sc r) hn hn) rfl ?_
      simp only [go_sem, simprocAttr]
      refine detCall_of _ (awake_call) ?_
      simp only [go_sem, simprocAttr]
end Go.Fx.Tryd
/- Loops whose head differs from the start in some slots alone. -/
set_option linter.unusedVariables false
set_option linter.unusedSimpArgs false
namespace Go.Fm
open Go

/-- some slots set -/
def Env.puts (E : Env) : List (Nat × FV) → Env
  | [] => E
  | (k, v) :: us => (E.put k v).puts us
section
variable {P : Program} {N : Nat} {E : Env} {K : Exit → Env → Prop}
@[go_sem] theorem e_puts_nil : E.puts [] = E := rfl
@[go_sem] theorem e_puts_cons (k : Nat) (v : FV) (us : List (Nat × FV)) : E.puts ((k, v) :: us) = (E.put k v).puts us := rfl
theorem FWT.upd {x : FC} {α : Type} {t : Tag (FC.loop x, K)} (ks : List Nat) (U : α → List (Nat × FV)) (μ : α → Nat) (G : α → Prop) (s : α) (h0 : (E.kills ks) = (E.kills ks).puts (U s)) (hg : G s)
    (h : ∀ s, G s → fw P N x ((E.kills ks).puts (U s)) (thenK (fun E' => ∃ t, E'.kills ks = (E.kills ks).puts (U t) ∧ G t ∧ μ t < μ s) K)) : FWT P N (.loop x) E K t :=
  FWT.loopK ks (fun s => (E.kills ks).puts (U s)) μ G s h0 hg h
/-- a loop that counts to n -/
theorem FWT.count {x : FC} {t : Tag (FC.loop x, K)} (ks : List Nat) (n : Nat) (U : Nat → List (Nat × FV)) (G : Nat → Prop) (h0 : (E.kills ks) = (E.kills ks).puts (U 0)) (hg : G 0)
    (h : ∀ i, i ≤ n → G i → fw P N x ((E.kills ks).puts (U i)) (thenK (fun E' => E'.kills ks = (E.kills ks).puts (U (i + 1)) ∧ G (i + 1) ∧ i < n) K)) : FWT P N (.loop x) E K t :=
  FW.loopK ks (fun i => (E.kills ks).puts (U i)) (fun i => n - i) (fun i => i ≤ n ∧ G i) 0 h0 ⟨Nat.zero_le _, hg⟩ fun i hi => (fw_sound (h i hi.1 hi.2)).mono fun e E' k => by
    cases e with
    | normal => obtain ⟨h1, h2, h3⟩ := k; exact ⟨i + 1, h1, ⟨h3, h2⟩, by omega⟩
    | _ => exact k
theorem all_take_succ {α : Type} {l : List α} {p : α → Prop} {i : Nat} (h : i < l.length) : (∀ x ∈ l.take (i + 1), p x) ↔ (∀ x ∈ l.take i, p x) ∧ p l[i] := by
  rw [List.take_succ_eq_append_getElem h]
  simp only [List.mem_append, List.mem_singleton]
  exact ⟨fun hh => ⟨fun x m => hh x (.inl m), hh _ (.inr rfl)⟩, fun hh x m => by rcases m with m | rfl; exact hh.1 x m; exact hh.2⟩
end
end Go.Fm
set_option linter.unusedVariables false
set_option linter.unusedSimpArgs false
namespace Go.Fx.Tryd
open Go Go.Fm Go.Proofs

noncomputable def bp (p : Prop) : Bool := @decide p (Classical.propDecidable p)
theorem bp_true {p : Prop} (h : p) : bp p = true := @decide_eq_true p (Classical.propDecidable p) h
theorem bp_false {p : Prop} (h : ¬ p) : bp p = false := @decide_eq_false p (Classical.propDecidable p) h
theorem fbp_true {p : Prop} (h : p) : FV.bool true = .bool (bp p) := by rw [bp_true h]
theorem fbp_false {p : Prop} (h : ¬ p) : FV.bool false = .bool (bp p) := by rw [bp_false h]
theorem orF {c p rest : Prop} (h : c → ¬ p) (hr : ¬ c → rest) : (c → FV.bool false = .bool (bp p)) ∧ (¬ c → rest) := ⟨fun a => fbp_false (h a), hr⟩
theorem bp_iff {p : Prop} : bp p = true ↔ p := by
  by_cases h : p
  · rw [bp_true h]; exact ⟨fun _ => h, fun _ => rfl⟩
  · rw [bp_false h]; exact ⟨fun e => (by cases e), fun e => absurd e h⟩
theorem ltT {i n : Nat} (h : i < n) : ((i : Int) < (n : Int)) = True := eq_true (by omega)
theorem ltF {i n : Nat} (h : ¬ i < n) : ((i : Int) < (n : Int)) = False := eq_false (by omega)
theorem w64s {i : Nat} (h : i < 2 ^ 62) : IntKind.i64.wrap ((i : Int) + 1) = ((i + 1 : Nat) : Int) := by rw [w64 (by unfold I64; omega)]; rfl
def ruleSm (r : RuleL) : Prop := r.name.length ≤ 80 ∧ r.src.length ≤ 80 ∧ r.guard.length ≤ 50 ∧ r.value.length ≤ 50
def smallScopeP (s : ScopeL) : Prop := s.name.length ≤ 80 ∧ s.inputs.length ≤ 14 ∧ s.defs.length ≤ 14 ∧ s.rules.length ≤ 60 ∧ (∀ f ∈ s.inputs, f.name.length ≤ 80) ∧ (∀ f ∈ s.defs, f.name.length ≤ 80) ∧ ∀ r ∈ s.rules, ruleSm r
theorem smallScope_call {s : ScopeL} : FCall Tryd.prog n_same_smallScope [.agg s.row] (· = .bool (bp (smallScopeP s))) := by
  refine FCall.walk u_same_smallScope k_same_smallScope rfl ?_
  unfold c_same_smallScope
  simp only [go_sem, simprocAttr, ScopeL.row]
  refine orF (fun h g => by have := g.1; omega) fun h1 => orF (fun h g => by have := g.2.1; omega) fun h2 => orF (fun h g => by have := g.2.2.1; omega) fun h3 => orF (fun h g => by have := g.2.2.2.1; omega) fun h4 => ?_
  refine FWT.count [] s.inputs.length (fun i => [(3, .int .i64 i)]) (fun i => ∀ f ∈ s.inputs.take i, f.name.length ≤ 80) rfl (by simp) ?_
  intro i hi hg
  by_cases h : i < s.inputs.length
  · have hx := fieldsV_get h
    simp only [go_sem, simprocAttr, ltT h, Int.toNat_natCast, hx, FieldL.row]
    refine ⟨fun h5 => fbp_false fun g => by have := g.2.2.2.2.1 _ (List.getElem_mem h); omega, fun h5 => ⟨by rw [w64s (by omega)], (all_take_succ h).2 ⟨hg, by omega⟩, h⟩⟩
  simp only [go_sem, simprocAttr, ltF h]
  rw [List.take_of_length_le (by omega)] at hg
  refine FWT.count [] s.defs.length (fun i => [(4, .int .i64 i)]) (fun i => ∀ f ∈ s.defs.take i, f.name.length ≤ 80) rfl (by simp) ?_
  intro i hi hg2
  by_cases h : i < s.defs.length
  · have hx := fieldsV_get h
    simp only [go_sem, simprocAttr, ltT h, Int.toNat_natCast, hx, FieldL.row]
    refine ⟨fun h5 => fbp_false fun g => by have := g.2.2.2.2.2.1 _ (List.getElem_mem h); omega, fun h5 => ⟨by rw [w64s (by omega)], (all_take_succ h).2 ⟨hg2, by omega⟩, h⟩⟩
  simp only [go_sem, simprocAttr, ltF h]
  rw [List.take_of_length_le (by omega)] at hg2
  refine FWT.count [] s.rules.length (fun i => [(5, .int .i64 i)]) (fun i => ∀ f ∈ s.rules.take i, ruleSm f) rfl (by simp) ?_
  intro i hi hg3
  by_cases h : i < s.rules.length
  · have hx := rulesV_get h
    simp only [go_sem, simprocAttr, ltT h, Int.toNat_natCast, hx, RuleL.row]
    refine orF (fun h5 g => by have := (g.2.2.2.2.2.2 _ (List.getElem_mem h)).1; omega) fun h5 => orF (fun h6 g => by have := (g.2.2.2.2.2.2 _ (List.getElem_mem h)).2.1; omega) fun h6 =>
      orF (fun h7 g => by have := (g.2.2.2.2.2.2 _ (List.getElem_mem h)).2.2.1; omega) fun h7 => orF (fun h8 g => by have := (g.2.2.2.2.2.2 _ (List.getElem_mem h)).2.2.2; omega) fun h8 => ⟨by rw [w64s (by omega)], (all_take_succ h).2 ⟨hg3, by omega, by omega, by omega, by omega⟩, h⟩
  simp only [go_sem, simprocAttr, ltF h]
  rw [List.take_of_length_le (by omega)] at hg3
  exact fbp_true ⟨by omega, by omega, by omega, by omega, hg, hg2, hg3⟩
def rowsN (l : List TableL) (i : Nat) : Nat := ((l.take i).map (·.rows.length)).sum
def rulesN (l : List ScopeL) (i : Nat) : Nat := ((l.take i).map (·.rules.length)).sum
theorem rowsN_succ {l : List TableL} {i : Nat} (h : i < l.length) : rowsN l (i + 1) = rowsN l i + l[i].rows.length := by
  unfold rowsN; rw [List.take_succ_eq_append_getElem h, List.map_append, List.sum_append]; rfl
theorem rulesN_succ {l : List ScopeL} {i : Nat} (h : i < l.length) : rulesN l (i + 1) = rulesN l i + l[i].rules.length := by
  unfold rulesN; rw [List.take_succ_eq_append_getElem h, List.map_append, List.sum_append]; rfl
theorem rowsN_mono (l : List TableL) {i j : Nat} (h : i ≤ j) : rowsN l i ≤ rowsN l j := by
  induction h with
  | refl => exact Nat.le_refl _
  | @step m _ ih =>
    refine Nat.le_trans ih ?_
    by_cases hm : m < l.length
    · rw [rowsN_succ hm]; omega
    · unfold rowsN; rw [List.take_of_length_le (by omega), List.take_of_length_le (by omega)]; omega
theorem rulesN_mono (l : List ScopeL) {i j : Nat} (h : i ≤ j) : rulesN l i ≤ rulesN l j := by
  induction h with
  | refl => exact Nat.le_refl _
  | @step m _ ih =>
    refine Nat.le_trans ih ?_
    by_cases hm : m < l.length
    · rw [rulesN_succ hm]; omega
    · unfold rulesN; rw [List.take_of_length_le (by omega), List.take_of_length_le (by omega)]; omega
def enumSm (e : EnumL) : Prop := e.name.length ≤ 80 ∧ e.members.length ≤ 20 ∧ ∀ m ∈ e.members, m.length ≤ 80
def smallLawP (l : LawL) : Prop := l.enums.length ≤ 9 ∧ l.tables.length ≤ 9 ∧ l.scopes.length ≤ 5 ∧ (∀ e ∈ l.enums, enumSm e) ∧ (∀ t ∈ l.tables, t.name.length ≤ 80) ∧ rowsN l.tables l.tables.length ≤ 150 ∧ rulesN l.scopes l.scopes.length ≤ 60 ∧ ∀ s ∈ l.scopes, smallScopeP s
theorem smallLaw_call {l : LawL} (hr : ∀ t ∈ l.tables, t.rows.length < 2 ^ 60) (hu : ∀ s ∈ l.scopes, s.rules.length < 2 ^ 60) : FCall Tryd.prog n_same_SmallLaw [.agg l.row] (· = .bool (bp (smallLawP l))) := by
  refine FCall.walk u_same_SmallLaw k_same_SmallLaw rfl ?_
  unfold c_same_SmallLaw
  simp only [go_sem, simprocAttr, LawL.row]
  refine orF (fun h g => by have := g.1; omega) fun h1 => orF (fun h g => by have := g.2.1; omega) fun h2 => orF (fun h g => by have := g.2.2.1; omega) fun h3 => ?_
  refine FWT.count [] l.enums.length (fun i => [(5, .int .i64 i)]) (fun i => ∀ f ∈ l.enums.take i, enumSm f) rfl (by simp) ?_
  intro i hi hg
  by_cases h : i < l.enums.length
  · have hx := enumsV_get h
    simp only [go_sem, simprocAttr, ltT h, Int.toNat_natCast, hx, EnumL.row]
    refine orF (fun h4 g => by have := (g.2.2.2.1 _ (List.getElem_mem h)).1; omega) fun h4 => orF (fun h5 g => by have := (g.2.2.2.1 _ (List.getElem_mem h)).2.1; omega) fun h5 => ?_
    refine FWT.count [] l.enums[i].members.length (fun k => [(6, .int .i64 k)]) (fun k => ∀ m ∈ l.enums[i].members.take k, m.length ≤ 80) rfl (by simp) ?_
    intro k hk hgk
    by_cases h6 : k < l.enums[i].members.length
    · have hx2 := strs_get h6
      simp only [go_sem, simprocAttr, ltT h6, Int.toNat_natCast, hx, hx2]
      refine orF (fun h7 g => by have := (g.2.2.2.1 _ (List.getElem_mem h)).2.2 _ (List.getElem_mem h6); omega) fun h7 => ⟨by rw [w64s (by omega)], (all_take_succ h6).2 ⟨hgk, by omega⟩, h6⟩
    simp only [go_sem, simprocAttr, ltF h6, Int.toNat_natCast, hx]
    rw [List.take_of_length_le (by omega)] at hgk
    exact ⟨by rw [w64s (by omega)], (all_take_succ h).2 ⟨hg, by omega, by omega, hgk⟩, h⟩
  simp only [go_sem, simprocAttr, ltF h]
  rw [List.take_of_length_le (by omega)] at hg
  refine FWT.count [] l.tables.length (fun i => [(3, .int .i64 (rowsN l.tables i)), (7, .int .i64 i)]) (fun i => (∀ f ∈ l.tables.take i, f.name.length ≤ 80) ∧ rowsN l.tables i ≤ 150) rfl ⟨by simp, by simp [rowsN]⟩ ?_
  intro i hi hg2
  by_cases h : i < l.tables.length
  · have hx := tablesV_get h
    have hw : IntKind.i64.wrap ((rowsN l.tables i : Int) + (l.tables[i].rows.length : Int)) = (rowsN l.tables (i + 1) : Int) := by
      rw [rowsN_succ h, w64 (by have := hr _ (List.getElem_mem h); unfold I64; omega)]; omega
    simp only [go_sem, simprocAttr, ltT h, Int.toNat_natCast, hx, TableL.row, hw]
    refine orF (fun h4 g => by have := g.2.2.2.2.1 _ (List.getElem_mem h); omega) fun h4 => orF (fun h5 g => by have := g.2.2.2.2.2.1; have := rowsN_mono l.tables (show i + 1 ≤ l.tables.length from h); omega) fun h5 => ⟨by rw [w64s (by omega)], ⟨(all_take_succ h).2 ⟨hg2.1, by omega⟩, by omega⟩, h⟩
  simp only [go_sem, simprocAttr, ltF h]
  rw [List.take_of_length_le (by omega)] at hg2
  have hie : i = l.tables.length := by omega
  refine FWT.count [] l.scopes.length (fun i => [(4, .int .i64 (rulesN l.scopes i)), (8, .int .i64 i)]) (fun i => (∀ f ∈ l.scopes.take i, smallScopeP f) ∧ rulesN l.scopes i ≤ 60) rfl ⟨by simp, by simp [rulesN]⟩ ?_
  intro j hj hg3
  by_cases h : j < l.scopes.length
  · have hx := scopesV_get h
    have hw : IntKind.i64.wrap ((rulesN l.scopes j : Int) + (l.scopes[j].rules.length : Int)) = (rulesN l.scopes (j + 1) : Int) := by
      rw [rulesN_succ h, w64 (by have := hu _ (List.getElem_mem h); unfold I64; omega)]; omega
    simp only [go_sem, simprocAttr, ltT h, Int.toNat_natCast, hx, ScopeL.row, hw]
    refine orF (fun h4 g => by have := g.2.2.2.2.2.2.1; have := rulesN_mono l.scopes (show j + 1 ≤ l.scopes.length from h); omega) fun h4 => ?_
    refine FCallT.of (smallScope_call (s := l.scopes[j])) ?_
    rintro _ rfl
    simp only [go_sem, simprocAttr]
    refine ⟨fun h5 => ?_, fun h5 => ?_⟩
    · exact fbp_false fun g => by rw [bp_true (g.2.2.2.2.2.2.2 _ (List.getElem_mem h))] at h5; cases h5
    · exact ⟨by rw [w64s (by omega)], ⟨(all_take_succ h).2 ⟨hg3.1, bp_iff.1 h5⟩, by omega⟩, h⟩
  simp only [go_sem, simprocAttr, ltF h]
  rw [List.take_of_length_le (by omega)] at hg3
  have hje : j = l.scopes.length := by omega
  subst hie; subst hje
  exact fbp_true ⟨by omega, by omega, by omega, hg, hg2.1, hg2.2, hg3.2, hg3.1⟩
def fewP (r : ResL) : Prop := r.vals.length ≤ 20 ∧ r.rules.length ≤ 20 ∧ r.mems.length ≤ 12 ∧ ∀ m ∈ r.mems, m.vals.length ≤ 20 ∧ m.rules.length ≤ 20
theorem few_call {r : ResL} : FCall Tryd.prog n_law54_few [.agg r.row] (· = .bool (bp (fewP r))) := by
  refine FCall.walk u_law54_few k_law54_few rfl ?_
  unfold c_law54_few
  simp only [go_sem, simprocAttr, ResL.row]
  refine orF (fun h g => by have := g.1; omega) fun h1 => orF (fun h g => by have := g.2.1; omega) fun h2 => orF (fun h g => by have := g.2.2.1; omega) fun h3 => ?_
  refine FWT.count [] r.mems.length (fun i => [(3, .int .i64 i)]) (fun i => ∀ m ∈ r.mems.take i, m.vals.length ≤ 20 ∧ m.rules.length ≤ 20) rfl (by simp) ?_
  intro i hi hg
  by_cases h : i < r.mems.length
  · have hx := memsV_get h
    simp only [go_sem, simprocAttr, ltT h, Int.toNat_natCast, hx]
    refine orF (fun h4 g => by have := (g.2.2.2 _ (List.getElem_mem h)).1; omega) fun h4 => orF (fun h5 g => by have := (g.2.2.2 _ (List.getElem_mem h)).2; omega) fun h5 => ⟨by rw [w64s (by omega)], (all_take_succ h).2 ⟨hg, by omega, by omega⟩, h⟩
  simp only [go_sem, simprocAttr, ltF h]
  rw [List.take_of_length_le (by omega)] at hg
  exact fbp_true ⟨by omega, by omega, by omega, hg⟩
end Go.Fx.Tryd
set_option linter.unusedVariables false
set_option linter.unusedSimpArgs false
namespace Go.Fx.Tryd
open Go Go.Fm Go.Proofs
def LawL.fits (l : LawL) : Prop := (∀ t ∈ l.tables, t.rows.length < 2 ^ 60) ∧ ∀ s ∈ l.scopes, s.rules.length < 2 ^ 60
theorem law_evalError' {l : LawL} {sc c m d r : Int} (hs : l.fits) (hl : l.ok) (hc : I64 c) (hm : I64 m) : FCall Tryd.prog n_law54_ReportEvalError [.agg l.row, .int .i64 sc, .agg [.int .i64 c, .int .i64 m, .int .i64 d, .int .i64 r]] (· = .bool true) := by
  refine FCall.walk u_law54_ReportEvalError k_law54_ReportEvalError rfl ?_
  unfold c_law54_ReportEvalError
  simp only [go_sem, simprocAttr, LawL.row]
  refine FCallT.of (smallLaw_call (l := l) hs.1 hs.2) ?_
  rintro _ rfl
  simp only [go_sem, simprocAttr, LawL.row]
  cases bp (smallLawP l)
  · simp only [go_sem, simprocAttr]
    refine FCallT.of (awake_call) ?_
    rintro _ rfl
    simp only [go_sem, simprocAttr]
  · simp only [go_sem, simprocAttr, LawL.row]
    refine detCall_of _ (evalError_call (l := l) hl hc hm) ?_
    simp only [go_sem, simprocAttr]
    refine detCall_of _ (evalError2_call (l := l) hl hc hm) ?_
    simp only [go_sem, simprocAttr]
    refine detCall_of _ (awake_call) ?_
    simp only [go_sem, simprocAttr]
theorem law_result' {l : LawL} {sc : Int} {r : ResL} (hs : l.fits) (hl : l.ok) (hr : r.ok) (hn : (resultS l sc r).length < 2 ^ 62) : FCall Tryd.prog n_law54_ReportResult [.agg l.row, .int .i64 sc, .agg r.row] (· = .bool true) := by
  refine FCall.walk u_law54_ReportResult k_law54_ReportResult rfl ?_
  unfold c_law54_ReportResult
  simp only [go_sem, simprocAttr, LawL.row, ResL.row]
  refine FCallT.of (smallLaw_call (l := l) hs.1 hs.2) ?_
  rintro _ rfl
  simp only [go_sem, simprocAttr, LawL.row, ResL.row]
  cases bp (smallLawP l)
  · simp only [go_sem, simprocAttr]
    refine FCallT.of (awake_call) ?_
    rintro _ rfl
    simp only [go_sem, simprocAttr]
  · simp only [go_sem, simprocAttr, ResL.row]
    refine FCallT.of (few_call (r := r)) ?_
    rintro _ rfl
    simp only [go_sem, simprocAttr, LawL.row, ResL.row]
    cases bp (fewP r)
    · simp only [go_sem, simprocAttr]
      refine FCallT.of (awake_call) ?_
      rintro _ rfl
      simp only [go_sem, simprocAttr]
    · simp only [go_sem, simprocAttr, LawL.row, ResL.row]
      refine detCall_of _ (result_call (l := l) (r := r) hl hr) ?_
      simp only [go_sem, simprocAttr, LawL.row, ResL.row]
      refine detCall_of _ (result2_call (l := l) (r := r) hl hr) ?_
      simp only [go_sem, simprocAttr, LawL.row, ResL.row]
      refine detCallB_of _ (strings_call (a := resultS l sc r) (b := resultS l sc r) hn hn) rfl ?_
      simp only [go_sem, simprocAttr]
      refine detCall_of _ (awake_call) ?_
      simp only [go_sem, simprocAttr]
end Go.Fx.Tryd
set_option linter.unusedVariables false
set_option linter.unusedSimpArgs false
namespace Go.Fx.Tryd
open Go Go.Fm Go.Proofs

def signL (s : List UInt8) : List UInt8 × Bool := match s with
  | [] => ([], false)
  | c :: r => if c = 45 then (r, true) else (c :: r, false)
theorem signG_call {s : List UInt8} (hs : s.length < 2 ^ 62) : FCall Tryd.prog n_ref01_sign [.str s] (· = .tup [.str (signL s).1, .bool (signL s).2]) := by
  cases s with
  | nil =>
    refine FCall.walk u_ref01_sign k_ref01_sign rfl ?_
    unfold c_ref01_sign
    simp only [go_sem, simprocAttr]
    rfl
  | cons c r =>
    have h3 : (c.toNat : Int) = 45 ↔ c = 45 := by
      constructor
      · intro h; exact UInt8.toNat.inj (by show c.toNat = 45; omega)
      · rintro rfl; rfl
    simp only [List.length_cons] at hs
    refine FCall.walk u_ref01_sign k_ref01_sign rfl ?_
    unfold c_ref01_sign
    simp only [go_sem, simprocAttr, h3]
    refine ⟨fun _ => ?_, fun hn => absurd (by omega) hn⟩
    by_cases hc : c = 45
    · refine ⟨fun _ => ⟨⟨by omega, by omega⟩, ?_⟩, fun hn => absurd hc hn⟩
      rw [List.take_of_length_le (by omega)]
      simp [signL, hc]
    · exact ⟨fun h => absurd h hc, fun _ => by simp [signL, hc]⟩
def isDig (c : UInt8) : Bool := decide (48 ≤ c.toNat) && decide (c.toNat ≤ 57)
theorem allDig_call {s : List UInt8} (hs : s.length < 2 ^ 62) : FCall Tryd.prog n_ref01_allDigits [.str s] (· = .bool (s.all isDig && decide (0 < s.length))) := by
  refine FCall.walk u_ref01_allDigits k_ref01_allDigits rfl ?_
  unfold c_ref01_allDigits
  simp only [go_sem, simprocAttr]
  refine FWT.count [] s.length (fun i => [(3, .int .i64 i)]) (fun i => ∀ c ∈ s.take i, isDig c = true) rfl (by simp) ?_
  intro i hi hg
  by_cases h : i < s.length
  · have hx : s[i]? = some s[i] := List.getElem?_eq_getElem h
    have no : isDig s[i] = false → (s.all isDig && decide (0 < s.length)) = false := fun hd => by
      rw [Bool.and_eq_false_iff]; left
      rw [List.all_eq_false]
      exact ⟨s[i], List.getElem_mem h, by simp [hd]⟩
    simp only [go_sem, simprocAttr, ltT h, Int.toNat_natCast, hx]
    refine ⟨fun h1 => ?_, fun h1 => ⟨fun h2 => ?_, fun h2 => ⟨by rw [w64s (by omega)], (all_take_succ h).2 ⟨hg, ?_⟩, h⟩⟩⟩
    · rw [no]; simp only [isDig, Bool.and_eq_false_iff, decide_eq_false_iff_not]; omega
    · rw [no]; simp only [isDig, Bool.and_eq_false_iff, decide_eq_false_iff_not]; omega
    · simp only [isDig, Bool.and_eq_true, decide_eq_true_eq]; omega
  simp only [go_sem, simprocAttr, ltF h]
  rw [List.take_of_length_le (by omega)] at hg
  have : s.all isDig = true := List.all_eq_true.2 hg
  rw [this]
  simp
def numL (s : List UInt8) : Nat := s.foldl (fun a c => 10 * a + (c.toNat - 48)) 0
theorem numL_snoc (s : List UInt8) (c : UInt8) : numL (s ++ [c]) = 10 * numL s + (c.toNat - 48) := by simp [numL]
theorem numL_lt : ∀ (n : Nat) {s : List UInt8}, s.length = n → (∀ c ∈ s, isDig c = true) → numL s < 10 ^ n
  | 0, s, h, _ => by obtain rfl := List.eq_nil_of_length_eq_zero h; simp [numL]
  | n + 1, s, h, hd => by
    have hne : s ≠ [] := by rintro rfl; simp at h
    rw [← List.dropLast_concat_getLast hne, numL_snoc]
    have h1 := numL_lt n (s := s.dropLast) (by simp [h]) (fun c m => hd c (List.dropLast_subset _ m))
    have h2 := hd _ (List.getLast_mem hne)
    simp only [isDig, Bool.and_eq_true, decide_eq_true_eq] at h2
    rw [Nat.pow_succ]
    omega
theorem number_call {s : List UInt8} {b : Bool} (hl : s.length ≤ 19) (hd : ∀ c ∈ s, isDig c = true) (hn : numL s ≤ 2 ^ 62) : FCall Tryd.prog n_ref01_number [.str s, .bool b] (· = .tup [.int .i64 (if b then -(numL s : Int) else numL s), .int .i64 0]) := by
  have h0 : ((19 : Int) < (s.length : Int)) = False := eq_false (by omega)
  refine FCall.walk u_ref01_number k_ref01_number rfl ?_
  unfold c_ref01_number
  simp only [go_sem, simprocAttr, h0]
  refine FWT.count [] s.length (fun i => [(6, .int .u64 (numL (s.take i) : Nat)), (7, .int .i64 i)]) (fun i => True) rfl trivial ?_
  intro i hi _
  by_cases h : i < s.length
  · have hx : s[i]? = some s[i] := List.getElem?_eq_getElem h
    have h1 := numL_lt i (s := s.take i) (by simp; omega) (fun c m => hd c (List.mem_of_mem_take m))
    have h2 := hd _ (List.getElem_mem h)
    simp only [isDig, Bool.and_eq_true, decide_eq_true_eq] at h2
    have h3 : 10 ^ i ≤ 10 ^ 18 := Nat.pow_le_pow_right (by omega) (by omega)
    have e1 : IntKind.u64.wrap (10 * (numL (s.take i) : Int)) = 10 * (numL (s.take i) : Int) := wu64 (by omega)
    have e2 : IntKind.u8.wrap ((s[i].toNat : Int) - 48) = (s[i].toNat : Int) - 48 := wu8 (by omega)
    have e3 : IntKind.u64.wrap ((s[i].toNat : Int) - 48) = (s[i].toNat : Int) - 48 := wu64 (by omega)
    have e4 : IntKind.u64.wrap (10 * (numL (s.take i) : Int) + ((s[i].toNat : Int) - 48)) = (numL (s.take (i + 1)) : Int) := by
      rw [wu64 (by omega), List.take_succ_eq_append_getElem h, numL_snoc]; omega
    simp only [go_sem, simprocAttr, ltT h, Int.toNat_natCast, hx, e1, e2, e3, e4]
    exact ⟨by rw [w64s (by omega)], h⟩
  simp only [go_sem, simprocAttr, ltF h]
  rw [List.take_of_length_le (by omega)]
  have e5 : ((4611686018427387904 : Int) < (numL s : Int)) = False := eq_false (by omega)
  have e6 : IntKind.i64.wrap (numL s : Int) = numL s := w64 (by unfold I64; omega)
  have e7 : IntKind.i64.wrap (0 - (numL s : Int)) = -(numL s : Int) := by rw [w64 (by unfold I64; omega)]; omega
  simp only [go_sem, simprocAttr, e5, e6, e7]
  cases b <;> simp
theorem numL_dec : ∀ u : Nat, numL (Lib.decDigits u) = u := by
  intro u
  induction u using Nat.strongRecOn with
  | _ u ih =>
  by_cases h : u < 10
  · rw [Lib.decDigits_one h]
    simp [numL]
    omega
  · rw [Lib.decDigits, dif_neg h, numL_snoc, ih _ (by omega)]
    simp
    omega
theorem dec_dig : ∀ u : Nat, ∀ c ∈ Lib.decDigits u, isDig c = true := by
  intro u
  induction u using Nat.strongRecOn with
  | _ u ih =>
  by_cases h : u < 10
  · rw [Lib.decDigits_one h]
    simp [isDig]
    omega
  · rw [Lib.decDigits, dif_neg h]
    intro c m
    rcases List.mem_append.1 m with m | m
    · exact ih _ (by omega) c m
    · simp at m; subst m; simp [isDig]; omega
/-- the head of a number of two digits or more is no zero -/
theorem dec_head : ∀ u : Nat, ∃ c r, Lib.decDigits u = c :: r ∧ (r ≠ [] → c ≠ 48) := by
  intro u
  induction u using Nat.strongRecOn with
  | _ u ih =>
  by_cases h : u < 10
  · exact ⟨_, [], Lib.decDigits_one h, by simp⟩
  · obtain ⟨c, r, h1, h2⟩ := ih (u / 10) (by omega)
    rw [Lib.decDigits, dif_neg h, h1]
    refine ⟨c, r ++ [UInt8.ofNat (48 + u % 10)], rfl, fun _ => ?_⟩
    by_cases hr : r = []
    · subst hr
      intro e
      subst e
      have := numL_dec (u / 10)
      rw [h1] at this
      simp [numL] at this
      omega
    · exact h2 hr
theorem nDigits_le19 {u : Nat} (h : u ≤ 2 ^ 62) : Lib.nDigits u ≤ 19 := by
  rw [← Lib.decDigits_length]
  rcases Nat.lt_or_ge 19 (Lib.decDigits u).length with hl | hl
  · exfalso
    have hb : ∀ (m : Nat) (c : UInt8) (r : List UInt8), r.length = m → c ≠ 48 → (∀ x ∈ c :: r, isDig x = true) → 10 ^ m ≤ numL (c :: r) := by
      intro m
      induction m with
      | zero =>
        intro c r hr hc hd
        obtain rfl := List.eq_nil_of_length_eq_zero hr
        have := hd c (by simp)
        simp only [isDig, Bool.and_eq_true, decide_eq_true_eq] at this
        have h48 : c.toNat ≠ 48 := fun e => hc (UInt8.toNat.inj (by rw [e]; rfl))
        simp [numL]; omega
      | succ m ih =>
        intro c r hr hc hd
        have hne : r ≠ [] := by rintro rfl; simp at hr
        have hd2 : r.dropLast ++ [r.getLast hne] = r := List.dropLast_concat_getLast hne
        have := ih c r.dropLast (by simp [hr]) hc (fun y my => hd y (by
          simp only [List.mem_cons] at my ⊢
          rcases my with my | my
          · exact .inl my
          · exact .inr (List.dropLast_subset _ my)))
        rw [← hd2, ← List.cons_append, numL_snoc, Nat.pow_succ]
        omega
    obtain ⟨c, r, h1, h2⟩ := dec_head u
    have h3 := hb _ c r rfl (h2 (by rintro rfl; rw [h1] at hl; simp at hl)) (by rw [← h1]; exact dec_dig u)
    rw [← h1, numL_dec] at h3
    have h4 : 19 ≤ r.length := by rw [h1] at hl; simp at hl; omega
    have h5 : 10 ^ 19 ≤ 10 ^ r.length := Nat.pow_le_pow_right (by omega) h4
    omega
  · exact hl
/-- zeros ahead -/
def stripZ : List UInt8 → List UInt8
  | [] => []
  | [c] => [c]
  | c :: d :: r => if c = 48 then stripZ (d :: r) else c :: d :: r
theorem stripZ_pad (u : Nat) : ∀ m, stripZ (List.replicate m 48 ++ Lib.decDigits u) = Lib.decDigits u
  | 0 => by
    obtain ⟨c, r, h1, h2⟩ := dec_head u
    rw [h1]
    cases r with
    | nil => rfl
    | cons d r => simp [stripZ, h2]
  | m + 1 => by
    obtain ⟨c, r, h1, h2⟩ := dec_head u
    have ih := stripZ_pad u m
    rw [List.replicate_succ, List.cons_append]
    cases hh : List.replicate m 48 ++ Lib.decDigits u with
    | nil => rw [h1] at hh; simp at hh
    | cons d r => rw [hh] at ih; simp only [stripZ, if_true]; exact ih
theorem u8eq {c : UInt8} {k : Nat} (hk : k < 256) : (c.toNat : Int) = (k : Int) ↔ c = UInt8.ofNat k := by
  constructor
  · intro h
    apply UInt8.toNat.inj
    rw [UInt8.toNat_ofNat_of_lt' (by simpa using hk)]
    omega
  · rintro rfl
    rw [UInt8.toNat_ofNat_of_lt' (by simpa using hk)]
theorem pad_dig {u w : Nat} : ∀ c ∈ padL (Lib.decDigits u) w, isDig c = true := by
  intro c m
  unfold padL at m
  rcases List.mem_append.1 m with m | m
  · rw [List.eq_of_mem_replicate m]; rfl
  · exact dec_dig u c m
theorem fixedS_shape (n : Int) : ∃ q r : List UInt8, q ++ r = padL (Lib.decDigits n.natAbs) 3 ∧ 1 ≤ q.length ∧ r.length = 2 ∧ fixedS n 2 = (if n < 0 then [45] else []) ++ (q ++ 46 :: r) ∧ (1 < q.length → ∃ c q', q = c :: q' ∧ c ≠ 48) := by
  obtain ⟨T, hT⟩ : ∃ T, T = padL (Lib.decDigits n.natAbs) 3 := ⟨_, rfl⟩
  have hl : 3 ≤ T.length := by subst hT; exact padL_ge _ _
  refine ⟨T.take (T.length - 2), T.drop (T.length - 2), ?_, by simp; omega, by simp; omega, ?_, ?_⟩
  · rw [List.take_append_drop, hT]
  · rw [fixedS_of (k := 2) hT]
    split <;> simp
  · intro h
    have h2 : 3 < T.length := by simp at h; omega
    obtain ⟨c, r, h1, h3⟩ := dec_head n.natAbs
    have hp : T = Lib.decDigits n.natAbs := by
      rw [hT] at h2 ⊢
      unfold padL at h2 ⊢
      have : 3 - (Lib.decDigits n.natAbs).length = 0 := by simp at h2; omega
      rw [this]; rfl
    rw [hp, h1] at h2 ⊢
    refine ⟨c, r.take ((c :: r).length - 3), ?_, h3 (by rintro rfl; simp at h2)⟩
    obtain ⟨m, hm⟩ : ∃ m, (c :: r).length - 2 = m + 1 := ⟨(c :: r).length - 3, by simp at h2 ⊢; omega⟩
    rw [hm, List.take_succ_cons]
    congr 2
    simp at hm ⊢; omega
theorem parseFixed_call {n : Int} (h : -(2 : Int) ^ 60 ≤ n ∧ n ≤ 2 ^ 60) : FCall Tryd.prog n_ref01_ParseFixed [.str (fixedS n 2), .int .i64 2] (· = .tup [.int .i64 n, .int .i64 0]) := by
  obtain ⟨q, r, h1, h2, h3, h4, h5⟩ := fixedS_shape n
  have hlen := dig_len (u := n.natAbs) (by omega)
  have hlen2 : q.length + r.length ≤ 20 := by rw [← List.length_append, h1]; simp [padL]; omega
  have hs : signL (fixedS n 2) = (q ++ 46 :: r, decide (n < 0)) := by
    rw [h4]
    by_cases hn : n < 0
    · simp [signL, hn]
    · cases q with
      | nil => simp at h2
      | cons c q' =>
        have : c ≠ 45 := by
          rintro rfl
          have := pad_dig (u := n.natAbs) (w := 3) 45 (by rw [← h1]; simp)
          exact absurd this (by decide)
        simp [signL, hn, this]
  have hq : q.all isDig = true := List.all_eq_true.2 fun c m => pad_dig (u := n.natAbs) (w := 3) c (by rw [← h1]; simp [m])
  have hr : r.all isDig = true := List.all_eq_true.2 fun c m => pad_dig (u := n.natAbs) (w := 3) c (by rw [← h1]; simp [m])
  have e0 : (((q ++ 46 :: r).length : Nat) : Int) = (q.length : Int) + 3 := by simp [h3]
  have e1 : IntKind.i64.wrap ((q.length : Int) + 3 - 2) = (q.length : Int) + 1 := by rw [w64 (by unfold I64; omega)]; omega
  have e2 : IntKind.i64.wrap ((q.length : Int) + 1 - 1) = (q.length : Int) := by rw [w64 (by unfold I64; omega)]; omega
  have e3 : ((q.length : Int) < 1) = False := eq_false (by omega)
  have x1 : (q ++ 46 :: r)[q.length]? = some 46 := by rw [List.getElem?_append_right (Nat.le_refl _)]; simp
  have hss := signG_call (s := fixedS n 2) (by have := fixedS_len (n := n) (k := 2) (by unfold I64; omega) (by omega); omega)
  rw [hs] at hss
  refine FCall.walk u_ref01_ParseFixed k_ref01_ParseFixed rfl ?_
  unfold c_ref01_ParseFixed
  simp only [go_sem, simprocAttr]
  refine FCallT.of (clamp2_call (n := 2) (by omega)) ?_
  rintro _ rfl
  simp only [go_sem, simprocAttr]
  refine FCallT.of (hss) ?_
  rintro _ rfl
  simp only [go_sem, simprocAttr, e0, e1, e2, e3, Int.toNat_natCast, x1]
  have y1 : List.take (q.length - 0) (q ++ 46 :: r) = q := by simp
  have e5 : IntKind.i64.wrap ((q.length : Int) + 1) = (q.length : Int) + 1 := w64 (by unfold I64; omega)
  have e6 : ((q.length : Int) + 1).toNat = q.length + 1 := by omega
  have e7 : ((q.length : Int) + 3).toNat = q.length + 3 := by omega
  have y2 : List.take (q.length + 2 - q.length) (List.drop (q.length + 1) (q ++ 46 :: r)) = r := by
    rw [← List.drop_drop, List.drop_left' rfl, List.drop_one, List.tail_cons, List.take_of_length_le (by omega)]
  refine ⟨by omega, ?_⟩
  rw [y1]
  have q0 : (0 < q.length) = True := eq_true (by omega)
  have r0 : (0 < r.length) = True := eq_true (by omega)
  refine FCallT.of (allDig_call (s := q) (by omega)) ?_
  rintro _ rfl
  simp only [go_sem, simprocAttr, hq, q0, e0, e5, e6, e7, y2]
  refine ⟨by omega, ?_⟩
  refine FCallT.of (allDig_call (s := r) (by omega)) ?_
  rintro _ rfl
  simp only [go_sem, simprocAttr, hr, r0, e0, e5, e6, e7, y2]
  have hz : (1 < q.length) → ∃ c, (q ++ 46 :: r)[0]? = some c ∧ ¬ (c.toNat : Int) = 48 := fun hh => by
    obtain ⟨c, q', rfl, hc⟩ := h5 hh
    exact ⟨c, rfl, fun e => hc ((u8eq (k := 48) (by omega)).1 e)⟩
  have z3 : ∃ (c : UInt8) (b : Bool), (q ++ 46 :: r)[0]? = some c ∧ ((1 : Int) < (q.length : Int)) = (b = true) ∧ (b = true → ((c.toNat : Int) = 48) = False) := by
    by_cases hh : 1 < q.length
    · obtain ⟨c, h6, h7⟩ := hz hh
      exact ⟨c, true, h6, by simp; omega, fun _ => eq_false h7⟩
    · cases q with
      | nil => simp at h2
      | cons c q' => exact ⟨c, false, rfl, by simp only [Bool.false_eq_true, eq_iff_iff, iff_false]; omega, fun h => by cases h⟩
  obtain ⟨c, b, z4, z5, z6⟩ := z3
  have dq : q ++ r = List.replicate (3 - (Lib.decDigits n.natAbs).length) 48 ++ Lib.decDigits n.natAbs := h1
  have hnum : ∀ s, s = Lib.decDigits n.natAbs → FCall Tryd.prog n_ref01_number [.str s, .bool (decide (n < 0))] (· = .tup [.int .i64 n, .int .i64 0]) := by
    rintro _ rfl
    refine (number_call (b := decide (n < 0)) ?_ (dec_dig _) (by rw [numL_dec]; omega)).mono fun x hx => ?_
    · rw [Lib.decDigits_length]; exact nDigits_le19 (by omega)
    · rw [hx, numL_dec]
      by_cases hn : n < 0 <;> simp [hn] <;> omega
  have hne : ∀ s, s = Lib.decDigits n.natAbs → n < 0 → ¬ s = [48] := by
    rintro _ rfl hn e
    have := numL_dec n.natAbs
    rw [e] at this
    simp [numL] at this
    omega
  cases b
  all_goals
    simp only [forall_const, reduceCtorEq, false_implies] at z6
    simp only [go_sem, simprocAttr, z4, z5, z6, e0, e5, e6, e7, y1, y2, Int.toNat_natCast]
    refine ⟨by omega, ⟨by omega, by omega, by omega⟩, by omega, ?_⟩
    rw [dq]
    refine FWT.upd [] (fun s : List UInt8 => [(7, .str s)]) (fun s => s.length) (fun s => stripZ s = Lib.decDigits n.natAbs ∧ s.length ≤ 20 ∧ 1 ≤ s.length) _ rfl ⟨stripZ_pad _ _, by rw [← dq]; simp; omega, by rw [← dq]; simp; omega⟩ ?_
    rintro s ⟨g1, g2, g3⟩
    match s, g1, g2, g3 with
    | [x], g1, g2, g3 =>
      simp only [stripZ] at g1
      simp only [go_sem, simprocAttr]
      refine ⟨fun hn => ⟨fun e => absurd e (hne _ g1 hn), fun _ => ?_⟩, fun _ => ?_⟩
      · refine FCallT.of (hnum _ g1) ?_
        rintro _ rfl
        simp only [go_sem, simprocAttr]
      · refine FCallT.of (hnum _ g1) ?_
        rintro _ rfl
        simp only [go_sem, simprocAttr]
    | x :: y :: s', g1, g2, g3 =>
      have hx : (x.toNat : Int) = 48 ↔ x = 48 := u8eq (k := 48) (by omega)
      have g4 : ((1 : Int) < ((s'.length + 1 + 1 : Nat) : Int)) = True := eq_true (by omega)
      have g5 : List.take (s'.length + 1) (y :: s') = y :: s' := List.take_of_length_le (by simp)
      simp only [go_sem, simprocAttr, hx, g4, Int.toNat_natCast, g5]
      refine ⟨fun h7 => ⟨⟨by omega, by omega⟩, y :: s', rfl, ⟨?_, by simp at g2 ⊢; omega, by simp⟩, by simp⟩, fun h7 => ?_⟩
      · subst h7; simpa [stripZ] using g1
      · simp only [stripZ, h7, if_false] at g1
        refine ⟨fun hn => ⟨fun e => absurd e (hne _ g1 hn), fun _ => ?_⟩, fun _ => ?_⟩
        · refine FCallT.of (hnum _ g1) ?_
          rintro _ rfl
          simp only [go_sem, simprocAttr]
        · refine FCallT.of (hnum _ g1) ?_
          rintro _ rfl
          simp only [go_sem, simprocAttr]
end Go.Fx.Tryd
set_option linter.unusedVariables false
set_option linter.unusedSimpArgs false
namespace Go.Fx.Tryd
open Go Go.Fm Go.Proofs

def blank (c : UInt8) : Bool := decide (c = 32) || decide (c = 9)
/-- the words of a text, the letters so far being cur -/
def wordsL : List UInt8 → List UInt8 → List (List UInt8)
  | [], cur => if cur = [] then [] else [cur]
  | c :: r, cur => if blank c then (if cur = [] then wordsL r [] else cur :: wordsL r []) else wordsL r (cur ++ [c])
structure FSt where
  i : Nat
  out : List (List UInt8)
  cur : List UInt8
theorem fields_call {s : List UInt8} (hs : s.length < 2 ^ 40) : FCall Tryd.prog n_ref01_Fields [.str s] (· = .arr (strs (wordsL s []))) := by
  refine FCall.walk u_ref01_Fields k_ref01_Fields rfl ?_
  unfold c_ref01_Fields
  simp only [go_sem, simprocAttr]
  refine FWT.upd [] (fun x : FSt => [(3, .arr (strs x.out)), (4, .int .i64 (if x.cur = [] then -1 else (x.i : Int) - x.cur.length)), (5, .int .i64 x.i)]) (fun x => s.length + 1 - x.i)
    (fun x => x.i ≤ s.length + 1 ∧ x.out.length ≤ x.i ∧ x.cur.length ≤ x.i ∧ (x.i ≤ s.length → x.out ++ wordsL (s.drop x.i) x.cur = wordsL s [] ∧ (s.take x.i).drop (x.i - x.cur.length) = x.cur) ∧ (s.length < x.i → x.out = wordsL s [] ∧ x.cur = [])) ⟨0, [], []⟩ rfl ⟨by simp only; omega, by simp, by simp, by simp, fun h => absurd h (by simp)⟩ ?_
  rintro ⟨i, out, cur⟩ ⟨g1, g2, g3, g4, g5⟩
  simp only at g1 g2 g3 g4 g5 ⊢
  by_cases h : i ≤ s.length
  · obtain ⟨g6, g7⟩ := g4 h
    have c1 : ((i : Int) ≤ (s.length : Int)) = True := eq_true (by omega)
    by_cases h2 : i = s.length
    · have c2 : ((i : Int) = (s.length : Int)) = True := eq_true (by omega)
      rw [h2, List.drop_length] at g6
      rw [h2, List.take_length, ← h2] at g7
      simp only [go_sem, simprocAttr, c1, c2]
      by_cases hc : cur = []
      · simp only [hc, wordsL, if_true, List.append_nil] at g6 ⊢
        simp only [go_sem, simprocAttr, c1, c2]
        exact ⟨⟨i + 1, out, []⟩, by simp only [if_true]; rw [w64s (by omega)], ⟨by simp only; omega, by simp only; omega, by simp, fun h => absurd h (by simp only; omega), fun _ => ⟨g6, rfl⟩⟩, by simp only; omega⟩
      · simp only [hc, wordsL, if_false] at g6 ⊢
        have c3 : (0 : Int) ≤ (i : Int) - (cur.length : Int) := by omega
        have c4 : ((i : Int) - (cur.length : Int)).toNat = i - cur.length := by omega
        have c5 : ((i : Int) - (cur.length : Int) ≤ (i : Int)) := by omega
        have c6 : List.take (i - (i - cur.length)) (List.drop (i - cur.length) s) = cur := by rw [g7, List.take_of_length_le (by omega)]
        simp only [go_sem, simprocAttr, c1, c2, c3, c4, c5, c6, Int.toNat_natCast]
        refine ⟨by omega, ⟨i + 1, out ++ [cur], []⟩, ?_, ⟨by simp only; omega, by simp; omega, by simp, fun h => absurd h (by simp only; omega), fun _ => ⟨g6, rfl⟩⟩, by simp only; omega⟩
        simp only [if_true]
        rw [w64s (by omega), ← strs_snoc]
    · have h3 : i < s.length := by omega
      have c2 : ((i : Int) = (s.length : Int)) = False := eq_false (by omega)
      have hx : s[i]? = some s[i] := List.getElem?_eq_getElem h3
      have b1 : ((s[i].toNat : Int) = 32) = (s[i] = 32) := propext (u8eq (k := 32) (by omega))
      have b2 : ((s[i].toNat : Int) = 9) = (s[i] = 9) := propext (u8eq (k := 9) (by omega))
      have b3 : (((s[i].toNat : Int) = 32) = True ∧ blank s[i] = true) ∨ (((s[i].toNat : Int) = 32) = False ∧ ((s[i].toNat : Int) = 9) = True ∧ blank s[i] = true) ∨ (((s[i].toNat : Int) = 32) = False ∧ ((s[i].toNat : Int) = 9) = False ∧ blank s[i] = false) := by
        rw [b1, b2]
        unfold blank
        by_cases h4 : s[i] = 32 <;> by_cases h5 : s[i] = 9 <;> simp [h4, h5]
      clear b1 b2
      have hd : s.drop i = s[i] :: s.drop (i + 1) := List.drop_eq_getElem_cons h3
      rw [hd] at g6
      simp only [wordsL] at g6
      have ht : s.take (i + 1) = s.take i ++ [s[i]] := List.take_succ_eq_append_getElem h3
      have tl : (s.take i).length = i := by simp; omega
      by_cases hc : cur = []
      · subst hc
        simp only [if_true, List.nil_append] at g6 ⊢
        -- a blank: nothing is open
        have bl : blank s[i] = true → ∃ t : FSt, ([(0, FV.str s), (3, FV.arr (strs out)), (4, .int .i64 (-1)), (5, .int .i64 (IntKind.i64.wrap ((i : Int) + 1)))] : Env) = [(0, .str s), (3, .arr (strs t.out)), (4, .int .i64 (if t.cur = [] then -1 else (t.i : Int) - t.cur.length)), (5, .int .i64 t.i)] ∧
            (t.i ≤ s.length + 1 ∧ t.out.length ≤ t.i ∧ t.cur.length ≤ t.i ∧ (t.i ≤ s.length → t.out ++ wordsL (s.drop t.i) t.cur = wordsL s [] ∧ (s.take t.i).drop (t.i - t.cur.length) = t.cur) ∧ (s.length < t.i → t.out = wordsL s [] ∧ t.cur = [])) ∧ s.length + 1 - t.i < s.length + 1 - i := fun hb => by
          rw [if_pos hb] at g6
          refine ⟨⟨i + 1, out, []⟩, by simp only [if_true]; rw [w64s (by omega)], ⟨by simp only; omega, by simp only; omega, by simp, fun _ => ⟨g6, by simp⟩, fun h => absurd h (by simp only; omega)⟩, by simp only; omega⟩
        have nb : blank s[i] = false → ∃ t : FSt, ([(0, FV.str s), (3, FV.arr (strs out)), (4, .int .i64 i), (5, .int .i64 (IntKind.i64.wrap ((i : Int) + 1)))] : Env) = [(0, .str s), (3, .arr (strs t.out)), (4, .int .i64 (if t.cur = [] then -1 else (t.i : Int) - t.cur.length)), (5, .int .i64 t.i)] ∧
            (t.i ≤ s.length + 1 ∧ t.out.length ≤ t.i ∧ t.cur.length ≤ t.i ∧ (t.i ≤ s.length → t.out ++ wordsL (s.drop t.i) t.cur = wordsL s [] ∧ (s.take t.i).drop (t.i - t.cur.length) = t.cur) ∧ (s.length < t.i → t.out = wordsL s [] ∧ t.cur = [])) ∧ s.length + 1 - t.i < s.length + 1 - i := fun hb => by
          rw [hb] at g6
          simp only [Bool.false_eq_true, if_false] at g6
          refine ⟨⟨i + 1, out, [s[i]]⟩, ?_, ⟨by simp only; omega, by simp only; omega, by simp, fun _ => ⟨g6, ?_⟩, fun h => absurd h (by simp only; omega)⟩, by simp only; omega⟩
          · simp only [List.cons_ne_nil, if_false, List.length_singleton]
            rw [w64s (by omega)]
            congr 6
            omega
          · simp only [List.length_singleton, Nat.add_sub_cancel]
            rw [ht, List.drop_left' tl]
        rcases b3 with ⟨b1, hb⟩ | ⟨b1, b2, hb⟩ | ⟨b1, b2, hb⟩
        · simp only [go_sem, simprocAttr, c1, c2, hx, b1, Int.toNat_natCast]
          exact bl hb
        · simp only [go_sem, simprocAttr, c1, c2, hx, b1, b2, Int.toNat_natCast]
          exact bl hb
        · simp only [go_sem, simprocAttr, c1, c2, hx, b1, b2, Int.toNat_natCast]
          exact nb hb
      · simp only [hc, if_false] at g6 ⊢
        have f1 : (0 : Int) ≤ (i : Int) - (cur.length : Int) := by omega
        have f2 : ((i : Int) - (cur.length : Int) < 0) = False := eq_false (by omega)
        have f3 : ((i : Int) - (cur.length : Int) ≤ (i : Int)) := by omega
        have f4 : ((i : Int) - (cur.length : Int)).toNat = i - cur.length := by omega
        have f5 : List.take (i - (i - cur.length)) (List.drop (i - cur.length) s) = cur := by rw [← List.drop_take]; exact g7
        have f6 : ((i : Int) ≤ (s.length : Int)) := by omega
        have ob : out.length + 1 ≤ 2 ^ 40 := by omega
        have bl : blank s[i] = true → ∃ t : FSt, ([(0, FV.str s), (3, FV.arr (strs out ++ [[.str cur]])), (4, .int .i64 (-1)), (5, .int .i64 (IntKind.i64.wrap ((i : Int) + 1)))] : Env) = [(0, .str s), (3, .arr (strs t.out)), (4, .int .i64 (if t.cur = [] then -1 else (t.i : Int) - t.cur.length)), (5, .int .i64 t.i)] ∧
            (t.i ≤ s.length + 1 ∧ t.out.length ≤ t.i ∧ t.cur.length ≤ t.i ∧ (t.i ≤ s.length → t.out ++ wordsL (s.drop t.i) t.cur = wordsL s [] ∧ (s.take t.i).drop (t.i - t.cur.length) = t.cur) ∧ (s.length < t.i → t.out = wordsL s [] ∧ t.cur = [])) ∧ s.length + 1 - t.i < s.length + 1 - i := fun hb => by
          rw [if_pos hb] at g6
          refine ⟨⟨i + 1, out ++ [cur], []⟩, by simp only [if_true]; rw [w64s (by omega), strs_snoc], ⟨by simp only; omega, by simp; omega, by simp, fun _ => ⟨by rw [← g6]; simp, by simp⟩, fun h => absurd h (by simp only; omega)⟩, by simp only; omega⟩
        have nb : blank s[i] = false → ∃ t : FSt, ([(0, FV.str s), (3, FV.arr (strs out)), (4, .int .i64 ((i : Int) - cur.length)), (5, .int .i64 (IntKind.i64.wrap ((i : Int) + 1)))] : Env) = [(0, .str s), (3, .arr (strs t.out)), (4, .int .i64 (if t.cur = [] then -1 else (t.i : Int) - t.cur.length)), (5, .int .i64 t.i)] ∧
            (t.i ≤ s.length + 1 ∧ t.out.length ≤ t.i ∧ t.cur.length ≤ t.i ∧ (t.i ≤ s.length → t.out ++ wordsL (s.drop t.i) t.cur = wordsL s [] ∧ (s.take t.i).drop (t.i - t.cur.length) = t.cur) ∧ (s.length < t.i → t.out = wordsL s [] ∧ t.cur = [])) ∧ s.length + 1 - t.i < s.length + 1 - i := fun hb => by
          rw [hb] at g6
          simp only [Bool.false_eq_true, if_false] at g6
          refine ⟨⟨i + 1, out, cur ++ [s[i]]⟩, ?_, ⟨by simp only; omega, by simp only; omega, by simp; omega, fun _ => ⟨g6, ?_⟩, fun h => absurd h (by simp only; omega)⟩, by simp only; omega⟩
          · rw [if_neg (by simp)]
            simp only [List.length_append, List.length_singleton]
            rw [w64s (by omega), show ((i + 1 : Nat) : Int) - ((cur.length + 1 : Nat) : Int) = (i : Int) - cur.length by omega]
          · simp only [List.length_append, List.length_singleton]
            rw [ht, show i + 1 - (cur.length + 1) = i - cur.length by omega, List.drop_append_of_le_length (by rw [tl]; omega), g7]
        rcases b3 with ⟨b1, hb⟩ | ⟨b1, b2, hb⟩ | ⟨b1, b2, hb⟩
        · simp only [go_sem, simprocAttr, c1, c2, hx, b1, Int.toNat_natCast, f1, f2, f3, f4, f5, f6]
          exact ⟨by omega, bl hb⟩
        · simp only [go_sem, simprocAttr, c1, c2, hx, b1, b2, Int.toNat_natCast, f1, f2, f3, f4, f5, f6]
          exact ⟨by omega, bl hb⟩
        · simp only [go_sem, simprocAttr, c1, c2, hx, b1, b2, Int.toNat_natCast, f1, f2, f3, f4, f5, f6]
          exact nb hb
  · have c1 : ((i : Int) ≤ (s.length : Int)) = False := eq_false (by omega)
    simp only [go_sem, simprocAttr, c1]
    rw [(g5 (by omega)).1]
/-- a word, and what stands behind it -/
theorem wordsL_word : ∀ (w cur rest : List UInt8), (∀ c ∈ w, blank c = false) → wordsL (w ++ rest) cur = wordsL rest (cur ++ w)
  | [], cur, rest, _ => by simp
  | c :: w, cur, rest, h => by
    rw [List.cons_append, wordsL, if_neg (by simp [h c (by simp)]), wordsL_word w _ _ (fun d m => h d (by simp [m]))]
    simp
theorem wordsL_cons {w rest : List UInt8} (h : ∀ c ∈ w, blank c = false) (hw : w ≠ []) : wordsL (w ++ 32 :: rest) [] = w :: wordsL rest [] := by
  rw [wordsL_word w [] _ h, wordsL, if_pos (by decide), List.nil_append, if_neg hw]
theorem wordsL_last {w : List UInt8} (h : ∀ c ∈ w, blank c = false) (hw : w ≠ []) : wordsL w [] = [w] := by
  have := wordsL_word w [] [] h
  rw [List.append_nil, List.nil_append] at this
  rw [this, wordsL, if_neg hw]
theorem dig_nb {c : UInt8} (h : isDig c = true) : blank c = false := by
  simp only [isDig, Bool.and_eq_true, decide_eq_true_eq] at h
  simp only [blank, Bool.or_eq_false_iff, decide_eq_false_iff_not]
  constructor <;> rintro rfl <;> simp at h
theorem fixed_nb (n : Int) : (∀ c ∈ fixedS n 2, blank c = false) ∧ fixedS n 2 ≠ [] := by
  obtain ⟨q, r, h1, h2, h3, h4, _⟩ := fixedS_shape n
  rw [h4]
  constructor
  · intro c m
    have hq : ∀ x ∈ q ++ r, isDig x = true := by rw [h1]; exact pad_dig
    rcases List.mem_append.1 m with m | m
    · split at m <;> simp at m
      subst m; rfl
    · rcases List.mem_append.1 m with m | m
      · exact dig_nb (hq c (by simp [m]))
      · rcases List.mem_cons.1 m with rfl | m
        · rfl
        · exact dig_nb (hq c (by simp [m]))
  · simp
theorem itoa_nb (n : Int) : ∀ c ∈ Lib.itoa n, blank c = false := by
  intro c m
  rcases itoa_cases n with ⟨_, h⟩ | ⟨_, h⟩ <;> rw [h] at m
  · rcases List.mem_cons.1 m with rfl | m
    · rfl
    · exact dig_nb (dec_dig _ c m)
  · exact dig_nb (dec_dig _ c m)
theorem month_nb (m : Int) : (∀ c ∈ monthT m, blank c = false) ∧ monthT m ≠ [] := by
  have key : (∀ c ∈ monthS m, blank c = false) := by
    intro c hc
    unfold monthS at hc
    split at hc
    · rcases List.mem_append.1 hc with hc | hc
      · rcases List.mem_append.1 hc with hc | hc
        · exact itoa_nb _ c hc
        · simp at hc; subst hc; rfl
      · unfold padL at hc
        rcases List.mem_append.1 hc with hc | hc
        · rw [List.eq_of_mem_replicate hc]; rfl
        · exact itoa_nb _ c hc
    · simp at hc
  unfold monthT
  split
  · exact ⟨by simp [blank], by simp⟩
  · rename_i h; exact ⟨key, h⟩
theorem words_bal (p : BalL) : wordsL (balS p) [] = [monthT p.m, [100, 117, 101], fixedS p.d 2, [114, 101, 99, 101, 105, 118, 101, 100], fixedS p.r 2, [119, 97, 105, 118, 101, 100], fixedS p.w 2, [97, 114, 114, 101, 97, 114, 115], fixedS (arrN p.d p.r) 2,
    [111, 118, 101, 114, 112, 97, 121, 109, 101, 110, 116], fixedS (overN p.d p.r p.w) 2] := by
  have e : balS p = monthT p.m ++ 32 :: ([100, 117, 101] ++ 32 :: (fixedS p.d 2 ++ 32 :: ([114, 101, 99, 101, 105, 118, 101, 100] ++ 32 :: (fixedS p.r 2 ++ 32 :: ([119, 97, 105, 118, 101, 100] ++ 32 :: (fixedS p.w 2 ++ 32 :: ([97, 114, 114, 101, 97, 114, 115] ++ 32 ::
      (fixedS (arrN p.d p.r) 2 ++ 32 :: ([111, 118, 101, 114, 112, 97, 121, 109, 101, 110, 116] ++ 32 :: fixedS (overN p.d p.r p.w) 2))))))))) := by
    simp [balS]
  have f := fun n => fixed_nb n
  rw [e, wordsL_cons (month_nb _).1 (month_nb _).2, wordsL_cons (by decide) (by decide), wordsL_cons (f _).1 (f _).2, wordsL_cons (by decide) (by decide), wordsL_cons (f _).1 (f _).2, wordsL_cons (by decide) (by decide), wordsL_cons (f _).1 (f _).2,
    wordsL_cons (by decide) (by decide), wordsL_cons (f _).1 (f _).2, wordsL_cons (by decide) (by decide), wordsL_last (f _).1 (f _).2]
end Go.Fx.Tryd
set_option linter.unusedVariables false
set_option linter.unusedSimpArgs false
namespace Go.Fx.Tryd
open Go Go.Fm Go.Proofs

def balIn (p : BalL) : Prop := (-1152921504606846976 ≤ p.d ∧ p.d ≤ 1152921504606846976) ∧ (-1152921504606846976 ≤ p.r ∧ p.r ≤ 1152921504606846976) ∧ (-1152921504606846976 ≤ p.w ∧ p.w ≤ 1152921504606846976)
theorem orT {c : Prop} {p : Prop} {rest : Prop} (h : ¬ c → ¬ p) (hr : c → rest) : (c → rest) ∧ (¬ c → FV.bool false = .bool (bp p)) := ⟨hr, fun a => fbp_false (h a)⟩
theorem balWithin_call {p : BalL} : FCall Tryd.prog n_ref38_Within [.agg p.row, .int .i64 1152921504606846976] (· = .bool (bp (balIn p))) := by
  have e1 : IntKind.i64.wrap (-1152921504606846976) = -1152921504606846976 := w64 (by unfold I64; omega)
  refine FCall.walk u_ref38_Within k_ref38_Within rfl ?_
  unfold c_ref38_Within
  simp only [go_sem, simprocAttr, BalL.row, e1]
  by_cases h : balIn p
  · rw [bp_true h]
    obtain ⟨⟨h1, h2⟩, ⟨h3, h4⟩, h5, h6⟩ := h
    simp [h1, h2, h3, h4, h5, h6]
  · rw [bp_false h]
    unfold balIn at h
    refine ⟨fun h1 => ⟨fun h2 => ⟨fun h3 => ⟨fun h4 => ⟨fun h5 => ?_, fun _ => rfl⟩, fun _ => rfl⟩, fun _ => rfl⟩, fun _ => rfl⟩, fun _ => rfl⟩
    congr 1
    simp only [decide_eq_false_iff_not]
    intro h6
    exact h ⟨⟨h1, h2⟩, ⟨h3, h4⟩, h5, h6⟩
theorem balS_len {p : BalL} (h : p.ok) : (balS p).length ≤ 1000 := by
  obtain ⟨h1, h2, h3⟩ := h
  have l1 := monthT_len (m := p.m)
  have l2 := fixedS_len (k := 2) h1 (by omega)
  have l3 := fixedS_len (k := 2) h2 (by omega)
  have l4 := fixedS_len (k := 2) h3 (by omega)
  have l5 := fixedS_len (k := 2) (arr_range p.d p.r) (by omega)
  have l6 := fixedS_len (k := 2) (over_range p.d p.r p.w) (by omega)
  simp [balS]; omega
theorem law_balances {f : Bool} {l : List BalL} (hl : l.length < 2 ^ 40) (hI : ∀ p ∈ l, p.ok) : FCall Tryd.prog n_law54_ReportBalances [.sl f (balsV l)] (· = .bool true) := by
  refine FCall.walk u_law54_ReportBalances k_law54_ReportBalances rfl ?_
  unfold c_law54_ReportBalances
  simp only [go_sem, simprocAttr]
  refine ⟨fun h => ?_, fun h => ?_⟩
  · refine FCallT.of (awake_call) ?_
    rintro _ rfl
    simp only [go_sem, simprocAttr]
  refine FWT.count [] l.length (fun i => [(3, .int .i64 i)]) (fun i => ∀ p ∈ l.take i, balIn p) rfl (by simp) ?_
  intro i hi hg
  by_cases h2 : i < l.length
  · have hx := balsV_get h2
    simp only [go_sem, simprocAttr, ltT h2, Int.toNat_natCast, hx]
    refine FCallT.of (balWithin_call (p := l[i])) ?_
    rintro _ rfl
    simp only [go_sem, simprocAttr]
    refine ⟨fun h3 => ?_, fun h3 => ⟨by rw [w64s (by omega)], (all_take_succ h2).2 ⟨hg, bp_iff.1 h3⟩, h2⟩⟩
    refine FCallT.of (awake_call) ?_
    rintro _ rfl
    simp only [go_sem, simprocAttr]
  simp only [go_sem, simprocAttr, ltF h2]
  rw [List.take_of_length_le (by omega)] at hg
  refine FCallT.of (bals_call hl hI) ?_
  rintro _ rfl
  simp only [go_sem, simprocAttr]
  refine FCallT.of (bals2_call hl hI) ?_
  rintro _ rfl
  simp only [go_sem, simprocAttr]
  refine FCallT.of (strings_call (u := false) (v := false) (a := l.map balS) (b := l.map balS) (by simp; omega) (by simp; omega)) ?_
  rintro _ rfl
  simp only [go_sem, simprocAttr, strs_free]
  refine FWT.count [] l.length (fun i => [(5, .int .i64 i)]) (fun i => True) rfl trivial ?_
  intro i hi _
  by_cases h2 : i < l.length
  · have hx := balsV_get h2
    have hy := strs_get (l := l.map balS) (i := i) (by simpa using h2)
    have hy2 : (l.map balS)[i]'(by simpa using h2) = balS l[i] := by simp
    rw [hy2] at hy
    simp only [go_sem, simprocAttr, ltT h2, Int.toNat_natCast, hx, hy]
    have hI2 := hI _ (List.getElem_mem h2)
    obtain ⟨i1, i2, i3⟩ := hg _ (List.getElem_mem h2)
    refine FCallT.of (fields_call (s := balS l[i]) (by have := balS_len hI2; omega)) ?_
    rintro _ rfl
    simp only [go_sem, simprocAttr, words_bal, strs, List.map_cons, List.map_nil]
    refine FCallT.of (parseFixed_call (n := l[i].d) (by omega)) ?_
    rintro _ rfl
    simp only [go_sem, simprocAttr]
    refine FCallT.of (parseFixed_call (n := l[i].r) (by omega)) ?_
    rintro _ rfl
    simp only [go_sem, simprocAttr]
    refine FCallT.of (parseFixed_call (n := l[i].w) (by omega)) ?_
    rintro _ rfl
    simp only [go_sem, simprocAttr, ltT h2, Int.toNat_natCast, hx]
    exact ⟨by rw [w64s (by omega)], h2⟩
  simp only [go_sem, simprocAttr, ltF h2]
  refine FCallT.of (awake_call) ?_
  rintro _ rfl
  simp only [go_sem, simprocAttr]
end Go.Fx.Tryd
/- From a row's reading of an argument to an abstract value. -/
set_option linter.unusedVariables false
set_option linter.unusedSimpArgs false
namespace Go.Fm
open Go

/-- the types that are read here: a struct is a chain of its fields -/
inductive Ty where
  | bool | int (k : IntKind) | str | sl (e : Ty) | nil | cons (a b : Ty)

def Ty.cells : Ty → Nat
  | .bool | .int _ | .str | .sl _ => 1
  | .nil => 0
  | .cons a b => a.cells + b.cells

/-- a value of a type, its strings and slices no longer than B -/
def Ty.has (B : Nat) : Ty → List FV → Prop
  | .bool, fs => ∃ b, fs = [.bool b]
  | .int k, fs => ∃ x, fs = [.int k x] ∧ (Lit.int k x).wf = true
  | .str, fs => ∃ s, fs = [.str s] ∧ s.length ≤ B
  | .sl e, fs => ∃ es, fs = [.sl false es] ∧ es.length ≤ B ∧ ∀ r ∈ es, e.has B r
  | .nil, fs => fs = []
  | .cons a b, fs => ∃ x y, fs = x ++ y ∧ a.has B x ∧ b.has B y

def tyFs (P : Program) (f : TypeId → Option Ty) : Nat → List (TypeId × Nat) → Option Ty
  | _, [] => some .nil
  | off, x :: xs => if x.2 = off then (f x.1).bind fun a => if P.cellsOf x.1 = a.cells then (tyFs P f (off + a.cells) xs).map (.cons a ·) else none else none
def tyOf (P : Program) : Nat → TypeId → Option Ty
  | 0, _ => none
  | n + 1, t => match P.underlying t with
    | some .bool => some .bool
    | some (.int k) => some (.int k)
    | some .string => some .str
    | some (.slice e) => (tyOf P n e).bind fun T => if P.cellsOf e = T.cells ∧ 0 < T.cells then some (.sl T) else none
    | some (.struct flds) => (tyFs P (tyOf P n) 0 (flds.toList.map fun f => (f.type, f.offset))).bind fun T => if P.cellsOf t = T.cells then some T else none
    | _ => none

structure Bnd {H : Type} (Bd : DataW H → Prop) (B : Nat) : Prop where
  str : ∀ {s}, Bd (.lit (.string s)) → s.length ≤ maxLen → s.length ≤ B
  sl : ∀ {es rest}, Bd (.slice es rest) → es.length ≤ maxLen → es.length ≤ B ∧ ∀ d ∈ es, Bd d
  agg : ∀ {xs}, Bd (.agg xs) → ∀ d ∈ xs, Bd d

theorem Ty.has_length {B : Nat} : ∀ {T : Ty} {fs : List FV}, T.has B fs → fs.length = T.cells
  | .bool, _, ⟨_, rfl⟩ | .int _, _, ⟨_, rfl, _⟩ | .str, _, ⟨_, rfl, _⟩ | .sl _, _, ⟨_, rfl, _⟩ => rfl
  | .nil, _, h => by obtain rfl : _ = [] := h; rfl
  | .cons a b, _, ⟨x, y, rfl, hx, hy⟩ => by simp [Ty.cells, has_length hx, has_length hy]

theorem mapM_some_iff {α β : Type} {f : α → Option β} : ∀ {l : List α} {r : List β}, l.mapM f = some r → l.length = r.length ∧ ∀ i : Nat, (l[i]?).bind f = r[i]?
  | [], r, h => by simp at h; subst h; simp
  | a :: l, r, h => by
    rw [List.mapM_cons] at h
    cases ha : f a with
    | none => simp [ha] at h
    | some b =>
      cases hl : l.mapM f with
      | none => simp [ha, hl] at h
      | some bs =>
        simp [ha, hl] at h
        subst h
        have ih := mapM_some_iff hl
        refine ⟨by simp [ih.1], fun i => ?_⟩
        cases i with
        | zero => simpa using ha
        | succ i => simpa using ih.2 i

theorem cells?_some {w : World} {a : Addr} {n : Nat} {cs : List Value} (h : w.cells? 0 a n = some cs) :
    cs.length = n ∧ ∀ k, k < n → w.cell? (a.add k) = cs[k]? := by
  unfold World.cells? at h
  rw [if_pos (Nat.zero_le _)] at h
  have := mapM_some_iff h
  refine ⟨by simpa using this.1.symm, fun k hk => ?_⟩
  have h2 := this.2 k
  rw [List.getElem?_range hk] at h2
  simpa using h2

theorem spot_none {w : World} {a : Addr} {v : Value} (h : w.cell? a = some v) : a = ⟨a.block, a.off, none⟩ ∧ a.block < w.heap.size := by
  obtain ⟨b, o, s⟩ := a
  unfold World.cell? at h
  cases e : w.heap[b]? with
  | none => simp [e] at h
  | some x =>
    refine ⟨?_, (Array.getElem?_eq_some_iff.1 e).1⟩
    cases s with
    | none => rfl
    | some s => cases x <;> simp [e] at h

def Reads (P : Program) (B : Nat) (w : World) (T : Ty) (cs : List Value) : Prop :=
  ∃ fs, T.has B fs ∧ Rep w.heap (fun b => b < w.heap.size) cs fs []

/-- many elements in a row -/
theorem reads_row {P : Program} {B : Nat} {w : World} {T : Ty} {st : Nat} : ∀ {rows : List (List Value)}, (∀ r ∈ rows, Reads P B w T r) →
    ∃ es : List (List FV), es.length = rows.length ∧ (∀ e ∈ es, T.has B e) ∧ Rep w.heap (fun b => b < w.heap.size) rows.flatten es.flatten []
  | [], _ => ⟨[], rfl, by simp, .nil⟩
  | r :: rows, h => by
    obtain ⟨f, h1, h2⟩ := h r (by simp)
    obtain ⟨es, h3, h4, h5⟩ := reads_row (st := st) (rows := rows) (fun r' m => h r' (List.mem_cons_of_mem _ m))
    exact ⟨f :: es, by simp [h3], by simp only [List.mem_cons]; rintro e (rfl | m); exact h1; exact h4 e m, by simpa using h2.append h5⟩

theorem flatten_get {α : Type} {st : Nat} : ∀ {rows : List (List α)}, (∀ r ∈ rows, r.length = st) → ∀ i j : Nat, j < st → rows.flatten[i * st + j]? = (rows[i]?).bind (·[j]?)
  | [], _, i, j, _ => by simp
  | r :: rows, h, i, j, hj => by
    have hr := h r (by simp)
    cases i with
    | zero => simp [List.getElem?_append, hr, hj]
    | succ i =>
      have := flatten_get (rows := rows) (fun r' m => h r' (by simp [m])) i j hj
      rw [List.flatten_cons, List.getElem?_append_right (by rw [hr, Nat.succ_mul]; omega)]
      rw [hr, Nat.succ_mul, show i * st + st + j - st = i * st + j by omega, this]
      simp

section
variable {H : Type} {enc : TypeId × Value → H} {P : Program} {w : World} {Bd : DataW H → Prop} {B : Nat}

theorem rep_struct {fuel n : Nat} {cs : List Value}
    (ih : ∀ t T c d ps, tyOf P n t = some T → DataW.trod enc P w 0 (fun _ => true) true fuel t c = some (d, ps) → Bd d → Reads P B w T c) :
    ∀ (flds : List (TypeId × Nat)) (off : Nat) (T : Ty) (xs : List (DataW H × List MemPlace)), tyFs P (tyOf P n) off flds = some T →
      (flds.mapM fun f => DataW.trod enc P w 0 (fun _ => true) true fuel f.1 ((cs.drop f.2).take (P.cellsOf f.1))) = some xs → (∀ x ∈ xs, Bd x.1) →
      cs.length = off + T.cells → Reads P B w T (cs.drop off)
  | [], off, T, xs, hT, hx, hb, hl => by
    simp [tyFs] at hT
    subst hT
    simp [Ty.cells] at hl
    exact ⟨[], rfl, by rw [List.drop_eq_nil_of_le (by omega)]; exact .nil⟩
  | f :: flds, off, T, xs, hT, hx, hb, hl => by
    simp only [tyFs] at hT
    split at hT
    case isFalse => cases hT
    case isTrue ho =>
    cases ha : tyOf P n f.1 with
    | none => simp [ha] at hT
    | some a =>
      simp only [ha, Option.bind_some] at hT
      split at hT
      case isFalse => cases hT
      case isTrue hc =>
      cases hr : tyFs P (tyOf P n) (off + a.cells) flds with
      | none => simp [hr] at hT
      | some b =>
        simp only [hr, Option.map_some, Option.some.injEq] at hT
        subst hT
        rw [List.mapM_cons] at hx
        cases h1 : DataW.trod enc P w 0 (fun _ => true) true fuel f.1 ((cs.drop f.2).take (P.cellsOf f.1)) with
        | none => simp [h1] at hx
        | some x =>
          cases h2 : (flds.mapM fun f => DataW.trod enc P w 0 (fun _ => true) true fuel f.1 ((cs.drop f.2).take (P.cellsOf f.1))) with
          | none => simp [h1, h2] at hx
          | some ys =>
            simp [h1, h2] at hx
            subst hx
            simp only [Ty.cells] at hl
            obtain ⟨fa, ha1, ha2⟩ := ih f.1 a _ x.1 x.2 ha h1 (hb x (by simp))
            obtain ⟨fb, hb1, hb2⟩ := rep_struct ih flds (off + a.cells) b ys hr h2 (fun y m => hb y (by simp [m])) (by omega)
            refine ⟨fa ++ fb, ⟨fa, fb, rfl, ha1, hb1⟩, ?_⟩
            have := ha2.append hb2
            rw [ho, hc] at this
            rwa [← List.drop_drop, List.take_append_drop] at this

theorem reads_of_trod (hB : Bnd Bd B) : ∀ (n fuel : Nat) (t : TypeId) (T : Ty) (cs : List Value) (d : DataW H) (ps : List MemPlace), tyOf P n t = some T →
    DataW.trod enc P w 0 (fun _ => true) true fuel t cs = some (d, ps) → Bd d → Reads P B w T cs
  | 0, _, _, _, _, _, _, hT, _, _ => by simp [tyOf] at hT
  | n + 1, 0, t, T, cs, d, ps, hT, ht, hd => by simp [DataW.trod] at ht
  | n + 1, fuel + 1, t, T, cs, d, ps, hT, ht, hd => by
    have ih := fun t T c d ps => reads_of_trod hB n fuel t T c d ps
    simp only [tyOf] at hT
    split at hT
    case h_6 => cases hT
    case h_1 hu =>
      simp only [Option.some.injEq] at hT
      subst hT
      unfold DataW.trod at ht
      rw [hu] at ht
      split at ht <;> simp_all
      obtain ⟨rfl, rfl⟩ := ht
      exact ⟨_, ⟨_, rfl⟩, .bool .nil⟩
    case h_2 k hu =>
      simp only [Option.some.injEq] at hT
      subst hT
      unfold DataW.trod at ht
      rw [hu] at ht
      split at ht <;> simp_all
      obtain ⟨⟨rfl, hw⟩, rfl, rfl⟩ := ht
      rename_i h1
      obtain rfl := h1
      exact ⟨_, ⟨_, rfl, hw⟩, .int .nil⟩
    case h_3 hu =>
      simp only [Option.some.injEq] at hT
      subst hT
      unfold DataW.trod at ht
      rw [hu] at ht
      split at ht <;> simp_all
      obtain ⟨hw, rfl, rfl⟩ := ht
      rename_i s
      obtain ⟨⟨s⟩⟩ := s
      exact ⟨_, ⟨s, rfl, hB.str hd (by simpa [ByteArray.size] using hw)⟩, .str .nil⟩
    case h_4 e hu =>
      cases he : tyOf P n e with
      | none => simp [he] at hT
      | some T' =>
      simp only [he, Option.bind_some] at hT
      split at hT
      case isFalse => cases hT
      case isTrue hc =>
      obtain ⟨hc, hpos⟩ := hc
      simp only [Option.some.injEq] at hT
      subst hT
      unfold DataW.trod at ht
      rw [hu] at ht
      split at ht <;> try (simp_all; done)
      · simp at ht
        exact ⟨[.sl false []], ⟨[], rfl, Nat.zero_le _, by simp⟩, .slNil .nil⟩
      · rename_i cs0 e' a len cap h2
        simp only [Option.some.injEq, TypeDesc.slice.injEq] at h2
        subst h2
        simp only [if_true] at ht
        split at ht
        case isFalse => cases ht
        case isTrue hl =>
        obtain ⟨_, hl1, hl2⟩ := hl
        cases hx : (List.mapM (fun i => (w.cells? 0 (a.add (i * P.cellsOf e)) (P.cellsOf e)).bind (DataW.trod enc P w 0 (fun _ => true) true fuel e)) (List.range len)) with
        | none => simp [hx] at ht
        | some xs =>
        cases hy : (List.mapM (fun j => (w.cells? 0 (a.add ((len + j) * P.cellsOf e)) (P.cellsOf e)).bind (DataW.trod enc P w 0 (fun _ => true) true fuel e)) (List.range (cap - len))) with
        | none => simp [hx, hy] at ht
        | some ys =>
        simp only [hx, hy, Option.map_some, Option.bind_some, Option.some.injEq, Prod.mk.injEq] at ht
        obtain ⟨rfl, rfl⟩ := ht
        obtain ⟨hxl, hxs⟩ := mapM_some_iff hx
        obtain ⟨hyl, hys⟩ := mapM_some_iff hy
        simp only [List.length_range] at hxl hyl
        by_cases hz : cap = 0
        · obtain rfl : len = 0 := by omega
          subst hz
          exact ⟨[.sl false []], ⟨[], rfl, Nat.zero_le _, by simp⟩, .slNil .nil⟩
        have hB2 := hB.sl hd (by simp; omega)
        have cell : ∀ i, i < len → ∃ c x, w.cells? 0 (a.add (i * P.cellsOf e)) (P.cellsOf e) = some c ∧ DataW.trod enc P w 0 (fun _ => true) true fuel e c = some x ∧ Bd x.1 := by
          intro i hi
          have h := hxs i
          rw [List.getElem?_range hi, Option.bind_some, List.getElem?_eq_getElem (by omega)] at h
          obtain ⟨c, h3, h4⟩ := Option.bind_eq_some_iff.1 h
          exact ⟨c, _, h3, h4, hB2.2 _ (List.mem_map.2 ⟨_, List.getElem_mem _, rfl⟩)⟩
        have first : a = ⟨a.block, a.off, none⟩ ∧ a.block < w.heap.size := by
          have : ∃ c, w.cells? 0 a (P.cellsOf e) = some c := by
            by_cases h0 : 0 < len
            · obtain ⟨c, _, h, _⟩ := cell 0 h0; exact ⟨c, by simpa [Addr.add] using h⟩
            · obtain rfl : len = 0 := by omega
              have h := hys 0
              rw [List.getElem?_range (by omega), Option.bind_some, List.getElem?_eq_getElem (by omega)] at h
              obtain ⟨c, h3, h4⟩ := Option.bind_eq_some_iff.1 h
              exact ⟨c, by simpa [Addr.add] using h3⟩
          obtain ⟨c, h⟩ := this
          have h2 := (cells?_some h).2 0 (by omega)
          rw [List.getElem?_eq_getElem (by rw [(cells?_some h).1]; omega)] at h2
          have := spot_none h2
          simpa [Addr.add] using this
        obtain ⟨bk, o, spt⟩ := a
        obtain ⟨rfl, hlt⟩ : spt = none ∧ bk < w.heap.size := by simpa using first
        let row : Nat → List Value := fun i => ((w.cells? 0 (Addr.add ⟨bk, o, none⟩ (i * P.cellsOf e)) (P.cellsOf e)).getD [])
        have hrow : ∀ i, i < len → Reads P B w T' (row i) ∧ (row i).length = T'.cells ∧ ∀ k, k < T'.cells → w.cell? ⟨bk, o + (i * T'.cells + k), none⟩ = (row i)[k]? := by
          intro i hi
          obtain ⟨c, x, h3, h4, h5⟩ := cell i hi
          have e1 : row i = c := by simp only [row, h3, Option.getD_some]
          rw [e1]
          obtain ⟨h6, h7⟩ := cells?_some h3
          refine ⟨ih e T' c x.1 x.2 he h4 h5, by rw [h6, hc], fun k hk => ?_⟩
          have := h7 k (by omega)
          rw [← this, ← hc]
          congr 1
          simp only [Addr.add]
          split <;> split <;> simp_all <;> omega
        obtain ⟨es, h3, h4, h5⟩ := reads_row (P := P) (B := B) (w := w) (T := T') (st := 0) (rows := (List.range len).map row) (by
          intro r m
          obtain ⟨i, hi, rfl⟩ := List.mem_map.1 m
          exact (hrow i (List.mem_range.1 hi)).1)
        simp only [List.length_map, List.length_range] at h3
        have hst : ∀ r ∈ (List.range len).map row, r.length = T'.cells := by
          intro r m
          obtain ⟨i, hi, rfl⟩ := List.mem_map.1 m
          exact (hrow i (List.mem_range.1 hi)).2.1
        have hfl : ((List.range len).map row).flatten.length = len * T'.cells := by
          have := h5.length
          have h6 : ∀ {rows : List (List Value)}, (∀ r ∈ rows, r.length = T'.cells) → rows.flatten.length = rows.length * T'.cells := by
            intro rows
            induction rows with
            | nil => simp
            | cons r rows ih2 => intro h; rw [List.flatten_cons, List.length_append, h r (by simp), ih2 fun r' m => h r' (by simp [m]), List.length_cons, Nat.succ_mul]; omega
          simpa using h6 hst
        refine ⟨[.sl false es], ⟨es, rfl, by rw [h3]; simpa [hxl] using hB2.1, h4⟩, ?_⟩
        refine .sl h3 (st := T'.cells) (cs := ((List.range len).map row).flatten) (fun r m => Ty.has_length (h4 r m)) hlt hlt hfl (fun k hk => ?_) hl1 (by simp) (by omega) h5 .nil
        have hk1 : k / T'.cells < len := Nat.div_lt_of_lt_mul (by rwa [Nat.mul_comm])
        have hk2 : k % T'.cells < T'.cells := Nat.mod_lt _ hpos
        have hk3 : k = k / T'.cells * T'.cells + k % T'.cells := by rw [Nat.mul_comm]; exact (Nat.div_add_mod k _).symm
        rw [hk3, flatten_get hst _ _ hk2, List.getElem?_map, List.getElem?_range hk1, ← cell?_eq]
        exact (hrow _ hk1).2.2 _ hk2
    case h_5 flds hu =>
      cases he : tyFs P (tyOf P n) 0 (flds.toList.map fun f => (f.type, f.offset)) with
      | none => simp [he] at hT
      | some T' =>
      simp only [he, Option.bind_some] at hT
      split at hT
      case isFalse => cases hT
      case isTrue hc =>
      simp only [Option.some.injEq] at hT
      subst hT
      unfold DataW.trod at ht
      rw [hu] at ht
      split at ht <;> try (simp_all; done)
      rename_i cs0 x1 cs1 flds' h1
      simp only [Option.some.injEq, TypeDesc.struct.injEq] at h1
      subst h1
      split at ht
      case isFalse => cases ht
      case isTrue hl =>
      cases hx : (flds.toList.mapM fun f => DataW.trod enc P w 0 (fun _ => true) true fuel f.type ((cs0.drop f.offset).take (P.cellsOf f.type))) with
      | none => simp [hx] at ht
      | some xs =>
      simp only [hx, Option.map_some, Option.some.injEq, Prod.mk.injEq] at ht
      obtain ⟨rfl, rfl⟩ := ht
      have := rep_struct (n := n) (cs := cs0) (fuel := fuel) (Bd := Bd) (B := B) (fun t T c d ps => ih t T c d ps) (flds.toList.map fun f => (f.type, f.offset)) 0 T' xs he (by rw [List.mapM_map]; exact hx) (fun x m => hB.agg hd _ (List.mem_map.2 ⟨x, m, rfl⟩)) (by rw [hl, hc, Nat.zero_add])
      exact this
end
end Go.Fm
/- A contract of a function that yields true, brought to a row: what was there when the call began reads as it did. -/
set_option linter.unusedVariables false
set_option linter.unusedSimpArgs false
namespace Go.Fm
open Go Go.ChangeShapes Go.WideShapes Go.RowKit Go.WideElems

section
variable {H : Type} {enc : TypeId × Value → H} {P : Program}

theorem Ext.below {W W' : World} {S S' : Nat → Prop} {R' : List Nat} (e : Ext W S [] W' S' R') : Below W.heap.size W W' :=
  ⟨e.os, e.tape, e.output, e.grow, fun k hk => e.keep k hk (by simp)⟩

theorem trodAll_below (hl : laidOutB P = true) {W W' : World} (hb : Below W.heap.size W W') {sp : Nat → Bool} : ∀ {ts : List TypeId} {vs : List Value} {ds : List (DataW H)} {ps : List MemPlace},
    (∀ t ∈ ts, P.readableRec t = true ∧ t < P.types.size) → DataW.TrodAll enc P W 0 (fun _ => true) true ts vs ds ps → (∀ p ∈ ps, p.block < W.heap.size) → (∀ p ∈ ps, sp p.block = true) →
    DataW.TrodAll enc P W' 0 sp true ts vs ds ps
  | [], vs, ds, ps, _, h, _, _ => by obtain ⟨rfl, rfl, rfl⟩ := trodAll_nil h; exact trodAll_mk0
  | t :: ts, vs, ds, ps, hr, h, hlt, hs => by
    obtain ⟨v, vs1, d, ds1, a, b, rfl, rfl, rfl, h1, h2⟩ := trodAll_cons h
    have := hr t (by simp)
    exact ⟨a, b, Trod_stays hl this.1 this.2 h1 (fun x hx => hb.same (hlt x (by simp [hx]))) (fun x hx => hs x (by simp [hx])),
      trodAll_below hl hb (fun t m => hr t (by simp [m])) h2 (fun x hx => hlt x (by simp [hx])) (fun x hx => hs x (by simp [hx])), rfl⟩

theorem post_of_below {f : Func} {s : ChangeSpec} {apart fresh handsOn again : Bool} {W W' : World} {args : Array Value} {v : Value} {ds gs : List (DataW H)} {before pa pv : List MemPlace}
    (hW : DataW.Whole enc P f.params.toList s.vars apart W args.toList ds gs before)
    (hres : ∀ (b : Nat) (sp : Nat → Bool) (hd : Bool), DataW.TrodAll enc P W' b sp hd f.resultTypes.toList (v.resultList f.resultTypes.size) (s.fn H (ds ++ gs)).results [])
    (hargs : ∀ sp : Nat → Bool, (∀ p ∈ before, sp p.block = true) → DataW.TrodAll enc P W' 0 sp true f.params.toList args.toList (s.fn H (ds ++ gs)).args pa)
    (hvars : ∀ sp : Nat → Bool, (∀ p ∈ before, sp p.block = true) → DataW.TrodVars enc P W' sp s.vars (s.fn H (ds ++ gs)).vars pv)
    (hps : before = pa ++ pv) (hb : Below W.heap.size W W')
    (hok : ∀ (j : Nat) (t : TypeId) (r : Value), f.resultTypes[j]? = some t → (v.resultList f.resultTypes.size)[j]? = some r → Value.okWide P W' .any 0 t r) :
    s.post enc P f apart fresh handsOn again W args v W' := by
  have hold : ∀ p ∈ before, (fun b => decide (b < W.heap.size)) p.block = true := fun p hp => by simpa using hW.lt p hp
  have hlt := hW.lt
  refine ⟨ds, gs, before, [], pa, pv, hW, hres _ _ _, hargs _ hold, hvars _ hold, hb.frame _, fun _ => ?_⟩
  obtain ⟨_, _, _, _, _, hz, hn⟩ := hW
  refine ⟨hok, _, _, ([] ++ pa) ++ pv, ⟨[] ++ pa, pv, trodAll_append (hargs _ (fun _ _ => rfl)) (hres _ _ _), hvars _ (fun _ _ => rfl), rfl, ?_, ?_⟩, ?_⟩
  · intro b off hp
    have hm : MemPlace.cell b off ∈ before := by rw [hps]; simpa using hp
    rw [hb.frozen (hlt _ hm)]
    exact hz b off hm
  · intro ha
    have := hn ha
    rw [hps] at this
    simpa using this
  · intro p hp _
    rw [hps]
    simpa using hp

/-- THE CONTRACT OF A ROW whose function yields true -/
theorem row_true {f : FuncId} {fn : Func} {s : ChangeSpec} {apart fresh handsOn again : Bool} {W : World} {args : Array Value} {ds : List (DataW H)} {before : List MemPlace} {fs : List FV} {tb : TypeId}
    (hl : laidOutB P = true) (hr : ∀ t ∈ fn.params.toList, P.readableRec t = true ∧ t < P.types.size)
    (hW : DataW.Whole enc P fn.params.toList s.vars apart W args.toList ds [] before) (hv : s.vars = [])
    (hs : s.fn H (ds ++ []) = { results := [.lit (.bool true)], args := ds }) (hres : fn.resultTypes = #[tb]) (htb : P.underlying tb = some .bool)
    (hA : Amb P W (fun b => b < W.heap.size)) (hR : Rep W.heap (fun b => b < W.heap.size) args.toList fs []) (hc : FCall P f fs (· = .bool true)) :
    Calls P f args W fun e W' => ∃ v, e = .returned v ∧ s.post enc P fn apart fresh handsOn again W args v W' := by
  have := hc.out hA hR (by simp) (fun b hb => ⟨hb, by simp⟩)
  rw [Array.toArray_toList] at this
  refine this.mono fun e W' ⟨v, r, S', R', he, hr', hrep, _, _, hext⟩ => ?_
  subst hr'
  subst he
  cases hrep with
  | bool hrest =>
  have hb := hext.below
  have hW' := hW
  obtain ⟨p, q, hA0, hV, rfl, hfz, hnd⟩ := hW
  rw [hv] at hV
  obtain ⟨_, rfl⟩ := trodVars_none hV
  have hlt := hW'.lt
  refine ⟨_, rfl, post_of_below (pa := p) (pv := []) hW' (fun _ _ _ => ?_) (fun sp hsp => ?_) (fun _ _ => ?_) rfl hb (ok_one hres rfl (okWide_bool_mk htb _))⟩
  · rw [hs, hres]
    exact trodAll_cons_mk (shut_bool htb _) trodAll_mk0
  · rw [hs]
    exact trodAll_below hl hb hr hA0 (fun x hx => hlt x (by simp [hx])) (fun x hx => hsp x (by simp [hx]))
  · rw [hs, hv]; rfl

/-- the table, where it stands third on the row's list -/
theorem amb_third {W : World} {x y : String × DataW Unit} {rest : List (String × DataW Unit)} {g t e : Nat}
    (hg : P.globalNamed "internal/strconv.uint64pow10" = some g) (hty : (P.globals[g]?).map (·.type) = some t) (ht : P.underlying t = some (.array 20 e)) (he : P.underlying e = some (.int .u64)) (hce : P.cellsOf e = 1) (hct : P.cellsOf t = 20)
    (h1 : laidMet P (x :: y :: ("internal/strconv.uint64pow10", Lib.tabData .u64 Lib.pow10Tab) :: rest) W) : Amb P W (fun b => b < W.heap.size) := by
  have h2 := Lib.tabIs_of_head hg hty ht he hce hct h1.tail.tail
  intro z hz g' hg'
  simp only [ambTabs, List.mem_singleton] at hz
  subst hz
  obtain rfl := Option.some.inj (hg.symm.trans hg')
  refine ⟨?_, h2⟩
  have h3 := h2.cell hg 0 (by decide)
  exact (spot_none h3).2
end
end Go.Fm
/- From the reading of a row's arguments to abstract values, for any list of parameters; a row whose function yields true. -/
set_option linter.unusedVariables false
set_option linter.unusedSimpArgs false
namespace Go.Fm
open Go Go.ChangeShapes Go.WideShapes Go.RowKit Go.WideElems

/-- an argument: a struct is one value, made of cells -/
def argHas (B : Nat) : Bool × Ty → FV → Prop
  | (true, T), f => ∃ g, f = .agg g ∧ T.has B g
  | (false, T), f => T.has B [f]
def ArgsHave (B : Nat) : List (Bool × Ty) → List FV → Prop
  | [], fs => fs = []
  | x :: r, fs => ∃ f fs', fs = f :: fs' ∧ argHas B x f ∧ ArgsHave B r fs'
def argTy (P : Program) (n : Nat) (t : TypeId) : Option (Bool × Ty) :=
  match P.underlying t with
  | some (.struct _) => (tyOf P n t).map (true, ·)
  | some (.slice _) | some (.int _) | some .bool | some .string => (tyOf P n t).map (false, ·)
  | _ => none
def argTys (P : Program) (n : Nat) : List TypeId → Option (List (Bool × Ty))
  | [] => some []
  | t :: ts => (argTy P n t).bind fun x => (argTys P n ts).map (x :: ·)

section
variable {H : Type} {enc : TypeId × Value → H} {P : Program} {w : World} {Bd : DataW H → Prop} {B : Nat}
theorem arg_of_trod (hB : Bnd Bd B) {n base : Nat} {t : TypeId} {x : Bool × Ty} {v : Value} {d : DataW H} {ps : List MemPlace} (hx : argTy P n t = some x) (hv : Value.okWide P w .any base t v)
    (h : DataW.Trod enc P w 0 (fun _ => true) true t v d ps) (hd : Bd d) : ∃ f, argHas B x f ∧ Rep w.heap (fun b => b < w.heap.size) [v] [f] [] := by
  obtain ⟨fuel, h⟩ := h
  unfold argTy at hx
  have one : ∀ {T : Ty}, tyOf P n t = some T → v.cells.toList = [v] → T.cells = 1 → ∃ f, argHas B (false, T) f ∧ Rep w.heap (fun b => b < w.heap.size) [v] [f] [] := fun hT hc h1 => by
    rw [hc] at h
    obtain ⟨fs, h2, h3⟩ := reads_of_trod hB n fuel t _ _ d ps hT h hd
    have hl := Ty.has_length h2
    rw [h1] at hl
    match fs, hl with
    | [f], _ => exact ⟨f, h2, h3⟩
  have cells1 : ∀ {T : Ty}, tyOf P n t = some T → (∀ fl, P.underlying t ≠ some (.struct fl)) → T.cells = 1 := fun hT hn => by
    cases n with
    | zero => simp [tyOf] at hT
    | succ n =>
      simp only [tyOf] at hT
      split at hT <;> try (simp only [Option.some.injEq] at hT; subst hT; rfl)
      · rename_i e he
        cases hh : tyOf P n e with
        | none => simp [hh] at hT
        | some T' =>
          simp only [hh, Option.bind_some] at hT
          split at hT
          · simp only [Option.some.injEq] at hT; subst hT; rfl
          · cases hT
      · rename_i fl hfl; exact absurd hfl (hn fl)
      · cases hT
  split at hx
  · rename_i fl hu
    obtain ⟨cs, rfl, _⟩ := okWide_struct hu hv
    simp only [Option.map_eq_some_iff] at hx
    obtain ⟨T, hT, rfl⟩ := hx
    obtain ⟨fs, h2, h3⟩ := reads_of_trod hB n fuel t _ _ d ps hT h hd
    refine ⟨.agg fs, ⟨fs, rfl, h2⟩, ?_⟩
    have := Rep.agg (cs := cs.toList) (vs := []) (fs := []) (R := []) (by simpa [Value.cells] using h3) .nil
    simpa using this
  · rename_i e hu
    obtain ⟨a, len, cap, rfl⟩ := okWide_slice hu hv
    simp only [Option.map_eq_some_iff] at hx
    obtain ⟨T, hT, rfl⟩ := hx
    exact one hT rfl (cells1 hT fun fl he => by rw [hu] at he; cases he)
  · rename_i k hu
    obtain ⟨a, rfl⟩ := okWide_int hu hv
    simp only [Option.map_eq_some_iff] at hx
    obtain ⟨T, hT, rfl⟩ := hx
    exact one hT rfl (cells1 hT fun fl he => by rw [hu] at he; cases he)
  · rename_i hu
    obtain ⟨a, rfl⟩ := okWide_bool hu hv
    simp only [Option.map_eq_some_iff] at hx
    obtain ⟨T, hT, rfl⟩ := hx
    exact one hT rfl (cells1 hT fun fl he => by rw [hu] at he; cases he)
  · rename_i hu
    obtain ⟨a, rfl⟩ := okWide_string hu hv
    simp only [Option.map_eq_some_iff] at hx
    obtain ⟨T, hT, rfl⟩ := hx
    exact one hT rfl (cells1 hT fun fl he => by rw [hu] at he; cases he)
  · cases hx

theorem args_of_trod (hB : Bnd Bd B) {n base : Nat} : ∀ {ts : List TypeId} {Ts : List (Bool × Ty)} {vs : List Value} {ds : List (DataW H)} {ps : List MemPlace}, argTys P n ts = some Ts →
    (∀ (j : Nat) t v, ts[j]? = some t → vs[j]? = some v → Value.okWide P w .any base t v) → DataW.TrodAll enc P w 0 (fun _ => true) true ts vs ds ps → (∀ d ∈ ds, Bd d) →
    ∃ fs, ArgsHave B Ts fs ∧ Rep w.heap (fun b => b < w.heap.size) vs fs []
  | [], Ts, vs, ds, ps, hT, hv, h, hd => by
    obtain ⟨rfl, rfl, rfl⟩ := trodAll_nil h
    simp only [argTys, Option.some.injEq] at hT
    subst hT
    exact ⟨[], rfl, .nil⟩
  | t :: ts, Ts, vs, ds, ps, hT, hv, h, hd => by
    obtain ⟨v, vs1, d, ds1, a, b, rfl, rfl, rfl, h1, h2⟩ := trodAll_cons h
    simp only [argTys] at hT
    cases hx : argTy P n t with
    | none => simp [hx] at hT
    | some x =>
    cases hr : argTys P n ts with
    | none => simp [hx, hr] at hT
    | some Tr =>
    simp only [hx, hr, Option.bind_some, Option.map_some, Option.some.injEq] at hT
    subst hT
    obtain ⟨fs, h3, h4⟩ := args_of_trod hB hr (fun j t v h1 h2 => hv (j + 1) t v (by simpa using h1) (by simpa using h2)) h2 (fun d m => hd d (List.mem_cons_of_mem _ m))
    have hv0 := hv 0 t v rfl rfl
    obtain ⟨f, h5, h6⟩ := arg_of_trod hB hx hv0 h1 (hd d (by simp))
    exact ⟨f :: fs, ⟨f, fs, rfl, h5, h3⟩, h6.cons h4⟩

theorem trodAll_length : ∀ {ts : List TypeId} {vs : List Value} {ds : List (DataW H)} {ps : List MemPlace}, DataW.TrodAll enc P w 0 (fun _ => true) true ts vs ds ps → ds.length = ts.length
  | [], _, _, _, h => by obtain ⟨rfl, rfl, rfl⟩ := trodAll_nil h; rfl
  | t :: ts, _, _, _, h => by
    obtain ⟨v, vs1, d, ds1, a, b, rfl, rfl, rfl, _, h2⟩ := trodAll_cons h
    simp [trodAll_length h2]

/-- THE CONTRACT OF A ROW whose function yields true at all arguments of its types -/
theorem row_all {f : FuncId} {fn : Func} {s : ChangeSpec} {n : Nat} {Ts : List (Bool × Ty)} {tb : TypeId} (hB : Bnd Bd B) (hl : laidOutB P = true) (hv : s.vars = [])
    (hr : (fn.params.toList.all fun t => P.readableRec t && decide (t < P.types.size)) = true) (hT : argTys P n fn.params.toList = some Ts)
    (hs : ∀ ds : List (DataW H), ds.length = fn.params.toList.length → s.fn H (ds ++ []) = { results := [.lit (.bool true)], args := ds }) (hres : fn.resultTypes = #[tb]) (htb : P.underlying tb = some .bool)
    (hc : ∀ fs, ArgsHave B Ts fs → FCall P f fs (· = .bool true)) {W : World} {base : Nat} {args : Array Value} {ds gs : List (DataW H)} {before : List MemPlace}
    (hval : ∀ (j : Nat) t v, fn.params[j]? = some t → args[j]? = some v → Value.okWide P W .any base t v) (hW : DataW.Whole enc P fn.params.toList s.vars false W args.toList ds gs before)
    (hd : ∀ d ∈ ds, Bd d) (hA : Amb P W (fun b => b < W.heap.size)) :
    Calls P f args W fun e W' => ∃ v, e = .returned v ∧ s.post enc P fn false true false false W args v W' := by
  have hW' := hW
  obtain ⟨p, q, hA0, hV, rfl, hfz, hnd⟩ := hW
  rw [hv] at hV
  obtain ⟨rfl, rfl⟩ := trodVars_none hV
  obtain ⟨fs, h1, h2⟩ := args_of_trod hB hT (fun j t v h3 h4 => hval j t v (by simpa using h3) (by simpa using h4)) hA0 hd
  refine row_true hl (fun t m => ?_) hW' hv (hs ds (trodAll_length hA0)) hres htb hA h2 (hc fs h1)
  have := List.all_eq_true.1 hr t m
  simpa using this
theorem amb_none {W : World} (h : P.globalNamed "internal/strconv.uint64pow10" = none) : Amb P W (fun b => b < W.heap.size) := by
  intro x hx g hg
  simp only [ambTabs, List.mem_singleton] at hx
  subst hx
  rw [h] at hg
  cases hg
end
/-- slices of what is typed -/
theorem slHas {α : Type} {B : Nat} {T : Ty} {row : α → List FV} {p : α → Prop} (h : ∀ fs, T.has B fs → ∃ x, fs = row x ∧ p x) : ∀ {fs : List FV}, (Ty.sl T).has B fs → ∃ l : List α, fs = [.sl false (l.map row)] ∧ l.length ≤ B ∧ ∀ x ∈ l, p x := by
  rintro fs ⟨es, rfl, hl, hes⟩
  have : ∀ es : List (List FV), (∀ r ∈ es, T.has B r) → ∃ l : List α, es = l.map row ∧ ∀ x ∈ l, p x := by
    intro es
    induction es with
    | nil => intro _; exact ⟨[], rfl, by simp⟩
    | cons e es ih =>
      intro h2
      obtain ⟨l, rfl, hl⟩ := ih fun r m => h2 r (by simp [m])
      obtain ⟨x, rfl, hx⟩ := h _ (h2 _ (List.mem_cons_self ..))
      exact ⟨x :: l, rfl, by simp only [List.mem_cons]; rintro y (rfl | m); exact hx; exact hl y m⟩
  obtain ⟨l, rfl, h2⟩ := this es hes
  exact ⟨l, rfl, by simpa using hl, h2⟩
end Go.Fm
set_option linter.unusedVariables false
set_option linter.unusedSimpArgs false
namespace Go.Fx.Tryd
open Go Go.Fm Go.Proofs
abbrev ty_Str : Ty := .str
abbrev ty_Int : Ty := .int .i64
theorem i64_wf {n : Int} (h : (Lit.int .i64 n).wf = true) : I64 n := by
  simp only [Lit.wf, Bool.and_eq_true, decide_eq_true_eq] at h
  exact h
theorem has_Str {B : Nat} : ∀ fs, ty_Str.has B fs → ∃ s : List UInt8, fs = [.str s] ∧ s.length ≤ B := fun _ h => h
theorem has_Int {B : Nat} : ∀ fs, ty_Int.has B fs → ∃ n : Int, fs = [.int .i64 n] ∧ I64 n := fun _ ⟨n, h1, h2⟩ => ⟨n, h1, i64_wf h2⟩
abbrev ty_Node : Ty := (.cons (.int .i64) (.cons (.int .i64) .nil))
def NodeL.bnd (B : Nat) (x : NodeL) : Prop := I64 x.op ∧ I64 x.n
theorem has_Node {B : Nat} : ∀ fs, ty_Node.has B fs → ∃ x : NodeL, fs = x.row ∧ x.bnd B := by
  rintro _ ⟨_, _, rfl, ⟨a0, rfl, h0⟩, ⟨_, _, rfl, ⟨a1, rfl, h1⟩, rfl⟩⟩
  exact ⟨⟨a0, a1⟩, rfl, i64_wf h0, i64_wf h1⟩
abbrev ty_Enum : Ty := (.cons .str (.cons (.sl ty_Str) .nil))
def EnumL.bnd (B : Nat) (x : EnumL) : Prop := x.name.length ≤ B ∧ x.members.length ≤ B ∧ (∀ s ∈ x.members, s.length ≤ B)
theorem has_Enum {B : Nat} : ∀ fs, ty_Enum.has B fs → ∃ x : EnumL, fs = x.row ∧ x.bnd B := by
  rintro _ ⟨_, _, rfl, ⟨a0, rfl, h0⟩, ⟨_, _, rfl, h1, rfl⟩⟩
  obtain ⟨l1, rfl, k1, p1⟩ := slHas has_Str h1
  exact ⟨⟨a0, false, l1⟩, rfl, h0, k1, p1⟩
abbrev ty_Field : Ty := (.cons .str (.cons (.cons (.int .i64) (.cons (.int .i64) .nil)) .nil))
def FieldL.bnd (B : Nat) (x : FieldL) : Prop := x.name.length ≤ B ∧ I64 x.k ∧ I64 x.e
theorem has_Field {B : Nat} : ∀ fs, ty_Field.has B fs → ∃ x : FieldL, fs = x.row ∧ x.bnd B := by
  rintro _ ⟨_, _, rfl, ⟨a0, rfl, h0⟩, ⟨_, _, rfl, ⟨_, _, rfl, ⟨a1, rfl, h1⟩, ⟨_, _, rfl, ⟨a2, rfl, h2⟩, rfl⟩⟩, rfl⟩⟩
  exact ⟨⟨a0, a1, a2⟩, rfl, h0, i64_wf h1, i64_wf h2⟩
abbrev ty_Rule : Ty := (.cons .str (.cons (.int .i64) (.cons (.int .i64) (.cons (.int .i64) (.cons (.cons (.int .i64) (.cons (.int .i64) .nil)) (.cons (.sl ty_Node) (.cons (.sl ty_Node) (.cons .str .nil))))))))
def RuleL.bnd (B : Nat) (x : RuleL) : Prop := x.name.length ≤ B ∧ I64 x.d ∧ I64 x.p ∧ I64 x.pr ∧ I64 x.f ∧ I64 x.t ∧ x.guard.length ≤ B ∧ (∀ y ∈ x.guard, y.bnd B) ∧ x.value.length ≤ B ∧ (∀ y ∈ x.value, y.bnd B) ∧ x.src.length ≤ B
theorem has_Rule {B : Nat} : ∀ fs, ty_Rule.has B fs → ∃ x : RuleL, fs = x.row ∧ x.bnd B := by
  rintro _ ⟨_, _, rfl, ⟨a0, rfl, h0⟩, ⟨_, _, rfl, ⟨a1, rfl, h1⟩, ⟨_, _, rfl, ⟨a2, rfl, h2⟩, ⟨_, _, rfl, ⟨a3, rfl, h3⟩, ⟨_, _, rfl, ⟨_, _, rfl, ⟨a4, rfl, h4⟩, ⟨_, _, rfl, ⟨a5, rfl, h5⟩, rfl⟩⟩, ⟨_, _, rfl, h6, ⟨_, _, rfl, h7, ⟨_, _, rfl, ⟨a8, rfl, h8⟩, rfl⟩⟩⟩⟩⟩⟩⟩⟩
  obtain ⟨l6, rfl, k6, p6⟩ := slHas has_Node h6
  obtain ⟨l7, rfl, k7, p7⟩ := slHas has_Node h7
  exact ⟨⟨a0, a1, a2, a3, a4, a5, false, l6, false, l7, a8⟩, rfl, h0, i64_wf h1, i64_wf h2, i64_wf h3, i64_wf h4, i64_wf h5, k6, p6, k7, p7, h8⟩
abbrev ty_Row : Ty := (.cons (.cons (.int .i64) (.cons (.int .i64) .nil)) (.cons (.int .i64) (.cons (.int .i64) (.cons (.int .i64) .nil))))
def RowL.bnd (B : Nat) (x : RowL) : Prop := I64 x.f ∧ I64 x.t ∧ I64 x.lo ∧ I64 x.hi ∧ I64 x.n
theorem has_Row {B : Nat} : ∀ fs, ty_Row.has B fs → ∃ x : RowL, fs = x.row ∧ x.bnd B := by
  rintro _ ⟨_, _, rfl, ⟨_, _, rfl, ⟨a0, rfl, h0⟩, ⟨_, _, rfl, ⟨a1, rfl, h1⟩, rfl⟩⟩, ⟨_, _, rfl, ⟨a2, rfl, h2⟩, ⟨_, _, rfl, ⟨a3, rfl, h3⟩, ⟨_, _, rfl, ⟨a4, rfl, h4⟩, rfl⟩⟩⟩⟩
  exact ⟨⟨a0, a1, a2, a3, a4⟩, rfl, i64_wf h0, i64_wf h1, i64_wf h2, i64_wf h3, i64_wf h4⟩
abbrev ty_Table : Ty := (.cons .str (.cons (.cons (.int .i64) (.cons (.int .i64) .nil)) (.cons (.cons (.int .i64) (.cons (.int .i64) .nil)) (.cons (.sl ty_Row) .nil))))
def TableL.bnd (B : Nat) (x : TableL) : Prop := x.name.length ≤ B ∧ I64 x.kk ∧ I64 x.ke ∧ I64 x.vk ∧ I64 x.ve ∧ x.rows.length ≤ B ∧ (∀ y ∈ x.rows, y.bnd B)
theorem has_Table {B : Nat} : ∀ fs, ty_Table.has B fs → ∃ x : TableL, fs = x.row ∧ x.bnd B := by
  rintro _ ⟨_, _, rfl, ⟨a0, rfl, h0⟩, ⟨_, _, rfl, ⟨_, _, rfl, ⟨a1, rfl, h1⟩, ⟨_, _, rfl, ⟨a2, rfl, h2⟩, rfl⟩⟩, ⟨_, _, rfl, ⟨_, _, rfl, ⟨a3, rfl, h3⟩, ⟨_, _, rfl, ⟨a4, rfl, h4⟩, rfl⟩⟩, ⟨_, _, rfl, h5, rfl⟩⟩⟩⟩
  obtain ⟨l5, rfl, k5, p5⟩ := slHas has_Row h5
  exact ⟨⟨a0, a1, a2, a3, a4, false, l5⟩, rfl, h0, i64_wf h1, i64_wf h2, i64_wf h3, i64_wf h4, k5, p5⟩
abbrev ty_Scope : Ty := (.cons .str (.cons (.int .i64) (.cons (.sl ty_Field) (.cons (.sl ty_Field) (.cons (.sl ty_Rule) .nil)))))
def ScopeL.bnd (B : Nat) (x : ScopeL) : Prop := x.name.length ≤ B ∧ I64 x.ms ∧ x.inputs.length ≤ B ∧ (∀ y ∈ x.inputs, y.bnd B) ∧ x.defs.length ≤ B ∧ (∀ y ∈ x.defs, y.bnd B) ∧ x.rules.length ≤ B ∧ (∀ y ∈ x.rules, y.bnd B)
theorem has_Scope {B : Nat} : ∀ fs, ty_Scope.has B fs → ∃ x : ScopeL, fs = x.row ∧ x.bnd B := by
  rintro _ ⟨_, _, rfl, ⟨a0, rfl, h0⟩, ⟨_, _, rfl, ⟨a1, rfl, h1⟩, ⟨_, _, rfl, h2, ⟨_, _, rfl, h3, ⟨_, _, rfl, h4, rfl⟩⟩⟩⟩⟩
  obtain ⟨l2, rfl, k2, p2⟩ := slHas has_Field h2
  obtain ⟨l3, rfl, k3, p3⟩ := slHas has_Field h3
  obtain ⟨l4, rfl, k4, p4⟩ := slHas has_Rule h4
  exact ⟨⟨a0, a1, false, l2, false, l3, false, l4⟩, rfl, h0, i64_wf h1, k2, p2, k3, p3, k4, p4⟩
abbrev ty_Law : Ty := (.cons (.sl ty_Enum) (.cons (.sl ty_Table) (.cons (.sl ty_Scope) .nil)))
def LawL.bnd (B : Nat) (x : LawL) : Prop := x.enums.length ≤ B ∧ (∀ y ∈ x.enums, y.bnd B) ∧ x.tables.length ≤ B ∧ (∀ y ∈ x.tables, y.bnd B) ∧ x.scopes.length ≤ B ∧ (∀ y ∈ x.scopes, y.bnd B)
theorem has_Law {B : Nat} : ∀ fs, ty_Law.has B fs → ∃ x : LawL, fs = x.row ∧ x.bnd B := by
  rintro _ ⟨_, _, rfl, h0, ⟨_, _, rfl, h1, ⟨_, _, rfl, h2, rfl⟩⟩⟩
  obtain ⟨l0, rfl, k0, p0⟩ := slHas has_Enum h0
  obtain ⟨l1, rfl, k1, p1⟩ := slHas has_Table h1
  obtain ⟨l2, rfl, k2, p2⟩ := slHas has_Scope h2
  exact ⟨⟨false, l0, false, l1, false, l2⟩, rfl, k0, p0, k1, p1, k2, p2⟩
abbrev ty_Value : Ty := (.cons (.int .i64) (.cons (.int .i64) (.cons (.int .i64) .nil)))
def ValL.bnd (B : Nat) (x : ValL) : Prop := I64 x.k ∧ I64 x.e ∧ I64 x.n
theorem has_Value {B : Nat} : ∀ fs, ty_Value.has B fs → ∃ x : ValL, fs = x.row ∧ x.bnd B := by
  rintro _ ⟨_, _, rfl, ⟨a0, rfl, h0⟩, ⟨_, _, rfl, ⟨a1, rfl, h1⟩, ⟨_, _, rfl, ⟨a2, rfl, h2⟩, rfl⟩⟩⟩
  exact ⟨⟨a0, a1, a2⟩, rfl, i64_wf h0, i64_wf h1, i64_wf h2⟩
abbrev ty_MemberResult : Ty := (.cons (.sl ty_Value) (.cons (.sl ty_Int) .nil))
def MemL.bnd (B : Nat) (x : MemL) : Prop := x.vals.length ≤ B ∧ (∀ y ∈ x.vals, y.bnd B) ∧ x.rules.length ≤ B ∧ (∀ n ∈ x.rules, I64 n)
theorem has_MemberResult {B : Nat} : ∀ fs, ty_MemberResult.has B fs → ∃ x : MemL, fs = x.row ∧ x.bnd B := by
  rintro _ ⟨_, _, rfl, h0, ⟨_, _, rfl, h1, rfl⟩⟩
  obtain ⟨l0, rfl, k0, p0⟩ := slHas has_Value h0
  obtain ⟨l1, rfl, k1, p1⟩ := slHas has_Int h1
  exact ⟨⟨false, l0, false, l1⟩, rfl, k0, p0, k1, p1⟩
abbrev ty_Result : Ty := (.cons (.sl ty_Value) (.cons (.sl ty_Int) (.cons (.sl ty_MemberResult) .nil)))
def ResL.bnd (B : Nat) (x : ResL) : Prop := x.vals.length ≤ B ∧ (∀ y ∈ x.vals, y.bnd B) ∧ x.rules.length ≤ B ∧ (∀ n ∈ x.rules, I64 n) ∧ x.mems.length ≤ B ∧ (∀ y ∈ x.mems, y.bnd B)
theorem has_Result {B : Nat} : ∀ fs, ty_Result.has B fs → ∃ x : ResL, fs = x.row ∧ x.bnd B := by
  rintro _ ⟨_, _, rfl, h0, ⟨_, _, rfl, h1, ⟨_, _, rfl, h2, rfl⟩⟩⟩
  obtain ⟨l0, rfl, k0, p0⟩ := slHas has_Value h0
  obtain ⟨l1, rfl, k1, p1⟩ := slHas has_Int h1
  obtain ⟨l2, rfl, k2, p2⟩ := slHas has_MemberResult h2
  exact ⟨⟨false, l0, false, l1, false, l2⟩, rfl, k0, p0, k1, p1, k2, p2⟩
abbrev ty_MonthBalance : Ty := (.cons (.int .i64) (.cons (.int .i64) (.cons (.int .i64) (.cons (.int .i64) .nil))))
def BalL.bnd (B : Nat) (x : BalL) : Prop := I64 x.m ∧ I64 x.d ∧ I64 x.r ∧ I64 x.w
theorem has_MonthBalance {B : Nat} : ∀ fs, ty_MonthBalance.has B fs → ∃ x : BalL, fs = x.row ∧ x.bnd B := by
  rintro _ ⟨_, _, rfl, ⟨a0, rfl, h0⟩, ⟨_, _, rfl, ⟨a1, rfl, h1⟩, ⟨_, _, rfl, ⟨a2, rfl, h2⟩, ⟨_, _, rfl, ⟨a3, rfl, h3⟩, rfl⟩⟩⟩⟩
  exact ⟨⟨a0, a1, a2, a3⟩, rfl, i64_wf h0, i64_wf h1, i64_wf h2, i64_wf h3⟩
abbrev ty_Posting : Ty := (.cons (.int .i64) (.cons (.int .i64) (.cons (.int .i64) (.cons (.int .i64) .nil))))
def PostL.bnd (B : Nat) (x : PostL) : Prop := I64 x.d ∧ I64 x.m ∧ I64 x.k ∧ I64 x.c
theorem has_Posting {B : Nat} : ∀ fs, ty_Posting.has B fs → ∃ x : PostL, fs = x.row ∧ x.bnd B := by
  rintro _ ⟨_, _, rfl, ⟨a0, rfl, h0⟩, ⟨_, _, rfl, ⟨a1, rfl, h1⟩, ⟨_, _, rfl, ⟨a2, rfl, h2⟩, ⟨_, _, rfl, ⟨a3, rfl, h3⟩, rfl⟩⟩⟩⟩
  exact ⟨⟨a0, a1, a2, a3⟩, rfl, i64_wf h0, i64_wf h1, i64_wf h2, i64_wf h3⟩

structure EvL where
  c : Int
  m : Int
  d : Int
  r : Int
def EvL.row (x : EvL) : List FV := [.int .i64 x.c, .int .i64 x.m, .int .i64 x.d, .int .i64 x.r]
abbrev ty_EvalError : Ty := (.cons (.int .i64) (.cons (.int .i64) (.cons (.int .i64) (.cons (.int .i64) .nil))))
def EvL.bnd (B : Nat) (x : EvL) : Prop := I64 x.c ∧ I64 x.m ∧ I64 x.d ∧ I64 x.r
theorem has_EvalError {B : Nat} : ∀ fs, ty_EvalError.has B fs → ∃ x : EvL, fs = x.row ∧ x.bnd B := by
  rintro _ ⟨_, _, rfl, ⟨a0, rfl, h0⟩, ⟨_, _, rfl, ⟨a1, rfl, h1⟩, ⟨_, _, rfl, ⟨a2, rfl, h2⟩, ⟨_, _, rfl, ⟨a3, rfl, h3⟩, rfl⟩⟩⟩⟩
  exact ⟨⟨a0, a1, a2, a3⟩, rfl, i64_wf h0, i64_wf h1, i64_wf h2, i64_wf h3⟩

theorem law_ok {l : LawL} (h : l.bnd 1048576) : l.ok ∧ l.fits := by
  obtain ⟨h1, h2, h3, h4, h5, h6⟩ := h
  refine ⟨⟨fun x m => ?_, fun s m => ⟨fun x hx => ?_, fun x hx => ?_⟩⟩, fun t m => ?_, fun s m => ?_⟩
  · obtain ⟨_, h7, h8⟩ := h2 x m
    exact ⟨by omega, fun y my => by have := h8 y my; omega⟩
  · have := ((h6 s m).2.2.2.2.2.1 x hx).1; omega
  · have := ((h6 s m).2.2.2.2.2.2.2 x hx).1; omega
  · have := (h4 t m).2.2.2.2.2.1; omega
  · have := (h6 s m).2.2.2.2.2.2.1; omega
theorem res_ok {r : ResL} (h : r.bnd 1048576) : r.ok := by
  obtain ⟨h1, h2, h3, h4, h5, h6⟩ := h
  exact ⟨h1, h3, h5, fun x m => ⟨(h6 x m).1, (h6 x m).2.2.1⟩⟩
theorem hc_law54_ReportResult : ∀ fs, ArgsHave 1048576 [(true, ty_Law), (false, .int .i64), (true, ty_Result)] fs → FCall Tryd.prog n_law54_ReportResult fs (· = .bool true) := by
  rintro _ ⟨_, _, rfl, ⟨_, rfl, h0⟩, _, _, rfl, h1, _, _, rfl, ⟨_, rfl, h2⟩, rfl⟩
  obtain ⟨l, rfl, hl⟩ := has_Law _ h0
  obtain ⟨n, h1, hn⟩ := has_Int (B := 1048576) _ h1
  obtain rfl := (List.cons.inj h1).1
  obtain ⟨r, rfl, hr⟩ := has_Result _ h2
  have ok := res_ok hr
  refine law_result' (law_ok hl).2 (law_ok hl).1 ok ?_
  rw [resultS, List.length_append, linesS_length]
  have := memLines_len (l := l) (sc := n) (fun x hx => (ok.2.2.2 x hx).1) (Nat.le_refl r.mems.length)
  have := ok.2.2.1
  have := ok.1
  have : r.mems.length * 1048576 ≤ 1048576 * 1048576 := Nat.mul_le_mul_right _ (by omega)
  omega
theorem hc_law54_ReportEvalError : ∀ fs, ArgsHave 1048576 [(true, ty_Law), (false, .int .i64), (true, ty_EvalError)] fs → FCall Tryd.prog n_law54_ReportEvalError fs (· = .bool true) := by
  rintro _ ⟨_, _, rfl, ⟨_, rfl, h0⟩, _, _, rfl, h1, _, _, rfl, ⟨_, rfl, h2⟩, rfl⟩
  obtain ⟨l, rfl, hl⟩ := has_Law _ h0
  obtain ⟨n, h1, hn⟩ := has_Int (B := 1048576) _ h1
  obtain rfl := (List.cons.inj h1).1
  obtain ⟨r, rfl, hr⟩ := has_EvalError _ h2
  exact law_evalError' (law_ok hl).2 (law_ok hl).1 hr.1 hr.2.1
theorem hc_law54_ReportBalances : ∀ fs, ArgsHave 1048576 [(false, .sl ty_MonthBalance)] fs → FCall Tryd.prog n_law54_ReportBalances fs (· = .bool true) := by
  rintro _ ⟨_, _, rfl, h0, rfl⟩
  obtain ⟨l, h1, hl, hp⟩ := slHas has_MonthBalance h0
  obtain rfl := (List.cons.inj h1).1
  exact law_balances (by omega) (fun p m => (hp p m).2)
end Go.Fx.Tryd
set_option linter.unusedVariables false
set_option linter.unusedSimpArgs false
namespace Go.Fx.Tryd
open Go Go.Fm Go.Proofs Go.Proofs.YthfkhokmgolabaaDoor
open Go.ChangeShapes Go.WideShapes Go.ChangeAt Go.RowKit
theorem own : ownKnob Tryd.prog.godebug = none := by kernel_rfl
theorem laidOut : laidOutB Tryd.prog = true := by kernel_rfl
theorem gTab : Tryd.prog.globalNamed "internal/strconv.uint64pow10" = some 1 := by kernel_rfl
theorem gTabType : (Tryd.prog.globals[1]?).map (·.type) = some 148 := by kernel_rfl
theorem bulk_mem {H : Type} : ∀ {ds : List (DataW H)} {d : DataW H}, d ∈ ds → Rows.uptoBulk d ≤ Rows.uptoBulkAll ds
  | [], _, m => by cases m
  | x :: ds, d, m => by
    rw [Rows.uptoBulkAll]
    rcases List.mem_cons.1 m with rfl | m
    · omega
    · have := bulk_mem m; omega
theorem bulk_pos {H : Type} : ∀ (d : DataW H), 1 ≤ Rows.uptoBulk d := by
  intro d; cases d with
  | lit l => cases l <;> simp [Rows.uptoBulk]
  | _ => simp [Rows.uptoBulk]
theorem bulk_len {H : Type} : ∀ (ds : List (DataW H)), ds.length ≤ Rows.uptoBulkAll ds
  | [] => Nat.zero_le _
  | d :: ds => by have := bulk_len ds; have := bulk_pos d; simp only [Rows.uptoBulkAll, List.length_cons]; omega
theorem bnd {H : Type} : Bnd (fun d : DataW H => Rows.uptoBulk d ≤ 1048576) 1048576 where
  str h _ := by simp [Rows.uptoBulk] at h; omega
  sl {es rest} h _ := by
    simp only [Rows.uptoBulk] at h
    have := bulk_len es
    exact ⟨by omega, fun d m => by have := bulk_mem m; omega⟩
  agg {xs} h d m := by simp only [Rows.uptoBulk] at h; have := bulk_mem m; omega
theorem bulk_of {H : Type} {ds gs : List (DataW H)} (hk : Rows.uptoSmall H (ds ++ gs) = true) {d : DataW H} (m : d ∈ ds) : Rows.uptoBulk d ≤ 1048576 := by
  have h1 := bulk_mem (ds := ds ++ gs) (d := d) (by simp [m])
  simp only [Rows.uptoSmall, decide_eq_true_eq] at hk
  omega
def cellsOfTab : DataW Unit → Array Value
  | .agg xs => (xs.map fun | .lit (.int k n) => Value.int k n | _ => Value.int .i64 0).toArray
  | _ => #[]
noncomputable def layAt (x : String × DataW Unit) (w : World) : World := 
  match Tryd.prog.globalNamed x.1 with
  | some g => { w with heap := w.heap.modify g fun | .cells _ t frozen => .cells (cellsOfTab x.2) t frozen | o => o }
  | none => w
theorem ambHere {W : World} (hL : laidMet Tryd.prog Rows.reportResultRow.laid W) : Amb Tryd.prog W (fun b => b < W.heap.size) := amb_third gTab gTabType Tryd.underlying148 Tryd.underlying102 (by kernel_rfl) (by kernel_rfl) hL
end Go.Fx.Tryd
set_option linter.unusedVariables false
set_option linter.unusedSimpArgs false
namespace Go.Fx.Tryd
open Go Go.Fm Go.Proofs Go.Proofs.YthfkhokmgolabaaDoor
open Go.ChangeShapes Go.WideShapes Go.ChangeAt Go.RowKit
theorem tys_law54_ReportResult : argTys Tryd.prog 12 Go.Proofs.Tryd.f3.params.toList = some [(true, ty_Law), (false, .int .i64), (true, ty_Result)] := by kernel_rfl
set_option maxRecDepth 100000 in
theorem contract_law54_ReportResult (H : Type) (enc : TypeId × Value → H) (W : World) (base : Nat) (args : Array Value) (ds gs : List (DataW H)) (before : List MemPlace)
    (hval : ∀ (j : Nat) t v, Go.Proofs.Tryd.f3.params[j]? = some t → args[j]? = some v → Value.okWide Tryd.prog W .any base t v)
    (hW : DataW.Whole enc Tryd.prog Go.Proofs.Tryd.f3.params.toList Rows.reportResultSpec.vars false W args.toList ds gs before) (hk : Rows.uptoSmall H (ds ++ gs) = true)
    (hL : laidMet Tryd.prog Rows.reportResultRow.laid W) :
    Calls Tryd.prog 3 args W fun e W' => ∃ v, e = .returned v ∧ Rows.reportResultSpec.post enc Tryd.prog Go.Proofs.Tryd.f3 false true false false W args v W' :=
  row_all (tb := 4) bnd laidOut rfl (by kernel_rfl) tys_law54_ReportResult (fun ds h => by match ds, h with | [_, _, _], _ => rfl) (by kernel_rfl) Tryd.underlying4 hc_law54_ReportResult hval hW (fun d m => bulk_of hk m) (ambHere hL)
noncomputable def laidWorld_law54_ReportResult (os : Os) : World := Rows.reportResultRow.laid.foldr layAt (World.holding Tryd.prog os ⟨#[], #[], []⟩)
theorem laid_law54_ReportResult (os : Os) : laidMet Tryd.prog Rows.reportResultRow.laid ((laidWorld_law54_ReportResult os).forCall (fun _ _ => 0) ⟨#[], #[Value.agg #[.slice none 0 0, .slice none 0 0, .slice none 0 0], Value.int .i64 0, Value.agg #[.slice none 0 0, .slice none 0 0, .slice none 0 0]], []⟩).memory :=
  laidMet_of_run' 8 (by kernel_rfl) (by kernel_rfl)
theorem reads_law54_ReportResult (os : Os) {H : Type} (enc : TypeId × Value → H) : ∃ places, DataW.whole enc Tryd.prog ((laidWorld_law54_ReportResult os).forCall (fun _ _ => 0) ⟨#[], #[Value.agg #[.slice none 0 0, .slice none 0 0, .slice none 0 0], Value.int .i64 0, Value.agg #[.slice none 0 0, .slice none 0 0, .slice none 0 0]], []⟩).memory Go.Proofs.Tryd.f3.params.toList Rows.reportResultSpec.vars false (#[Value.agg #[.slice none 0 0, .slice none 0 0, .slice none 0 0], Value.int .i64 0, Value.agg #[.slice none 0 0, .slice none 0 0, .slice none 0 0]] : Array Value).toList 8 = some ([.agg [.nil, .nil, .nil], .lit (.int .i64 0), .agg [.nil, .nil, .nil]], [], places) :=
  ⟨[], by kernel_rfl⟩
set_option maxRecDepth 100000 in
theorem lifted_law54_ReportResult (os : Os) (started : os.Started) (H : Type) (enc : TypeId × Value → H) (F : Stop.Interp) :
    ReturnsInHanded {} Tryd.checked os 3 .any ((Rows.OpenSpec.upto Rows.reportResultSpec).preRow enc Tryd.prog Go.Proofs.Tryd.f3 Rows.reportResultUptoRow.domain false Rows.reportResultUptoRow.laid) (((Rows.OpenSpec.upto Rows.reportResultSpec).at F).post enc Tryd.prog Go.Proofs.Tryd.f3 false true false false) := by
  obtain ⟨places, hx⟩ := reads_law54_ReportResult os enc
  refine returnsInHanded_of_row (C := Tryd.checked) (s := Rows.OpenSpec.upto Rows.reportResultSpec) own started (by kernel_rfl) Tryd.func3
    (witness_row_at (enc := enc) (C := Tryd.checked) false (laidWorld_law54_ReportResult os) #[Value.agg #[.slice none 0 0, .slice none 0 0, .slice none 0 0], Value.int .i64 0, Value.agg #[.slice none 0 0, .slice none 0 0, .slice none 0 0]] rfl (by kernel_rfl) (by kernel_rfl) (by kernel_rfl)
      (OpenSpec.preRow_of_cond 8 hx (by kernel_rfl) (fun k hk => by cases hk; kernel_rfl) (by kernel_rfl) (laid_law54_ReportResult os))) ?_
  intro W base args ds gs before hval hW _ hcond _ hL _ _
  exact contract_law54_ReportResult H enc W base args ds gs before hval hW (hcond _ rfl) hL
theorem said_law54_ReportResult : Rows.ReportResultUptoSaid :=
  OpenClaim.holds_of_cond 3 Go.Proofs.Tryd.f3 rfl rfl rfl rfl rfl rfl rfl ⟨rfl, rfl, rfl, rfl, rfl⟩ rfl rfl rfl rfl rfl (by kernel_rfl) Tryd.func3 (by kernel_rfl)
    (of_decide_eq_true (by kernel_rfl)) (by unfold Func.isWrapper; first | (rw [if_pos (by decide +kernel)]; kernel_rfl) | (rw [if_neg (by decide +kernel)]; exact ⟨rfl, rfl⟩))
    (fun os started H enc _ F => by rw [OpenClaim.pre_eq_preRow]; exact lifted_law54_ReportResult os started H enc F)
theorem plain_law54_ReportResult (f : FuncId) (fn : Func) (hf : Tryd.pinned.checked.prog.funcNamed "guerdon/guerdonlaw54.ReportResult" = some f) (hfn : Tryd.pinned.checked.prog.funcs[f]? = some fn) :
    false = Tryd.pinned.checked.prog.looks [] ∧ ∀ (j : Nat) t, fn.params[j]? = some t → Tryd.pinned.checked.prog.wantsStandIn t = false := by
  obtain rfl : f = 3 := Option.some.inj ((show Tryd.prog.funcNamed "guerdon/guerdonlaw54.ReportResult" = some 3 by kernel_rfl).symm.trans hf) |>.symm
  obtain rfl : fn = Go.Proofs.Tryd.f3 := (Option.some.inj (Tryd.func3.symm.trans hfn)).symm
  refine ⟨by kernel_rfl, fun j t ht => ?_⟩
  have h : (Go.Proofs.Tryd.f3.params.toList.all fun t => !(Tryd.prog.wantsStandIn t)) = true := by kernel_rfl
  have := List.all_eq_true.1 h t (by simpa using Array.mem_of_getElem? ht)
  rw [Bool.not_eq_true'] at this
  exact this
theorem card_law54_ReportResult : Rows.ReportResultUptoCardSaid :=
  Claim7.holds_tied_plain_at .later [] _ _ _ _ said_law54_ReportResult (fun _ h => by cases h) (by kernel_rfl) (fun _ h => by cases h) reportResultUpto_row_tie rfl ⟨rfl, rfl⟩ (by kernel_rfl) rfl plain_law54_ReportResult (by kernel_rfl)

end Go.Fx.Tryd
