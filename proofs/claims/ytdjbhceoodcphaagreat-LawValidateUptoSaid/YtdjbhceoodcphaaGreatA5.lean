/- Part of a proof: see the last text of the claim. -/
import Derived.Test.YtdjbhceoodcphaaGreatA4
import Derived.Lib.SlicesCompact
set_option linter.unusedVariables false
set_option linter.unusedSimpArgs false
namespace Go.Fx.Tryz
open Go Go.Fm Go.Proofs
theorem atEnum_in {l : List EnumL} {u : Bool} {j : Nat} (h : j < l.length) : FCall Tryz.prog n_expr_at_api_Enum [.sl u (enumsV l), .int .i64 j] (· = .tup [.agg l[j].row, .int .i64 0]) := by
  have hx := Go.Fm.enumsV_get h
  have h1 : ¬ (j : Int) < 0 := by omega
  have h2 : ¬ (l.length : Int) ≤ (j : Int) := by omega
  refine FCall.walk u_expr_at_api_Enum k_expr_at_api_Enum rfl ?_
  unfold c_expr_at_api_Enum
  simp only [go_sem, simprocAttr, h1, h2, Int.toNat_natCast, hx, EnumL.row]
theorem atEnum_out {l : List EnumL} {u : Bool} {i : Int} (h : ¬ (0 ≤ i ∧ i < l.length)) : FCall Tryz.prog n_expr_at_api_Enum [.sl u (enumsV l), .int .i64 i] (· = .tup [.agg [.str [], .sl true []], .int .i64 6]) := by
  by_cases h1 : i < 0
  · refine FCall.walk u_expr_at_api_Enum k_expr_at_api_Enum rfl ?_
    unfold c_expr_at_api_Enum
    simp only [go_sem, simprocAttr, h1]
  · have h2 : (l.length : Int) ≤ i := by omega
    refine FCall.walk u_expr_at_api_Enum k_expr_at_api_Enum rfl ?_
    unfold c_expr_at_api_Enum
    simp only [go_sem, simprocAttr, h1, h2]
theorem atStr_in {l : List (List UInt8)} {u : Bool} {j : Nat} (h : j < l.length) : FCall Tryz.prog n_expr_at_string [.sl u (strs l), .int .i64 j] (· = .tup [.str l[j], .int .i64 0]) := by
  have hx := strs_get h
  have h1 : ¬ (j : Int) < 0 := by omega
  have h2 : ¬ (l.length : Int) ≤ (j : Int) := by omega
  refine FCall.walk u_expr_at_string k_expr_at_string rfl ?_
  unfold c_expr_at_string
  simp only [go_sem, simprocAttr, h1, h2, Int.toNat_natCast, hx]
theorem atStr_out {l : List (List UInt8)} {u : Bool} {i : Int} (h : ¬ (0 ≤ i ∧ i < l.length)) : FCall Tryz.prog n_expr_at_string [.sl u (strs l), .int .i64 i] (· = .tup [.str [], .int .i64 6]) := by
  by_cases h1 : i < 0
  · refine FCall.walk u_expr_at_string k_expr_at_string rfl ?_
    unfold c_expr_at_string
    simp only [go_sem, simprocAttr, h1]
  · have h2 : (l.length : Int) ≤ i := by omega
    refine FCall.walk u_expr_at_string k_expr_at_string rfl ?_
    unfold c_expr_at_string
    simp only [go_sem, simprocAttr, h1, h2]
theorem atType_in {l : List TyL} {u : Bool} {j : Nat} (h : j < l.length) : FCall Tryz.prog n_expr_at_api_Type [.sl u (tysV l), .int .i64 j] (· = .tup [.agg [.int .i64 l[j].k, .int .i64 l[j].e], .int .i64 0]) := by
  have hx := tysV_get h
  have h1 : ¬ (j : Int) < 0 := by omega
  have h2 : ¬ (l.length : Int) ≤ (j : Int) := by omega
  refine FCall.walk u_expr_at_api_Type k_expr_at_api_Type rfl ?_
  unfold c_expr_at_api_Type
  simp only [go_sem, simprocAttr, h1, h2, Int.toNat_natCast, hx]
theorem atType_out {l : List TyL} {u : Bool} {i : Int} (h : ¬ (0 ≤ i ∧ i < l.length)) : FCall Tryz.prog n_expr_at_api_Type [.sl u (tysV l), .int .i64 i] (· = .tup [.agg [.int .i64 0, .int .i64 0], .int .i64 6]) := by
  by_cases h1 : i < 0
  · refine FCall.walk u_expr_at_api_Type k_expr_at_api_Type rfl ?_
    unfold c_expr_at_api_Type
    simp only [go_sem, simprocAttr, h1]
  · have h2 : (l.length : Int) ≤ i := by omega
    refine FCall.walk u_expr_at_api_Type k_expr_at_api_Type rfl ?_
    unfold c_expr_at_api_Type
    simp only [go_sem, simprocAttr, h1, h2]
theorem atTable_in {l : List TableL} {u : Bool} {j : Nat} (h : j < l.length) : FCall Tryz.prog n_expr_at_api_Table [.sl u (tablesV l), .int .i64 j] (· = .tup [.agg l[j].row, .int .i64 0]) := by
  have hx := tablesV_get h
  have h1 : ¬ (j : Int) < 0 := by omega
  have h2 : ¬ (l.length : Int) ≤ (j : Int) := by omega
  refine FCall.walk u_expr_at_api_Table k_expr_at_api_Table rfl ?_
  unfold c_expr_at_api_Table
  simp only [go_sem, simprocAttr, h1, h2, Int.toNat_natCast, hx, TableL.row]
theorem atTable_out {l : List TableL} {u : Bool} {i : Int} (h : ¬ (0 ≤ i ∧ i < l.length)) : FCall Tryz.prog n_expr_at_api_Table [.sl u (tablesV l), .int .i64 i] (· = .tup [.agg [.str [], .int .i64 0, .int .i64 0, .int .i64 0, .int .i64 0, .sl true []], .int .i64 6]) := by
  by_cases h1 : i < 0
  · refine FCall.walk u_expr_at_api_Table k_expr_at_api_Table rfl ?_
    unfold c_expr_at_api_Table
    simp only [go_sem, simprocAttr, h1]
  · have h2 : (l.length : Int) ≤ i := by omega
    refine FCall.walk u_expr_at_api_Table k_expr_at_api_Table rfl ?_
    unfold c_expr_at_api_Table
    simp only [go_sem, simprocAttr, h1, h2]
theorem leaf_lit {n : NodeL} {s : SigL} (hop : 1 ≤ n.op ∧ n.op ≤ 5) : FCall Tryz.prog n_expr_leaf [.agg n.row, .agg s.row] (· = .tup [.agg (leafR n s).1.row, .int .i64 (leafR n s).2]) := by
  obtain ⟨op, N⟩ := n
  have h1 : op ≠ 6 := by have := hop.2; show op ≠ 6; simp only at this; omega
  have h2 : leafR ⟨op, N⟩ s = (⟨op, 0⟩, 0) := by
    simp only at hop
    have hf : foundP ⟨op, N⟩ s := by unfold foundP; simp only; omega
    have hl : leafT ⟨op, N⟩ s = ⟨op, 0⟩ := by unfold leafT kindT; simp only; repeat' (first | rw [if_neg (by omega)])
    unfold leafR
    rw [if_neg (by simpa using hf), hl, if_pos]
    exact ⟨.inr ⟨hop.1, hop.2, rfl⟩, by unfold aggP; simp only; omega⟩
  rw [h2]
  simp only at hop
  refine FCall.walk u_expr_leaf k_expr_leaf rfl ?_
  unfold c_expr_leaf
  simp only [go_sem, simprocAttr, NodeL.row, SigL.row]
  repeat' first
    | apply And.intro <;> intro h
  all_goals first | (exfalso; omega) | rfl | trace_state
theorem leaf_in {N : Int} {s : SigL} : FCall Tryz.prog n_expr_leaf [.agg (NodeL.mk 7 N).row, .agg s.row] (· = .tup [.agg (leafR ⟨7, N⟩ s).1.row, .int .i64 (leafR ⟨7, N⟩ s).2]) := by
  refine FCall.walk u_expr_leaf k_expr_leaf rfl ?_
  unfold c_expr_leaf
  simp only [go_sem, simprocAttr, NodeL.row, SigL.row]
  by_cases h : 0 ≤ N ∧ N < s.inputs.length
  · obtain ⟨j, rfl⟩ : ∃ j : Nat, N = j := ⟨N.toNat, by omega⟩
    have hj : j < s.inputs.length := by omega
    have hf : foundP ⟨7, j⟩ s := by simp [foundP]; omega
    have ht : leafT ⟨7, j⟩ s = s.inputs[j] := by simp [leafT, tyAt_nat hj]
    rw [leafR_eq _ hf ht]
    refine FCallT.of (atType_in (l := s.inputs) hj) ?_
    rintro _ rfl
    simp only [go_sem, simprocAttr]
    repeat' first
      | apply And.intro <;> intro h
      | ((first
        | (refine FCallT.of (validT_call (t := s.inputs[j]) (en := s.enums)) ?_; rintro _ rfl)
        | (refine FCallT.of (aggregate_call) ?_; rintro _ rfl)); simp only [go_sem, simprocAttr])
    all_goals (simp only [bp_iff, bpF] at *; simp [*, TyL.row])
  · refine FCallT.of (atType_out (l := s.inputs) h) ?_
    rintro _ rfl
    simp only [go_sem, simprocAttr]
    rw [leafR_nf fun hf => h (hf.2.1 rfl)]; rfl
theorem leaf_def {N : Int} {s : SigL} : FCall Tryz.prog n_expr_leaf [.agg (NodeL.mk 8 N).row, .agg s.row] (· = .tup [.agg (leafR ⟨8, N⟩ s).1.row, .int .i64 (leafR ⟨8, N⟩ s).2]) := by
  refine FCall.walk u_expr_leaf k_expr_leaf rfl ?_
  unfold c_expr_leaf
  simp only [go_sem, simprocAttr, NodeL.row, SigL.row]
  by_cases h : 0 ≤ N ∧ N < s.defs.length
  · obtain ⟨j, rfl⟩ : ∃ j : Nat, N = j := ⟨N.toNat, by omega⟩
    have hj : j < s.defs.length := by omega
    have hf : foundP ⟨8, j⟩ s := by simp [foundP]; omega
    have ht : leafT ⟨8, j⟩ s = s.defs[j] := by simp [leafT, tyAt_nat hj]
    rw [leafR_eq _ hf ht]
    refine FCallT.of (atType_in (l := s.defs) hj) ?_
    rintro _ rfl
    simp only [go_sem, simprocAttr]
    repeat' first
      | apply And.intro <;> intro h
      | ((first
        | (refine FCallT.of (validT_call (t := s.defs[j]) (en := s.enums)) ?_; rintro _ rfl)
        | (refine FCallT.of (aggregate_call) ?_; rintro _ rfl)); simp only [go_sem, simprocAttr])
    all_goals (simp only [bp_iff, bpF] at *; simp [*, TyL.row])
  · refine FCallT.of (atType_out (l := s.defs) h) ?_
    rintro _ rfl
    simp only [go_sem, simprocAttr]
    rw [leafR_nf fun hf => h (hf.2.2.1 rfl)]; rfl
theorem leaf_m36 {N : Int} {s : SigL} : FCall Tryz.prog n_expr_leaf [.agg (NodeL.mk 36 N).row, .agg s.row] (· = .tup [.agg (leafR ⟨36, N⟩ s).1.row, .int .i64 (leafR ⟨36, N⟩ s).2]) := by
  refine FCall.walk u_expr_leaf k_expr_leaf rfl ?_
  unfold c_expr_leaf
  simp only [go_sem, simprocAttr, NodeL.row, SigL.row]
  refine ⟨fun hh => ?_, fun hh => ?_⟩
  · rw [leafR_nf fun hf => by have := (hf.2.2.2.2.2.2 (by simp)).1; rw [hh] at this; cases this]; rfl
  by_cases h : 0 ≤ N ∧ N < s.mems.length
  · obtain ⟨j, rfl⟩ : ∃ j : Nat, N = j := ⟨N.toNat, by omega⟩
    have hj : j < s.mems.length := by omega
    have hf : foundP ⟨36, j⟩ s := by simp [foundP, hh]; omega
    have ht : leafT ⟨36, j⟩ s = s.mems[j] := by simp [leafT, tyAt_nat hj]
    rw [leafR_eq _ hf ht]
    refine FCallT.of (atType_in (l := s.mems) hj) ?_
    rintro _ rfl
    simp only [go_sem, simprocAttr]
    repeat' first
      | apply And.intro <;> intro h
      | ((first
        | (refine FCallT.of (validT_call (t := s.mems[j]) (en := s.enums)) ?_; rintro _ rfl)
        | (refine FCallT.of (aggregate_call) ?_; rintro _ rfl)); simp only [go_sem, simprocAttr])
    all_goals (simp only [bp_iff, bpF] at *; simp [*, TyL.row])
  · refine FCallT.of (atType_out (l := s.mems) h) ?_
    rintro _ rfl
    simp only [go_sem, simprocAttr]
    rw [leafR_nf fun hf => h (hf.2.2.2.2.2.2 (by simp)).2]; rfl
theorem leaf_m37 {N : Int} {s : SigL} : FCall Tryz.prog n_expr_leaf [.agg (NodeL.mk 37 N).row, .agg s.row] (· = .tup [.agg (leafR ⟨37, N⟩ s).1.row, .int .i64 (leafR ⟨37, N⟩ s).2]) := by
  refine FCall.walk u_expr_leaf k_expr_leaf rfl ?_
  unfold c_expr_leaf
  simp only [go_sem, simprocAttr, NodeL.row, SigL.row]
  refine ⟨fun hh => ?_, fun hh => ?_⟩
  · rw [leafR_nf fun hf => by have := (hf.2.2.2.2.2.2 (by simp)).1; rw [hh] at this; cases this]; rfl
  by_cases h : 0 ≤ N ∧ N < s.mems.length
  · obtain ⟨j, rfl⟩ : ∃ j : Nat, N = j := ⟨N.toNat, by omega⟩
    have hj : j < s.mems.length := by omega
    have hf : foundP ⟨37, j⟩ s := by simp [foundP, hh]; omega
    have ht : leafT ⟨37, j⟩ s = s.mems[j] := by simp [leafT, tyAt_nat hj]
    rw [leafR_eq _ hf ht]
    refine FCallT.of (atType_in (l := s.mems) hj) ?_
    rintro _ rfl
    simp only [go_sem, simprocAttr]
    repeat' first
      | apply And.intro <;> intro h
      | ((first
        | (refine FCallT.of (validT_call (t := s.mems[j]) (en := s.enums)) ?_; rintro _ rfl)
        | (refine FCallT.of (aggregate_call) ?_; rintro _ rfl)); simp only [go_sem, simprocAttr])
    all_goals (simp only [bp_iff, bpF] at *; simp [*, TyL.row])
  · refine FCallT.of (atType_out (l := s.mems) h) ?_
    rintro _ rfl
    simp only [go_sem, simprocAttr]
    rw [leafR_nf fun hf => h (hf.2.2.2.2.2.2 (by simp)).2]; rfl
theorem leaf_m38 {N : Int} {s : SigL} : FCall Tryz.prog n_expr_leaf [.agg (NodeL.mk 38 N).row, .agg s.row] (· = .tup [.agg (leafR ⟨38, N⟩ s).1.row, .int .i64 (leafR ⟨38, N⟩ s).2]) := by
  refine FCall.walk u_expr_leaf k_expr_leaf rfl ?_
  unfold c_expr_leaf
  simp only [go_sem, simprocAttr, NodeL.row, SigL.row]
  refine ⟨fun hh => ?_, fun hh => ?_⟩
  · rw [leafR_nf fun hf => by have := (hf.2.2.2.2.2.2 (by simp)).1; rw [hh] at this; cases this]; rfl
  by_cases h : 0 ≤ N ∧ N < s.mems.length
  · obtain ⟨j, rfl⟩ : ∃ j : Nat, N = j := ⟨N.toNat, by omega⟩
    have hj : j < s.mems.length := by omega
    have hf : foundP ⟨38, j⟩ s := by simp [foundP, hh]; omega
    have ht : leafT ⟨38, j⟩ s = s.mems[j] := by simp [leafT, tyAt_nat hj]
    rw [leafR_eq _ hf ht]
    refine FCallT.of (atType_in (l := s.mems) hj) ?_
    rintro _ rfl
    simp only [go_sem, simprocAttr]
    repeat' first
      | apply And.intro <;> intro h
      | ((first
        | (refine FCallT.of (validT_call (t := s.mems[j]) (en := s.enums)) ?_; rintro _ rfl)
        | (refine FCallT.of (aggregate_call) ?_; rintro _ rfl)); simp only [go_sem, simprocAttr])
    all_goals (simp only [bp_iff, bpF] at *; simp [*, TyL.row])
  · refine FCallT.of (atType_out (l := s.mems) h) ?_
    rintro _ rfl
    simp only [go_sem, simprocAttr]
    rw [leafR_nf fun hf => h (hf.2.2.2.2.2.2 (by simp)).2]; rfl
theorem leaf_m39 {N : Int} {s : SigL} : FCall Tryz.prog n_expr_leaf [.agg (NodeL.mk 39 N).row, .agg s.row] (· = .tup [.agg (leafR ⟨39, N⟩ s).1.row, .int .i64 (leafR ⟨39, N⟩ s).2]) := by
  refine FCall.walk u_expr_leaf k_expr_leaf rfl ?_
  unfold c_expr_leaf
  simp only [go_sem, simprocAttr, NodeL.row, SigL.row]
  refine ⟨fun hh => ?_, fun hh => ?_⟩
  · rw [leafR_nf fun hf => by have := (hf.2.2.2.2.2.2 (by simp)).1; rw [hh] at this; cases this]; rfl
  by_cases h : 0 ≤ N ∧ N < s.mems.length
  · obtain ⟨j, rfl⟩ : ∃ j : Nat, N = j := ⟨N.toNat, by omega⟩
    have hj : j < s.mems.length := by omega
    have hf : foundP ⟨39, j⟩ s := by simp [foundP, hh]; omega
    have ht : leafT ⟨39, j⟩ s = s.mems[j] := by simp [leafT, tyAt_nat hj]
    rw [leafR_eq _ hf ht]
    refine FCallT.of (atType_in (l := s.mems) hj) ?_
    rintro _ rfl
    simp only [go_sem, simprocAttr]
    repeat' first
      | apply And.intro <;> intro h
      | ((first
        | (refine FCallT.of (validT_call (t := s.mems[j]) (en := s.enums)) ?_; rintro _ rfl)
        | (refine FCallT.of (aggregate_call) ?_; rintro _ rfl)); simp only [go_sem, simprocAttr])
    all_goals (simp only [bp_iff, bpF] at *; simp [*, TyL.row])
  · refine FCallT.of (atType_out (l := s.mems) h) ?_
    rintro _ rfl
    simp only [go_sem, simprocAttr]
    rw [leafR_nf fun hf => h (hf.2.2.2.2.2.2 (by simp)).2]; rfl
theorem leaf_date {N : Int} {s : SigL} : FCall Tryz.prog n_expr_leaf [.agg (NodeL.mk 9 N).row, .agg s.row] (· = .tup [.agg (leafR ⟨9, N⟩ s).1.row, .int .i64 (leafR ⟨9, N⟩ s).2]) := by
  rw [leafR_eq ⟨5, 0⟩ (by simp [foundP]) (by simp [leafT, kindT]), if_pos (by simp [validT, aggP])]
  refine FCall.walk u_expr_leaf k_expr_leaf rfl ?_
  unfold c_expr_leaf
  simp only [go_sem, simprocAttr, NodeL.row, SigL.row]
  rfl
theorem leaf_count {N : Int} {s : SigL} : FCall Tryz.prog n_expr_leaf [.agg (NodeL.mk 35 N).row, .agg s.row] (· = .tup [.agg (leafR ⟨35, N⟩ s).1.row, .int .i64 (leafR ⟨35, N⟩ s).2]) := by
  refine FCall.walk u_expr_leaf k_expr_leaf rfl ?_
  unfold c_expr_leaf
  simp only [go_sem, simprocAttr, NodeL.row, SigL.row]
  refine ⟨fun hh => ?_, fun hh => ?_⟩
  · rw [leafR_nf fun hf => by have := hf.2.2.2.2.2.1 rfl; rw [hh] at this; cases this]; rfl
  · rw [leafR_eq ⟨2, 0⟩ (by simp [foundP, hh]) (by simp [leafT, kindT]), if_pos (by simp [validT, aggP])]; rfl
theorem leaf_enum {N : Int} {s : SigL} (hN : 0 ≤ N) (hI : I64 N) : FCall Tryz.prog n_expr_leaf [.agg (NodeL.mk 6 N).row, .agg s.row] (· = .tup [.agg (leafR ⟨6, N⟩ s).1.row, .int .i64 (leafR ⟨6, N⟩ s).2]) := by
  refine FCall.walk u_expr_leaf k_expr_leaf rfl ?_
  unfold c_expr_leaf
  simp only [go_sem, simprocAttr, NodeL.row, SigL.row]
  rw [quo_pos hN hI (by decide)]
  have h0 : 0 ≤ N / 16 := Int.ediv_nonneg hN (by decide)
  have h1 : 0 ≤ N % 16 := Int.emod_nonneg N (by decide)
  by_cases h : N / 16 < s.enums.length
  · obtain ⟨j, hj0⟩ : ∃ j : Nat, N / 16 = j := ⟨(N / 16).toNat, by omega⟩
    have hj : j < s.enums.length := by omega
    have hm : memN s.enums (N / 16) = s.enums[j].members.length := by unfold memN; rw [hj0, Int.toNat_natCast, List.getElem?_eq_getElem hj]; rfl
    rw [hj0]
    refine FCallT.of (atEnum_in (l := s.enums) hj) ?_
    rintro _ rfl
    simp only [go_sem, simprocAttr, EnumL.row, rem_pos hN hI (show (0 : Int) < 16 by decide), quo_pos hN hI (show (0 : Int) < 16 by decide)]
    by_cases k : N % 16 < s.enums[j].members.length
    · obtain ⟨m, hm0⟩ : ∃ m : Nat, N % 16 = m := ⟨(N % 16).toNat, by omega⟩
      have hf : foundP ⟨6, N⟩ s := by simp [foundP, hm]; omega
      have hr0 : N.tmod 16 = m := by rw [Int.tmod_eq_emod_of_nonneg hN]; exact hm0
      rw [hr0]
      refine FCallT.of (atStr_in (l := s.enums[j].members) (j := m) (by omega)) ?_
      rintro _ rfl
      simp only [go_sem, simprocAttr, quo_pos hN hI (show (0 : Int) < 16 by decide)]
      rw [leafR_eq ⟨6, N / 16⟩ hf (by simp [leafT]), if_pos ⟨.inl ⟨rfl, h0, h⟩, by simp [aggP]⟩]; rfl
    · have hr0 : N.tmod 16 = N % 16 := Int.tmod_eq_emod_of_nonneg hN
      rw [hr0]
      refine FCallT.of (atStr_out (l := s.enums[j].members) (i := N % 16) (by omega)) ?_
      rintro _ rfl
      simp only [go_sem, simprocAttr, quo_pos hN hI (show (0 : Int) < 16 by decide)]
      rw [leafR_nf fun hf => by have := (hf.1 rfl).2; simp only at this; omega]; rfl
  · refine FCallT.of (atEnum_out (l := s.enums) (i := N / 16) (by omega)) ?_
    rintro _ rfl
    simp only [go_sem, simprocAttr]
    rw [leafR_nf fun hf => h (hf.1 rfl).1]; rfl
end Go.Fx.Tryz
set_option linter.unusedVariables false
set_option linter.unusedSimpArgs false
namespace Go.Fm
open Go
def opsGo (l : List Int) (last : Int) : Nat → List Int → List Int
  | 0, acc => acc
  | k + 1, acc => opsGo l ((l[last.toNat]?).getD 0 - 1) k (last :: acc)
def OpsOk (l : List Int) (last : Int) : Nat → Prop
  | 0 => True
  | k + 1 => 0 ≤ last ∧ last < l.length ∧ OpsOk l ((l[last.toNat]?).getD 0 - 1) k
def ChainT (L : List Int) (T : List TyL) : Int → List (Int × TyL) → Prop
  | last, [] => last = -1
  | last, x :: r => 0 ≤ last ∧ L[last.toNat]? = some x.1 ∧ T[last.toNat]? = some x.2 ∧ x.1 ≤ last ∧ 0 ≤ x.1 ∧ ChainT L T (x.1 - 1) r
theorem chain_ops {L : List Int} {T : List TyL} : ∀ {k : Nat} {last : Int} {ps : List (Int × TyL)} {acc : List Int}, ChainT L T last ps → k ≤ ps.length →
    OpsOk L last k ∧ (opsGo L last k acc).map (fun p => T[p.toNat]?) = ((ps.take k).reverse.map fun x => some x.2) ++ acc.map fun p => T[p.toNat]?
  | 0, last, ps, acc, h, _ => ⟨trivial, by simp [opsGo]⟩
  | k + 1, last, [], acc, h, hk => by simp at hk
  | k + 1, last, x :: r, acc, h, hk => by
    obtain ⟨h1, h2, h3, h4, h4b, h5⟩ := h
    have hlt : last.toNat < L.length := by
      have := (List.getElem?_eq_some_iff.1 h2).1; exact this
    have ih := chain_ops (k := k) (last := x.1 - 1) (ps := r) (acc := last :: acc) h5 (by simpa using hk)
    have e : (L[last.toNat]?).getD 0 - 1 = x.1 - 1 := by rw [h2]; rfl
    refine ⟨⟨h1, by omega, by rw [e]; exact ih.1⟩, ?_⟩
    simp only [opsGo, e, ih.2, List.take_succ_cons, List.reverse_cons, List.map_append, List.map_cons, List.map_nil, h3]
    simp
theorem chain_pos {L : List Int} : ∀ {k : Nat} {last : Int} {acc : List Int}, OpsOk L last k → (∀ p ∈ acc, 0 ≤ p ∧ p < L.length) → ∀ p ∈ opsGo L last k acc, 0 ≤ p ∧ p < L.length
  | 0, last, acc, _, h => h
  | k + 1, last, acc, ⟨h1, h2, h3⟩, h => by
    have h4 : ∀ p ∈ last :: acc, 0 ≤ p ∧ p < L.length := by
      intro p hp
      rcases List.mem_cons.1 hp with rfl | m
      · exact ⟨h1, h2⟩
      · exact h p m
    exact chain_pos (k := k) (acc := last :: acc) h3 h4
theorem opsGo_length {L : List Int} : ∀ {k : Nat} {last : Int} {acc : List Int}, (opsGo L last k acc).length = k + acc.length
  | 0, last, acc => by simp [opsGo]
  | k + 1, last, acc => by simp only [opsGo, opsGo_length (k := k), List.length_cons]; omega
theorem chain_set {L : List Int} {T : List TyL} {i : Nat} {x : TyL} : ∀ {ps : List (Int × TyL)} {last : Int}, ChainT L T last ps → last < i → ChainT L (T.set i x) last ps
  | [], last, h, _ => h
  | y :: r, last, h, hi => by
    obtain ⟨h1, h2, h3, h4, h4b, h5⟩ := h
    refine ⟨h1, h2, ?_, h4, h4b, chain_set h5 (by omega)⟩
    rw [List.getElem?_set_ne (by omega)]; exact h3
theorem chain_drop {L : List Int} {T : List TyL} : ∀ {k : Nat} {last : Int} {ps : List (Int × TyL)} (h : k < ps.length), ChainT L T last ps → ChainT L T (ps[k].1 - 1) (ps.drop (k + 1)) ∧ ps[k].1 ≤ last ∧ 0 ≤ ps[k].1
  | 0, last, x :: r, _, h => ⟨h.2.2.2.2.2, h.2.2.2.1, h.2.2.2.2.1⟩
  | k + 1, last, x :: r, hk, h => by
    obtain ⟨h1, h2, h3⟩ := chain_drop (k := k) (last := x.1 - 1) (ps := r) (by simpa using hk) h.2.2.2.2.2
    exact ⟨h1, by have := h.2.2.2.1; simp only [List.getElem_cons_succ]; omega, h3⟩
  | k, last, [], hk, h => by simp at hk
theorem structGo_cons {i : Nat} {st out : List Int} {n : NodeL} {r : List NodeL} : structGo i st out (n :: r) = if arityZ n.op < 0 then ([], (i : Int), 2) else if (st.length : Int) < arityZ n.op then ([], (i : Int), 5) else
    let k := (arityZ n.op).toNat
    let from_ := if 0 < k then (st[st.length - k]?).getD 0 else (i : Int)
    let st' := st.take (st.length - k) ++ [from_]
    if 12 < st'.length then ([], (i : Int), 16) else structGo (i + 1) st' (out ++ [from_]) r := rfl
theorem structGo_step {i : Nat} {st out L : List Int} {p : Int} {n : NodeL} {r : List NodeL} (h : structGo i st out (n :: r) = (L, p, 0)) :
    ∃ k : Nat, arityZ n.op = k ∧ k ≤ st.length ∧ ∃ f : Int, f = (if 0 < k then (st[st.length - k]?).getD 0 else (i : Int)) ∧ structGo (i + 1) (st.take (st.length - k) ++ [f]) (out ++ [f]) r = (L, p, 0) := by
  rw [structGo_cons] at h
  by_cases h1 : arityZ n.op < 0
  · rw [if_pos h1] at h; simp at h
  rw [if_neg h1] at h
  by_cases h2 : (st.length : Int) < arityZ n.op
  · rw [if_pos h2] at h; simp at h
  rw [if_neg h2] at h
  simp only at h
  refine ⟨(arityZ n.op).toNat, by omega, by omega, _, rfl, ?_⟩
  by_cases h3 : 12 < (st.take (st.length - (arityZ n.op).toNat) ++ [if 0 < (arityZ n.op).toNat then (st[st.length - (arityZ n.op).toNat]?).getD 0 else (i : Int)]).length
  · rw [if_pos h3] at h; simp at h
  · rw [if_neg h3] at h; exact h
theorem structGo_pre {L : List Int} {p : Int} : ∀ {r : List NodeL} {i : Nat} {st out : List Int}, structGo i st out r = (L, p, 0) → out <+: L ∧ L.length = out.length + r.length
  | [], i, st, out, h => by
    unfold structGo at h
    split at h
    · simp at h
    · simp only [Prod.mk.injEq] at h; obtain ⟨rfl, _⟩ := h; exact ⟨List.prefix_refl _, by simp⟩
  | n :: r, i, st, out, h => by
    obtain ⟨k, _, _, f, _, h'⟩ := structGo_step h
    obtain ⟨h1, h2⟩ := structGo_pre h'
    exact ⟨(List.prefix_append _ _).trans h1, by simp only [List.length_append, List.length_cons, List.length_nil] at h2; simp only [List.length_cons]; omega⟩
theorem structGo_bnd {L : List Int} {p : Int} : ∀ {r : List NodeL} {i : Nat} {st out : List Int}, structGo i st out r = (L, p, 0) → (∀ x ∈ st, 0 ≤ x ∧ x ≤ i) → (∀ x ∈ out, 0 ≤ x ∧ x ≤ i) → ∀ x ∈ L, 0 ≤ x ∧ x ≤ i + r.length
  | [], i, st, out, h, h1, h2 => by
    unfold structGo at h
    split at h
    · simp at h
    · simp only [Prod.mk.injEq] at h; obtain ⟨rfl, _⟩ := h; simpa using h2
  | n :: r, i, st, out, h, h1, h2 => by
    obtain ⟨k, _, _, f, hf, h'⟩ := structGo_step h
    have hfb : 0 ≤ f ∧ f ≤ i := by
      rw [hf]
      split
      · cases hq : st[st.length - k]? with
        | none => simp
        | some y => exact h1 y (List.mem_of_getElem? hq)
      · omega
    have ih := structGo_bnd h' (by
      intro x hx
      rcases List.mem_append.1 hx with hx | hx
      · have := h1 x (List.mem_of_mem_take hx); omega
      · rw [List.mem_singleton] at hx; subst hx; omega) (by
      intro x hx
      rcases List.mem_append.1 hx with hx | hx
      · have := h2 x hx; omega
      · rw [List.mem_singleton] at hx; subst hx; omega)
    intro x hx
    have := ih x hx
    simp only [List.length_cons]
    omega
structure TyInv (e : List NodeL) (s : SigL) (L : List Int) (R : TyL × Int × Int) (i : Nat) (T : List TyL) (ps : List (Int × TyL)) : Prop where
  hi : i ≤ e.length
  len : T.length = e.length
  st : ∃ out, out.length = i ∧ structGo i (ps.reverse.map (·.1)) out (e.drop i) = (L, 0, 0)
  ty : typeGo s i (ps.reverse.map (·.2)) (e.drop i) = R
  ch : ChainT L T ((i : Int) - 1) ps
  ok : ∀ x ∈ ps, validT x.2 s.enums.length
theorem TyInv.start {e : List NodeL} {s : SigL} {L : List Int} {T : List TyL} (hL : structGo 0 [] [] e = (L, 0, 0)) (hT : T.length = e.length) : TyInv e s L (typeGo s 0 [] e) 0 T [] :=
  ⟨by omega, hT, ⟨[], rfl, by simpa using hL⟩, by simp, rfl, by simp⟩
theorem rev_drop {α : Type} {ps : List α} {k : Nat} (h : k ≤ ps.length) : ps.reverse.drop (ps.length - k) = (ps.take k).reverse := by
  rw [List.drop_reverse]; congr 2; omega
theorem rev_take {α : Type} {ps : List α} {k : Nat} (h : k ≤ ps.length) : ps.reverse.take (ps.length - k) = (ps.drop k).reverse := by
  rw [List.take_reverse]; congr 2; omega
theorem TyInv.step {e : List NodeL} {s : SigL} {L : List Int} {R : TyL × Int × Int} {i : Nat} {T : List TyL} {ps : List (Int × TyL)} (h : TyInv e s L R i T ps) (hi : i < e.length) :
    ∃ k : Nat, ∃ args : List TyL, arityZ e[i].op = k ∧ k ≤ 3 ∧ args.length = k ∧ k ≤ ps.length ∧ (ps.reverse.map (·.2)).drop (ps.length - k) = args ∧ OpsOk L ((i : Int) - 1) k ∧ (opsGo L ((i : Int) - 1) k []).map (fun p => T[p.toNat]?) = args.map some ∧ (∀ t ∈ args, validT t s.enums.length) ∧
      ((nodeT e[i] args s).2 ≠ 0 → R = (⟨0, 0⟩, (i : Int), (nodeT e[i] args s).2)) ∧
      ((nodeT e[i] args s).2 = 0 → ∃ ps', TyInv e s L R (i + 1) (T.set i (nodeT e[i] args s).1) ps' ∧ ps'.reverse.map (·.2) = (ps.reverse.map (·.2)).take (ps.length - k) ++ [(nodeT e[i] args s).1]) := by
  obtain ⟨hi0, hlen, ⟨out, ho, hst⟩, hty, hch, hok⟩ := h
  rw [List.drop_eq_getElem_cons hi] at hst hty
  obtain ⟨k, hk, hkl, f, hf, hst'⟩ := structGo_step hst
  simp only [List.length_map, List.length_reverse] at hkl hf hst'
  have hk3 : k ≤ 3 := by unfold arityZ at hk; (repeat' split at hk) <;> omega
  have hargs : ∀ x ∈ (ps.take k).reverse.map (·.2), validT x s.enums.length := by
    intro x hx
    obtain ⟨y, hy, rfl⟩ := List.mem_map.1 hx
    exact hok y (List.mem_of_mem_take (List.mem_reverse.1 hy))
  have hal : ((ps.take k).reverse.map (·.2)).length = k := by simp; omega
  obtain ⟨c1, c2⟩ := chain_ops (acc := []) hch hkl
  refine ⟨k, (ps.take k).reverse.map (·.2), hk, hk3, hal, hkl, by rw [← List.map_drop, rev_drop hkl], c1, ?_, hargs, ?_, ?_⟩
  · rw [c2, List.map_nil, List.append_nil, List.map_map]; rfl
  · intro hne
    unfold typeGo at hty
    simp only [List.length_map, List.length_reverse, hk, Int.toNat_natCast, ← List.map_drop, rev_drop hkl] at hty
    rw [if_pos hne] at hty
    exact hty.symm
  · intro h0
    unfold typeGo at hty
    simp only [List.length_map, List.length_reverse, hk, Int.toNat_natCast, ← List.map_drop, ← List.map_take, rev_drop hkl, rev_take hkl] at hty
    rw [if_neg (by simpa using h0)] at hty
    rw [← List.map_take, rev_take hkl] at hst'
    have hpre := structGo_pre hst'
    have hLi : L[i]? = some f := by
      obtain ⟨w, hw⟩ := hpre.1
      rw [← hw, List.append_assoc, List.getElem?_append_right (by omega), ho]; simp
    have hfb : f ≤ i ∧ 0 ≤ f ∧ ChainT L T (f - 1) (ps.drop k) := by
      by_cases k0 : 0 < k
      · obtain ⟨j, rfl⟩ : ∃ j, k = j + 1 := ⟨k - 1, by omega⟩
        have hj : j < ps.length := by omega
        have e1 : f = ps[j].1 := by
          rw [hf, if_pos k0, List.getElem?_map, List.getElem?_reverse (by omega)]
          have : ps.length - 1 - (ps.length - (j + 1)) = j := by omega
          rw [this, List.getElem?_eq_getElem hj]; rfl
        obtain ⟨d1, d2, d3⟩ := chain_drop hj hch
        rw [e1]
        exact ⟨by omega, d3, d1⟩
      · obtain rfl : k = 0 := by omega
        rw [if_neg (by omega)] at hf
        subst hf
        exact ⟨by omega, by omega, by simpa using hch⟩
    refine ⟨(f, (nodeT e[i] ((ps.take k).reverse.map (·.2)) s).1) :: ps.drop k, ⟨hi, by simp [hlen], ⟨out ++ [f], by simp [ho], ?_⟩, ?_, ?_, ?_⟩, by rw [← List.map_take, rev_take hkl]; simp⟩
    · simpa using hst'
    · simpa using hty
    · have e2 : ((i + 1 : Nat) : Int) - 1 = i := by omega
      rw [e2]
      refine ⟨by omega, by rw [Int.toNat_natCast]; exact hLi, ?_, hfb.1, hfb.2.1, chain_set hfb.2.2 (by omega)⟩
      rw [Int.toNat_natCast, List.getElem?_set_self (by omega)]
    · intro x hx
      rcases List.mem_cons.1 hx with rfl | hx
      · exact nodeT_valid (by rw [hal]; exact hk.symm) hargs h0
      · exact hok x (List.mem_of_mem_drop hx)
theorem TyInv.done {e : List NodeL} {s : SigL} {L : List Int} {R : TyL × Int × Int} {T : List TyL} {ps : List (Int × TyL)} (h : TyInv e s L R e.length T ps) (he : e ≠ []) :
    ∃ t, T[e.length - 1]? = some t ∧ R = (t, 0, 0) := by
  obtain ⟨hi0, hlen, ⟨out, ho, hst⟩, hty, hch, hok⟩ := h
  rw [List.drop_length] at hst hty
  have hpos : 0 < e.length := List.length_pos_iff.2 he
  have h1 : ps.length ≤ 1 := by
    unfold structGo at hst
    split at hst
    · simp at hst
    · rename_i hh; simpa using hh
  match ps, h1, hch, hty with
  | [], _, hch, _ => simp only [ChainT] at hch; omega
  | [x], _, hch, hty =>
    refine ⟨x.2, ?_, ?_⟩
    · have := hch.2.2.1
      rwa [show ((e.length : Int) - 1).toNat = e.length - 1 by omega] at this
    · simp [typeGo] at hty
      exact hty.symm
theorem structGo_zero : ∀ {r : List NodeL} {i : Nat} {st out : List Int}, (structGo i st out r).2.2 = 0 → (structGo i st out r).2.1 = 0
  | [], i, st, out, h => by
    unfold structGo at h ⊢
    by_cases h1 : 1 < st.length
    · rw [if_pos h1] at h; simp at h
    · rw [if_neg h1]
  | n :: r, i, st, out, h => by
    have : ∃ p, structGo i st out (n :: r) = ((structGo i st out (n :: r)).1, p, 0) := ⟨(structGo i st out (n :: r)).2.1, by rw [← h]⟩
    obtain ⟨p, hp⟩ := this
    obtain ⟨k, _, _, f, _, h'⟩ := structGo_step hp
    have ih := structGo_zero (r := r) (i := i + 1) (by rw [h'])
    rw [h'] at ih
    rw [hp]; exact ih
theorem structL_ok {e : List NodeL} (h : (structL e).2.2 = 0) : ∃ L, structL e = (L, 0, 0) ∧ structGo 0 [] [] e = (L, 0, 0) ∧ e ≠ [] ∧ e.length ≤ 48 := by
  unfold structL at h ⊢
  by_cases h1 : 48 < e.length
  · rw [if_pos h1] at h; simp at h
  rw [if_neg h1] at h ⊢
  by_cases h2 : e = []
  · rw [if_pos h2] at h; simp at h
  rw [if_neg h2] at h ⊢
  have := structGo_zero h
  have e1 : structGo 0 [] [] e = ((structGo 0 [] [] e).1, 0, 0) := by
    rw [← h]; rw [show (structGo 0 [] [] e).2.2 = (structGo 0 [] [] e).2.1 by rw [h, this]]
    exact Prod.ext rfl (Prod.ext rfl (by rw [h, this]))
  exact ⟨_, e1, e1, h2, by omega⟩
def refsN (op : Int) (e : List NodeL) : List Int := (e.filter fun n => decide (n.op = op)).map (·.n)
def refsM (e : List NodeL) : List Int := (e.filter fun n => decide (36 ≤ n.op ∧ n.op ≤ 39)).map (·.n)
theorem refsN_succ {op : Int} {e : List NodeL} {i : Nat} (h : i < e.length) : refsN op (e.take (i + 1)) = refsN op (e.take i) ++ (if e[i].op = op then [e[i].n] else []) := by
  unfold refsN
  rw [List.take_succ_eq_append_getElem h, List.filter_append, List.map_append]
  by_cases k : e[i].op = op <;> simp [k]
theorem refsM_succ {e : List NodeL} {i : Nat} (h : i < e.length) : refsM (e.take (i + 1)) = refsM (e.take i) ++ (if 36 ≤ e[i].op ∧ e[i].op ≤ 39 then [e[i].n] else []) := by
  unfold refsM
  rw [List.take_succ_eq_append_getElem h, List.filter_append, List.map_append]
  by_cases k : 36 ≤ e[i].op ∧ e[i].op ≤ 39 <;> simp [k]
theorem refsN_length {op : Int} {e : List NodeL} : (refsN op e).length ≤ e.length := by unfold refsN; rw [List.length_map]; exact List.length_filter_le _ _
theorem refsM_length {e : List NodeL} : (refsM e).length ≤ e.length := by unfold refsM; rw [List.length_map]; exact List.length_filter_le _ _
end Go.Fm
set_option linter.unusedVariables false
set_option linter.unusedSimpArgs false
namespace Go.Fx.Tryz
open Go Go.Fm Go.Proofs
theorem struct_fin {e : List NodeL} {i : Nat} {st out : List Int} {x : Int} (hi : i < e.length) (g4 : out.length = i)
    (hx : (if 12 < (st ++ [x]).length then (([] : List Int), (i : Int), (16 : Int)) else structGo (i + 1) (st ++ [x]) (out ++ [x]) (e.drop (i + 1))) = structL e) (h12 : ¬ 12 < st.length + 1) :
    i + 1 ≤ e.length ∧ structGo (i + 1) (st ++ [x]) (out ++ [x]) (e.drop (i + 1)) = structL e ∧ (st ++ [x]).length ≤ 12 ∧ (out ++ [x]).length = i + 1 := by
  rw [if_neg (by simp; omega)] at hx
  exact ⟨hi, hx, by simp; omega, by simp [g4]⟩
theorem struct_deep {e : List NodeL} {i : Nat} {st out : List Int} {x : Int}
    (hx : (if 12 < (st ++ [x]).length then (([] : List Int), (i : Int), (16 : Int)) else structGo (i + 1) (st ++ [x]) (out ++ [x]) (e.drop (i + 1))) = structL e) (h12 : 12 < st.length + 1) :
    structL e = ([], (i : Int), 16) := by
  rw [if_pos (by simp; omega)] at hx
  exact hx.symm
theorem starts_call {e : List NodeL} {u : Bool} : FCall Tryz.prog n_expr_starts [.sl u (nodesV e)] (· = .tup [.arr (ints (structL e).1), .int .i64 (structL e).2.1, .int .i64 (structL e).2.2]) := by
  refine FCall.walk u_expr_starts k_expr_starts rfl ?_
  unfold c_expr_starts
  simp only [go_sem, simprocAttr]
  refine ⟨fun h => ?_, fun h => ⟨fun h2 => ?_, fun h2 => ?_⟩⟩
  · have : 48 < e.length := by omega
    simp [structL, this, ints]
  · have : e = [] := List.eq_nil_of_length_eq_zero (by omega)
    simp [structL, this, ints]
  · have h3 : ¬ 48 < e.length := by omega
    have h4 : e ≠ [] := by intro k; subst k; simp at h2
    have hR : structL e = structGo 0 [] [] e := by simp [structL, h3, h4]
    refine FWT.upd [] (fun s : Nat × List Int × List Int => [(5, .arr (ints s.2.2)), (6, .arr (ints s.2.1)), (19, .int .i64 s.1)]) (fun s => e.length - s.1)
      (fun s => s.1 ≤ e.length ∧ structGo s.1 s.2.1 s.2.2 (e.drop s.1) = structL e ∧ s.2.1.length ≤ 12 ∧ s.2.2.length = s.1) (0, [], []) rfl ⟨by simp, by simp [hR], by simp, by simp⟩ ?_
    rintro ⟨i, st, out⟩ ⟨g1, g2, g3, g4⟩
    simp only at g1 g2 g3 g4
    by_cases hi : i < e.length
    · have hx := nodesV_get hi
      rw [List.drop_eq_getElem_cons hi, structGo_cons] at g2
      simp only [go_sem, simprocAttr, ltT hi, Int.toNat_natCast, hx, NodeL.row]
      refine FCallT.of (arity_call (op := e[i].op)) ?_
      rintro _ rfl
      simp only [go_sem, simprocAttr]
      refine ⟨fun h5 => ?_, fun h5 => ⟨fun h6 => ?_, fun h6 => ?_⟩⟩
      · rw [if_pos h5] at g2; rw [← g2]; rfl
      · rw [if_neg h5, if_pos h6] at g2; rw [← g2]; rfl
      · rw [if_neg h5, if_neg h6] at g2
        obtain ⟨k, hk⟩ : ∃ k : Nat, arityZ e[i].op = k := ⟨(arityZ e[i].op).toNat, by omega⟩
        have hw : IntKind.i64.wrap ((st.length : Int) - (k : Int)) = ((st.length - k : Nat) : Int) := by rw [w64 (by unfold I64; omega)]; omega
        simp only [hk, Int.toNat_natCast] at g2
        rw [hk] at h5 h6 ⊢
        have hz : 0 ≤ ((st.length - k : Nat) : Int) := by omega
        have hle : ((st.length - k : Nat) : Int) ≤ (st.length : Int) := by omega
        by_cases k0 : k = 0
        · subst k0
          simp only [Nat.lt_irrefl, if_false, Nat.sub_zero, List.take_length] at g2
          have hw2 : IntKind.i64.wrap ((st.length : Int) - 0) = (st.length : Int) := by rw [Int.sub_zero]; exact w64 (by unfold I64; omega)
          by_cases s0 : st = []
          · subst s0
            simp only [go_sem, simprocAttr, all_len_ints, wrap0, Int.toNat_natCast]
            exact ⟨by omega, (i + 1, [(i : Int)], out ++ [(i : Int)]), by rw [w64s (by omega), ints_snoc]; rfl, struct_fin hi g4 g2 (by simp), by simp only; omega⟩
          · have s1 : ¬ st.length = 0 := fun e => s0 (List.eq_nil_of_length_eq_zero e)
            simp only [go_sem, simprocAttr, hw2, all_len_ints, Int.toNat_natCast, ints_take, s1, Nat.sub_zero]
            rw [List.take_length]
            refine ⟨Int.le_refl _, by omega, fun h7 => ?_, fun h7 => ?_⟩
            · rw [struct_deep g2 (by rw [List.length_append, ints_length] at h7; simp at h7 ⊢; omega)]; rfl
            · have h8 : ¬ 12 < (st).length + 1 := by rw [List.length_append, ints_length] at h7; simp at h7 ⊢; omega
              exact ⟨by omega, (i + 1, st ++ [(i : Int)], out ++ [(i : Int)]), by rw [w64s (by omega), ints_snoc, ints_snoc], struct_fin hi g4 g2 h8, by simp only; omega⟩
        · have kp : (0 : Int) < k := by omega
          have kp2 : 0 < k := by omega
          have hlt : st.length - k < st.length := by omega
          have hy := ints_get hlt
          simp only [kp2, if_true, List.getElem?_eq_getElem hlt, Option.getD_some] at g2
          by_cases s0 : st.length - k = 0
          · have s1 : (st.length - k = 0) = True := eq_true s0
            simp only [go_sem, simprocAttr, kp, hw, Int.toNat_natCast, hy, hz, hle, ints_take, s1, all_len_ints, Nat.sub_zero]
            have e0 : st.take (st.length - k) = [] := by rw [s0]; rfl
            rw [e0] at g2
            exact ⟨by omega, (i + 1, [] ++ [st[st.length - k]], out ++ [st[st.length - k]]), by rw [w64s (by omega), ints_snoc]; rfl, struct_fin hi g4 g2 (by simp), by simp only; omega⟩
          · simp only [go_sem, simprocAttr, kp, hw, Int.toNat_natCast, hy, hz, hle, ints_take, s0, all_len_ints, Nat.sub_zero]
            refine ⟨by simp; omega, fun h7 => ?_, fun h7 => ?_⟩
            · rw [struct_deep g2 (by rw [List.length_append, ints_length] at h7; simp at h7 ⊢; omega)]; rfl
            · have h8 : ¬ 12 < (st.take (st.length - k)).length + 1 := by rw [List.length_append, ints_length] at h7; simp at h7 ⊢; omega
              exact ⟨by omega, (i + 1, st.take (st.length - k) ++ [st[st.length - k]], out ++ [st[st.length - k]]), by rw [w64s (by omega), ints_snoc, ints_snoc], struct_fin hi g4 g2 h8, by simp only; omega⟩
    · rw [List.drop_eq_nil_of_le (by omega)] at g2
      simp only [go_sem, simprocAttr, ltF hi]
      refine ⟨fun h5 => ?_, fun h5 => ?_⟩
      · rw [← g2]; simp only [structGo]; rw [if_pos (by omega)]; rw [show i = e.length by omega]; rfl
      · rw [← g2]; simp only [structGo]; rw [if_neg (by omega)]
theorem structure_call {e : List NodeL} {u : Bool} : FCall Tryz.prog n_ref10_structure [.sl u (nodesV e)] (· = .tup [.arr (ints (structL e).1), .int .i64 (structL e).2.1, .int .i64 (structL e).2.2]) := by
  refine FCall.walk u_ref10_structure k_ref10_structure rfl ?_
  unfold c_ref10_structure
  simp only [go_sem, simprocAttr]
  refine ⟨fun h => ?_, fun h => ⟨fun h2 => ?_, fun h2 => ?_⟩⟩
  · have : 48 < e.length := by omega
    simp [structL, this, ints]
  · have : e = [] := List.eq_nil_of_length_eq_zero (by omega)
    simp [structL, this, ints]
  · have h3 : ¬ 48 < e.length := by omega
    have h4 : e ≠ [] := by intro k; subst k; simp at h2
    have hR : structL e = structGo 0 [] [] e := by simp [structL, h3, h4]
    refine FWT.upd [] (fun s : Nat × List Int × List Int => [(5, .arr (ints s.2.2)), (6, .arr (ints s.2.1)), (7, .int .i64 s.1)]) (fun s => e.length - s.1)
      (fun s => s.1 ≤ e.length ∧ structGo s.1 s.2.1 s.2.2 (e.drop s.1) = structL e ∧ s.2.1.length ≤ 12 ∧ s.2.2.length = s.1) (0, [], []) rfl ⟨by simp, by simp [hR], by simp, by simp⟩ ?_
    rintro ⟨i, st, out⟩ ⟨g1, g2, g3, g4⟩
    simp only at g1 g2 g3 g4
    by_cases hi : i < e.length
    · have hx := nodesV_get hi
      rw [List.drop_eq_getElem_cons hi, structGo_cons] at g2
      simp only [go_sem, simprocAttr, ltT hi, Int.toNat_natCast, hx, NodeL.row]
      refine FCallT.of (arityR_call (op := e[i].op)) ?_
      rintro _ rfl
      simp only [go_sem, simprocAttr]
      refine ⟨fun h5 => ?_, fun h5 => ⟨fun h6 => ?_, fun h6 => ?_⟩⟩
      · rw [if_pos h5] at g2; rw [← g2]; rfl
      · rw [if_neg h5, if_pos h6] at g2; rw [← g2]; rfl
      · rw [if_neg h5, if_neg h6] at g2
        obtain ⟨k, hk⟩ : ∃ k : Nat, arityZ e[i].op = k := ⟨(arityZ e[i].op).toNat, by omega⟩
        have hw : IntKind.i64.wrap ((st.length : Int) - (k : Int)) = ((st.length - k : Nat) : Int) := by rw [w64 (by unfold I64; omega)]; omega
        simp only [hk, Int.toNat_natCast] at g2
        rw [hk] at h5 h6 ⊢
        have hz : 0 ≤ ((st.length - k : Nat) : Int) := by omega
        have hle : ((st.length - k : Nat) : Int) ≤ (st.length : Int) := by omega
        by_cases k0 : k = 0
        · subst k0
          simp only [Nat.lt_irrefl, if_false, Nat.sub_zero, List.take_length] at g2
          simp only [go_sem, simprocAttr]
          refine ⟨by omega, by omega, fun h7 => ?_, fun h7 => ?_⟩
          · rw [struct_deep g2 (by rw [List.length_append, ints_length] at h7; simp at h7 ⊢; omega)]; rfl
          · have h8 : ¬ 12 < (st).length + 1 := by rw [List.length_append, ints_length] at h7; simp at h7 ⊢; omega
            exact ⟨(i + 1, st ++ [(i : Int)], out ++ [(i : Int)]), by rw [w64s (by omega), ints_snoc, ints_snoc], struct_fin hi g4 g2 h8, by simp only; omega⟩
        · have kp : (0 : Int) < k := by omega
          have kp2 : 0 < k := by omega
          have hlt : st.length - k < st.length := by omega
          have hy := ints_get hlt
          simp only [kp2, if_true, List.getElem?_eq_getElem hlt, Option.getD_some] at g2
          by_cases s0 : st.length - k = 0
          · have s1 : (st.length - k = 0) = True := eq_true s0
            simp only [go_sem, simprocAttr, kp, hw, Int.toNat_natCast, hy, hz, hle, ints_take, s1, all_len_ints, Nat.sub_zero]
            have e0 : st.take (st.length - k) = [] := by rw [s0]; rfl
            rw [e0] at g2
            exact ⟨by omega, (i + 1, [] ++ [st[st.length - k]], out ++ [st[st.length - k]]), by rw [w64s (by omega), ints_snoc]; rfl, struct_fin hi g4 g2 (by simp), by simp only; omega⟩
          · simp only [go_sem, simprocAttr, kp, hw, Int.toNat_natCast, hy, hz, hle, ints_take, s0, all_len_ints, Nat.sub_zero]
            refine ⟨by simp; omega, by omega, fun h7 => ?_, fun h7 => ?_⟩
            · rw [struct_deep g2 (by rw [List.length_append, ints_length] at h7; simp at h7 ⊢; omega)]; rfl
            · have h8 : ¬ 12 < (st.take (st.length - k)).length + 1 := by rw [List.length_append, ints_length] at h7; simp at h7 ⊢; omega
              exact ⟨(i + 1, st.take (st.length - k) ++ [st[st.length - k]], out ++ [st[st.length - k]]), by rw [w64s (by omega), ints_snoc, ints_snoc], struct_fin hi g4 g2 h8, by simp only; omega⟩
    · rw [List.drop_eq_nil_of_le (by omega)] at g2
      simp only [go_sem, simprocAttr, ltF hi]
      refine ⟨fun h5 => ?_, fun h5 => ?_⟩
      · rw [← g2]; simp only [structGo]; rw [if_pos (by omega)]; rw [show i = e.length by omega]; rfl
      · rw [← g2]; simp only [structGo]; rw [if_neg (by omega)]
end Go.Fx.Tryz
set_option linter.unusedVariables false
set_option linter.unusedSimpArgs false
namespace Go.Fx.Tryz
open Go Go.Fm Go.Proofs
theorem arithmetic_call {op a b : Int} : FCall Tryz.prog n_expr_arithmetic [.int .i64 op, .int .i64 a, .int .i64 b] (· = .int .i64 (arZ op a b)) := by
  refine FCall.walk u_expr_arithmetic k_expr_arithmetic rfl ?_
  unfold c_expr_arithmetic
  simp only [go_sem, simprocAttr]
  repeat' first
    | apply And.intro <;> intro h
  all_goals first | (exfalso; omega) | exact congrArg (FV.int .i64) (by unfold arZ; (repeat' split) <;> omega)
theorem kind_call {k : Int} {ok : Bool} : FCall Tryz.prog n_expr_result_1 [.int .i64 k, .bool ok] (· = .agg [.int .i64 (if ok then k else 0), .int .i64 0]) := by
  refine FCall.walk u_expr_result_1 k_expr_result_1 rfl ?_
  unfold c_expr_result_1
  simp only [go_sem, simprocAttr]
  cases ok <;> simp only [go_sem, simprocAttr]
theorem isFn_kind : isFn Tryz.prog n_expr_result_1 = true := by kernel_rfl
theorem number_call {n : NodeL} (hI : I64 n.n) : FCall Tryz.prog n_expr_number [.agg n.row] (· = .int .i64 (numE n)) := by
  obtain ⟨op, N⟩ := n
  refine FCall.walk u_expr_number k_expr_number rfl ?_
  unfold c_expr_number
  simp only [go_sem, simprocAttr, NodeL.row]
  repeat' first
    | apply And.intro <;> intro h
    | ((first
      | (refine FCallT.of (meaning_call) ?_; rintro _ rfl)
      | (refine FCallT.of (bounds_call (t := ⟨op, 0⟩) (en := []) (by simp)) ?_; rintro _ rfl)); simp only [go_sem, simprocAttr])
  all_goals (simp only [bp_iff, bpF] at *)
  all_goals first | (exfalso; omega) | skip
  all_goals have hm8 : 0 ≤ N → N.tmod 8 = N % 8 := fun h => Int.tmod_eq_emod_of_nonneg h
  all_goals have hh : (¬ (¬ N = 0 ∧ ¬ meanP op)) ∨ (¬ N = 0 ∧ ¬ meanP op) := by first | exact .inl fun x => x.1 (by assumption) | exact .inl fun x => x.2 (by assumption) | exact .inr ⟨by assumption, by assumption⟩
  all_goals refine congrArg (FV.int .i64) ?_
  all_goals first
    | exact num2 (by assumption) (by assumption)
    | exact num3 (by first | exact fun x => x.1 (by assumption) | exact fun x => x.2 (by assumption)) (by unfold rangedP; simp only; omega)
    | exact num0 (by first | exact fun x => x.1 (by assumption) | exact fun x => x.2 (by assumption)) (by unfold rangedP; simp only; omega)
theorem tableLk_call {N : Int} {s : SigL} (hN : 0 ≤ N ∧ N < s.tables.length) : FCall Tryz.prog n_expr_table [.agg (NodeL.mk 33 N).row, .agg s.row] (· = .tup [.agg (tabAt s.tables N).row, .int .i64 0]) := by
  obtain ⟨j, rfl⟩ : ∃ j : Nat, N = j := ⟨N.toNat, by omega⟩
  have hj : j < s.tables.length := by omega
  refine FCall.walk u_expr_table k_expr_table rfl ?_
  unfold c_expr_table
  simp only [go_sem, simprocAttr, NodeL.row, SigL.row]
  refine FCallT.of (atTable_in (l := s.tables) hj) ?_
  rintro _ rfl
  simp only [go_sem, simprocAttr, TableL.row]
  simp [tabAt, hj, TableL.row]
theorem tableLk_out {N : Int} {s : SigL} (hN : ¬ (0 ≤ N ∧ N < s.tables.length)) : FCall Tryz.prog n_expr_table [.agg (NodeL.mk 33 N).row, .agg s.row] (· = .tup [.agg (zeroTab).row, .int .i64 6]) := by
  refine FCall.walk u_expr_table k_expr_table rfl ?_
  unfold c_expr_table
  simp only [go_sem, simprocAttr, NodeL.row, SigL.row]
  refine FCallT.of (atTable_out (l := s.tables) hN) ?_
  rintro _ rfl
  simp only [go_sem, simprocAttr]
  rfl
theorem tableBr_call {N : Int} {s : SigL} (h0 : 0 ≤ N) (hI : I64 N) (hN : N / 8 < s.tables.length) : FCall Tryz.prog n_expr_table [.agg (NodeL.mk 34 N).row, .agg s.row] (· = .tup [.agg (tabAt s.tables (N / 8)).row, .int .i64 0]) := by
  have h1 : 0 ≤ N / 8 := Int.ediv_nonneg h0 (by decide)
  obtain ⟨j, hj0⟩ : ∃ j : Nat, N / 8 = j := ⟨(N / 8).toNat, by omega⟩
  have hj : j < s.tables.length := by omega
  refine FCall.walk u_expr_table k_expr_table rfl ?_
  unfold c_expr_table
  simp only [go_sem, simprocAttr, NodeL.row, SigL.row, quo_pos h0 hI (show (0 : Int) < 8 by decide)]
  rw [hj0]
  refine FCallT.of (atTable_in (l := s.tables) hj) ?_
  rintro _ rfl
  simp only [go_sem, simprocAttr, TableL.row]
  simp [tabAt, hj, TableL.row]
theorem tableBr_out {N : Int} {s : SigL} (h0 : 0 ≤ N) (hI : I64 N) (hN : ¬ N / 8 < s.tables.length) : FCall Tryz.prog n_expr_table [.agg (NodeL.mk 34 N).row, .agg s.row] (· = .tup [.agg (zeroTab).row, .int .i64 6]) := by
  refine FCall.walk u_expr_table k_expr_table rfl ?_
  unfold c_expr_table
  simp only [go_sem, simprocAttr, NodeL.row, SigL.row, quo_pos h0 hI (show (0 : Int) < 8 by decide)]
  refine FCallT.of (atTable_out (l := s.tables) (i := N / 8) (by omega)) ?_
  rintro _ rfl
  simp only [go_sem, simprocAttr]
  rfl
theorem agg2 {a b c d : Int} (h1 : a = c) (h2 : b = d) : FV.agg [.int .i64 a, .int .i64 b] = FV.agg [.int .i64 c, .int .i64 d] := by rw [h1, h2]
theorem bp_and_if {p : Prop} {x y : Int} : (if bp p = true then x else y) = @ite Int p (Classical.propDecidable p) x y := by
  by_cases h : p
  · rw [if_pos (bp_true h), if_pos h]
  · rw [if_neg (by rw [bp_false h]; simp), if_neg h]
theorem result_10 {N : Int} {a : TyL} {s : SigL} {n : Nat} {u : Bool} (hv : validT a n) : FCall Tryz.prog n_expr_result [.int .i64 10, .sl u (tysV [a])] (· = .agg (okT (unT ⟨10, N⟩ a s)).row) := by
  obtain ⟨hk, he⟩ := validT_e hv
  clear hv
  obtain ⟨ak, ae⟩ := a
  refine FCall.walk u_expr_result k_expr_result rfl ?_
  unfold c_expr_result
  simp only [go_sem, simprocAttr, tysV, List.map_cons, List.map_nil, TyL.row, isFn_kind]
  repeat' first
    | apply And.intro <;> intro h
    | ((first
      | refine detCall_of _ (numeric_call) ?_
      | refine detCallB_of _ (kind_call) rfl ?_); simp only [go_sem, simprocAttr, TyL.eqB, isFn_kind])
  all_goals refine agg2 ?_ ?_
  all_goals simp only [okT, unT, binT, triT, scT, kindT, arZ, bp_iff, TyL.mk.injEq, Bool.and_eq_true, decide_eq_true_eq, Bool.and_eq_false_iff, decide_eq_false_iff_not, bp_and_if, true_or, or_true, if_true, false_or, or_false, reduceIte, Int.reduceEq, false_and, true_and, and_true, and_false] at *
  all_goals (repeat' split) <;> (try dsimp only) <;> (try simp only [decide_eq_true_eq] at *) <;> (try simp only [numK, ordK] at *) <;> first | omega | (exfalso; simp_all; done)
theorem result_25 {N : Int} {a : TyL} {s : SigL} {n : Nat} {u : Bool} (hv : validT a n) : FCall Tryz.prog n_expr_result [.int .i64 25, .sl u (tysV [a])] (· = .agg (okT (unT ⟨25, N⟩ a s)).row) := by
  obtain ⟨hk, he⟩ := validT_e hv
  clear hv
  obtain ⟨ak, ae⟩ := a
  refine FCall.walk u_expr_result k_expr_result rfl ?_
  unfold c_expr_result
  simp only [go_sem, simprocAttr, tysV, List.map_cons, List.map_nil, TyL.row, isFn_kind]
  repeat' first
    | apply And.intro <;> intro h
    | ((refine FCallT.of (kind_call) ?_; rintro _ rfl); simp only [go_sem, simprocAttr, TyL.eqB, isFn_kind])
  all_goals refine agg2 ?_ ?_
  all_goals simp only [okT, unT, binT, triT, scT, kindT, arZ, bp_iff, TyL.mk.injEq, Bool.and_eq_true, decide_eq_true_eq, Bool.and_eq_false_iff, decide_eq_false_iff_not, bp_and_if, true_or, or_true, if_true, false_or, or_false, reduceIte, Int.reduceEq, false_and, true_and, and_true, and_false] at *
  all_goals (repeat' split) <;> (try dsimp only) <;> (try simp only [decide_eq_true_eq] at *) <;> (try simp only [numK, ordK] at *) <;> first | omega | (exfalso; simp_all; done)
theorem result_31 {N : Int} {a : TyL} {s : SigL} {n : Nat} {u : Bool} (hv : validT a n) : FCall Tryz.prog n_expr_result [.int .i64 31, .sl u (tysV [a])] (· = .agg (okT (unT ⟨31, N⟩ a s)).row) := by
  obtain ⟨hk, he⟩ := validT_e hv
  clear hv
  obtain ⟨ak, ae⟩ := a
  refine FCall.walk u_expr_result k_expr_result rfl ?_
  unfold c_expr_result
  simp only [go_sem, simprocAttr, tysV, List.map_cons, List.map_nil, TyL.row, isFn_kind]
  repeat' first
    | apply And.intro <;> intro h
    | ((refine FCallT.of (kind_call) ?_; rintro _ rfl); simp only [go_sem, simprocAttr, TyL.eqB, isFn_kind])
  all_goals refine agg2 ?_ ?_
  all_goals simp only [okT, unT, binT, triT, scT, kindT, arZ, bp_iff, TyL.mk.injEq, Bool.and_eq_true, decide_eq_true_eq, Bool.and_eq_false_iff, decide_eq_false_iff_not, bp_and_if, true_or, or_true, if_true, false_or, or_false, reduceIte, Int.reduceEq, false_and, true_and, and_true, and_false] at *
  all_goals (repeat' split) <;> (try dsimp only) <;> (try simp only [decide_eq_true_eq] at *) <;> (try simp only [numK, ordK] at *) <;> first | omega | (exfalso; simp_all; done)
theorem result_32 {N : Int} {a : TyL} {s : SigL} {n : Nat} {u : Bool} (hv : validT a n) : FCall Tryz.prog n_expr_result [.int .i64 32, .sl u (tysV [a])] (· = .agg (okT (unT ⟨32, N⟩ a s)).row) := by
  obtain ⟨hk, he⟩ := validT_e hv
  clear hv
  obtain ⟨ak, ae⟩ := a
  refine FCall.walk u_expr_result k_expr_result rfl ?_
  unfold c_expr_result
  simp only [go_sem, simprocAttr, tysV, List.map_cons, List.map_nil, TyL.row, isFn_kind]
  repeat' first
    | apply And.intro <;> intro h
    | ((refine FCallT.of (kind_call) ?_; rintro _ rfl); simp only [go_sem, simprocAttr, TyL.eqB, isFn_kind])
  all_goals refine agg2 ?_ ?_
  all_goals simp only [okT, unT, binT, triT, scT, kindT, arZ, bp_iff, TyL.mk.injEq, Bool.and_eq_true, decide_eq_true_eq, Bool.and_eq_false_iff, decide_eq_false_iff_not, bp_and_if, true_or, or_true, if_true, false_or, or_false, reduceIte, Int.reduceEq, false_and, true_and, and_true, and_false] at *
  all_goals (repeat' split) <;> (try dsimp only) <;> (try simp only [decide_eq_true_eq] at *) <;> (try simp only [numK, ordK] at *) <;> first | omega | (exfalso; simp_all; done)
theorem result_11 {a b : TyL} {n : Nat} {u : Bool} (hv : validT a n) (hw : validT b n) : FCall Tryz.prog n_expr_result [.int .i64 11, .sl u (tysV [a, b])] (· = .agg (okT (binT 11 a b)).row) := by
  obtain ⟨hk, he⟩ := validT_e hv
  obtain ⟨hk2, he2⟩ := validT_e hw
  clear hv hw
  obtain ⟨ak, ae⟩ := a
  obtain ⟨bk, be⟩ := b
  refine FCall.walk u_expr_result k_expr_result rfl ?_
  unfold c_expr_result
  simp only [go_sem, simprocAttr, tysV, List.map_cons, List.map_nil, TyL.row, isFn_kind]
  repeat' first
    | apply And.intro <;> intro h
    | ((first
      | refine detCall_of _ (numeric_call) ?_
      | refine detCallB_of _ (kind_call) rfl ?_); simp only [go_sem, simprocAttr, TyL.eqB, isFn_kind])
  all_goals refine agg2 ?_ ?_
  all_goals simp only [okT, unT, binT, triT, scT, kindT, arZ, bp_iff, TyL.mk.injEq, Bool.and_eq_true, decide_eq_true_eq, Bool.and_eq_false_iff, decide_eq_false_iff_not, bp_and_if, true_or, or_true, if_true, false_or, or_false, reduceIte, Int.reduceEq, false_and, true_and, and_true, and_false] at *
  all_goals (repeat' split) <;> (try dsimp only) <;> (try simp only [decide_eq_true_eq] at *) <;> (try simp only [numK, ordK] at *) <;> first | omega | (exfalso; simp_all; done)
theorem result_12 {a b : TyL} {n : Nat} {u : Bool} (hv : validT a n) (hw : validT b n) : FCall Tryz.prog n_expr_result [.int .i64 12, .sl u (tysV [a, b])] (· = .agg (okT (binT 12 a b)).row) := by
  obtain ⟨hk, he⟩ := validT_e hv
  obtain ⟨hk2, he2⟩ := validT_e hw
  clear hv hw
  obtain ⟨ak, ae⟩ := a
  obtain ⟨bk, be⟩ := b
  refine FCall.walk u_expr_result k_expr_result rfl ?_
  unfold c_expr_result
  simp only [go_sem, simprocAttr, tysV, List.map_cons, List.map_nil, TyL.row, isFn_kind]
  repeat' first
    | apply And.intro <;> intro h
    | ((first
      | refine detCall_of _ (numeric_call) ?_
      | refine detCallB_of _ (kind_call) rfl ?_); simp only [go_sem, simprocAttr, TyL.eqB, isFn_kind])
  all_goals refine agg2 ?_ ?_
  all_goals simp only [okT, unT, binT, triT, scT, kindT, arZ, bp_iff, TyL.mk.injEq, Bool.and_eq_true, decide_eq_true_eq, Bool.and_eq_false_iff, decide_eq_false_iff_not, bp_and_if, true_or, or_true, if_true, false_or, or_false, reduceIte, Int.reduceEq, false_and, true_and, and_true, and_false] at *
  all_goals (repeat' split) <;> (try dsimp only) <;> (try simp only [decide_eq_true_eq] at *) <;> (try simp only [numK, ordK] at *) <;> first | omega | (exfalso; simp_all; done)
theorem result_13 {a b : TyL} {n : Nat} {u : Bool} (hv : validT a n) (hw : validT b n) : FCall Tryz.prog n_expr_result [.int .i64 13, .sl u (tysV [a, b])] (· = .agg (okT (binT 13 a b)).row) := by
  obtain ⟨hk, he⟩ := validT_e hv
  obtain ⟨hk2, he2⟩ := validT_e hw
  clear hv hw
  obtain ⟨ak, ae⟩ := a
  obtain ⟨bk, be⟩ := b
  refine FCall.walk u_expr_result k_expr_result rfl ?_
  unfold c_expr_result
  simp only [go_sem, simprocAttr, tysV, List.map_cons, List.map_nil, TyL.row, isFn_kind]
  repeat' first
    | apply And.intro <;> intro h
    | ((first
      | (refine FCallT.of (kind_call) ?_; rintro _ rfl)
      | (refine FCallT.of (arithmetic_call) ?_; rintro _ rfl)); simp only [go_sem, simprocAttr, TyL.eqB, isFn_kind])
  all_goals refine agg2 ?_ ?_
  all_goals simp only [okT, unT, binT, triT, scT, kindT, arZ, bp_iff, TyL.mk.injEq, Bool.and_eq_true, decide_eq_true_eq, Bool.and_eq_false_iff, decide_eq_false_iff_not, bp_and_if, true_or, or_true, if_true, false_or, or_false, reduceIte, Int.reduceEq, false_and, true_and, and_true, and_false] at *
  all_goals (repeat' split) <;> (try dsimp only) <;> (try simp only [decide_eq_true_eq] at *) <;> (try simp only [numK, ordK] at *) <;> first | omega | (exfalso; simp_all; done)
theorem result_14 {a b : TyL} {n : Nat} {u : Bool} (hv : validT a n) (hw : validT b n) : FCall Tryz.prog n_expr_result [.int .i64 14, .sl u (tysV [a, b])] (· = .agg (okT (binT 14 a b)).row) := by
  obtain ⟨hk, he⟩ := validT_e hv
  obtain ⟨hk2, he2⟩ := validT_e hw
  clear hv hw
  obtain ⟨ak, ae⟩ := a
  obtain ⟨bk, be⟩ := b
  refine FCall.walk u_expr_result k_expr_result rfl ?_
  unfold c_expr_result
  simp only [go_sem, simprocAttr, tysV, List.map_cons, List.map_nil, TyL.row, isFn_kind]
  repeat' first
    | apply And.intro <;> intro h
    | ((first
      | (refine FCallT.of (kind_call) ?_; rintro _ rfl)
      | (refine FCallT.of (arithmetic_call) ?_; rintro _ rfl)); simp only [go_sem, simprocAttr, TyL.eqB, isFn_kind])
  all_goals refine agg2 ?_ ?_
  all_goals simp only [okT, unT, binT, triT, scT, kindT, arZ, bp_iff, TyL.mk.injEq, Bool.and_eq_true, decide_eq_true_eq, Bool.and_eq_false_iff, decide_eq_false_iff_not, bp_and_if, true_or, or_true, if_true, false_or, or_false, reduceIte, Int.reduceEq, false_and, true_and, and_true, and_false] at *
  all_goals (repeat' split) <;> (try dsimp only) <;> (try simp only [decide_eq_true_eq] at *) <;> (try simp only [numK, ordK] at *) <;> first | omega | (exfalso; simp_all; done)
theorem result_15 {a b : TyL} {n : Nat} {u : Bool} (hv : validT a n) (hw : validT b n) : FCall Tryz.prog n_expr_result [.int .i64 15, .sl u (tysV [a, b])] (· = .agg (okT (binT 15 a b)).row) := by
  obtain ⟨hk, he⟩ := validT_e hv
  obtain ⟨hk2, he2⟩ := validT_e hw
  clear hv hw
  obtain ⟨ak, ae⟩ := a
  obtain ⟨bk, be⟩ := b
  refine FCall.walk u_expr_result k_expr_result rfl ?_
  unfold c_expr_result
  simp only [go_sem, simprocAttr, tysV, List.map_cons, List.map_nil, TyL.row, isFn_kind]
  repeat' first
    | apply And.intro <;> intro h
    | ((first
      | (refine FCallT.of (kind_call) ?_; rintro _ rfl)
      | (refine FCallT.of (arithmetic_call) ?_; rintro _ rfl)); simp only [go_sem, simprocAttr, TyL.eqB, isFn_kind])
  all_goals refine agg2 ?_ ?_
  all_goals simp only [okT, unT, binT, triT, scT, kindT, arZ, bp_iff, TyL.mk.injEq, Bool.and_eq_true, decide_eq_true_eq, Bool.and_eq_false_iff, decide_eq_false_iff_not, bp_and_if, true_or, or_true, if_true, false_or, or_false, reduceIte, Int.reduceEq, false_and, true_and, and_true, and_false] at *
  all_goals (repeat' split) <;> (try dsimp only) <;> (try simp only [decide_eq_true_eq] at *) <;> (try simp only [numK, ordK] at *) <;> first | omega | (exfalso; simp_all; done)
theorem result_16 {a b : TyL} {n : Nat} {u : Bool} (hv : validT a n) (hw : validT b n) : FCall Tryz.prog n_expr_result [.int .i64 16, .sl u (tysV [a, b])] (· = .agg (okT (binT 16 a b)).row) := by
  obtain ⟨hk, he⟩ := validT_e hv
  obtain ⟨hk2, he2⟩ := validT_e hw
  clear hv hw
  obtain ⟨ak, ae⟩ := a
  obtain ⟨bk, be⟩ := b
  refine FCall.walk u_expr_result k_expr_result rfl ?_
  unfold c_expr_result
  simp only [go_sem, simprocAttr, tysV, List.map_cons, List.map_nil, TyL.row, isFn_kind]
  repeat' first
    | apply And.intro <;> intro h
    | ((first
      | (refine FCallT.of (kind_call) ?_; rintro _ rfl)
      | (refine FCallT.of (arithmetic_call) ?_; rintro _ rfl)); simp only [go_sem, simprocAttr, TyL.eqB, isFn_kind])
  all_goals refine agg2 ?_ ?_
  all_goals simp only [okT, unT, binT, triT, scT, kindT, arZ, bp_iff, TyL.mk.injEq, Bool.and_eq_true, decide_eq_true_eq, Bool.and_eq_false_iff, decide_eq_false_iff_not, bp_and_if, true_or, or_true, if_true, false_or, or_false, reduceIte, Int.reduceEq, false_and, true_and, and_true, and_false] at *
  all_goals (repeat' split) <;> (try dsimp only) <;> (try simp only [decide_eq_true_eq] at *) <;> (try simp only [numK, ordK] at *) <;> first | omega | (exfalso; simp_all; done)
theorem result_17 {a b : TyL} {n : Nat} {u : Bool} (hv : validT a n) (hw : validT b n) : FCall Tryz.prog n_expr_result [.int .i64 17, .sl u (tysV [a, b])] (· = .agg (okT (binT 17 a b)).row) := by
  obtain ⟨hk, he⟩ := validT_e hv
  obtain ⟨hk2, he2⟩ := validT_e hw
  clear hv hw
  obtain ⟨ak, ae⟩ := a
  obtain ⟨bk, be⟩ := b
  refine FCall.walk u_expr_result k_expr_result rfl ?_
  unfold c_expr_result
  simp only [go_sem, simprocAttr, tysV, List.map_cons, List.map_nil, TyL.row, isFn_kind]
  repeat' first
    | apply And.intro <;> intro h
    | ((first
      | refine detCallB_of _ (kind_call) rfl ?_
      | refine detCall_of _ (ordered_call) ?_); simp only [go_sem, simprocAttr, TyL.eqB, isFn_kind])
  all_goals refine agg2 ?_ ?_
  all_goals simp only [okT, unT, binT, triT, scT, kindT, arZ, bp_iff, TyL.mk.injEq, Bool.and_eq_true, decide_eq_true_eq, Bool.and_eq_false_iff, decide_eq_false_iff_not, bp_and_if, true_or, or_true, if_true, false_or, or_false, reduceIte, Int.reduceEq, false_and, true_and, and_true, and_false] at *
  all_goals (repeat' split) <;> (try dsimp only) <;> (try simp only [decide_eq_true_eq] at *) <;> (try simp only [numK, ordK] at *) <;> first | omega | (exfalso; simp_all; done)
theorem result_18 {a b : TyL} {n : Nat} {u : Bool} (hv : validT a n) (hw : validT b n) : FCall Tryz.prog n_expr_result [.int .i64 18, .sl u (tysV [a, b])] (· = .agg (okT (binT 18 a b)).row) := by
  obtain ⟨hk, he⟩ := validT_e hv
  obtain ⟨hk2, he2⟩ := validT_e hw
  clear hv hw
  obtain ⟨ak, ae⟩ := a
  obtain ⟨bk, be⟩ := b
  refine FCall.walk u_expr_result k_expr_result rfl ?_
  unfold c_expr_result
  simp only [go_sem, simprocAttr, tysV, List.map_cons, List.map_nil, TyL.row, isFn_kind]
  repeat' first
    | apply And.intro <;> intro h
    | ((first
      | refine detCallB_of _ (kind_call) rfl ?_
      | refine detCall_of _ (ordered_call) ?_); simp only [go_sem, simprocAttr, TyL.eqB, isFn_kind])
  all_goals refine agg2 ?_ ?_
  all_goals simp only [okT, unT, binT, triT, scT, kindT, arZ, bp_iff, TyL.mk.injEq, Bool.and_eq_true, decide_eq_true_eq, Bool.and_eq_false_iff, decide_eq_false_iff_not, bp_and_if, true_or, or_true, if_true, false_or, or_false, reduceIte, Int.reduceEq, false_and, true_and, and_true, and_false] at *
  all_goals (repeat' split) <;> (try dsimp only) <;> (try simp only [decide_eq_true_eq] at *) <;> (try simp only [numK, ordK] at *) <;> first | omega | (exfalso; simp_all; done)
theorem result_19 {a b : TyL} {n : Nat} {u : Bool} (hv : validT a n) (hw : validT b n) : FCall Tryz.prog n_expr_result [.int .i64 19, .sl u (tysV [a, b])] (· = .agg (okT (binT 19 a b)).row) := by
  obtain ⟨hk, he⟩ := validT_e hv
  obtain ⟨hk2, he2⟩ := validT_e hw
  clear hv hw
  obtain ⟨ak, ae⟩ := a
  obtain ⟨bk, be⟩ := b
  refine FCall.walk u_expr_result k_expr_result rfl ?_
  unfold c_expr_result
  simp only [go_sem, simprocAttr, tysV, List.map_cons, List.map_nil, TyL.row, isFn_kind]
  repeat' first
    | apply And.intro <;> intro h
    | ((refine FCallT.of (kind_call) ?_; rintro _ rfl); simp only [go_sem, simprocAttr, TyL.eqB, isFn_kind])
  all_goals refine agg2 ?_ ?_
  all_goals simp only [okT, unT, binT, triT, scT, kindT, arZ, bp_iff, TyL.mk.injEq, Bool.and_eq_true, decide_eq_true_eq, Bool.and_eq_false_iff, decide_eq_false_iff_not, bp_and_if, true_or, or_true, if_true, false_or, or_false, reduceIte, Int.reduceEq, false_and, true_and, and_true, and_false] at *
  all_goals (repeat' split) <;> (try dsimp only) <;> (try simp only [decide_eq_true_eq] at *) <;> (try simp only [numK, ordK] at *) <;> first | omega | (exfalso; simp_all; done)
theorem result_20 {a b : TyL} {n : Nat} {u : Bool} (hv : validT a n) (hw : validT b n) : FCall Tryz.prog n_expr_result [.int .i64 20, .sl u (tysV [a, b])] (· = .agg (okT (binT 20 a b)).row) := by
  obtain ⟨hk, he⟩ := validT_e hv
  obtain ⟨hk2, he2⟩ := validT_e hw
  clear hv hw
  obtain ⟨ak, ae⟩ := a
  obtain ⟨bk, be⟩ := b
  refine FCall.walk u_expr_result k_expr_result rfl ?_
  unfold c_expr_result
  simp only [go_sem, simprocAttr, tysV, List.map_cons, List.map_nil, TyL.row, isFn_kind]
  repeat' first
    | apply And.intro <;> intro h
    | ((refine FCallT.of (kind_call) ?_; rintro _ rfl); simp only [go_sem, simprocAttr, TyL.eqB, isFn_kind])
  all_goals refine agg2 ?_ ?_
  all_goals simp only [okT, unT, binT, triT, scT, kindT, arZ, bp_iff, TyL.mk.injEq, Bool.and_eq_true, decide_eq_true_eq, Bool.and_eq_false_iff, decide_eq_false_iff_not, bp_and_if, true_or, or_true, if_true, false_or, or_false, reduceIte, Int.reduceEq, false_and, true_and, and_true, and_false] at *
  all_goals (repeat' split) <;> (try dsimp only) <;> (try simp only [decide_eq_true_eq] at *) <;> (try simp only [numK, ordK] at *) <;> first | omega | (exfalso; simp_all; done)
theorem result_21 {a b : TyL} {n : Nat} {u : Bool} (hv : validT a n) (hw : validT b n) : FCall Tryz.prog n_expr_result [.int .i64 21, .sl u (tysV [a, b])] (· = .agg (okT (binT 21 a b)).row) := by
  obtain ⟨hk, he⟩ := validT_e hv
  obtain ⟨hk2, he2⟩ := validT_e hw
  clear hv hw
  obtain ⟨ak, ae⟩ := a
  obtain ⟨bk, be⟩ := b
  refine FCall.walk u_expr_result k_expr_result rfl ?_
  unfold c_expr_result
  simp only [go_sem, simprocAttr, tysV, List.map_cons, List.map_nil, TyL.row, isFn_kind]
  repeat' first
    | apply And.intro <;> intro h
    | ((first
      | (refine FCallT.of (kind_call) ?_; rintro _ rfl)
      | (refine FCallT.of (ordered_call) ?_; rintro _ rfl)); simp only [go_sem, simprocAttr, TyL.eqB, isFn_kind])
  all_goals refine agg2 ?_ ?_
  all_goals simp only [okT, unT, binT, triT, scT, kindT, arZ, bp_iff, TyL.mk.injEq, Bool.and_eq_true, decide_eq_true_eq, Bool.and_eq_false_iff, decide_eq_false_iff_not, bp_and_if, true_or, or_true, if_true, false_or, or_false, reduceIte, Int.reduceEq, false_and, true_and, and_true, and_false] at *
  all_goals (repeat' split) <;> (try dsimp only) <;> (try simp only [decide_eq_true_eq] at *) <;> (try simp only [numK, ordK] at *) <;> first | omega | (exfalso; simp_all; done)
theorem result_22 {a b : TyL} {n : Nat} {u : Bool} (hv : validT a n) (hw : validT b n) : FCall Tryz.prog n_expr_result [.int .i64 22, .sl u (tysV [a, b])] (· = .agg (okT (binT 22 a b)).row) := by
  obtain ⟨hk, he⟩ := validT_e hv
  obtain ⟨hk2, he2⟩ := validT_e hw
  clear hv hw
  obtain ⟨ak, ae⟩ := a
  obtain ⟨bk, be⟩ := b
  refine FCall.walk u_expr_result k_expr_result rfl ?_
  unfold c_expr_result
  simp only [go_sem, simprocAttr, tysV, List.map_cons, List.map_nil, TyL.row, isFn_kind]
  repeat' first
    | apply And.intro <;> intro h
    | ((first
      | (refine FCallT.of (kind_call) ?_; rintro _ rfl)
      | (refine FCallT.of (ordered_call) ?_; rintro _ rfl)); simp only [go_sem, simprocAttr, TyL.eqB, isFn_kind])
  all_goals refine agg2 ?_ ?_
  all_goals simp only [okT, unT, binT, triT, scT, kindT, arZ, bp_iff, TyL.mk.injEq, Bool.and_eq_true, decide_eq_true_eq, Bool.and_eq_false_iff, decide_eq_false_iff_not, bp_and_if, true_or, or_true, if_true, false_or, or_false, reduceIte, Int.reduceEq, false_and, true_and, and_true, and_false] at *
  all_goals (repeat' split) <;> (try dsimp only) <;> (try simp only [decide_eq_true_eq] at *) <;> (try simp only [numK, ordK] at *) <;> first | omega | (exfalso; simp_all; done)
theorem result_23 {a b : TyL} {n : Nat} {u : Bool} (hv : validT a n) (hw : validT b n) : FCall Tryz.prog n_expr_result [.int .i64 23, .sl u (tysV [a, b])] (· = .agg (okT (binT 23 a b)).row) := by
  obtain ⟨hk, he⟩ := validT_e hv
  obtain ⟨hk2, he2⟩ := validT_e hw
  clear hv hw
  obtain ⟨ak, ae⟩ := a
  obtain ⟨bk, be⟩ := b
  refine FCall.walk u_expr_result k_expr_result rfl ?_
  unfold c_expr_result
  simp only [go_sem, simprocAttr, tysV, List.map_cons, List.map_nil, TyL.row, isFn_kind]
  repeat' first
    | apply And.intro <;> intro h
    | ((refine FCallT.of (kind_call) ?_; rintro _ rfl); simp only [go_sem, simprocAttr, TyL.eqB, isFn_kind])
  all_goals refine agg2 ?_ ?_
  all_goals simp only [okT, unT, binT, triT, scT, kindT, arZ, bp_iff, TyL.mk.injEq, Bool.and_eq_true, decide_eq_true_eq, Bool.and_eq_false_iff, decide_eq_false_iff_not, bp_and_if, true_or, or_true, if_true, false_or, or_false, reduceIte, Int.reduceEq, false_and, true_and, and_true, and_false] at *
  all_goals (repeat' split) <;> (try dsimp only) <;> (try simp only [decide_eq_true_eq] at *) <;> (try simp only [numK, ordK] at *) <;> first | omega | (exfalso; simp_all; done)
theorem result_24 {a b : TyL} {n : Nat} {u : Bool} (hv : validT a n) (hw : validT b n) : FCall Tryz.prog n_expr_result [.int .i64 24, .sl u (tysV [a, b])] (· = .agg (okT (binT 24 a b)).row) := by
  obtain ⟨hk, he⟩ := validT_e hv
  obtain ⟨hk2, he2⟩ := validT_e hw
  clear hv hw
  obtain ⟨ak, ae⟩ := a
  obtain ⟨bk, be⟩ := b
  refine FCall.walk u_expr_result k_expr_result rfl ?_
  unfold c_expr_result
  simp only [go_sem, simprocAttr, tysV, List.map_cons, List.map_nil, TyL.row, isFn_kind]
  repeat' first
    | apply And.intro <;> intro h
    | ((refine FCallT.of (kind_call) ?_; rintro _ rfl); simp only [go_sem, simprocAttr, TyL.eqB, isFn_kind])
  all_goals refine agg2 ?_ ?_
  all_goals simp only [okT, unT, binT, triT, scT, kindT, arZ, bp_iff, TyL.mk.injEq, Bool.and_eq_true, decide_eq_true_eq, Bool.and_eq_false_iff, decide_eq_false_iff_not, bp_and_if, true_or, or_true, if_true, false_or, or_false, reduceIte, Int.reduceEq, false_and, true_and, and_true, and_false] at *
  all_goals (repeat' split) <;> (try dsimp only) <;> (try simp only [decide_eq_true_eq] at *) <;> (try simp only [numK, ordK] at *) <;> first | omega | (exfalso; simp_all; done)
theorem result_27 {a b : TyL} {n : Nat} {u : Bool} (hv : validT a n) (hw : validT b n) : FCall Tryz.prog n_expr_result [.int .i64 27, .sl u (tysV [a, b])] (· = .agg (okT (binT 27 a b)).row) := by
  obtain ⟨hk, he⟩ := validT_e hv
  obtain ⟨hk2, he2⟩ := validT_e hw
  clear hv hw
  obtain ⟨ak, ae⟩ := a
  obtain ⟨bk, be⟩ := b
  refine FCall.walk u_expr_result k_expr_result rfl ?_
  unfold c_expr_result
  simp only [go_sem, simprocAttr, tysV, List.map_cons, List.map_nil, TyL.row, isFn_kind]
  repeat' first
    | apply And.intro <;> intro h
    | ((refine FCallT.of (kind_call) ?_; rintro _ rfl); simp only [go_sem, simprocAttr, TyL.eqB, isFn_kind])
  all_goals refine agg2 ?_ ?_
  all_goals simp only [okT, unT, binT, triT, scT, kindT, arZ, bp_iff, TyL.mk.injEq, Bool.and_eq_true, decide_eq_true_eq, Bool.and_eq_false_iff, decide_eq_false_iff_not, bp_and_if, true_or, or_true, if_true, false_or, or_false, reduceIte, Int.reduceEq, false_and, true_and, and_true, and_false] at *
  all_goals (repeat' split) <;> (try dsimp only) <;> (try simp only [decide_eq_true_eq] at *) <;> (try simp only [numK, ordK] at *) <;> first | omega | (exfalso; simp_all; done)
theorem result_28 {a b : TyL} {n : Nat} {u : Bool} (hv : validT a n) (hw : validT b n) : FCall Tryz.prog n_expr_result [.int .i64 28, .sl u (tysV [a, b])] (· = .agg (okT (binT 28 a b)).row) := by
  obtain ⟨hk, he⟩ := validT_e hv
  obtain ⟨hk2, he2⟩ := validT_e hw
  clear hv hw
  obtain ⟨ak, ae⟩ := a
  obtain ⟨bk, be⟩ := b
  refine FCall.walk u_expr_result k_expr_result rfl ?_
  unfold c_expr_result
  simp only [go_sem, simprocAttr, tysV, List.map_cons, List.map_nil, TyL.row, isFn_kind]
  repeat' first
    | apply And.intro <;> intro h
    | ((refine FCallT.of (kind_call) ?_; rintro _ rfl); simp only [go_sem, simprocAttr, TyL.eqB, isFn_kind])
  all_goals refine agg2 ?_ ?_
  all_goals simp only [okT, unT, binT, triT, scT, kindT, arZ, bp_iff, TyL.mk.injEq, Bool.and_eq_true, decide_eq_true_eq, Bool.and_eq_false_iff, decide_eq_false_iff_not, bp_and_if, true_or, or_true, if_true, false_or, or_false, reduceIte, Int.reduceEq, false_and, true_and, and_true, and_false] at *
  all_goals (repeat' split) <;> (try dsimp only) <;> (try simp only [decide_eq_true_eq] at *) <;> (try simp only [numK, ordK] at *) <;> first | omega | (exfalso; simp_all; done)
theorem result_29 {a b : TyL} {n : Nat} {u : Bool} (hv : validT a n) (hw : validT b n) : FCall Tryz.prog n_expr_result [.int .i64 29, .sl u (tysV [a, b])] (· = .agg (okT (binT 29 a b)).row) := by
  obtain ⟨hk, he⟩ := validT_e hv
  obtain ⟨hk2, he2⟩ := validT_e hw
  clear hv hw
  obtain ⟨ak, ae⟩ := a
  obtain ⟨bk, be⟩ := b
  refine FCall.walk u_expr_result k_expr_result rfl ?_
  unfold c_expr_result
  simp only [go_sem, simprocAttr, tysV, List.map_cons, List.map_nil, TyL.row, isFn_kind]
  repeat' first
    | apply And.intro <;> intro h
    | ((refine FCallT.of (kind_call) ?_; rintro _ rfl); simp only [go_sem, simprocAttr, TyL.eqB, isFn_kind])
  all_goals refine agg2 ?_ ?_
  all_goals simp only [okT, unT, binT, triT, scT, kindT, arZ, bp_iff, TyL.mk.injEq, Bool.and_eq_true, decide_eq_true_eq, Bool.and_eq_false_iff, decide_eq_false_iff_not, bp_and_if, true_or, or_true, if_true, false_or, or_false, reduceIte, Int.reduceEq, false_and, true_and, and_true, and_false] at *
  all_goals (repeat' split) <;> (try dsimp only) <;> (try simp only [decide_eq_true_eq] at *) <;> (try simp only [numK, ordK] at *) <;> first | omega | (exfalso; simp_all; done)
theorem result_30 {a b : TyL} {n : Nat} {u : Bool} (hv : validT a n) (hw : validT b n) : FCall Tryz.prog n_expr_result [.int .i64 30, .sl u (tysV [a, b])] (· = .agg (okT (binT 30 a b)).row) := by
  obtain ⟨hk, he⟩ := validT_e hv
  obtain ⟨hk2, he2⟩ := validT_e hw
  clear hv hw
  obtain ⟨ak, ae⟩ := a
  obtain ⟨bk, be⟩ := b
  refine FCall.walk u_expr_result k_expr_result rfl ?_
  unfold c_expr_result
  simp only [go_sem, simprocAttr, tysV, List.map_cons, List.map_nil, TyL.row, isFn_kind]
  repeat' first
    | apply And.intro <;> intro h
    | ((refine FCallT.of (kind_call) ?_; rintro _ rfl); simp only [go_sem, simprocAttr, TyL.eqB, isFn_kind])
  all_goals refine agg2 ?_ ?_
  all_goals simp only [okT, unT, binT, triT, scT, kindT, arZ, bp_iff, TyL.mk.injEq, Bool.and_eq_true, decide_eq_true_eq, Bool.and_eq_false_iff, decide_eq_false_iff_not, bp_and_if, true_or, or_true, if_true, false_or, or_false, reduceIte, Int.reduceEq, false_and, true_and, and_true, and_false] at *
  all_goals (repeat' split) <;> (try dsimp only) <;> (try simp only [decide_eq_true_eq] at *) <;> (try simp only [numK, ordK] at *) <;> first | omega | (exfalso; simp_all; done)
theorem result_26 {a b c : TyL} {n : Nat} {u : Bool} (hv : validT b n) : FCall Tryz.prog n_expr_result [.int .i64 26, .sl u (tysV [a, b, c])] (· = .agg (okT (triT a b c)).row) := by
  obtain ⟨hk, he⟩ := validT_e hv
  clear hv
  obtain ⟨ak, ae⟩ := a
  obtain ⟨bk, be⟩ := b
  obtain ⟨ck, ce⟩ := c
  refine FCall.walk u_expr_result k_expr_result rfl ?_
  unfold c_expr_result
  simp only [go_sem, simprocAttr, tysV, List.map_cons, List.map_nil, TyL.row, isFn_kind]
  repeat' first
    | apply And.intro <;> intro h
  all_goals refine agg2 ?_ ?_
  all_goals simp only [okT, unT, binT, triT, scT, kindT, arZ, bp_iff, TyL.mk.injEq, Bool.and_eq_true, decide_eq_true_eq, Bool.and_eq_false_iff, decide_eq_false_iff_not, bp_and_if, true_or, or_true, if_true, false_or, or_false, reduceIte, Int.reduceEq, false_and, true_and, and_true, and_false] at *
  all_goals (repeat' split) <;> (try dsimp only) <;> (try simp only [decide_eq_true_eq] at *) <;> (try simp only [numK, ordK] at *) <;> first | omega | (exfalso; simp_all; done)
end Go.Fx.Tryz
set_option linter.unusedVariables false
set_option linter.unusedSimpArgs false
namespace Go.Fx.Tryz
open Go Go.Fm Go.Proofs
theorem leaf_call {n : NodeL} {s : SigL} (ha : arityZ n.op = 0) (hn : numE n = 0) (hI : I64 n.n) : FCall Tryz.prog n_expr_leaf [.agg n.row, .agg s.row] (· = .tup [.agg (leafR n s).1.row, .int .i64 (leafR n s).2]) := by
  obtain ⟨op, N⟩ := n
  simp only at ha hI
  have hop : (1 ≤ op ∧ op ≤ 9) ∨ (35 ≤ op ∧ op ≤ 39) := by unfold arityZ at ha; (repeat' split at ha) <;> omega
  have hr : rangedP ⟨op, N⟩ := by rcases numE_cases ⟨op, N⟩ with h | h | h <;> first | (rw [hn] at h; omega) | exact h.2
  by_cases h5 : 1 ≤ op ∧ op ≤ 5
  · exact leaf_lit h5
  · have hc : op = 6 ∨ op = 7 ∨ op = 8 ∨ op = 9 ∨ op = 35 ∨ op = 36 ∨ op = 37 ∨ op = 38 ∨ op = 39 := by omega
    rcases hc with rfl | rfl | rfl | rfl | rfl | rfl | rfl | rfl | rfl
    · exact leaf_enum (hr.2.2.2 rfl) hI
    · exact leaf_in
    · exact leaf_def
    · exact leaf_date
    · exact leaf_count
    · exact leaf_m36
    · exact leaf_m37
    · exact leaf_m38
    · exact leaf_m39
theorem bin_k (op : Int) {a b : TyL} {n : Nat} (hv : validT a n) (hop : 11 ≤ op) : (binT op a b).2 = true → (binT op a b).1.k ≠ 0 := by
  have := validT_e hv
  unfold binT scT kindT
  (repeat' split) <;> simp <;> omega
theorem typeOf_leaf {n : NodeL} {s : SigL} {u : Bool} (ha : arityZ n.op = 0) (hI : I64 n.n) : FCall Tryz.prog n_expr_typeOf [.agg n.row, .sl u (tysV []), .agg s.row] (· = .tup [.agg (nodeT n [] s).1.row, .int .i64 (nodeT n [] s).2]) := by
  refine FCall.walk u_expr_typeOf k_expr_typeOf rfl ?_
  unfold c_expr_typeOf
  simp only [go_sem, simprocAttr, NodeL.row, SigL.row, tysV, List.map_nil]
  refine FCallT.of (number_call (n := n) hI) ?_
  rintro _ rfl
  simp only [go_sem, simprocAttr]
  refine ⟨fun h => ?_, fun h => ?_⟩
  · rw [nodeT_bad h]; rfl
  · rw [nodeT_leaf h]
    refine FCallT.of (leaf_call (n := n) (s := s) ha h hI) ?_
    rintro _ rfl
    simp only [go_sem, simprocAttr, TyL.row]
theorem typeOf_10 {N : Int} {a : TyL} {s : SigL} {u : Bool} (hI : I64 N) (hv : validT a s.enums.length) : FCall Tryz.prog n_expr_typeOf [.agg (NodeL.mk 10 N).row, .sl u (tysV [a]), .agg s.row] (· = .tup [.agg (nodeT ⟨10, N⟩ [a] s).1.row, .int .i64 (nodeT ⟨10, N⟩ [a] s).2]) := by
  refine FCall.walk u_expr_typeOf k_expr_typeOf rfl ?_
  unfold c_expr_typeOf
  simp only [go_sem, simprocAttr, NodeL.row, SigL.row]
  refine FCallT.of (number_call (n := ⟨10, N⟩) hI) ?_
  rintro _ rfl
  simp only [go_sem, simprocAttr]
  refine ⟨fun h => by rw [nodeT_bad h]; rfl, fun h => ?_⟩
  rw [nodeT_un h (by simp [foundP])]
  refine FCallT.of (result_10 (N := N) (s := s) hv) ?_
  rintro _ rfl
  simp only [go_sem, simprocAttr, TyL.row]
  have := validT_e hv
  exact fin_ok (by simp [unT, numK, kindT]; try omega)
theorem typeOf_25 {N : Int} {a : TyL} {s : SigL} {u : Bool} (hI : I64 N) (hv : validT a s.enums.length) : FCall Tryz.prog n_expr_typeOf [.agg (NodeL.mk 25 N).row, .sl u (tysV [a]), .agg s.row] (· = .tup [.agg (nodeT ⟨25, N⟩ [a] s).1.row, .int .i64 (nodeT ⟨25, N⟩ [a] s).2]) := by
  refine FCall.walk u_expr_typeOf k_expr_typeOf rfl ?_
  unfold c_expr_typeOf
  simp only [go_sem, simprocAttr, NodeL.row, SigL.row]
  refine FCallT.of (number_call (n := ⟨25, N⟩) hI) ?_
  rintro _ rfl
  simp only [go_sem, simprocAttr]
  refine ⟨fun h => by rw [nodeT_bad h]; rfl, fun h => ?_⟩
  rw [nodeT_un h (by simp [foundP])]
  refine FCallT.of (result_25 (N := N) (s := s) hv) ?_
  rintro _ rfl
  simp only [go_sem, simprocAttr, TyL.row]
  have := validT_e hv
  exact fin_ok (by simp [unT, numK, kindT]; try omega)
theorem typeOf_31 {N : Int} {a : TyL} {s : SigL} {u : Bool} (hI : I64 N) (hv : validT a s.enums.length) : FCall Tryz.prog n_expr_typeOf [.agg (NodeL.mk 31 N).row, .sl u (tysV [a]), .agg s.row] (· = .tup [.agg (nodeT ⟨31, N⟩ [a] s).1.row, .int .i64 (nodeT ⟨31, N⟩ [a] s).2]) := by
  refine FCall.walk u_expr_typeOf k_expr_typeOf rfl ?_
  unfold c_expr_typeOf
  simp only [go_sem, simprocAttr, NodeL.row, SigL.row]
  refine FCallT.of (number_call (n := ⟨31, N⟩) hI) ?_
  rintro _ rfl
  simp only [go_sem, simprocAttr]
  refine ⟨fun h => by rw [nodeT_bad h]; rfl, fun h => ?_⟩
  rw [nodeT_un h (by simp [foundP])]
  refine FCallT.of (result_31 (N := N) (s := s) hv) ?_
  rintro _ rfl
  simp only [go_sem, simprocAttr, TyL.row]
  have := validT_e hv
  exact fin_ok (by simp [unT, numK, kindT]; try omega)
theorem typeOf_32 {N : Int} {a : TyL} {s : SigL} {u : Bool} (hI : I64 N) (hv : validT a s.enums.length) : FCall Tryz.prog n_expr_typeOf [.agg (NodeL.mk 32 N).row, .sl u (tysV [a]), .agg s.row] (· = .tup [.agg (nodeT ⟨32, N⟩ [a] s).1.row, .int .i64 (nodeT ⟨32, N⟩ [a] s).2]) := by
  refine FCall.walk u_expr_typeOf k_expr_typeOf rfl ?_
  unfold c_expr_typeOf
  simp only [go_sem, simprocAttr, NodeL.row, SigL.row]
  refine FCallT.of (number_call (n := ⟨32, N⟩) hI) ?_
  rintro _ rfl
  simp only [go_sem, simprocAttr]
  refine ⟨fun h => by rw [nodeT_bad h]; rfl, fun h => ?_⟩
  rw [nodeT_un h (by simp [foundP])]
  refine FCallT.of (result_32 (N := N) (s := s) hv) ?_
  rintro _ rfl
  simp only [go_sem, simprocAttr, TyL.row]
  have := validT_e hv
  exact fin_ok (by simp [unT, numK, kindT]; try omega)
theorem typeOf_11 {N : Int} {a b : TyL} {s : SigL} {u : Bool} (hI : I64 N) (hv : validT a s.enums.length) (hw : validT b s.enums.length) : FCall Tryz.prog n_expr_typeOf [.agg (NodeL.mk 11 N).row, .sl u (tysV [a, b]), .agg s.row] (· = .tup [.agg (nodeT ⟨11, N⟩ [a, b] s).1.row, .int .i64 (nodeT ⟨11, N⟩ [a, b] s).2]) := by
  refine FCall.walk u_expr_typeOf k_expr_typeOf rfl ?_
  unfold c_expr_typeOf
  simp only [go_sem, simprocAttr, NodeL.row, SigL.row]
  refine FCallT.of (number_call (n := ⟨11, N⟩) hI) ?_
  rintro _ rfl
  simp only [go_sem, simprocAttr]
  refine ⟨fun h => by rw [nodeT_bad h]; rfl, fun h => ?_⟩
  rw [nodeT_bin h (by simp [foundP])]
  refine FCallT.of (result_11 hv hw) ?_
  rintro _ rfl
  simp only [go_sem, simprocAttr, TyL.row]
  have := validT_e hv
  exact fin_ok (bin_k 11 hv (by decide))
theorem typeOf_12 {N : Int} {a b : TyL} {s : SigL} {u : Bool} (hI : I64 N) (hv : validT a s.enums.length) (hw : validT b s.enums.length) : FCall Tryz.prog n_expr_typeOf [.agg (NodeL.mk 12 N).row, .sl u (tysV [a, b]), .agg s.row] (· = .tup [.agg (nodeT ⟨12, N⟩ [a, b] s).1.row, .int .i64 (nodeT ⟨12, N⟩ [a, b] s).2]) := by
  refine FCall.walk u_expr_typeOf k_expr_typeOf rfl ?_
  unfold c_expr_typeOf
  simp only [go_sem, simprocAttr, NodeL.row, SigL.row]
  refine FCallT.of (number_call (n := ⟨12, N⟩) hI) ?_
  rintro _ rfl
  simp only [go_sem, simprocAttr]
  refine ⟨fun h => by rw [nodeT_bad h]; rfl, fun h => ?_⟩
  rw [nodeT_bin h (by simp [foundP])]
  refine FCallT.of (result_12 hv hw) ?_
  rintro _ rfl
  simp only [go_sem, simprocAttr, TyL.row]
  have := validT_e hv
  exact fin_ok (bin_k 12 hv (by decide))
theorem typeOf_13 {N : Int} {a b : TyL} {s : SigL} {u : Bool} (hI : I64 N) (hv : validT a s.enums.length) (hw : validT b s.enums.length) : FCall Tryz.prog n_expr_typeOf [.agg (NodeL.mk 13 N).row, .sl u (tysV [a, b]), .agg s.row] (· = .tup [.agg (nodeT ⟨13, N⟩ [a, b] s).1.row, .int .i64 (nodeT ⟨13, N⟩ [a, b] s).2]) := by
  refine FCall.walk u_expr_typeOf k_expr_typeOf rfl ?_
  unfold c_expr_typeOf
  simp only [go_sem, simprocAttr, NodeL.row, SigL.row]
  refine FCallT.of (number_call (n := ⟨13, N⟩) hI) ?_
  rintro _ rfl
  simp only [go_sem, simprocAttr]
  refine ⟨fun h => by rw [nodeT_bad h]; rfl, fun h => ?_⟩
  rw [nodeT_bin h (by simp [foundP])]
  refine FCallT.of (result_13 hv hw) ?_
  rintro _ rfl
  simp only [go_sem, simprocAttr, TyL.row]
  have := validT_e hv
  exact fin_ok (bin_k 13 hv (by decide))
theorem typeOf_14 {N : Int} {a b : TyL} {s : SigL} {u : Bool} (hI : I64 N) (hv : validT a s.enums.length) (hw : validT b s.enums.length) : FCall Tryz.prog n_expr_typeOf [.agg (NodeL.mk 14 N).row, .sl u (tysV [a, b]), .agg s.row] (· = .tup [.agg (nodeT ⟨14, N⟩ [a, b] s).1.row, .int .i64 (nodeT ⟨14, N⟩ [a, b] s).2]) := by
  refine FCall.walk u_expr_typeOf k_expr_typeOf rfl ?_
  unfold c_expr_typeOf
  simp only [go_sem, simprocAttr, NodeL.row, SigL.row]
  refine FCallT.of (number_call (n := ⟨14, N⟩) hI) ?_
  rintro _ rfl
  simp only [go_sem, simprocAttr]
  refine ⟨fun h => by rw [nodeT_bad h]; rfl, fun h => ?_⟩
  rw [nodeT_bin h (by simp [foundP])]
  refine FCallT.of (result_14 hv hw) ?_
  rintro _ rfl
  simp only [go_sem, simprocAttr, TyL.row]
  have := validT_e hv
  exact fin_ok (bin_k 14 hv (by decide))
theorem typeOf_15 {N : Int} {a b : TyL} {s : SigL} {u : Bool} (hI : I64 N) (hv : validT a s.enums.length) (hw : validT b s.enums.length) : FCall Tryz.prog n_expr_typeOf [.agg (NodeL.mk 15 N).row, .sl u (tysV [a, b]), .agg s.row] (· = .tup [.agg (nodeT ⟨15, N⟩ [a, b] s).1.row, .int .i64 (nodeT ⟨15, N⟩ [a, b] s).2]) := by
  refine FCall.walk u_expr_typeOf k_expr_typeOf rfl ?_
  unfold c_expr_typeOf
  simp only [go_sem, simprocAttr, NodeL.row, SigL.row]
  refine FCallT.of (number_call (n := ⟨15, N⟩) hI) ?_
  rintro _ rfl
  simp only [go_sem, simprocAttr]
  refine ⟨fun h => by rw [nodeT_bad h]; rfl, fun h => ?_⟩
  rw [nodeT_bin h (by simp [foundP])]
  refine FCallT.of (result_15 hv hw) ?_
  rintro _ rfl
  simp only [go_sem, simprocAttr, TyL.row]
  have := validT_e hv
  exact fin_ok (bin_k 15 hv (by decide))
theorem typeOf_16 {N : Int} {a b : TyL} {s : SigL} {u : Bool} (hI : I64 N) (hv : validT a s.enums.length) (hw : validT b s.enums.length) : FCall Tryz.prog n_expr_typeOf [.agg (NodeL.mk 16 N).row, .sl u (tysV [a, b]), .agg s.row] (· = .tup [.agg (nodeT ⟨16, N⟩ [a, b] s).1.row, .int .i64 (nodeT ⟨16, N⟩ [a, b] s).2]) := by
  refine FCall.walk u_expr_typeOf k_expr_typeOf rfl ?_
  unfold c_expr_typeOf
  simp only [go_sem, simprocAttr, NodeL.row, SigL.row]
  refine FCallT.of (number_call (n := ⟨16, N⟩) hI) ?_
  rintro _ rfl
  simp only [go_sem, simprocAttr]
  refine ⟨fun h => by rw [nodeT_bad h]; rfl, fun h => ?_⟩
  rw [nodeT_bin h (by simp [foundP])]
  refine FCallT.of (result_16 hv hw) ?_
  rintro _ rfl
  simp only [go_sem, simprocAttr, TyL.row]
  have := validT_e hv
  exact fin_ok (bin_k 16 hv (by decide))
theorem typeOf_17 {N : Int} {a b : TyL} {s : SigL} {u : Bool} (hI : I64 N) (hv : validT a s.enums.length) (hw : validT b s.enums.length) : FCall Tryz.prog n_expr_typeOf [.agg (NodeL.mk 17 N).row, .sl u (tysV [a, b]), .agg s.row] (· = .tup [.agg (nodeT ⟨17, N⟩ [a, b] s).1.row, .int .i64 (nodeT ⟨17, N⟩ [a, b] s).2]) := by
  refine FCall.walk u_expr_typeOf k_expr_typeOf rfl ?_
  unfold c_expr_typeOf
  simp only [go_sem, simprocAttr, NodeL.row, SigL.row]
  refine FCallT.of (number_call (n := ⟨17, N⟩) hI) ?_
  rintro _ rfl
  simp only [go_sem, simprocAttr]
  refine ⟨fun h => by rw [nodeT_bad h]; rfl, fun h => ?_⟩
  rw [nodeT_bin h (by simp [foundP])]
  refine FCallT.of (result_17 hv hw) ?_
  rintro _ rfl
  simp only [go_sem, simprocAttr, TyL.row]
  have := validT_e hv
  exact fin_ok (bin_k 17 hv (by decide))
theorem typeOf_18 {N : Int} {a b : TyL} {s : SigL} {u : Bool} (hI : I64 N) (hv : validT a s.enums.length) (hw : validT b s.enums.length) : FCall Tryz.prog n_expr_typeOf [.agg (NodeL.mk 18 N).row, .sl u (tysV [a, b]), .agg s.row] (· = .tup [.agg (nodeT ⟨18, N⟩ [a, b] s).1.row, .int .i64 (nodeT ⟨18, N⟩ [a, b] s).2]) := by
  refine FCall.walk u_expr_typeOf k_expr_typeOf rfl ?_
  unfold c_expr_typeOf
  simp only [go_sem, simprocAttr, NodeL.row, SigL.row]
  refine FCallT.of (number_call (n := ⟨18, N⟩) hI) ?_
  rintro _ rfl
  simp only [go_sem, simprocAttr]
  refine ⟨fun h => by rw [nodeT_bad h]; rfl, fun h => ?_⟩
  rw [nodeT_bin h (by simp [foundP])]
  refine FCallT.of (result_18 hv hw) ?_
  rintro _ rfl
  simp only [go_sem, simprocAttr, TyL.row]
  have := validT_e hv
  exact fin_ok (bin_k 18 hv (by decide))
theorem typeOf_19 {N : Int} {a b : TyL} {s : SigL} {u : Bool} (hI : I64 N) (hv : validT a s.enums.length) (hw : validT b s.enums.length) : FCall Tryz.prog n_expr_typeOf [.agg (NodeL.mk 19 N).row, .sl u (tysV [a, b]), .agg s.row] (· = .tup [.agg (nodeT ⟨19, N⟩ [a, b] s).1.row, .int .i64 (nodeT ⟨19, N⟩ [a, b] s).2]) := by
  refine FCall.walk u_expr_typeOf k_expr_typeOf rfl ?_
  unfold c_expr_typeOf
  simp only [go_sem, simprocAttr, NodeL.row, SigL.row]
  refine FCallT.of (number_call (n := ⟨19, N⟩) hI) ?_
  rintro _ rfl
  simp only [go_sem, simprocAttr]
  refine ⟨fun h => by rw [nodeT_bad h]; rfl, fun h => ?_⟩
  rw [nodeT_bin h (by simp [foundP])]
  refine FCallT.of (result_19 hv hw) ?_
  rintro _ rfl
  simp only [go_sem, simprocAttr, TyL.row]
  have := validT_e hv
  exact fin_ok (bin_k 19 hv (by decide))
theorem typeOf_20 {N : Int} {a b : TyL} {s : SigL} {u : Bool} (hI : I64 N) (hv : validT a s.enums.length) (hw : validT b s.enums.length) : FCall Tryz.prog n_expr_typeOf [.agg (NodeL.mk 20 N).row, .sl u (tysV [a, b]), .agg s.row] (· = .tup [.agg (nodeT ⟨20, N⟩ [a, b] s).1.row, .int .i64 (nodeT ⟨20, N⟩ [a, b] s).2]) := by
  refine FCall.walk u_expr_typeOf k_expr_typeOf rfl ?_
  unfold c_expr_typeOf
  simp only [go_sem, simprocAttr, NodeL.row, SigL.row]
  refine FCallT.of (number_call (n := ⟨20, N⟩) hI) ?_
  rintro _ rfl
  simp only [go_sem, simprocAttr]
  refine ⟨fun h => by rw [nodeT_bad h]; rfl, fun h => ?_⟩
  rw [nodeT_bin h (by simp [foundP])]
  refine FCallT.of (result_20 hv hw) ?_
  rintro _ rfl
  simp only [go_sem, simprocAttr, TyL.row]
  have := validT_e hv
  exact fin_ok (bin_k 20 hv (by decide))
theorem typeOf_21 {N : Int} {a b : TyL} {s : SigL} {u : Bool} (hI : I64 N) (hv : validT a s.enums.length) (hw : validT b s.enums.length) : FCall Tryz.prog n_expr_typeOf [.agg (NodeL.mk 21 N).row, .sl u (tysV [a, b]), .agg s.row] (· = .tup [.agg (nodeT ⟨21, N⟩ [a, b] s).1.row, .int .i64 (nodeT ⟨21, N⟩ [a, b] s).2]) := by
  refine FCall.walk u_expr_typeOf k_expr_typeOf rfl ?_
  unfold c_expr_typeOf
  simp only [go_sem, simprocAttr, NodeL.row, SigL.row]
  refine FCallT.of (number_call (n := ⟨21, N⟩) hI) ?_
  rintro _ rfl
  simp only [go_sem, simprocAttr]
  refine ⟨fun h => by rw [nodeT_bad h]; rfl, fun h => ?_⟩
  rw [nodeT_bin h (by simp [foundP])]
  refine FCallT.of (result_21 hv hw) ?_
  rintro _ rfl
  simp only [go_sem, simprocAttr, TyL.row]
  have := validT_e hv
  exact fin_ok (bin_k 21 hv (by decide))
theorem typeOf_22 {N : Int} {a b : TyL} {s : SigL} {u : Bool} (hI : I64 N) (hv : validT a s.enums.length) (hw : validT b s.enums.length) : FCall Tryz.prog n_expr_typeOf [.agg (NodeL.mk 22 N).row, .sl u (tysV [a, b]), .agg s.row] (· = .tup [.agg (nodeT ⟨22, N⟩ [a, b] s).1.row, .int .i64 (nodeT ⟨22, N⟩ [a, b] s).2]) := by
  refine FCall.walk u_expr_typeOf k_expr_typeOf rfl ?_
  unfold c_expr_typeOf
  simp only [go_sem, simprocAttr, NodeL.row, SigL.row]
  refine FCallT.of (number_call (n := ⟨22, N⟩) hI) ?_
  rintro _ rfl
  simp only [go_sem, simprocAttr]
  refine ⟨fun h => by rw [nodeT_bad h]; rfl, fun h => ?_⟩
  rw [nodeT_bin h (by simp [foundP])]
  refine FCallT.of (result_22 hv hw) ?_
  rintro _ rfl
  simp only [go_sem, simprocAttr, TyL.row]
  have := validT_e hv
  exact fin_ok (bin_k 22 hv (by decide))
theorem typeOf_23 {N : Int} {a b : TyL} {s : SigL} {u : Bool} (hI : I64 N) (hv : validT a s.enums.length) (hw : validT b s.enums.length) : FCall Tryz.prog n_expr_typeOf [.agg (NodeL.mk 23 N).row, .sl u (tysV [a, b]), .agg s.row] (· = .tup [.agg (nodeT ⟨23, N⟩ [a, b] s).1.row, .int .i64 (nodeT ⟨23, N⟩ [a, b] s).2]) := by
  refine FCall.walk u_expr_typeOf k_expr_typeOf rfl ?_
  unfold c_expr_typeOf
  simp only [go_sem, simprocAttr, NodeL.row, SigL.row]
  refine FCallT.of (number_call (n := ⟨23, N⟩) hI) ?_
  rintro _ rfl
  simp only [go_sem, simprocAttr]
  refine ⟨fun h => by rw [nodeT_bad h]; rfl, fun h => ?_⟩
  rw [nodeT_bin h (by simp [foundP])]
  refine FCallT.of (result_23 hv hw) ?_
  rintro _ rfl
  simp only [go_sem, simprocAttr, TyL.row]
  have := validT_e hv
  exact fin_ok (bin_k 23 hv (by decide))
theorem typeOf_24 {N : Int} {a b : TyL} {s : SigL} {u : Bool} (hI : I64 N) (hv : validT a s.enums.length) (hw : validT b s.enums.length) : FCall Tryz.prog n_expr_typeOf [.agg (NodeL.mk 24 N).row, .sl u (tysV [a, b]), .agg s.row] (· = .tup [.agg (nodeT ⟨24, N⟩ [a, b] s).1.row, .int .i64 (nodeT ⟨24, N⟩ [a, b] s).2]) := by
  refine FCall.walk u_expr_typeOf k_expr_typeOf rfl ?_
  unfold c_expr_typeOf
  simp only [go_sem, simprocAttr, NodeL.row, SigL.row]
  refine FCallT.of (number_call (n := ⟨24, N⟩) hI) ?_
  rintro _ rfl
  simp only [go_sem, simprocAttr]
  refine ⟨fun h => by rw [nodeT_bad h]; rfl, fun h => ?_⟩
  rw [nodeT_bin h (by simp [foundP])]
  refine FCallT.of (result_24 hv hw) ?_
  rintro _ rfl
  simp only [go_sem, simprocAttr, TyL.row]
  have := validT_e hv
  exact fin_ok (bin_k 24 hv (by decide))
theorem typeOf_27 {N : Int} {a b : TyL} {s : SigL} {u : Bool} (hI : I64 N) (hv : validT a s.enums.length) (hw : validT b s.enums.length) : FCall Tryz.prog n_expr_typeOf [.agg (NodeL.mk 27 N).row, .sl u (tysV [a, b]), .agg s.row] (· = .tup [.agg (nodeT ⟨27, N⟩ [a, b] s).1.row, .int .i64 (nodeT ⟨27, N⟩ [a, b] s).2]) := by
  refine FCall.walk u_expr_typeOf k_expr_typeOf rfl ?_
  unfold c_expr_typeOf
  simp only [go_sem, simprocAttr, NodeL.row, SigL.row]
  refine FCallT.of (number_call (n := ⟨27, N⟩) hI) ?_
  rintro _ rfl
  simp only [go_sem, simprocAttr]
  refine ⟨fun h => by rw [nodeT_bad h]; rfl, fun h => ?_⟩
  rw [nodeT_bin h (by simp [foundP])]
  refine FCallT.of (result_27 hv hw) ?_
  rintro _ rfl
  simp only [go_sem, simprocAttr, TyL.row]
  have := validT_e hv
  exact fin_ok (bin_k 27 hv (by decide))
theorem typeOf_28 {N : Int} {a b : TyL} {s : SigL} {u : Bool} (hI : I64 N) (hv : validT a s.enums.length) (hw : validT b s.enums.length) : FCall Tryz.prog n_expr_typeOf [.agg (NodeL.mk 28 N).row, .sl u (tysV [a, b]), .agg s.row] (· = .tup [.agg (nodeT ⟨28, N⟩ [a, b] s).1.row, .int .i64 (nodeT ⟨28, N⟩ [a, b] s).2]) := by
  refine FCall.walk u_expr_typeOf k_expr_typeOf rfl ?_
  unfold c_expr_typeOf
  simp only [go_sem, simprocAttr, NodeL.row, SigL.row]
  refine FCallT.of (number_call (n := ⟨28, N⟩) hI) ?_
  rintro _ rfl
  simp only [go_sem, simprocAttr]
  refine ⟨fun h => by rw [nodeT_bad h]; rfl, fun h => ?_⟩
  rw [nodeT_bin h (by simp [foundP])]
  refine FCallT.of (result_28 hv hw) ?_
  rintro _ rfl
  simp only [go_sem, simprocAttr, TyL.row]
  have := validT_e hv
  exact fin_ok (bin_k 28 hv (by decide))
theorem typeOf_29 {N : Int} {a b : TyL} {s : SigL} {u : Bool} (hI : I64 N) (hv : validT a s.enums.length) (hw : validT b s.enums.length) : FCall Tryz.prog n_expr_typeOf [.agg (NodeL.mk 29 N).row, .sl u (tysV [a, b]), .agg s.row] (· = .tup [.agg (nodeT ⟨29, N⟩ [a, b] s).1.row, .int .i64 (nodeT ⟨29, N⟩ [a, b] s).2]) := by
  refine FCall.walk u_expr_typeOf k_expr_typeOf rfl ?_
  unfold c_expr_typeOf
  simp only [go_sem, simprocAttr, NodeL.row, SigL.row]
  refine FCallT.of (number_call (n := ⟨29, N⟩) hI) ?_
  rintro _ rfl
  simp only [go_sem, simprocAttr]
  refine ⟨fun h => by rw [nodeT_bad h]; rfl, fun h => ?_⟩
  rw [nodeT_bin h (by simp [foundP])]
  refine FCallT.of (result_29 hv hw) ?_
  rintro _ rfl
  simp only [go_sem, simprocAttr, TyL.row]
  have := validT_e hv
  exact fin_ok (bin_k 29 hv (by decide))
theorem typeOf_30 {N : Int} {a b : TyL} {s : SigL} {u : Bool} (hI : I64 N) (hv : validT a s.enums.length) (hw : validT b s.enums.length) : FCall Tryz.prog n_expr_typeOf [.agg (NodeL.mk 30 N).row, .sl u (tysV [a, b]), .agg s.row] (· = .tup [.agg (nodeT ⟨30, N⟩ [a, b] s).1.row, .int .i64 (nodeT ⟨30, N⟩ [a, b] s).2]) := by
  refine FCall.walk u_expr_typeOf k_expr_typeOf rfl ?_
  unfold c_expr_typeOf
  simp only [go_sem, simprocAttr, NodeL.row, SigL.row]
  refine FCallT.of (number_call (n := ⟨30, N⟩) hI) ?_
  rintro _ rfl
  simp only [go_sem, simprocAttr]
  refine ⟨fun h => by rw [nodeT_bad h]; rfl, fun h => ?_⟩
  rw [nodeT_bin h (by simp [foundP])]
  refine FCallT.of (result_30 hv hw) ?_
  rintro _ rfl
  simp only [go_sem, simprocAttr, TyL.row]
  have := validT_e hv
  exact fin_ok (bin_k 30 hv (by decide))
theorem typeOf_26 {N : Int} {a b c : TyL} {s : SigL} {u : Bool} (hI : I64 N) (hv : validT b s.enums.length) : FCall Tryz.prog n_expr_typeOf [.agg (NodeL.mk 26 N).row, .sl u (tysV [a, b, c]), .agg s.row] (· = .tup [.agg (nodeT ⟨26, N⟩ [a, b, c] s).1.row, .int .i64 (nodeT ⟨26, N⟩ [a, b, c] s).2]) := by
  refine FCall.walk u_expr_typeOf k_expr_typeOf rfl ?_
  unfold c_expr_typeOf
  simp only [go_sem, simprocAttr, NodeL.row, SigL.row]
  refine FCallT.of (number_call (n := ⟨26, N⟩) hI) ?_
  rintro _ rfl
  simp only [go_sem, simprocAttr]
  refine ⟨fun h => by rw [nodeT_bad h]; rfl, fun h => ?_⟩
  rw [nodeT_tri h (by simp [foundP])]
  refine FCallT.of (result_26 hv) ?_
  rintro _ rfl
  simp only [go_sem, simprocAttr, TyL.row]
  have := validT_e hv
  exact fin_ok (by simp [triT]; omega)
theorem typeOf_33 {N : Int} {a : TyL} {s : SigL} {u : Bool} (hI : I64 N) : FCall Tryz.prog n_expr_typeOf [.agg (NodeL.mk 33 N).row, .sl u (tysV [a]), .agg s.row] (· = .tup [.agg (nodeT ⟨33, N⟩ [a] s).1.row, .int .i64 (nodeT ⟨33, N⟩ [a] s).2]) := by
  obtain ⟨ak, ae⟩ := a
  refine FCall.walk u_expr_typeOf k_expr_typeOf rfl ?_
  unfold c_expr_typeOf
  simp only [go_sem, simprocAttr, NodeL.row, SigL.row]
  refine FCallT.of (number_call (n := ⟨33, N⟩) hI) ?_
  rintro _ rfl
  simp only [go_sem, simprocAttr]
  refine ⟨fun h => by rw [nodeT_bad h]; rfl, fun h => ?_⟩
  by_cases hf : 0 ≤ N ∧ N < s.tables.length
  · rw [nodeT_un h (by simp [foundP]; omega)]
    refine FCallT.of (tableLk_call (s := s) hf) ?_
    rintro _ rfl
    simp only [go_sem, simprocAttr, TableL.row]
    generalize hT : tabAt s.tables N = T
    have hU : unT ⟨33, N⟩ ⟨ak, ae⟩ s = (⟨T.vk, T.ve⟩, decide (validT ⟨T.kk, T.ke⟩ s.enums.length ∧ validT ⟨T.vk, T.ve⟩ s.enums.length ∧ ak = T.kk ∧ ae = T.ke)) := by simp [unT, hT]
    rw [hU]
    clear hU
    have h0x : (tysV [⟨ak, ae⟩])[0]? = some [.int .i64 ak, .int .i64 ae] := rfl
    repeat' first
      | apply And.intro <;> intro h
      | ((first
        | refine detCall_of _ (validT_call (t := ⟨T.kk, T.ke⟩) (en := s.enums)) ?_
        | refine detCall_of _ (validT_call (t := ⟨T.vk, T.ve⟩) (en := s.enums)) ?_); simp only [go_sem, simprocAttr, TyL.row, h0x])
    all_goals simp only [bp_iff, bpF, Bool.and_eq_true, Bool.and_eq_false_iff, decide_eq_true_eq, decide_eq_false_iff_not, Bool.not_eq_true', Bool.not_eq_false'] at *
    all_goals first | (simp [finT, *]; done) | (simp only [finT, TyL.mk.injEq] at *; simp [*]; done) | (rw [finT_false (by rintro ⟨_, _, x, y⟩; omega)]; done)
  · rw [nodeT_nf h (fun k => hf (k.2.2.2.1 rfl))]
    refine FCallT.of (tableLk_out (s := s) hf) ?_
    rintro _ rfl
    simp only [go_sem, simprocAttr, TableL.row, zeroTab]
    rfl
theorem typeOf_34 {N : Int} {a : TyL} {s : SigL} {u : Bool} (hI : I64 N) (hv : validT a s.enums.length) : FCall Tryz.prog n_expr_typeOf [.agg (NodeL.mk 34 N).row, .sl u (tysV [a]), .agg s.row] (· = .tup [.agg (nodeT ⟨34, N⟩ [a] s).1.row, .int .i64 (nodeT ⟨34, N⟩ [a] s).2]) := by
  obtain ⟨ak, ae⟩ := a
  refine FCall.walk u_expr_typeOf k_expr_typeOf rfl ?_
  unfold c_expr_typeOf
  simp only [go_sem, simprocAttr, NodeL.row, SigL.row]
  refine FCallT.of (number_call (n := ⟨34, N⟩) hI) ?_
  rintro _ rfl
  simp only [go_sem, simprocAttr]
  refine ⟨fun h => by rw [nodeT_bad h]; rfl, fun h => ?_⟩
  have h0 : 0 ≤ N := by rcases numE_cases ⟨34, N⟩ with k | k | k <;> first | (rw [h] at k; omega) | exact (k.2.2.2.1 rfl).1
  by_cases hf : N / 8 < s.tables.length
  · rw [nodeT_un h (by simp [foundP]; omega)]
    refine FCallT.of (tableBr_call (s := s) h0 hI hf) ?_
    rintro _ rfl
    simp only [go_sem, simprocAttr, TableL.row]
    generalize hT : tabAt s.tables (N / 8) = T
    have hU : unT ⟨34, N⟩ ⟨ak, ae⟩ s = (⟨ak, ae⟩, decide (ak = 3 ∧ T.kk = 3 ∧ T.ke = 0 ∧ T.vk = 4 ∧ T.ve = 0)) := by simp [unT, hT]
    rw [hU]
    clear hU
    have h0x : (tysV [⟨ak, ae⟩])[0]? = some [.int .i64 ak, .int .i64 ae] := rfl
    repeat' first
      | apply And.intro <;> intro h
      | ((first
        | refine detCall_of _ (validT_call (t := ⟨T.kk, T.ke⟩) (en := s.enums)) ?_
        | refine detCall_of _ (validT_call (t := ⟨T.vk, T.ve⟩) (en := s.enums)) ?_); simp only [go_sem, simprocAttr, TyL.row, h0x])
    all_goals simp only [bp_iff, bpF, Bool.and_eq_true, Bool.and_eq_false_iff, decide_eq_true_eq, decide_eq_false_iff_not, Bool.not_eq_true', Bool.not_eq_false'] at *
    all_goals first | (simp [finT, *]; done) | (simp only [finT, TyL.mk.injEq] at *; simp [*]; done) | (refine congrArg FV.tup (by unfold finT; split <;> simp_all [validT] <;> omega)) 
  · rw [nodeT_nf h (fun k => hf (k.2.2.2.2.1 rfl))]
    refine FCallT.of (tableBr_out (s := s) h0 hI hf) ?_
    rintro _ rfl
    simp only [go_sem, simprocAttr, TableL.row, zeroTab]
    rfl
theorem typeOf_call {n : NodeL} {l : List TyL} {s : SigL} {u : Bool} (hI : I64 n.n) (hl : (l.length : Int) = arityZ n.op) (hv : ∀ t ∈ l, validT t s.enums.length) :
    FCall Tryz.prog n_expr_typeOf [.agg n.row, .sl u (tysV l), .agg s.row] (· = .tup [.agg (nodeT n l s).1.row, .int .i64 (nodeT n l s).2]) := by
  match l, hl, hv with
  | [], hl, hv => exact typeOf_leaf hl.symm hI
  | [a], hl, hv =>
    obtain ⟨op, N⟩ := n
    simp only at hl hI
    have hc : op = 10 ∨ op = 25 ∨ op = 31 ∨ op = 32 ∨ op = 33 ∨ op = 34 := by unfold arityZ at hl; simp only [List.length_singleton] at hl; (repeat' split at hl) <;> omega
    have ha := hv a (by simp)
    rcases hc with rfl | rfl | rfl | rfl | rfl | rfl
    · exact typeOf_10 hI ha
    · exact typeOf_25 hI ha
    · exact typeOf_31 hI ha
    · exact typeOf_32 hI ha
    · exact typeOf_33 hI
    · exact typeOf_34 hI ha
  | [a, b], hl, hv =>
    obtain ⟨op, N⟩ := n
    simp only at hl hI
    have hc : op = 11 ∨ op = 12 ∨ op = 13 ∨ op = 14 ∨ op = 15 ∨ op = 16 ∨ op = 17 ∨ op = 18 ∨ op = 19 ∨ op = 20 ∨ op = 21 ∨ op = 22 ∨ op = 23 ∨ op = 24 ∨ op = 27 ∨ op = 28 ∨ op = 29 ∨ op = 30 := by unfold arityZ at hl; simp only [List.length_cons, List.length_nil] at hl; (repeat' split at hl) <;> omega
    have ha := hv a (by simp)
    have hb := hv b (by simp)
    rcases hc with rfl | rfl | rfl | rfl | rfl | rfl | rfl | rfl | rfl | rfl | rfl | rfl | rfl | rfl | rfl | rfl | rfl | rfl
    · exact typeOf_11 hI ha hb
    · exact typeOf_12 hI ha hb
    · exact typeOf_13 hI ha hb
    · exact typeOf_14 hI ha hb
    · exact typeOf_15 hI ha hb
    · exact typeOf_16 hI ha hb
    · exact typeOf_17 hI ha hb
    · exact typeOf_18 hI ha hb
    · exact typeOf_19 hI ha hb
    · exact typeOf_20 hI ha hb
    · exact typeOf_21 hI ha hb
    · exact typeOf_22 hI ha hb
    · exact typeOf_23 hI ha hb
    · exact typeOf_24 hI ha hb
    · exact typeOf_27 hI ha hb
    · exact typeOf_28 hI ha hb
    · exact typeOf_29 hI ha hb
    · exact typeOf_30 hI ha hb
  | [a, b, c], hl, hv =>
    obtain ⟨op, N⟩ := n
    simp only at hl hI
    obtain rfl : op = 26 := by unfold arityZ at hl; simp only [List.length_cons, List.length_nil] at hl; (repeat' split at hl) <;> omega
    exact typeOf_26 hI (hv b (by simp))
  | a :: b :: c :: d :: r, hl, hv =>
    exfalso
    unfold arityZ at hl; simp only [List.length_cons] at hl; (repeat' split at hl) <;> omega
end Go.Fx.Tryz
set_option linter.unusedVariables false
set_option linter.unusedSimpArgs false
namespace Go.Fx.Tryz
open Go Go.Fm Go.Proofs
theorem ints_set (l : List Int) (i : Nat) (x : Int) : (ints l).set i [.int .i64 x] = ints (l.set i x) := by simp [ints, List.map_set]
theorem repl_set (m : Nat) (acc : List Int) (x : Int) : (List.replicate (m + 1) (0 : Int) ++ acc).set m x = List.replicate m 0 ++ (x :: acc) := by
  induction m with
  | zero => rfl
  | succ m ih => rw [List.replicate_succ, List.cons_append, List.set_cons_succ, ih]; rfl
theorem operands_call {e : List NodeL} {l : List Int} {i k : Nat} {u v : Bool} (hi : i < e.length) (hb : e.length ≤ 48) (hk : arityZ e[i].op = k) (hk3 : k ≤ 3) (hl : ∀ x ∈ l, 0 ≤ x ∧ x ≤ 48) (ho : OpsOk l ((i : Int) - 1) k) :
    FCall Tryz.prog n_expr_operands [.sl u (nodesV e), .sl v (ints l), .int .i64 i] (· = .arr (ints (opsGo l ((i : Int) - 1) k []))) := by
  have hx := nodesV_get hi
  refine FCall.walk u_expr_operands k_expr_operands rfl ?_
  unfold c_expr_operands
  simp only [go_sem, simprocAttr, Int.toNat_natCast, hx, NodeL.row]
  refine FCallT.of (arity_call (op := e[i].op)) ?_
  rintro _ rfl
  simp only [go_sem, simprocAttr]
  rw [hk]
  simp only [go_sem, simprocAttr]
  have hrep : List.replicate k ([.int .i64 0] : List FV) = ints (List.replicate k 0) := by simp [ints]
  have hw1 : IntKind.i64.wrap ((i : Int) - 1) = (i : Int) - 1 := w64 (by unfold I64; omega)
  have hw2 : IntKind.i64.wrap ((k : Int) - 1) = (k : Int) - 1 := w64 (by unfold I64; omega)
  rw [Int.toNat_natCast, hrep, hw1, hw2]
  refine ⟨by omega, ?_⟩
  refine FWT.upd [] (fun s : Nat × Int × List Int => [(8, .arr (ints (List.replicate s.1 0 ++ s.2.2))), (9, .int .i64 s.2.1), (10, .int .i64 ((s.1 : Int) - 1))]) (fun s => s.1)
    (fun s => s.1 ≤ k ∧ OpsOk l s.2.1 s.1 ∧ opsGo l s.2.1 s.1 s.2.2 = opsGo l ((i : Int) - 1) k []) (k, (i : Int) - 1, []) (by simp [Env.puts, Env.kills, Env.put]) ⟨Nat.le_refl _, ho, rfl⟩ ?_
  rintro ⟨m, last, acc⟩ ⟨g1, g2, g3⟩
  simp only at g1 g2 g3
  cases m with
  | zero =>
    have h0 : ¬ (0 : Int) ≤ ((0 : Nat) : Int) - 1 := by omega
    simp only [go_sem, simprocAttr, h0]
    rw [← g3]; rfl
  | succ m =>
    obtain ⟨o1, o2, o3⟩ := g2
    have e1 : ((m + 1 : Nat) : Int) - 1 = m := by omega
    rw [e1]
    have h0 : (0 : Int) ≤ (m : Int) := by omega
    have hset := repl_set m acc last
    have hm : m < (List.replicate (m + 1) (0 : Int) ++ acc).length := by simp; omega
    generalize List.replicate (m + 1) (0 : Int) ++ acc = L at hset hm
    have hy := ints_get (l := L) hm
    have hlt : last.toNat < l.length := by omega
    have hz := ints_get (l := l) hlt
    have hb2 := hl _ (List.getElem_mem hlt)
    have hw3 : IntKind.i64.wrap (l[last.toNat] - 1) = l[last.toNat] - 1 := w64 (by unfold I64; omega)
    have hw4 : IntKind.i64.wrap ((m : Int) - 1) = (m : Int) - 1 := w64 (by unfold I64; omega)
    have hq : l[last.toNat]? = some l[last.toNat] := List.getElem?_eq_getElem hlt
    simp only [go_sem, simprocAttr, h0, Int.toNat_natCast, hy, hz, o1, hw3, hw4, ints_set, hset]
    rw [hq] at o3
    simp only [opsGo, hq] at g3
    exact ⟨(m, l[last.toNat] - 1, last :: acc), rfl, ⟨by simp only; omega, o3, g3⟩, by simp only; omega⟩
end Go.Fx.Tryz
set_option linter.unusedVariables false
set_option linter.unusedSimpArgs false
namespace Go.Fx.Tryz
open Go Go.Fm Go.Proofs
theorem free_ints (l : List Int) : freeLL (ints l) = true := by
  induction l with
  | nil => rfl
  | cons x l ih => simp only [ints, List.map_cons, freeLL] at ih ⊢; rw [ih]; rfl
theorem tysV_set (l : List TyL) (i : Nat) (x : TyL) : (tysV l).set i [.int .i64 x.k, .int .i64 x.e] = tysV (l.set i x) := by simp [tysV, List.map_set, TyL.row]
theorem tysV_some {l : List TyL} {i : Nat} {x : TyL} (h : l[i]? = some x) : (tysV l)[i]? = some [.int .i64 x.k, .int .i64 x.e] := by simp [tysV, h, TyL.row]
theorem TypeOf_call {e : List NodeL} {s : SigL} {u : Bool} (hI : ∀ n ∈ e, I64 n.n) : FCall Tryz.prog n_expr_TypeOf [.sl u (nodesV e), .agg s.row] (· = .tup [.agg (typeL e s).1.row, .int .i64 (typeL e s).2.1, .int .i64 (typeL e s).2.2]) := by
  refine FCall.walk u_expr_TypeOf k_expr_TypeOf rfl ?_
  unfold c_expr_TypeOf
  simp only [go_sem, simprocAttr, SigL.row]
  refine FCallT.of (starts_call (e := e)) ?_
  rintro _ rfl
  simp only [go_sem, simprocAttr]
  refine ⟨fun h => ?_, fun h => ?_⟩
  · unfold typeL; rw [if_pos h]; rfl
  obtain ⟨L, hL, hG, he, h48⟩ := structL_ok h
  have hpos : 0 < e.length := List.length_pos_iff.2 he
  have hT : typeL e s = typeGo s 0 [] e := by unfold typeL; rw [if_neg (by simpa using h)]
  have hbL := structGo_bnd hG (by simp) (by simp)
  have hrep : List.replicate e.length ([.int .i64 0, .int .i64 0] : List FV) = tysV (List.replicate e.length ⟨0, 0⟩) := by simp [tysV, TyL.row]
  rw [hL, Int.toNat_natCast, hrep]
  refine ⟨by omega, ?_⟩
  refine FWT.upd [] (fun x : Nat × List TyL => [(10, .arr (tysV x.2)), (34, .int .i64 x.1)]) (fun x => e.length - x.1)
    (fun x => ∃ ps, TyInv e s L (typeL e s) x.1 x.2 ps) (0, List.replicate e.length ⟨0, 0⟩) rfl ⟨[], by rw [hT]; exact TyInv.start hG (by simp)⟩ ?_
  rintro ⟨i, T⟩ ⟨ps, hinv⟩
  simp only at hinv
  have hi0 := hinv.hi
  have hTl := hinv.len
  by_cases hi : i < e.length
  · obtain ⟨k, args, hk, hk3, hal, _, _, hops, hmap, hargs, hbad, hgood⟩ := hinv.step hi
    have hx := nodesV_get hi
    simp only [go_sem, simprocAttr, ltT hi, Int.toNat_natCast, hx, NodeL.row]
    refine FCallT.of (operands_call (e := e) (l := L) (i := i) (k := k) hi h48 hk hk3 (fun x m => by have := hbL x m; omega) hops) ?_
    rintro _ rfl
    simp only [go_sem, simprocAttr]
    have hol : (opsGo L ((i : Int) - 1) k []).length = k := by simpa using opsGo_length (L := L) (k := k) (last := (i : Int) - 1) (acc := [])
    have hpp := chain_pos (acc := []) hops (by simp)
    generalize opsGo L ((i : Int) - 1) k [] = ops at hol hmap hpp
    refine ⟨free_ints _, ?_⟩
    refine FWT.count [15] ops.length (fun j => [(13, .arr (tysV (args.take j))), (44, .int .i64 j)]) (fun _ => True) rfl trivial ?_
    intro j hj _
    by_cases hj2 : j < ops.length
    · have hy := ints_get hj2
      have hja : j < args.length := by omega
      have hp := hpp _ (List.getElem_mem hj2)
      have hTj : T[ops[j].toNat]? = some args[j] := by
        have := congrArg (fun l => l[j]?) hmap
        simpa [List.getElem?_map, List.getElem?_eq_getElem hj2, List.getElem?_eq_getElem hja] using this
      have hz := tysV_some hTj
      simp only [go_sem, simprocAttr, ltT hj2, Int.toNat_natCast, hy, hz, hp.1]
      exact ⟨by simp; omega, by rw [List.take_succ_eq_append_getElem hja, tysV_snoc, w64s (by omega)]; rfl, hj2⟩
    · have hj3 : args.take j = args := List.take_of_length_le (by omega)
      rw [hj3]
      simp only [go_sem, simprocAttr, ltF hj2]
      refine FCallT.of (typeOf_call (n := e[i]) (l := args) (s := s) (hI _ (List.getElem_mem hi)) (by rw [hal]; exact hk.symm) hargs) ?_
      rintro _ rfl
      simp only [go_sem, simprocAttr, TyL.row]
      refine ⟨fun h1 => by rw [hbad h1], fun h1 => ?_⟩
      obtain ⟨ps', hn, _⟩ := hgood h1
      have hq := tysV_get (l := T) (i := i) (by omega)
      simp only [go_sem, simprocAttr, Int.toNat_natCast, hq, tysV_set]
      exact ⟨(i + 1, T.set i (nodeT e[i] args s).1), by rw [w64s (by omega)], ⟨ps', hn⟩, by simp only; omega⟩
  · obtain rfl : i = e.length := by omega
    obtain ⟨t, ht, hR⟩ := hinv.done he
    have hz := tysV_some ht
    have hw : IntKind.i64.wrap ((e.length : Int) - 1) = ((e.length - 1 : Nat) : Int) := by rw [w64 (by unfold I64; omega)]; omega
    simp only [go_sem, simprocAttr, ltF hi, Int.toNat_natCast, hw, hz]
    rw [hR]; rfl
end Go.Fx.Tryz
set_option linter.unusedVariables false
set_option linter.unusedSimpArgs false
namespace Go.Fx.Tryz
open Go Go.Fm Go.Proofs
theorem ranged_call {n : NodeL} {s : SigL} (hm : ∀ e ∈ s.enums, e.members.length < 2 ^ 60) : FCall Tryz.prog n_ref10_ranged [.agg n.row, .agg s.row] (· = .bool (bp (rangedP n))) := by
  obtain ⟨op, N⟩ := n
  by_cases h15 : 1 ≤ op ∧ op ≤ 5
  · obtain ⟨e1, e2⟩ := loT_lit h15 s.enums
    refine FCall.walk u_ref10_ranged k_ref10_ranged rfl ?_
    unfold c_ref10_ranged
    simp only [go_sem, simprocAttr, NodeL.row, SigL.row]
    repeat' first
      | apply And.intro <;> intro h
      | ((first
        | refine detCall_of _ (kindR_call) ?_
        | refine detCall_of _ (boundsR_call (t := ⟨op, 0⟩) (en := s.enums) hm) ?_); simp only [go_sem, simprocAttr, e1, e2])
    all_goals first | (exfalso; omega) | skip
    all_goals first | exact fbp_true (by unfold rangedP; simp only; omega) | exact fbp_false (by unfold rangedP; simp only; omega) | (rw [dec_bp]; exact congrArg FV.bool (bp_congr (by unfold rangedP; simp only; omega)))
  · refine FCall.walk u_ref10_ranged k_ref10_ranged rfl ?_
    unfold c_ref10_ranged
    simp only [go_sem, simprocAttr, NodeL.row, SigL.row]
    repeat' first
      | apply And.intro <;> intro h
    all_goals have hm8 : 0 ≤ N → N.tmod 8 = N % 8 := fun h => Int.tmod_eq_emod_of_nonneg h
    all_goals first | (exfalso; omega) | skip
    all_goals first | exact fbp_true (by unfold rangedP; simp only; omega) | exact fbp_false (by unfold rangedP; simp only; omega) | (rw [dec_bp]; exact congrArg FV.bool (bp_congr (by unfold rangedP; simp only; omega)))
theorem found_7 {N : Int} {s : SigL} : FCall Tryz.prog n_ref10_found [.agg (NodeL.mk 7 N).row, .agg s.row] (· = .bool (bp (foundP ⟨7, N⟩ s))) := by
  refine FCall.walk u_ref10_found k_ref10_found rfl ?_
  unfold c_ref10_found
  simp only [go_sem, simprocAttr, NodeL.row, SigL.row]
  repeat' first
    | apply And.intro <;> intro h
  all_goals first | exact fbp_true (by first | (simp [foundP, *]; done) | (simp [foundP, *]; omega)) | exact fbp_false (by first | (simp [foundP, *]; done) | (simp [foundP, *]; omega)) | (rw [dec_bp]; exact congrArg FV.bool (bp_congr (by simp [foundP, *]; try omega)))
theorem found_8 {N : Int} {s : SigL} : FCall Tryz.prog n_ref10_found [.agg (NodeL.mk 8 N).row, .agg s.row] (· = .bool (bp (foundP ⟨8, N⟩ s))) := by
  refine FCall.walk u_ref10_found k_ref10_found rfl ?_
  unfold c_ref10_found
  simp only [go_sem, simprocAttr, NodeL.row, SigL.row]
  repeat' first
    | apply And.intro <;> intro h
  all_goals first | exact fbp_true (by first | (simp [foundP, *]; done) | (simp [foundP, *]; omega)) | exact fbp_false (by first | (simp [foundP, *]; done) | (simp [foundP, *]; omega)) | (rw [dec_bp]; exact congrArg FV.bool (bp_congr (by simp [foundP, *]; try omega)))
theorem found_33 {N : Int} {s : SigL} : FCall Tryz.prog n_ref10_found [.agg (NodeL.mk 33 N).row, .agg s.row] (· = .bool (bp (foundP ⟨33, N⟩ s))) := by
  refine FCall.walk u_ref10_found k_ref10_found rfl ?_
  unfold c_ref10_found
  simp only [go_sem, simprocAttr, NodeL.row, SigL.row]
  repeat' first
    | apply And.intro <;> intro h
  all_goals first | exact fbp_true (by first | (simp [foundP, *]; done) | (simp [foundP, *]; omega)) | exact fbp_false (by first | (simp [foundP, *]; done) | (simp [foundP, *]; omega)) | (rw [dec_bp]; exact congrArg FV.bool (bp_congr (by simp [foundP, *]; try omega)))
theorem found_36 {N : Int} {s : SigL} : FCall Tryz.prog n_ref10_found [.agg (NodeL.mk 36 N).row, .agg s.row] (· = .bool (bp (foundP ⟨36, N⟩ s))) := by
  refine FCall.walk u_ref10_found k_ref10_found rfl ?_
  unfold c_ref10_found
  simp only [go_sem, simprocAttr, NodeL.row, SigL.row]
  repeat' first
    | apply And.intro <;> intro h
  all_goals first | exact fbp_true (by first | (simp [foundP, *]; done) | (simp [foundP, *]; omega)) | exact fbp_false (by first | (simp [foundP, *]; done) | (simp [foundP, *]; omega)) | (rw [dec_bp]; exact congrArg FV.bool (bp_congr (by simp [foundP, *]; try omega)))
theorem found_37 {N : Int} {s : SigL} : FCall Tryz.prog n_ref10_found [.agg (NodeL.mk 37 N).row, .agg s.row] (· = .bool (bp (foundP ⟨37, N⟩ s))) := by
  refine FCall.walk u_ref10_found k_ref10_found rfl ?_
  unfold c_ref10_found
  simp only [go_sem, simprocAttr, NodeL.row, SigL.row]
  repeat' first
    | apply And.intro <;> intro h
  all_goals first | exact fbp_true (by first | (simp [foundP, *]; done) | (simp [foundP, *]; omega)) | exact fbp_false (by first | (simp [foundP, *]; done) | (simp [foundP, *]; omega)) | (rw [dec_bp]; exact congrArg FV.bool (bp_congr (by simp [foundP, *]; try omega)))
theorem found_38 {N : Int} {s : SigL} : FCall Tryz.prog n_ref10_found [.agg (NodeL.mk 38 N).row, .agg s.row] (· = .bool (bp (foundP ⟨38, N⟩ s))) := by
  refine FCall.walk u_ref10_found k_ref10_found rfl ?_
  unfold c_ref10_found
  simp only [go_sem, simprocAttr, NodeL.row, SigL.row]
  repeat' first
    | apply And.intro <;> intro h
  all_goals first | exact fbp_true (by first | (simp [foundP, *]; done) | (simp [foundP, *]; omega)) | exact fbp_false (by first | (simp [foundP, *]; done) | (simp [foundP, *]; omega)) | (rw [dec_bp]; exact congrArg FV.bool (bp_congr (by simp [foundP, *]; try omega)))
theorem found_39 {N : Int} {s : SigL} : FCall Tryz.prog n_ref10_found [.agg (NodeL.mk 39 N).row, .agg s.row] (· = .bool (bp (foundP ⟨39, N⟩ s))) := by
  refine FCall.walk u_ref10_found k_ref10_found rfl ?_
  unfold c_ref10_found
  simp only [go_sem, simprocAttr, NodeL.row, SigL.row]
  repeat' first
    | apply And.intro <;> intro h
  all_goals first | exact fbp_true (by first | (simp [foundP, *]; done) | (simp [foundP, *]; omega)) | exact fbp_false (by first | (simp [foundP, *]; done) | (simp [foundP, *]; omega)) | (rw [dec_bp]; exact congrArg FV.bool (bp_congr (by simp [foundP, *]; try omega)))
theorem found_35 {N : Int} {s : SigL} : FCall Tryz.prog n_ref10_found [.agg (NodeL.mk 35 N).row, .agg s.row] (· = .bool (bp (foundP ⟨35, N⟩ s))) := by
  refine FCall.walk u_ref10_found k_ref10_found rfl ?_
  unfold c_ref10_found
  simp only [go_sem, simprocAttr, NodeL.row, SigL.row]
  cases h : s.has
  · exact fbp_false (by simp [foundP, h])
  · exact fbp_true (by simp [foundP, h])
theorem found_34 {N : Int} {s : SigL} (h0 : 0 ≤ N) (hI : I64 N) : FCall Tryz.prog n_ref10_found [.agg (NodeL.mk 34 N).row, .agg s.row] (· = .bool (bp (foundP ⟨34, N⟩ s))) := by
  refine FCall.walk u_ref10_found k_ref10_found rfl ?_
  unfold c_ref10_found
  simp only [go_sem, simprocAttr, NodeL.row, SigL.row, quo_pos h0 hI (show (0 : Int) < 8 by decide)]
  rw [dec_bp]; exact congrArg FV.bool (bp_congr (by simp [foundP]))
theorem found_6 {N : Int} {s : SigL} (h0 : 0 ≤ N) (hI : I64 N) : FCall Tryz.prog n_ref10_found [.agg (NodeL.mk 6 N).row, .agg s.row] (· = .bool (bp (foundP ⟨6, N⟩ s))) := by
  have h1 : 0 ≤ N / 16 := Int.ediv_nonneg h0 (by decide)
  have h2 : 0 ≤ N % 16 := Int.emod_nonneg N (by decide)
  by_cases h : N / 16 < s.enums.length
  · obtain ⟨j, hj0⟩ : ∃ j : Nat, N / 16 = j := ⟨(N / 16).toNat, by omega⟩
    have hj : j < s.enums.length := by omega
    have hx := Go.Fm.enumsV_get hj
    have hm : memN s.enums (N / 16) = s.enums[j].members.length := by unfold memN; rw [hj0, Int.toNat_natCast, List.getElem?_eq_getElem hj]; rfl
    have hc : ((j : Int) < (s.enums.length : Int)) = True := eq_true (by omega)
    have hr0 : N.tmod 16 = N % 16 := Int.tmod_eq_emod_of_nonneg h0
    refine FCall.walk u_ref10_found k_ref10_found rfl ?_
    unfold c_ref10_found
    simp only [go_sem, simprocAttr, NodeL.row, SigL.row, quo_pos h0 hI (show (0 : Int) < 16 by decide), hj0, hc, Int.toNat_natCast, hx, EnumL.row, hr0]
    rw [dec_bp]; exact congrArg FV.bool (bp_congr (by simp [foundP, hm]; omega))
  · refine FCall.walk u_ref10_found k_ref10_found rfl ?_
    unfold c_ref10_found
    simp only [go_sem, simprocAttr, NodeL.row, SigL.row, quo_pos h0 hI (show (0 : Int) < 16 by decide), h]
    exact fbp_false fun k => h (k.1 rfl).1
theorem found_rest {op N : Int} {s : SigL} (h : op ≠ 6 ∧ op ≠ 7 ∧ op ≠ 8 ∧ ¬ (33 ≤ op ∧ op ≤ 39)) : FCall Tryz.prog n_ref10_found [.agg (NodeL.mk op N).row, .agg s.row] (· = .bool (bp (foundP ⟨op, N⟩ s))) := by
  have hf : foundP ⟨op, N⟩ s := by unfold foundP; simp only; refine ⟨fun e => absurd e h.1, fun e => absurd e h.2.1, fun e => absurd e h.2.2.1, fun e => by omega, fun e => by omega, fun e => by omega, fun e => by omega⟩
  refine FCall.walk u_ref10_found k_ref10_found rfl ?_
  unfold c_ref10_found
  simp only [go_sem, simprocAttr, NodeL.row, SigL.row]
  repeat' first
    | apply And.intro <;> intro h
  all_goals first | (exfalso; omega) | exact fbp_true hf
theorem found_call {n : NodeL} {s : SigL} (hr : rangedP n) (hI : I64 n.n) : FCall Tryz.prog n_ref10_found [.agg n.row, .agg s.row] (· = .bool (bp (foundP n s))) := by
  obtain ⟨op, N⟩ := n
  simp only at hI
  by_cases h : op ≠ 6 ∧ op ≠ 7 ∧ op ≠ 8 ∧ ¬ (33 ≤ op ∧ op ≤ 39)
  · exact found_rest h
  have hc : op = 6 ∨ op = 7 ∨ op = 8 ∨ op = 33 ∨ op = 34 ∨ op = 35 ∨ op = 36 ∨ op = 37 ∨ op = 38 ∨ op = 39 := by omega
  rcases hc with rfl | rfl | rfl | rfl | rfl | rfl | rfl | rfl | rfl | rfl
  · exact found_6 (hr.2.2.2 rfl) hI
  · exact found_7
  · exact found_8
  · exact found_33
  · exact found_34 (hr.2.2.1 rfl).1 hI
  · exact found_35
  · exact found_36
  · exact found_37
  · exact found_38
  · exact found_39
end Go.Fx.Tryz
set_option linter.unusedVariables false
set_option linter.unusedSimpArgs false
namespace Go.Fx.Tryz
open Go Go.Fm Go.Proofs
theorem tup2 {a b c d : Int} {x y : Bool} (h1 : a = c) (h2 : b = d) (h3 : x = y) : FV.tup [.agg [.int .i64 a, .int .i64 b], .bool x] = FV.tup [.agg [.int .i64 c, .int .i64 d], .bool y] := by rw [h1, h2, h3]
theorem leafQ_7 {N : Int} {s : SigL} (hf : foundP ⟨7, N⟩ s) : FCall Tryz.prog n_ref10_leaf [.agg (NodeL.mk 7 N).row, .agg s.row] (· = .tup [.agg (leafT ⟨7, N⟩ s).row, .bool (bp (validT (leafT ⟨7, N⟩ s) s.enums.length ∧ aggP 7 (leafT ⟨7, N⟩ s).k))]) := by
  have h : 0 ≤ N ∧ N < s.inputs.length := by simpa [foundP] using hf
  obtain ⟨j, rfl⟩ : ∃ j : Nat, N = j := ⟨N.toNat, by omega⟩
  have hj : j < s.inputs.length := by omega
  have hx := tysV_get hj
  have ht : leafT ⟨7, j⟩ s = s.inputs[j] := by simp [leafT, tyAt_nat hj]
  rw [ht]
  refine FCall.walk u_ref10_leaf k_ref10_leaf rfl ?_
  unfold c_ref10_leaf
  simp only [go_sem, simprocAttr, NodeL.row, SigL.row, Int.toNat_natCast, hx]
  repeat' first
    | apply And.intro <;> intro h
    | ((refine FCallT.of (validTR_call (t := s.inputs[j]) (en := s.enums)) ?_; rintro _ rfl); simp only [go_sem, simprocAttr, TyL.row])
  all_goals refine tup2 rfl rfl ?_
  all_goals try simp only [bp_iff, bpF, dec_bp] at *
  all_goals first | exact (bp_true ⟨by assumption, by simp [aggP, *]⟩).symm | exact (bp_false (by simp [aggP, *])).symm | exact bp_congr (by simp [aggP, *])
theorem leafQ_8 {N : Int} {s : SigL} (hf : foundP ⟨8, N⟩ s) : FCall Tryz.prog n_ref10_leaf [.agg (NodeL.mk 8 N).row, .agg s.row] (· = .tup [.agg (leafT ⟨8, N⟩ s).row, .bool (bp (validT (leafT ⟨8, N⟩ s) s.enums.length ∧ aggP 8 (leafT ⟨8, N⟩ s).k))]) := by
  have h : 0 ≤ N ∧ N < s.defs.length := by simpa [foundP] using hf
  obtain ⟨j, rfl⟩ : ∃ j : Nat, N = j := ⟨N.toNat, by omega⟩
  have hj : j < s.defs.length := by omega
  have hx := tysV_get hj
  have ht : leafT ⟨8, j⟩ s = s.defs[j] := by simp [leafT, tyAt_nat hj]
  rw [ht]
  refine FCall.walk u_ref10_leaf k_ref10_leaf rfl ?_
  unfold c_ref10_leaf
  simp only [go_sem, simprocAttr, NodeL.row, SigL.row, Int.toNat_natCast, hx]
  repeat' first
    | apply And.intro <;> intro h
    | ((refine FCallT.of (validTR_call (t := s.defs[j]) (en := s.enums)) ?_; rintro _ rfl); simp only [go_sem, simprocAttr, TyL.row])
  all_goals refine tup2 rfl rfl ?_
  all_goals try simp only [bp_iff, bpF, dec_bp] at *
  all_goals first | exact (bp_true ⟨by assumption, by simp [aggP, *]⟩).symm | exact (bp_false (by simp [aggP, *])).symm | exact bp_congr (by simp [aggP, *])
theorem leafQ_36 {N : Int} {s : SigL} (hf : foundP ⟨36, N⟩ s) : FCall Tryz.prog n_ref10_leaf [.agg (NodeL.mk 36 N).row, .agg s.row] (· = .tup [.agg (leafT ⟨36, N⟩ s).row, .bool (bp (validT (leafT ⟨36, N⟩ s) s.enums.length ∧ aggP 36 (leafT ⟨36, N⟩ s).k))]) := by
  have h : 0 ≤ N ∧ N < s.mems.length := (hf.2.2.2.2.2.2 (by simp)).2
  obtain ⟨j, rfl⟩ : ∃ j : Nat, N = j := ⟨N.toNat, by omega⟩
  have hj : j < s.mems.length := by omega
  have hx := tysV_get hj
  have ht : leafT ⟨36, j⟩ s = s.mems[j] := by simp [leafT, tyAt_nat hj]
  rw [ht]
  refine FCall.walk u_ref10_leaf k_ref10_leaf rfl ?_
  unfold c_ref10_leaf
  simp only [go_sem, simprocAttr, NodeL.row, SigL.row, Int.toNat_natCast, hx]
  repeat' first
    | apply And.intro <;> intro h
    | ((refine FCallT.of (validTR_call (t := s.mems[j]) (en := s.enums)) ?_; rintro _ rfl); simp only [go_sem, simprocAttr, TyL.row])
  all_goals refine tup2 rfl rfl ?_
  all_goals try simp only [bp_iff, bpF, dec_bp] at *
  all_goals first | exact (bp_true ⟨by assumption, by simp [aggP, *]⟩).symm | exact (bp_false (by simp [aggP, *])).symm | exact bp_congr (by simp [aggP, *])
theorem leafQ_37 {N : Int} {s : SigL} (hf : foundP ⟨37, N⟩ s) : FCall Tryz.prog n_ref10_leaf [.agg (NodeL.mk 37 N).row, .agg s.row] (· = .tup [.agg (leafT ⟨37, N⟩ s).row, .bool (bp (validT (leafT ⟨37, N⟩ s) s.enums.length ∧ aggP 37 (leafT ⟨37, N⟩ s).k))]) := by
  have h : 0 ≤ N ∧ N < s.mems.length := (hf.2.2.2.2.2.2 (by simp)).2
  obtain ⟨j, rfl⟩ : ∃ j : Nat, N = j := ⟨N.toNat, by omega⟩
  have hj : j < s.mems.length := by omega
  have hx := tysV_get hj
  have ht : leafT ⟨37, j⟩ s = s.mems[j] := by simp [leafT, tyAt_nat hj]
  rw [ht]
  refine FCall.walk u_ref10_leaf k_ref10_leaf rfl ?_
  unfold c_ref10_leaf
  simp only [go_sem, simprocAttr, NodeL.row, SigL.row, Int.toNat_natCast, hx]
  repeat' first
    | apply And.intro <;> intro h
    | ((refine FCallT.of (validTR_call (t := s.mems[j]) (en := s.enums)) ?_; rintro _ rfl); simp only [go_sem, simprocAttr, TyL.row])
  all_goals refine tup2 rfl rfl ?_
  all_goals try simp only [bp_iff, bpF, dec_bp] at *
  all_goals first | exact (bp_true ⟨by assumption, by simp [aggP, *]⟩).symm | exact (bp_false (by simp [aggP, *])).symm | exact bp_congr (by simp [aggP, *])
theorem leafQ_38 {N : Int} {s : SigL} (hf : foundP ⟨38, N⟩ s) : FCall Tryz.prog n_ref10_leaf [.agg (NodeL.mk 38 N).row, .agg s.row] (· = .tup [.agg (leafT ⟨38, N⟩ s).row, .bool (bp (validT (leafT ⟨38, N⟩ s) s.enums.length ∧ aggP 38 (leafT ⟨38, N⟩ s).k))]) := by
  have h : 0 ≤ N ∧ N < s.mems.length := (hf.2.2.2.2.2.2 (by simp)).2
  obtain ⟨j, rfl⟩ : ∃ j : Nat, N = j := ⟨N.toNat, by omega⟩
  have hj : j < s.mems.length := by omega
  have hx := tysV_get hj
  have ht : leafT ⟨38, j⟩ s = s.mems[j] := by simp [leafT, tyAt_nat hj]
  rw [ht]
  refine FCall.walk u_ref10_leaf k_ref10_leaf rfl ?_
  unfold c_ref10_leaf
  simp only [go_sem, simprocAttr, NodeL.row, SigL.row, Int.toNat_natCast, hx]
  repeat' first
    | apply And.intro <;> intro h
    | ((refine FCallT.of (validTR_call (t := s.mems[j]) (en := s.enums)) ?_; rintro _ rfl); simp only [go_sem, simprocAttr, TyL.row])
  all_goals refine tup2 rfl rfl ?_
  all_goals try simp only [bp_iff, bpF, dec_bp] at *
  all_goals first | exact (bp_true ⟨by assumption, by simp [aggP, *]⟩).symm | exact (bp_false (by simp [aggP, *])).symm | exact bp_congr (by simp [aggP, *])
theorem leafQ_39 {N : Int} {s : SigL} (hf : foundP ⟨39, N⟩ s) : FCall Tryz.prog n_ref10_leaf [.agg (NodeL.mk 39 N).row, .agg s.row] (· = .tup [.agg (leafT ⟨39, N⟩ s).row, .bool (bp (validT (leafT ⟨39, N⟩ s) s.enums.length ∧ aggP 39 (leafT ⟨39, N⟩ s).k))]) := by
  have h : 0 ≤ N ∧ N < s.mems.length := (hf.2.2.2.2.2.2 (by simp)).2
  obtain ⟨j, rfl⟩ : ∃ j : Nat, N = j := ⟨N.toNat, by omega⟩
  have hj : j < s.mems.length := by omega
  have hx := tysV_get hj
  have ht : leafT ⟨39, j⟩ s = s.mems[j] := by simp [leafT, tyAt_nat hj]
  rw [ht]
  refine FCall.walk u_ref10_leaf k_ref10_leaf rfl ?_
  unfold c_ref10_leaf
  simp only [go_sem, simprocAttr, NodeL.row, SigL.row, Int.toNat_natCast, hx]
  repeat' first
    | apply And.intro <;> intro h
    | ((first
      | (refine FCallT.of (validTR_call (t := s.mems[j]) (en := s.enums)) ?_; rintro _ rfl)
      | (refine FCallT.of (orderedR_call) ?_; rintro _ rfl)); simp only [go_sem, simprocAttr, TyL.row])
  all_goals refine tup2 rfl rfl ?_
  all_goals try simp only [bp_iff, bpF, dec_bp] at *
  all_goals first | exact (bp_true ⟨by assumption, by simp [aggP, *]⟩).symm | exact (bp_false (by simp [aggP, *])).symm | exact bp_congr (by simp [aggP, *])
theorem leafQ_9 {N : Int} {s : SigL} : FCall Tryz.prog n_ref10_leaf [.agg (NodeL.mk 9 N).row, .agg s.row] (· = .tup [.agg (leafT ⟨9, N⟩ s).row, .bool (bp (validT (leafT ⟨9, N⟩ s) s.enums.length ∧ aggP 9 (leafT ⟨9, N⟩ s).k))]) := by
  have ht : leafT ⟨9, N⟩ s = ⟨5, 0⟩ := by simp [leafT, kindT]
  rw [ht]
  refine FCall.walk u_ref10_leaf k_ref10_leaf rfl ?_
  unfold c_ref10_leaf
  simp only [go_sem, simprocAttr, NodeL.row, SigL.row]
  repeat' first
    | apply And.intro <;> intro h
    | ((first
      | (refine FCallT.of (kindR_call) ?_; rintro _ rfl)
      | (refine FCallT.of (validTR_call (t := ⟨5, 0⟩) (en := s.enums)) ?_; rintro _ rfl)); simp only [go_sem, simprocAttr, TyL.row])
  all_goals refine tup2 rfl rfl ?_
  all_goals exact bp_congr (by simp [aggP])
theorem leafQ_35 {N : Int} {s : SigL} : FCall Tryz.prog n_ref10_leaf [.agg (NodeL.mk 35 N).row, .agg s.row] (· = .tup [.agg (leafT ⟨35, N⟩ s).row, .bool (bp (validT (leafT ⟨35, N⟩ s) s.enums.length ∧ aggP 35 (leafT ⟨35, N⟩ s).k))]) := by
  have ht : leafT ⟨35, N⟩ s = ⟨2, 0⟩ := by simp [leafT, kindT]
  rw [ht]
  refine FCall.walk u_ref10_leaf k_ref10_leaf rfl ?_
  unfold c_ref10_leaf
  simp only [go_sem, simprocAttr, NodeL.row, SigL.row]
  repeat' first
    | apply And.intro <;> intro h
    | ((first
      | (refine FCallT.of (kindR_call) ?_; rintro _ rfl)
      | (refine FCallT.of (validTR_call (t := ⟨2, 0⟩) (en := s.enums)) ?_; rintro _ rfl)); simp only [go_sem, simprocAttr, TyL.row])
  all_goals refine tup2 rfl rfl ?_
  all_goals exact bp_congr (by simp [aggP])
theorem leafQ_6 {N : Int} {s : SigL} (h0 : 0 ≤ N) (hI : I64 N) : FCall Tryz.prog n_ref10_leaf [.agg (NodeL.mk 6 N).row, .agg s.row] (· = .tup [.agg (leafT ⟨6, N⟩ s).row, .bool (bp (validT (leafT ⟨6, N⟩ s) s.enums.length ∧ aggP 6 (leafT ⟨6, N⟩ s).k))]) := by
  have ht : leafT ⟨6, N⟩ s = ⟨6, N / 16⟩ := by simp [leafT]
  rw [ht]
  refine FCall.walk u_ref10_leaf k_ref10_leaf rfl ?_
  unfold c_ref10_leaf
  simp only [go_sem, simprocAttr, NodeL.row, SigL.row, quo_pos h0 hI (show (0 : Int) < 16 by decide)]
  repeat' first
    | apply And.intro <;> intro h
    | ((refine FCallT.of (validTR_call (t := ⟨6, N / 16⟩) (en := s.enums)) ?_; rintro _ rfl); simp only [go_sem, simprocAttr, TyL.row])
  all_goals refine tup2 rfl rfl ?_
  all_goals exact bp_congr (by simp [aggP])
theorem leafQ_lit {op N : Int} {s : SigL} (hop : 1 ≤ op ∧ op ≤ 5) : FCall Tryz.prog n_ref10_leaf [.agg (NodeL.mk op N).row, .agg s.row] (· = .tup [.agg (leafT ⟨op, N⟩ s).row, .bool (bp (validT (leafT ⟨op, N⟩ s) s.enums.length ∧ aggP op (leafT ⟨op, N⟩ s).k))]) := by
  have ht : leafT ⟨op, N⟩ s = ⟨op, 0⟩ := by unfold leafT kindT; simp only; repeat' (first | rw [if_neg (by omega)])
  have ha : aggP op op := by unfold aggP; omega
  rw [ht]
  refine FCall.walk u_ref10_leaf k_ref10_leaf rfl ?_
  unfold c_ref10_leaf
  simp only [go_sem, simprocAttr, NodeL.row, SigL.row]
  repeat' first
    | apply And.intro <;> intro h
    | ((first
      | (refine FCallT.of (kindR_call) ?_; rintro _ rfl)
      | (refine FCallT.of (validTR_call (t := ⟨op, 0⟩) (en := s.enums)) ?_; rintro _ rfl)); simp only [go_sem, simprocAttr, TyL.row])
  all_goals first | (exfalso; omega) | skip
  all_goals refine tup2 rfl rfl ?_
  all_goals exact bp_congr (by simp [ha])
theorem leafQ_call {n : NodeL} {s : SigL} (ha : arityZ n.op = 0) (hr : rangedP n) (hf : foundP n s) (hI : I64 n.n) : FCall Tryz.prog n_ref10_leaf [.agg n.row, .agg s.row] (· = .tup [.agg (leafT n s).row, .bool (bp (validT (leafT n s) s.enums.length ∧ aggP n.op (leafT n s).k))]) := by
  obtain ⟨op, N⟩ := n
  simp only at ha hI
  have hop : (1 ≤ op ∧ op ≤ 9) ∨ (35 ≤ op ∧ op ≤ 39) := by unfold arityZ at ha; (repeat' split at ha) <;> omega
  by_cases h5 : 1 ≤ op ∧ op ≤ 5
  · exact leafQ_lit h5
  · have hc : op = 6 ∨ op = 7 ∨ op = 8 ∨ op = 9 ∨ op = 35 ∨ op = 36 ∨ op = 37 ∨ op = 38 ∨ op = 39 := by omega
    rcases hc with rfl | rfl | rfl | rfl | rfl | rfl | rfl | rfl | rfl
    · exact leafQ_6 (hr.2.2.2 rfl) hI
    · exact leafQ_7 hf
    · exact leafQ_8 hf
    · exact leafQ_9
    · exact leafQ_35
    · exact leafQ_36 hf
    · exact leafQ_37 hf
    · exact leafQ_38 hf
    · exact leafQ_39 hf
end Go.Fx.Tryz
set_option linter.unusedVariables false
set_option linter.unusedSimpArgs false
namespace Go.Fx.Tryz
open Go Go.Fm Go.Proofs
theorem single_10 {N : Int} {a : TyL} {s : SigL} : FCall Tryz.prog n_ref10_single [.agg (NodeL.mk 10 N).row, .agg a.row, .agg s.row] (· = .tup [.agg (unT ⟨10, N⟩ a s).1.row, .bool (unT ⟨10, N⟩ a s).2]) := by
  obtain ⟨ak, ae⟩ := a
  refine FCall.walk u_ref10_single k_ref10_single rfl ?_
  unfold c_ref10_single
  simp only [go_sem, simprocAttr, NodeL.row, SigL.row, TyL.row]
  repeat' first
    | apply And.intro <;> intro h
    | (refine detCall_of _ (numberR_call) ?_; simp only [go_sem, simprocAttr, TyL.row])
  all_goals refine tup2 ?_ ?_ ?_
  all_goals simp only [unT, binT, scT, kindT, reduceIte, Int.reduceEq, true_or, or_true, false_or, or_false, bp_iff, bpF, TyL.mk.injEq] at *
  all_goals (try simp only [Bool.and_eq_true, Bool.and_eq_false_iff, decide_eq_true_eq, decide_eq_false_iff_not] at *)
  all_goals first | rfl | (rw [Bool.eq_iff_iff]; simp only [bp_iff, decide_eq_true_eq, Bool.and_eq_true, Bool.false_eq_true, TyL.mk.injEq]; done) | (rw [Bool.eq_iff_iff]; simp only [bp_iff, decide_eq_true_eq, Bool.and_eq_true, Bool.false_eq_true, TyL.mk.injEq]; (try simp only [numK, ordK] at *); omega) | exact (decide_eq_false (by simp only [numK, ordK, TyL.mk.injEq]; omega)).symm | (simp [*, numK, ordK, bp_iff]; done)
theorem single_25 {N : Int} {a : TyL} {s : SigL} : FCall Tryz.prog n_ref10_single [.agg (NodeL.mk 25 N).row, .agg a.row, .agg s.row] (· = .tup [.agg (unT ⟨25, N⟩ a s).1.row, .bool (unT ⟨25, N⟩ a s).2]) := by
  obtain ⟨ak, ae⟩ := a
  refine FCall.walk u_ref10_single k_ref10_single rfl ?_
  unfold c_ref10_single
  simp only [go_sem, simprocAttr, NodeL.row, SigL.row, TyL.row]
  repeat' first
    | apply And.intro <;> intro h
  all_goals refine tup2 ?_ ?_ ?_
  all_goals simp only [unT, binT, scT, kindT, reduceIte, Int.reduceEq, true_or, or_true, false_or, or_false, bp_iff, bpF, TyL.mk.injEq] at *
  all_goals (try simp only [Bool.and_eq_true, Bool.and_eq_false_iff, decide_eq_true_eq, decide_eq_false_iff_not] at *)
  all_goals first | rfl | (rw [Bool.eq_iff_iff]; simp only [bp_iff, decide_eq_true_eq, Bool.and_eq_true, Bool.false_eq_true, TyL.mk.injEq]; done) | (rw [Bool.eq_iff_iff]; simp only [bp_iff, decide_eq_true_eq, Bool.and_eq_true, Bool.false_eq_true, TyL.mk.injEq]; (try simp only [numK, ordK] at *); omega) | exact (decide_eq_false (by simp only [numK, ordK, TyL.mk.injEq]; omega)).symm | (simp [*, numK, ordK, bp_iff]; done)
theorem single_31 {N : Int} {a : TyL} {s : SigL} : FCall Tryz.prog n_ref10_single [.agg (NodeL.mk 31 N).row, .agg a.row, .agg s.row] (· = .tup [.agg (unT ⟨31, N⟩ a s).1.row, .bool (unT ⟨31, N⟩ a s).2]) := by
  obtain ⟨ak, ae⟩ := a
  refine FCall.walk u_ref10_single k_ref10_single rfl ?_
  unfold c_ref10_single
  simp only [go_sem, simprocAttr, NodeL.row, SigL.row, TyL.row]
  repeat' first
    | apply And.intro <;> intro h
    | (refine detCall_of _ (kindR_call) ?_; simp only [go_sem, simprocAttr, TyL.row])
  all_goals refine tup2 ?_ ?_ ?_
  all_goals simp only [unT, binT, scT, kindT, reduceIte, Int.reduceEq, true_or, or_true, false_or, or_false, bp_iff, bpF, TyL.mk.injEq] at *
  all_goals (try simp only [Bool.and_eq_true, Bool.and_eq_false_iff, decide_eq_true_eq, decide_eq_false_iff_not] at *)
  all_goals first | rfl | (rw [Bool.eq_iff_iff]; simp only [bp_iff, decide_eq_true_eq, Bool.and_eq_true, Bool.false_eq_true, TyL.mk.injEq]; done) | (rw [Bool.eq_iff_iff]; simp only [bp_iff, decide_eq_true_eq, Bool.and_eq_true, Bool.false_eq_true, TyL.mk.injEq]; (try simp only [numK, ordK] at *); omega) | exact (decide_eq_false (by simp only [numK, ordK, TyL.mk.injEq]; omega)).symm | (simp [*, numK, ordK, bp_iff]; done)
theorem single_32 {N : Int} {a : TyL} {s : SigL} : FCall Tryz.prog n_ref10_single [.agg (NodeL.mk 32 N).row, .agg a.row, .agg s.row] (· = .tup [.agg (unT ⟨32, N⟩ a s).1.row, .bool (unT ⟨32, N⟩ a s).2]) := by
  obtain ⟨ak, ae⟩ := a
  refine FCall.walk u_ref10_single k_ref10_single rfl ?_
  unfold c_ref10_single
  simp only [go_sem, simprocAttr, NodeL.row, SigL.row, TyL.row]
  repeat' first
    | apply And.intro <;> intro h
    | (refine detCall_of _ (kindR_call) ?_; simp only [go_sem, simprocAttr, TyL.row])
  all_goals refine tup2 ?_ ?_ ?_
  all_goals simp only [unT, binT, scT, kindT, reduceIte, Int.reduceEq, true_or, or_true, false_or, or_false, bp_iff, bpF, TyL.mk.injEq] at *
  all_goals (try simp only [Bool.and_eq_true, Bool.and_eq_false_iff, decide_eq_true_eq, decide_eq_false_iff_not] at *)
  all_goals first | rfl | (rw [Bool.eq_iff_iff]; simp only [bp_iff, decide_eq_true_eq, Bool.and_eq_true, Bool.false_eq_true, TyL.mk.injEq]; done) | (rw [Bool.eq_iff_iff]; simp only [bp_iff, decide_eq_true_eq, Bool.and_eq_true, Bool.false_eq_true, TyL.mk.injEq]; (try simp only [numK, ordK] at *); omega) | exact (decide_eq_false (by simp only [numK, ordK, TyL.mk.injEq]; omega)).symm | (simp [*, numK, ordK, bp_iff]; done)
theorem scaled_13 {a b : Int} : FCall Tryz.prog n_ref10_scaled [.int .i64 13, .int .i64 a, .int .i64 b] (· = .tup [.agg (scT 13 a b).1.row, .bool (scT 13 a b).2]) := by
  refine FCall.walk u_ref10_scaled k_ref10_scaled rfl ?_
  unfold c_ref10_scaled
  simp only [go_sem, simprocAttr]
  repeat' first
    | apply And.intro <;> intro h
    | ((refine FCallT.of (kindR_call) ?_; rintro _ rfl); simp only [go_sem, simprocAttr, TyL.row])
  all_goals refine tup2 ?_ ?_ ?_
  all_goals simp only [unT, binT, scT, kindT, reduceIte, Int.reduceEq, true_or, or_true, false_or, or_false, bp_iff, bpF, TyL.mk.injEq] at *
  all_goals (try simp only [Bool.and_eq_true, Bool.and_eq_false_iff, decide_eq_true_eq, decide_eq_false_iff_not] at *)
  all_goals first | rfl | (rw [Bool.eq_iff_iff]; simp only [bp_iff, decide_eq_true_eq, Bool.and_eq_true, Bool.false_eq_true, TyL.mk.injEq]; done) | (rw [Bool.eq_iff_iff]; simp only [bp_iff, decide_eq_true_eq, Bool.and_eq_true, Bool.false_eq_true, TyL.mk.injEq]; (try simp only [numK, ordK] at *); omega) | exact (decide_eq_false (by simp only [numK, ordK, TyL.mk.injEq]; omega)).symm | (simp [*, numK, ordK, bp_iff]; done)
theorem scaled_14 {a b : Int} : FCall Tryz.prog n_ref10_scaled [.int .i64 14, .int .i64 a, .int .i64 b] (· = .tup [.agg (scT 14 a b).1.row, .bool (scT 14 a b).2]) := by
  refine FCall.walk u_ref10_scaled k_ref10_scaled rfl ?_
  unfold c_ref10_scaled
  simp only [go_sem, simprocAttr]
  repeat' first
    | apply And.intro <;> intro h
    | ((refine FCallT.of (kindR_call) ?_; rintro _ rfl); simp only [go_sem, simprocAttr, TyL.row])
  all_goals refine tup2 ?_ ?_ ?_
  all_goals simp only [unT, binT, scT, kindT, reduceIte, Int.reduceEq, true_or, or_true, false_or, or_false, bp_iff, bpF, TyL.mk.injEq] at *
  all_goals (try simp only [Bool.and_eq_true, Bool.and_eq_false_iff, decide_eq_true_eq, decide_eq_false_iff_not] at *)
  all_goals first | rfl | (rw [Bool.eq_iff_iff]; simp only [bp_iff, decide_eq_true_eq, Bool.and_eq_true, Bool.false_eq_true, TyL.mk.injEq]; done) | (rw [Bool.eq_iff_iff]; simp only [bp_iff, decide_eq_true_eq, Bool.and_eq_true, Bool.false_eq_true, TyL.mk.injEq]; (try simp only [numK, ordK] at *); omega) | exact (decide_eq_false (by simp only [numK, ordK, TyL.mk.injEq]; omega)).symm | (simp [*, numK, ordK, bp_iff]; done)
theorem scaled_15 {a b : Int} : FCall Tryz.prog n_ref10_scaled [.int .i64 15, .int .i64 a, .int .i64 b] (· = .tup [.agg (scT 15 a b).1.row, .bool (scT 15 a b).2]) := by
  refine FCall.walk u_ref10_scaled k_ref10_scaled rfl ?_
  unfold c_ref10_scaled
  simp only [go_sem, simprocAttr]
  repeat' first
    | apply And.intro <;> intro h
    | ((refine FCallT.of (kindR_call) ?_; rintro _ rfl); simp only [go_sem, simprocAttr, TyL.row])
  all_goals refine tup2 ?_ ?_ ?_
  all_goals simp only [unT, binT, scT, kindT, reduceIte, Int.reduceEq, true_or, or_true, false_or, or_false, bp_iff, bpF, TyL.mk.injEq] at *
  all_goals (try simp only [Bool.and_eq_true, Bool.and_eq_false_iff, decide_eq_true_eq, decide_eq_false_iff_not] at *)
  all_goals first | rfl | (rw [Bool.eq_iff_iff]; simp only [bp_iff, decide_eq_true_eq, Bool.and_eq_true, Bool.false_eq_true, TyL.mk.injEq]; done) | (rw [Bool.eq_iff_iff]; simp only [bp_iff, decide_eq_true_eq, Bool.and_eq_true, Bool.false_eq_true, TyL.mk.injEq]; (try simp only [numK, ordK] at *); omega) | exact (decide_eq_false (by simp only [numK, ordK, TyL.mk.injEq]; omega)).symm | (simp [*, numK, ordK, bp_iff]; done)
theorem double_11 {a b : TyL} : FCall Tryz.prog n_ref10_double [.int .i64 11, .agg a.row, .agg b.row] (· = .tup [.agg (binT 11 a b).1.row, .bool (binT 11 a b).2]) := by
  obtain ⟨ak, ae⟩ := a
  obtain ⟨bk, be⟩ := b
  refine FCall.walk u_ref10_double k_ref10_double rfl ?_
  unfold c_ref10_double
  simp only [go_sem, simprocAttr, TyL.row]
  repeat' first
    | apply And.intro <;> intro h
    | (refine detCall_of _ (numberR_call) ?_; simp only [go_sem, simprocAttr, TyL.row])
  all_goals refine tup2 ?_ ?_ ?_
  all_goals simp only [unT, binT, scT, kindT, reduceIte, Int.reduceEq, true_or, or_true, false_or, or_false, bp_iff, bpF, TyL.mk.injEq] at *
  all_goals (try simp only [Bool.and_eq_true, Bool.and_eq_false_iff, decide_eq_true_eq, decide_eq_false_iff_not] at *)
  all_goals first | rfl | (rw [Bool.eq_iff_iff]; simp only [bp_iff, decide_eq_true_eq, Bool.and_eq_true, Bool.false_eq_true, TyL.mk.injEq]; done) | (rw [Bool.eq_iff_iff]; simp only [bp_iff, decide_eq_true_eq, Bool.and_eq_true, Bool.false_eq_true, TyL.mk.injEq]; (try simp only [numK, ordK] at *); omega) | exact (decide_eq_false (by simp only [numK, ordK, TyL.mk.injEq]; omega)).symm | (simp [*, numK, ordK, bp_iff]; done)
theorem double_12 {a b : TyL} : FCall Tryz.prog n_ref10_double [.int .i64 12, .agg a.row, .agg b.row] (· = .tup [.agg (binT 12 a b).1.row, .bool (binT 12 a b).2]) := by
  obtain ⟨ak, ae⟩ := a
  obtain ⟨bk, be⟩ := b
  refine FCall.walk u_ref10_double k_ref10_double rfl ?_
  unfold c_ref10_double
  simp only [go_sem, simprocAttr, TyL.row]
  repeat' first
    | apply And.intro <;> intro h
    | (refine detCall_of _ (numberR_call) ?_; simp only [go_sem, simprocAttr, TyL.row])
  all_goals refine tup2 ?_ ?_ ?_
  all_goals simp only [unT, binT, scT, kindT, reduceIte, Int.reduceEq, true_or, or_true, false_or, or_false, bp_iff, bpF, TyL.mk.injEq] at *
  all_goals (try simp only [Bool.and_eq_true, Bool.and_eq_false_iff, decide_eq_true_eq, decide_eq_false_iff_not] at *)
  all_goals first | rfl | (rw [Bool.eq_iff_iff]; simp only [bp_iff, decide_eq_true_eq, Bool.and_eq_true, Bool.false_eq_true, TyL.mk.injEq]; done) | (rw [Bool.eq_iff_iff]; simp only [bp_iff, decide_eq_true_eq, Bool.and_eq_true, Bool.false_eq_true, TyL.mk.injEq]; (try simp only [numK, ordK] at *); omega) | exact (decide_eq_false (by simp only [numK, ordK, TyL.mk.injEq]; omega)).symm | (simp [*, numK, ordK, bp_iff]; done)
theorem double_13 {a b : TyL} : FCall Tryz.prog n_ref10_double [.int .i64 13, .agg a.row, .agg b.row] (· = .tup [.agg (binT 13 a b).1.row, .bool (binT 13 a b).2]) := by
  obtain ⟨ak, ae⟩ := a
  obtain ⟨bk, be⟩ := b
  refine FCall.walk u_ref10_double k_ref10_double rfl ?_
  unfold c_ref10_double
  simp only [go_sem, simprocAttr, TyL.row]
  repeat' first
    | apply And.intro <;> intro h
    | ((refine FCallT.of (scaled_13) ?_; rintro _ rfl); simp only [go_sem, simprocAttr, TyL.row])
  all_goals refine tup2 ?_ ?_ ?_
  all_goals simp only [unT, binT, scT, kindT, reduceIte, Int.reduceEq, true_or, or_true, false_or, or_false, bp_iff, bpF, TyL.mk.injEq] at *
  all_goals (try simp only [Bool.and_eq_true, Bool.and_eq_false_iff, decide_eq_true_eq, decide_eq_false_iff_not] at *)
  all_goals first | rfl | (rw [Bool.eq_iff_iff]; simp only [bp_iff, decide_eq_true_eq, Bool.and_eq_true, Bool.false_eq_true, TyL.mk.injEq]; done) | (rw [Bool.eq_iff_iff]; simp only [bp_iff, decide_eq_true_eq, Bool.and_eq_true, Bool.false_eq_true, TyL.mk.injEq]; (try simp only [numK, ordK] at *); omega) | exact (decide_eq_false (by simp only [numK, ordK, TyL.mk.injEq]; omega)).symm | (simp [*, numK, ordK, bp_iff]; done)
theorem double_14 {a b : TyL} : FCall Tryz.prog n_ref10_double [.int .i64 14, .agg a.row, .agg b.row] (· = .tup [.agg (binT 14 a b).1.row, .bool (binT 14 a b).2]) := by
  obtain ⟨ak, ae⟩ := a
  obtain ⟨bk, be⟩ := b
  refine FCall.walk u_ref10_double k_ref10_double rfl ?_
  unfold c_ref10_double
  simp only [go_sem, simprocAttr, TyL.row]
  repeat' first
    | apply And.intro <;> intro h
    | ((refine FCallT.of (scaled_14) ?_; rintro _ rfl); simp only [go_sem, simprocAttr, TyL.row])
  all_goals refine tup2 ?_ ?_ ?_
  all_goals simp only [unT, binT, scT, kindT, reduceIte, Int.reduceEq, true_or, or_true, false_or, or_false, bp_iff, bpF, TyL.mk.injEq] at *
  all_goals (try simp only [Bool.and_eq_true, Bool.and_eq_false_iff, decide_eq_true_eq, decide_eq_false_iff_not] at *)
  all_goals first | rfl | (rw [Bool.eq_iff_iff]; simp only [bp_iff, decide_eq_true_eq, Bool.and_eq_true, Bool.false_eq_true, TyL.mk.injEq]; done) | (rw [Bool.eq_iff_iff]; simp only [bp_iff, decide_eq_true_eq, Bool.and_eq_true, Bool.false_eq_true, TyL.mk.injEq]; (try simp only [numK, ordK] at *); omega) | exact (decide_eq_false (by simp only [numK, ordK, TyL.mk.injEq]; omega)).symm | (simp [*, numK, ordK, bp_iff]; done)
theorem double_15 {a b : TyL} : FCall Tryz.prog n_ref10_double [.int .i64 15, .agg a.row, .agg b.row] (· = .tup [.agg (binT 15 a b).1.row, .bool (binT 15 a b).2]) := by
  obtain ⟨ak, ae⟩ := a
  obtain ⟨bk, be⟩ := b
  refine FCall.walk u_ref10_double k_ref10_double rfl ?_
  unfold c_ref10_double
  simp only [go_sem, simprocAttr, TyL.row]
  repeat' first
    | apply And.intro <;> intro h
    | ((refine FCallT.of (scaled_15) ?_; rintro _ rfl); simp only [go_sem, simprocAttr, TyL.row])
  all_goals refine tup2 ?_ ?_ ?_
  all_goals simp only [unT, binT, scT, kindT, reduceIte, Int.reduceEq, true_or, or_true, false_or, or_false, bp_iff, bpF, TyL.mk.injEq] at *
  all_goals (try simp only [Bool.and_eq_true, Bool.and_eq_false_iff, decide_eq_true_eq, decide_eq_false_iff_not] at *)
  all_goals first | rfl | (rw [Bool.eq_iff_iff]; simp only [bp_iff, decide_eq_true_eq, Bool.and_eq_true, Bool.false_eq_true, TyL.mk.injEq]; done) | (rw [Bool.eq_iff_iff]; simp only [bp_iff, decide_eq_true_eq, Bool.and_eq_true, Bool.false_eq_true, TyL.mk.injEq]; (try simp only [numK, ordK] at *); omega) | exact (decide_eq_false (by simp only [numK, ordK, TyL.mk.injEq]; omega)).symm | (simp [*, numK, ordK, bp_iff]; done)
theorem double_16 {a b : TyL} : FCall Tryz.prog n_ref10_double [.int .i64 16, .agg a.row, .agg b.row] (· = .tup [.agg (binT 16 a b).1.row, .bool (binT 16 a b).2]) := by
  obtain ⟨ak, ae⟩ := a
  obtain ⟨bk, be⟩ := b
  refine FCall.walk u_ref10_double k_ref10_double rfl ?_
  unfold c_ref10_double
  simp only [go_sem, simprocAttr, TyL.row]
  repeat' first
    | apply And.intro <;> intro h
  all_goals refine tup2 ?_ ?_ ?_
  all_goals simp only [unT, binT, scT, kindT, reduceIte, Int.reduceEq, true_or, or_true, false_or, or_false, bp_iff, bpF, TyL.mk.injEq] at *
  all_goals (try simp only [Bool.and_eq_true, Bool.and_eq_false_iff, decide_eq_true_eq, decide_eq_false_iff_not] at *)
  all_goals first | rfl | (rw [Bool.eq_iff_iff]; simp only [bp_iff, decide_eq_true_eq, Bool.and_eq_true, Bool.false_eq_true, TyL.mk.injEq]; done) | (rw [Bool.eq_iff_iff]; simp only [bp_iff, decide_eq_true_eq, Bool.and_eq_true, Bool.false_eq_true, TyL.mk.injEq]; (try simp only [numK, ordK] at *); omega) | exact (decide_eq_false (by simp only [numK, ordK, TyL.mk.injEq]; omega)).symm | (simp [*, numK, ordK, bp_iff]; done)
theorem double_17 {a b : TyL} : FCall Tryz.prog n_ref10_double [.int .i64 17, .agg a.row, .agg b.row] (· = .tup [.agg (binT 17 a b).1.row, .bool (binT 17 a b).2]) := by
  obtain ⟨ak, ae⟩ := a
  obtain ⟨bk, be⟩ := b
  refine FCall.walk u_ref10_double k_ref10_double rfl ?_
  unfold c_ref10_double
  simp only [go_sem, simprocAttr, TyL.row]
  repeat' first
    | apply And.intro <;> intro h
    | (refine detCall_of _ (orderedR_call) ?_; simp only [go_sem, simprocAttr, TyL.row])
  all_goals refine tup2 ?_ ?_ ?_
  all_goals simp only [unT, binT, scT, kindT, reduceIte, Int.reduceEq, true_or, or_true, false_or, or_false, bp_iff, bpF, TyL.mk.injEq] at *
  all_goals (try simp only [Bool.and_eq_true, Bool.and_eq_false_iff, decide_eq_true_eq, decide_eq_false_iff_not] at *)
  all_goals first | rfl | (rw [Bool.eq_iff_iff]; simp only [bp_iff, decide_eq_true_eq, Bool.and_eq_true, Bool.false_eq_true, TyL.mk.injEq]; done) | (rw [Bool.eq_iff_iff]; simp only [bp_iff, decide_eq_true_eq, Bool.and_eq_true, Bool.false_eq_true, TyL.mk.injEq]; (try simp only [numK, ordK] at *); omega) | exact (decide_eq_false (by simp only [numK, ordK, TyL.mk.injEq]; omega)).symm | (simp [*, numK, ordK, bp_iff]; done)
theorem double_18 {a b : TyL} : FCall Tryz.prog n_ref10_double [.int .i64 18, .agg a.row, .agg b.row] (· = .tup [.agg (binT 18 a b).1.row, .bool (binT 18 a b).2]) := by
  obtain ⟨ak, ae⟩ := a
  obtain ⟨bk, be⟩ := b
  refine FCall.walk u_ref10_double k_ref10_double rfl ?_
  unfold c_ref10_double
  simp only [go_sem, simprocAttr, TyL.row]
  repeat' first
    | apply And.intro <;> intro h
    | (refine detCall_of _ (orderedR_call) ?_; simp only [go_sem, simprocAttr, TyL.row])
  all_goals refine tup2 ?_ ?_ ?_
  all_goals simp only [unT, binT, scT, kindT, reduceIte, Int.reduceEq, true_or, or_true, false_or, or_false, bp_iff, bpF, TyL.mk.injEq] at *
  all_goals (try simp only [Bool.and_eq_true, Bool.and_eq_false_iff, decide_eq_true_eq, decide_eq_false_iff_not] at *)
  all_goals first | rfl | (rw [Bool.eq_iff_iff]; simp only [bp_iff, decide_eq_true_eq, Bool.and_eq_true, Bool.false_eq_true, TyL.mk.injEq]; done) | (rw [Bool.eq_iff_iff]; simp only [bp_iff, decide_eq_true_eq, Bool.and_eq_true, Bool.false_eq_true, TyL.mk.injEq]; (try simp only [numK, ordK] at *); omega) | exact (decide_eq_false (by simp only [numK, ordK, TyL.mk.injEq]; omega)).symm | (simp [*, numK, ordK, bp_iff]; done)
theorem double_19 {a b : TyL} : FCall Tryz.prog n_ref10_double [.int .i64 19, .agg a.row, .agg b.row] (· = .tup [.agg (binT 19 a b).1.row, .bool (binT 19 a b).2]) := by
  obtain ⟨ak, ae⟩ := a
  obtain ⟨bk, be⟩ := b
  refine FCall.walk u_ref10_double k_ref10_double rfl ?_
  unfold c_ref10_double
  simp only [go_sem, simprocAttr, TyL.row]
  repeat' first
    | apply And.intro <;> intro h
    | (refine detCall_of _ (kindR_call) ?_; simp only [go_sem, simprocAttr, TyL.row])
  all_goals refine tup2 ?_ ?_ ?_
  all_goals simp only [unT, binT, scT, kindT, reduceIte, Int.reduceEq, true_or, or_true, false_or, or_false, bp_iff, bpF, TyL.mk.injEq] at *
  all_goals (try simp only [Bool.and_eq_true, Bool.and_eq_false_iff, decide_eq_true_eq, decide_eq_false_iff_not] at *)
  all_goals first | rfl | (rw [Bool.eq_iff_iff]; simp only [bp_iff, decide_eq_true_eq, Bool.and_eq_true, Bool.false_eq_true, TyL.mk.injEq]; done) | (rw [Bool.eq_iff_iff]; simp only [bp_iff, decide_eq_true_eq, Bool.and_eq_true, Bool.false_eq_true, TyL.mk.injEq]; (try simp only [numK, ordK] at *); omega) | exact (decide_eq_false (by simp only [numK, ordK, TyL.mk.injEq]; omega)).symm | (simp [*, numK, ordK, bp_iff]; done)
theorem double_20 {a b : TyL} : FCall Tryz.prog n_ref10_double [.int .i64 20, .agg a.row, .agg b.row] (· = .tup [.agg (binT 20 a b).1.row, .bool (binT 20 a b).2]) := by
  obtain ⟨ak, ae⟩ := a
  obtain ⟨bk, be⟩ := b
  refine FCall.walk u_ref10_double k_ref10_double rfl ?_
  unfold c_ref10_double
  simp only [go_sem, simprocAttr, TyL.row]
  repeat' first
    | apply And.intro <;> intro h
    | (refine detCall_of _ (kindR_call) ?_; simp only [go_sem, simprocAttr, TyL.row])
  all_goals refine tup2 ?_ ?_ ?_
  all_goals simp only [unT, binT, scT, kindT, reduceIte, Int.reduceEq, true_or, or_true, false_or, or_false, bp_iff, bpF, TyL.mk.injEq] at *
  all_goals (try simp only [Bool.and_eq_true, Bool.and_eq_false_iff, decide_eq_true_eq, decide_eq_false_iff_not] at *)
  all_goals first | rfl | (rw [Bool.eq_iff_iff]; simp only [bp_iff, decide_eq_true_eq, Bool.and_eq_true, Bool.false_eq_true, TyL.mk.injEq]; done) | (rw [Bool.eq_iff_iff]; simp only [bp_iff, decide_eq_true_eq, Bool.and_eq_true, Bool.false_eq_true, TyL.mk.injEq]; (try simp only [numK, ordK] at *); omega) | exact (decide_eq_false (by simp only [numK, ordK, TyL.mk.injEq]; omega)).symm | (simp [*, numK, ordK, bp_iff]; done)
theorem double_21 {a b : TyL} : FCall Tryz.prog n_ref10_double [.int .i64 21, .agg a.row, .agg b.row] (· = .tup [.agg (binT 21 a b).1.row, .bool (binT 21 a b).2]) := by
  obtain ⟨ak, ae⟩ := a
  obtain ⟨bk, be⟩ := b
  refine FCall.walk u_ref10_double k_ref10_double rfl ?_
  unfold c_ref10_double
  simp only [go_sem, simprocAttr, TyL.row]
  repeat' first
    | apply And.intro <;> intro h
    | ((first
      | refine detCall_of _ (kindR_call) ?_
      | refine detCall_of _ (orderedR_call) ?_); simp only [go_sem, simprocAttr, TyL.row])
  all_goals refine tup2 ?_ ?_ ?_
  all_goals simp only [unT, binT, scT, kindT, reduceIte, Int.reduceEq, true_or, or_true, false_or, or_false, bp_iff, bpF, TyL.mk.injEq] at *
  all_goals (try simp only [Bool.and_eq_true, Bool.and_eq_false_iff, decide_eq_true_eq, decide_eq_false_iff_not] at *)
  all_goals first | rfl | (rw [Bool.eq_iff_iff]; simp only [bp_iff, decide_eq_true_eq, Bool.and_eq_true, Bool.false_eq_true, TyL.mk.injEq]; done) | (rw [Bool.eq_iff_iff]; simp only [bp_iff, decide_eq_true_eq, Bool.and_eq_true, Bool.false_eq_true, TyL.mk.injEq]; (try simp only [numK, ordK] at *); omega) | exact (decide_eq_false (by simp only [numK, ordK, TyL.mk.injEq]; omega)).symm | (simp [*, numK, ordK, bp_iff]; done)
theorem double_22 {a b : TyL} : FCall Tryz.prog n_ref10_double [.int .i64 22, .agg a.row, .agg b.row] (· = .tup [.agg (binT 22 a b).1.row, .bool (binT 22 a b).2]) := by
  obtain ⟨ak, ae⟩ := a
  obtain ⟨bk, be⟩ := b
  refine FCall.walk u_ref10_double k_ref10_double rfl ?_
  unfold c_ref10_double
  simp only [go_sem, simprocAttr, TyL.row]
  repeat' first
    | apply And.intro <;> intro h
    | ((first
      | refine detCall_of _ (kindR_call) ?_
      | refine detCall_of _ (orderedR_call) ?_); simp only [go_sem, simprocAttr, TyL.row])
  all_goals refine tup2 ?_ ?_ ?_
  all_goals simp only [unT, binT, scT, kindT, reduceIte, Int.reduceEq, true_or, or_true, false_or, or_false, bp_iff, bpF, TyL.mk.injEq] at *
  all_goals (try simp only [Bool.and_eq_true, Bool.and_eq_false_iff, decide_eq_true_eq, decide_eq_false_iff_not] at *)
  all_goals first | rfl | (rw [Bool.eq_iff_iff]; simp only [bp_iff, decide_eq_true_eq, Bool.and_eq_true, Bool.false_eq_true, TyL.mk.injEq]; done) | (rw [Bool.eq_iff_iff]; simp only [bp_iff, decide_eq_true_eq, Bool.and_eq_true, Bool.false_eq_true, TyL.mk.injEq]; (try simp only [numK, ordK] at *); omega) | exact (decide_eq_false (by simp only [numK, ordK, TyL.mk.injEq]; omega)).symm | (simp [*, numK, ordK, bp_iff]; done)
theorem double_23 {a b : TyL} : FCall Tryz.prog n_ref10_double [.int .i64 23, .agg a.row, .agg b.row] (· = .tup [.agg (binT 23 a b).1.row, .bool (binT 23 a b).2]) := by
  obtain ⟨ak, ae⟩ := a
  obtain ⟨bk, be⟩ := b
  refine FCall.walk u_ref10_double k_ref10_double rfl ?_
  unfold c_ref10_double
  simp only [go_sem, simprocAttr, TyL.row]
  repeat' first
    | apply And.intro <;> intro h
  all_goals refine tup2 ?_ ?_ ?_
  all_goals simp only [unT, binT, scT, kindT, reduceIte, Int.reduceEq, true_or, or_true, false_or, or_false, bp_iff, bpF, TyL.mk.injEq] at *
  all_goals (try simp only [Bool.and_eq_true, Bool.and_eq_false_iff, decide_eq_true_eq, decide_eq_false_iff_not] at *)
  all_goals first | rfl | (rw [Bool.eq_iff_iff]; simp only [bp_iff, decide_eq_true_eq, Bool.and_eq_true, Bool.false_eq_true, TyL.mk.injEq]; done) | (rw [Bool.eq_iff_iff]; simp only [bp_iff, decide_eq_true_eq, Bool.and_eq_true, Bool.false_eq_true, TyL.mk.injEq]; (try simp only [numK, ordK] at *); omega) | exact (decide_eq_false (by simp only [numK, ordK, TyL.mk.injEq]; omega)).symm | (simp [*, numK, ordK, bp_iff]; done)
theorem double_24 {a b : TyL} : FCall Tryz.prog n_ref10_double [.int .i64 24, .agg a.row, .agg b.row] (· = .tup [.agg (binT 24 a b).1.row, .bool (binT 24 a b).2]) := by
  obtain ⟨ak, ae⟩ := a
  obtain ⟨bk, be⟩ := b
  refine FCall.walk u_ref10_double k_ref10_double rfl ?_
  unfold c_ref10_double
  simp only [go_sem, simprocAttr, TyL.row]
  repeat' first
    | apply And.intro <;> intro h
  all_goals refine tup2 ?_ ?_ ?_
  all_goals simp only [unT, binT, scT, kindT, reduceIte, Int.reduceEq, true_or, or_true, false_or, or_false, bp_iff, bpF, TyL.mk.injEq] at *
  all_goals (try simp only [Bool.and_eq_true, Bool.and_eq_false_iff, decide_eq_true_eq, decide_eq_false_iff_not] at *)
  all_goals first | rfl | (rw [Bool.eq_iff_iff]; simp only [bp_iff, decide_eq_true_eq, Bool.and_eq_true, Bool.false_eq_true, TyL.mk.injEq]; done) | (rw [Bool.eq_iff_iff]; simp only [bp_iff, decide_eq_true_eq, Bool.and_eq_true, Bool.false_eq_true, TyL.mk.injEq]; (try simp only [numK, ordK] at *); omega) | exact (decide_eq_false (by simp only [numK, ordK, TyL.mk.injEq]; omega)).symm | (simp [*, numK, ordK, bp_iff]; done)
theorem double_27 {a b : TyL} : FCall Tryz.prog n_ref10_double [.int .i64 27, .agg a.row, .agg b.row] (· = .tup [.agg (binT 27 a b).1.row, .bool (binT 27 a b).2]) := by
  obtain ⟨ak, ae⟩ := a
  obtain ⟨bk, be⟩ := b
  refine FCall.walk u_ref10_double k_ref10_double rfl ?_
  unfold c_ref10_double
  simp only [go_sem, simprocAttr, TyL.row]
  repeat' first
    | apply And.intro <;> intro h
  all_goals refine tup2 ?_ ?_ ?_
  all_goals simp only [unT, binT, scT, kindT, reduceIte, Int.reduceEq, true_or, or_true, false_or, or_false, bp_iff, bpF, TyL.mk.injEq] at *
  all_goals (try simp only [Bool.and_eq_true, Bool.and_eq_false_iff, decide_eq_true_eq, decide_eq_false_iff_not] at *)
  all_goals first | rfl | (rw [Bool.eq_iff_iff]; simp only [bp_iff, decide_eq_true_eq, Bool.and_eq_true, Bool.false_eq_true, TyL.mk.injEq]; done) | (rw [Bool.eq_iff_iff]; simp only [bp_iff, decide_eq_true_eq, Bool.and_eq_true, Bool.false_eq_true, TyL.mk.injEq]; (try simp only [numK, ordK] at *); omega) | exact (decide_eq_false (by simp only [numK, ordK, TyL.mk.injEq]; omega)).symm | (simp [*, numK, ordK, bp_iff]; done)
theorem double_28 {a b : TyL} : FCall Tryz.prog n_ref10_double [.int .i64 28, .agg a.row, .agg b.row] (· = .tup [.agg (binT 28 a b).1.row, .bool (binT 28 a b).2]) := by
  obtain ⟨ak, ae⟩ := a
  obtain ⟨bk, be⟩ := b
  refine FCall.walk u_ref10_double k_ref10_double rfl ?_
  unfold c_ref10_double
  simp only [go_sem, simprocAttr, TyL.row]
  repeat' first
    | apply And.intro <;> intro h
  all_goals refine tup2 ?_ ?_ ?_
  all_goals simp only [unT, binT, scT, kindT, reduceIte, Int.reduceEq, true_or, or_true, false_or, or_false, bp_iff, bpF, TyL.mk.injEq] at *
  all_goals (try simp only [Bool.and_eq_true, Bool.and_eq_false_iff, decide_eq_true_eq, decide_eq_false_iff_not] at *)
  all_goals first | rfl | (rw [Bool.eq_iff_iff]; simp only [bp_iff, decide_eq_true_eq, Bool.and_eq_true, Bool.false_eq_true, TyL.mk.injEq]; done) | (rw [Bool.eq_iff_iff]; simp only [bp_iff, decide_eq_true_eq, Bool.and_eq_true, Bool.false_eq_true, TyL.mk.injEq]; (try simp only [numK, ordK] at *); omega) | exact (decide_eq_false (by simp only [numK, ordK, TyL.mk.injEq]; omega)).symm | (simp [*, numK, ordK, bp_iff]; done)
theorem double_29 {a b : TyL} : FCall Tryz.prog n_ref10_double [.int .i64 29, .agg a.row, .agg b.row] (· = .tup [.agg (binT 29 a b).1.row, .bool (binT 29 a b).2]) := by
  obtain ⟨ak, ae⟩ := a
  obtain ⟨bk, be⟩ := b
  refine FCall.walk u_ref10_double k_ref10_double rfl ?_
  unfold c_ref10_double
  simp only [go_sem, simprocAttr, TyL.row]
  repeat' first
    | apply And.intro <;> intro h
    | (refine detCall_of _ (kindR_call) ?_; simp only [go_sem, simprocAttr, TyL.row])
  all_goals refine tup2 ?_ ?_ ?_
  all_goals simp only [unT, binT, scT, kindT, reduceIte, Int.reduceEq, true_or, or_true, false_or, or_false, bp_iff, bpF, TyL.mk.injEq] at *
  all_goals (try simp only [Bool.and_eq_true, Bool.and_eq_false_iff, decide_eq_true_eq, decide_eq_false_iff_not] at *)
  all_goals first | rfl | (rw [Bool.eq_iff_iff]; simp only [bp_iff, decide_eq_true_eq, Bool.and_eq_true, Bool.false_eq_true, TyL.mk.injEq]; done) | (rw [Bool.eq_iff_iff]; simp only [bp_iff, decide_eq_true_eq, Bool.and_eq_true, Bool.false_eq_true, TyL.mk.injEq]; (try simp only [numK, ordK] at *); omega) | exact (decide_eq_false (by simp only [numK, ordK, TyL.mk.injEq]; omega)).symm | (simp [*, numK, ordK, bp_iff]; done)
theorem double_30 {a b : TyL} : FCall Tryz.prog n_ref10_double [.int .i64 30, .agg a.row, .agg b.row] (· = .tup [.agg (binT 30 a b).1.row, .bool (binT 30 a b).2]) := by
  obtain ⟨ak, ae⟩ := a
  obtain ⟨bk, be⟩ := b
  refine FCall.walk u_ref10_double k_ref10_double rfl ?_
  unfold c_ref10_double
  simp only [go_sem, simprocAttr, TyL.row]
  repeat' first
    | apply And.intro <;> intro h
    | (refine detCall_of _ (kindR_call) ?_; simp only [go_sem, simprocAttr, TyL.row])
  all_goals refine tup2 ?_ ?_ ?_
  all_goals simp only [unT, binT, scT, kindT, reduceIte, Int.reduceEq, true_or, or_true, false_or, or_false, bp_iff, bpF, TyL.mk.injEq] at *
  all_goals (try simp only [Bool.and_eq_true, Bool.and_eq_false_iff, decide_eq_true_eq, decide_eq_false_iff_not] at *)
  all_goals first | rfl | (rw [Bool.eq_iff_iff]; simp only [bp_iff, decide_eq_true_eq, Bool.and_eq_true, Bool.false_eq_true, TyL.mk.injEq]; done) | (rw [Bool.eq_iff_iff]; simp only [bp_iff, decide_eq_true_eq, Bool.and_eq_true, Bool.false_eq_true, TyL.mk.injEq]; (try simp only [numK, ordK] at *); omega) | exact (decide_eq_false (by simp only [numK, ordK, TyL.mk.injEq]; omega)).symm | (simp [*, numK, ordK, bp_iff]; done)
theorem unT_33 {N : Int} {a : TyL} {s : SigL} (h : 0 ≤ N ∧ N < s.tables.length) : FCall Tryz.prog n_ref10_single [.agg (NodeL.mk 33 N).row, .agg a.row, .agg s.row] (· = .tup [.agg (unT ⟨33, N⟩ a s).1.row, .bool (unT ⟨33, N⟩ a s).2]) := by
  obtain ⟨j, rfl⟩ : ∃ j : Nat, N = j := ⟨N.toNat, by omega⟩
  have hj : j < s.tables.length := by omega
  have hx := tablesV_get hj
  have hT : tabAt s.tables (j : Int) = s.tables[j] := by unfold tabAt; rw [Int.toNat_natCast, List.getElem?_eq_getElem hj]; rfl
  generalize s.tables[j] = T at hx hT
  obtain ⟨ak, ae⟩ := a
  have hU : unT ⟨33, j⟩ ⟨ak, ae⟩ s = (⟨T.vk, T.ve⟩, decide (validT ⟨T.kk, T.ke⟩ s.enums.length ∧ validT ⟨T.vk, T.ve⟩ s.enums.length ∧ ak = T.kk ∧ ae = T.ke)) := by simp [unT, hT]
  rw [hU]
  clear hU
  refine FCall.walk u_ref10_single k_ref10_single rfl ?_
  unfold c_ref10_single
  simp only [go_sem, simprocAttr, NodeL.row, SigL.row, TyL.row, Int.toNat_natCast, hx, TableL.row]
  repeat' first
    | apply And.intro <;> intro h
    | ((first
      | refine detCall_of _ (validTR_call (t := ⟨T.kk, T.ke⟩) (en := s.enums)) ?_
      | refine detCall_of _ (validTR_call (t := ⟨T.vk, T.ve⟩) (en := s.enums)) ?_); simp only [go_sem, simprocAttr, TyL.row, Int.toNat_natCast, hx, TableL.row])
  all_goals refine tup2 rfl rfl ?_
  all_goals (try simp only [bp_iff, bpF] at *)
  all_goals first | (simp [*]; done) | (simp_all; done)
theorem unT_34 {N : Int} {a : TyL} {s : SigL} (h0 : 0 ≤ N) (hI : I64 N) (h : N / 8 < s.tables.length) : FCall Tryz.prog n_ref10_single [.agg (NodeL.mk 34 N).row, .agg a.row, .agg s.row] (· = .tup [.agg (unT ⟨34, N⟩ a s).1.row, .bool (unT ⟨34, N⟩ a s).2]) := by
  have h1 : 0 ≤ N / 8 := Int.ediv_nonneg h0 (by decide)
  obtain ⟨j, hj0⟩ : ∃ j : Nat, N / 8 = j := ⟨(N / 8).toNat, by omega⟩
  have hj : j < s.tables.length := by omega
  have hx := tablesV_get hj
  have hT : tabAt s.tables (N / 8) = s.tables[j] := by unfold tabAt; rw [hj0, Int.toNat_natCast, List.getElem?_eq_getElem hj]; rfl
  generalize s.tables[j] = T at hx hT
  obtain ⟨ak, ae⟩ := a
  have hU : unT ⟨34, N⟩ ⟨ak, ae⟩ s = (⟨ak, ae⟩, decide (ak = 3 ∧ T.kk = 3 ∧ T.ke = 0 ∧ T.vk = 4 ∧ T.ve = 0)) := by simp [unT, hT]
  rw [hU]
  clear hU
  refine FCall.walk u_ref10_single k_ref10_single rfl ?_
  unfold c_ref10_single
  simp only [go_sem, simprocAttr, NodeL.row, SigL.row, TyL.row, quo_pos h0 hI (show (0 : Int) < 8 by decide), hj0, Int.toNat_natCast, hx, TableL.row]
  repeat' first
    | apply And.intro <;> intro h
    | (refine detCall_of _ (kindR_call) ?_; simp only [go_sem, simprocAttr, TyL.row])
  all_goals refine tup2 rfl rfl ?_
  all_goals (try simp only [bp_iff, bpF, Bool.and_eq_true, decide_eq_true_eq] at *)
  all_goals first | (simp [*]; done) | (simp_all; done) | (rw [Bool.eq_iff_iff]; simp only [Bool.and_eq_true, decide_eq_true_eq, Bool.false_eq_true]; omega)
  trace_state
end Go.Fx.Tryz
set_option linter.unusedVariables false
set_option linter.unusedSimpArgs false
namespace Go.Fx.Tryz
open Go Go.Fm Go.Proofs
theorem single_call {n : NodeL} {a : TyL} {s : SigL} (hop : arityZ n.op = 1) (hr : rangedP n) (hf : foundP n s) (hI : I64 n.n) : FCall Tryz.prog n_ref10_single [.agg n.row, .agg a.row, .agg s.row] (· = .tup [.agg (unT n a s).1.row, .bool (unT n a s).2]) := by
  obtain ⟨op, N⟩ := n
  simp only at hop hI
  have hc : op = 10 ∨ op = 25 ∨ op = 31 ∨ op = 32 ∨ op = 33 ∨ op = 34 := by unfold arityZ at hop; (repeat' split at hop) <;> omega
  rcases hc with rfl | rfl | rfl | rfl | rfl | rfl
  · exact single_10
  · exact single_25
  · exact single_31
  · exact single_32
  · exact unT_33 (hf.2.2.2.1 rfl)
  · exact unT_34 (hr.2.2.1 rfl).1 hI (hf.2.2.2.2.1 rfl)
theorem double_call {op : Int} {a b : TyL} (hop : arityZ op = 2) : FCall Tryz.prog n_ref10_double [.int .i64 op, .agg a.row, .agg b.row] (· = .tup [.agg (binT op a b).1.row, .bool (binT op a b).2]) := by
  have hc : op = 11 ∨ op = 12 ∨ op = 13 ∨ op = 14 ∨ op = 15 ∨ op = 16 ∨ op = 17 ∨ op = 18 ∨ op = 19 ∨ op = 20 ∨ op = 21 ∨ op = 22 ∨ op = 23 ∨ op = 24 ∨ op = 27 ∨ op = 28 ∨ op = 29 ∨ op = 30 := by unfold arityZ at hop; (repeat' split at hop) <;> omega
  rcases hc with rfl | rfl | rfl | rfl | rfl | rfl | rfl | rfl | rfl | rfl | rfl | rfl | rfl | rfl | rfl | rfl | rfl | rfl
  · exact double_11
  · exact double_12
  · exact double_13
  · exact double_14
  · exact double_15
  · exact double_16
  · exact double_17
  · exact double_18
  · exact double_19
  · exact double_20
  · exact double_21
  · exact double_22
  · exact double_23
  · exact double_24
  · exact double_27
  · exact double_28
  · exact double_29
  · exact double_30
theorem numR (n : NodeL) : (n.n ≠ 0 ∧ ¬ meanP n.op ∧ numE n = 2) ∨ ((¬ (n.n ≠ 0 ∧ ¬ meanP n.op)) ∧ ¬ rangedP n ∧ numE n = 3) ∨ ((¬ (n.n ≠ 0 ∧ ¬ meanP n.op)) ∧ rangedP n ∧ numE n = 0) := by
  unfold numE
  by_cases h : n.n ≠ 0 ∧ ¬ meanP n.op
  · rw [if_pos h]; exact .inl ⟨h.1, h.2, rfl⟩
  · rw [if_neg h]
    by_cases h2 : rangedP n
    · rw [if_pos h2]; exact .inr (.inr ⟨h, h2, rfl⟩)
    · rw [if_neg h2]; exact .inr (.inl ⟨h, h2, rfl⟩)
theorem Result_call {n : NodeL} {l : List TyL} {s : SigL} {u : Bool} (hI : I64 n.n) (hl : (l.length : Int) = arityZ n.op) (hm : ∀ e ∈ s.enums, e.members.length < 2 ^ 60) :
    FCall Tryz.prog n_ref10_Result [.agg n.row, .sl u (tysV l), .agg s.row] (· = .tup [.agg (nodeT n l s).1.row, .int .i64 (nodeT n l s).2]) := by
  rcases numR n with ⟨h1, h2, h3⟩ | ⟨h1, h2, h3⟩ | ⟨h1, h2, h3⟩
  · refine FCall.walk u_ref10_Result k_ref10_Result rfl ?_
    unfold c_ref10_Result
    simp only [go_sem, simprocAttr, NodeL.row, SigL.row, h1]
    refine FCallT.of (meaningR_call (op := n.op)) ?_
    rintro _ rfl
    simp only [go_sem, simprocAttr, bp_false h2]
    rw [nodeT_bad (by rw [h3]; decide), h3]; rfl
  · have hr := ranged_call (n := n) (s := s) hm
    rw [bp_false h2] at hr
    have hb : nodeT n l s = (⟨0, 0⟩, 3) := by rw [nodeT_bad (by rw [h3]; decide), h3]
    by_cases hz : n.n = 0
    · have hz' := eq_true hz
      refine FCall.walk u_ref10_Result k_ref10_Result rfl ?_
      unfold c_ref10_Result
      simp only [go_sem, simprocAttr, NodeL.row, SigL.row, hz']
      refine FCallT.of (hr) ?_
      rintro _ rfl
      simp only [go_sem, simprocAttr]
      rw [hb]; rfl
    · have hz' := eq_false hz
      have hq := meaningR_call (op := n.op)
      rw [bp_true (Classical.byContradiction fun k => h1 ⟨hz, k⟩)] at hq
      refine FCall.walk u_ref10_Result k_ref10_Result rfl ?_
      unfold c_ref10_Result
      simp only [go_sem, simprocAttr, NodeL.row, SigL.row, hz']
      refine FCallT.of (hq) ?_
      rintro _ rfl
      simp only [go_sem, simprocAttr]
      refine FCallT.of (hr) ?_
      rintro _ rfl
      simp only [go_sem, simprocAttr]
      rw [hb]; rfl
  · have hr := ranged_call (n := n) (s := s) hm
    rw [bp_true h2] at hr
    have hfd := found_call (s := s) h2 hI
    have fin : ∀ r : TyL × Bool, (r.2 = false → FV.tup [FV.agg [FV.int IntKind.i64 0, FV.int IntKind.i64 0], FV.int IntKind.i64 8] = .tup [.agg (finT r).1.row, .int .i64 (finT r).2]) ∧
        (r.2 = true → FV.tup [FV.agg r.1.row, FV.int IntKind.i64 0] = .tup [.agg (finT r).1.row, .int .i64 (finT r).2]) := by
      rintro ⟨t, b⟩; cases b <;> simp [finT, TyL.row]
    by_cases hf : foundP n s
    · rw [bp_true hf] at hfd
      by_cases hz : n.n = 0
      · have hz' := eq_true hz
        match l, hl with
        | [], hl =>
          refine FCall.walk u_ref10_Result k_ref10_Result rfl ?_
          unfold c_ref10_Result
          simp only [go_sem, simprocAttr, NodeL.row, SigL.row, hz', tysV, List.map_nil]
          refine FCallT.of (hr) ?_
          rintro _ rfl
          simp only [go_sem, simprocAttr]
          refine FCallT.of (hfd) ?_
          rintro _ rfl
          simp only [go_sem, simprocAttr]
          refine FCallT.of (leafQ_call (s := s) hl.symm h2 hf hI) ?_
          rintro _ rfl
          simp only [go_sem, simprocAttr, TyL.row]
          rw [nodeT_leaf h3, leafR_eq _ hf rfl]
          exact ⟨fun e => by rw [if_neg (bpF.1 e)], fun e => by rw [if_pos (bp_iff.1 e)]⟩
        | [a], hl =>
          have y0 : (tysV [a])[0]? = some [.int .i64 a.k, .int .i64 a.e] := rfl
          refine FCall.walk u_ref10_Result k_ref10_Result rfl ?_
          unfold c_ref10_Result
          simp only [go_sem, simprocAttr, NodeL.row, SigL.row, hz', y0]
          refine FCallT.of (hr) ?_
          rintro _ rfl
          simp only [go_sem, simprocAttr]
          refine FCallT.of (hfd) ?_
          rintro _ rfl
          simp only [go_sem, simprocAttr, y0]
          refine detCall_of _ (single_call (a := a) (s := s) hl.symm h2 hf hI) ?_
          simp only [go_sem, simprocAttr, TyL.row]
          rw [nodeT_un h3 hf]
          exact fin (unT n a s)
        | [a, b], hl =>
          have y0 : (tysV [a, b])[0]? = some [.int .i64 a.k, .int .i64 a.e] := rfl
          have y1 : (tysV [a, b])[1]? = some [.int .i64 b.k, .int .i64 b.e] := rfl
          refine FCall.walk u_ref10_Result k_ref10_Result rfl ?_
          unfold c_ref10_Result
          simp only [go_sem, simprocAttr, NodeL.row, SigL.row, hz', y0, y1]
          refine FCallT.of (hr) ?_
          rintro _ rfl
          simp only [go_sem, simprocAttr]
          refine FCallT.of (hfd) ?_
          rintro _ rfl
          simp only [go_sem, simprocAttr, y0, y1]
          refine detCall_of _ (double_call (a := a) (b := b) hl.symm) ?_
          simp only [go_sem, simprocAttr, TyL.row]
          rw [nodeT_bin h3 hf]
          exact fin (binT n.op a b)
        | [a, b, c], hl =>
          have y0 : (tysV [a, b, c])[0]? = some [.int .i64 a.k, .int .i64 a.e] := rfl
          have y1 : (tysV [a, b, c])[1]? = some [.int .i64 b.k, .int .i64 b.e] := rfl
          have y2 : (tysV [a, b, c])[2]? = some [.int .i64 c.k, .int .i64 c.e] := rfl
          refine FCall.walk u_ref10_Result k_ref10_Result rfl ?_
          unfold c_ref10_Result
          simp only [go_sem, simprocAttr, NodeL.row, SigL.row, hz', y0, y1, y2]
          refine FCallT.of (hr) ?_
          rintro _ rfl
          simp only [go_sem, simprocAttr]
          refine FCallT.of (hfd) ?_
          rintro _ rfl
          simp only [go_sem, simprocAttr, y0, y1, y2]
          rw [nodeT_tri h3 hf]
          refine ⟨fun e => ?_, fun e => (fin (triT a b c)).1 (by simp [triT, e])⟩
          rw [TyL.eqB]
          exact ⟨fun k => (fin (triT a b c)).1 (by simp [triT, e, bpF.1 k]), fun k => (fin (triT a b c)).2 (by simp [triT, e, bp_iff.1 k])⟩
        | a :: b :: c :: d :: r, hl =>
          exfalso
          unfold arityZ at hl; simp only [List.length_cons] at hl; (repeat' split at hl) <;> omega
      · have hz' := eq_false hz
        have hq := meaningR_call (op := n.op)
        rw [bp_true (Classical.byContradiction fun k => h1 ⟨hz, k⟩)] at hq
        match l, hl with
        | [], hl =>
          refine FCall.walk u_ref10_Result k_ref10_Result rfl ?_
          unfold c_ref10_Result
          simp only [go_sem, simprocAttr, NodeL.row, SigL.row, hz', tysV, List.map_nil]
          refine FCallT.of (hq) ?_
          rintro _ rfl
          simp only [go_sem, simprocAttr]
          refine FCallT.of (hr) ?_
          rintro _ rfl
          simp only [go_sem, simprocAttr]
          refine FCallT.of (hfd) ?_
          rintro _ rfl
          simp only [go_sem, simprocAttr]
          refine FCallT.of (leafQ_call (s := s) hl.symm h2 hf hI) ?_
          rintro _ rfl
          simp only [go_sem, simprocAttr, TyL.row]
          rw [nodeT_leaf h3, leafR_eq _ hf rfl]
          exact ⟨fun e => by rw [if_neg (bpF.1 e)], fun e => by rw [if_pos (bp_iff.1 e)]⟩
        | [a], hl =>
          have y0 : (tysV [a])[0]? = some [.int .i64 a.k, .int .i64 a.e] := rfl
          refine FCall.walk u_ref10_Result k_ref10_Result rfl ?_
          unfold c_ref10_Result
          simp only [go_sem, simprocAttr, NodeL.row, SigL.row, hz', y0]
          refine FCallT.of (hq) ?_
          rintro _ rfl
          simp only [go_sem, simprocAttr]
          refine FCallT.of (hr) ?_
          rintro _ rfl
          simp only [go_sem, simprocAttr]
          refine FCallT.of (hfd) ?_
          rintro _ rfl
          simp only [go_sem, simprocAttr, y0]
          refine detCall_of _ (single_call (a := a) (s := s) hl.symm h2 hf hI) ?_
          simp only [go_sem, simprocAttr, TyL.row]
          rw [nodeT_un h3 hf]
          exact fin (unT n a s)
        | [a, b], hl =>
          have y0 : (tysV [a, b])[0]? = some [.int .i64 a.k, .int .i64 a.e] := rfl
          have y1 : (tysV [a, b])[1]? = some [.int .i64 b.k, .int .i64 b.e] := rfl
          refine FCall.walk u_ref10_Result k_ref10_Result rfl ?_
          unfold c_ref10_Result
          simp only [go_sem, simprocAttr, NodeL.row, SigL.row, hz', y0, y1]
          refine FCallT.of (hq) ?_
          rintro _ rfl
          simp only [go_sem, simprocAttr]
          refine FCallT.of (hr) ?_
          rintro _ rfl
          simp only [go_sem, simprocAttr]
          refine FCallT.of (hfd) ?_
          rintro _ rfl
          simp only [go_sem, simprocAttr, y0, y1]
          refine detCall_of _ (double_call (a := a) (b := b) hl.symm) ?_
          simp only [go_sem, simprocAttr, TyL.row]
          rw [nodeT_bin h3 hf]
          exact fin (binT n.op a b)
        | [a, b, c], hl =>
          have y0 : (tysV [a, b, c])[0]? = some [.int .i64 a.k, .int .i64 a.e] := rfl
          have y1 : (tysV [a, b, c])[1]? = some [.int .i64 b.k, .int .i64 b.e] := rfl
          have y2 : (tysV [a, b, c])[2]? = some [.int .i64 c.k, .int .i64 c.e] := rfl
          refine FCall.walk u_ref10_Result k_ref10_Result rfl ?_
          unfold c_ref10_Result
          simp only [go_sem, simprocAttr, NodeL.row, SigL.row, hz', y0, y1, y2]
          refine FCallT.of (hq) ?_
          rintro _ rfl
          simp only [go_sem, simprocAttr]
          refine FCallT.of (hr) ?_
          rintro _ rfl
          simp only [go_sem, simprocAttr]
          refine FCallT.of (hfd) ?_
          rintro _ rfl
          simp only [go_sem, simprocAttr, y0, y1, y2]
          rw [nodeT_tri h3 hf]
          refine ⟨fun e => ?_, fun e => (fin (triT a b c)).1 (by simp [triT, e])⟩
          rw [TyL.eqB]
          exact ⟨fun k => (fin (triT a b c)).1 (by simp [triT, e, bpF.1 k]), fun k => (fin (triT a b c)).2 (by simp [triT, e, bp_iff.1 k])⟩
        | a :: b :: c :: d :: r, hl =>
          exfalso
          unfold arityZ at hl; simp only [List.length_cons] at hl; (repeat' split at hl) <;> omega
    · rw [bp_false hf] at hfd
      have hb : nodeT n l s = (⟨0, 0⟩, 6) := nodeT_nf h3 hf
      by_cases hz : n.n = 0
      · have hz' := eq_true hz
        refine FCall.walk u_ref10_Result k_ref10_Result rfl ?_
        unfold c_ref10_Result
        simp only [go_sem, simprocAttr, NodeL.row, SigL.row, hz']
        refine FCallT.of (hr) ?_
        rintro _ rfl
        simp only [go_sem, simprocAttr]
        refine FCallT.of (hfd) ?_
        rintro _ rfl
        simp only [go_sem, simprocAttr]
        rw [hb]; rfl
      · have hz' := eq_false hz
        have hq := meaningR_call (op := n.op)
        rw [bp_true (Classical.byContradiction fun k => h1 ⟨hz, k⟩)] at hq
        refine FCall.walk u_ref10_Result k_ref10_Result rfl ?_
        unfold c_ref10_Result
        simp only [go_sem, simprocAttr, NodeL.row, SigL.row, hz']
        refine FCallT.of (hq) ?_
        rintro _ rfl
        simp only [go_sem, simprocAttr]
        refine FCallT.of (hr) ?_
        rintro _ rfl
        simp only [go_sem, simprocAttr]
        refine FCallT.of (hfd) ?_
        rintro _ rfl
        simp only [go_sem, simprocAttr]
        rw [hb]; rfl
end Go.Fx.Tryz
set_option linter.unusedVariables false
set_option linter.unusedSimpArgs false
namespace Go.Fx.Tryz
open Go Go.Fm Go.Proofs
theorem tysV_drop (l : List TyL) (n : Nat) : (tysV l).drop n = tysV (l.drop n) := by simp [tysV]
theorem tysV_take (l : List TyL) (n : Nat) : (tysV l).take n = tysV (l.take n) := by simp [tysV]
theorem all_len_tysV (l : List TyL) : (tysV l).all (fun r => r.length == 2) = true := by simp [tysV, TyL.row]
theorem TypeOfR_call {e : List NodeL} {s : SigL} {u : Bool} (hI : ∀ n ∈ e, I64 n.n) (hm : ∀ e ∈ s.enums, e.members.length < 2 ^ 60) : FCall Tryz.prog n_ref10_TypeOf [.sl u (nodesV e), .agg s.row] (· = .tup [.agg (typeL e s).1.row, .int .i64 (typeL e s).2.1, .int .i64 (typeL e s).2.2]) := by
  refine FCall.walk u_ref10_TypeOf k_ref10_TypeOf rfl ?_
  unfold c_ref10_TypeOf
  simp only [go_sem, simprocAttr, SigL.row]
  refine FCallT.of (structure_call (e := e)) ?_
  rintro _ rfl
  simp only [go_sem, simprocAttr]
  refine ⟨fun h => ?_, fun h => ?_⟩
  · unfold typeL; rw [if_pos h]; rfl
  obtain ⟨L, hL, hG, he, h48⟩ := structL_ok h
  have hpos : 0 < e.length := List.length_pos_iff.2 he
  have hT : typeL e s = typeGo s 0 [] e := by unfold typeL; rw [if_neg (by simpa using h)]
  refine FWT.upd [] (fun x : Nat × List TyL => [(10, .arr (tysV x.2)), (11, .int .i64 x.1)]) (fun x => e.length - x.1)
    (fun x => x.2.length ≤ x.1 ∧ ∃ T ps, TyInv e s L (typeL e s) x.1 T ps ∧ x.2 = ps.reverse.map (·.2)) (0, []) rfl ⟨Nat.le_refl _, List.replicate e.length ⟨0, 0⟩, [], by rw [hT]; exact TyInv.start hG (by simp), rfl⟩ ?_
  rintro ⟨i, st⟩ ⟨hsi, T, ps, hinv, hst⟩
  simp only at hinv hst hsi
  have hi0 := hinv.hi
  have hsl : st.length = ps.length := by rw [hst]; simp
  by_cases hi : i < e.length
  · obtain ⟨k, args, hk, hk3, hal, hkl, hdrop, hops, hmap, hargs, hbad, hgood⟩ := hinv.step hi
    rw [← hst, ← hsl] at hdrop
    have hx := nodesV_get hi
    have hw : IntKind.i64.wrap ((st.length : Int) - (k : Int)) = ((st.length - k : Nat) : Int) := by rw [w64 (by unfold I64; omega)]; omega
    simp only [go_sem, simprocAttr, ltT hi, Int.toNat_natCast, hx, NodeL.row]
    refine FCallT.of (arityR_call (op := e[i].op)) ?_
    rintro _ rfl
    simp only [go_sem, simprocAttr]
    rw [hk]
    simp only [go_sem, simprocAttr, hw, Int.toNat_natCast, hx, NodeL.row]
    have htk : args.take (st.length - (st.length - k)) = args := List.take_of_length_le (by omega)
    simp only [go_sem, simprocAttr, hw, tysV_drop, tysV_take, hdrop, htk, all_len_tysV]
    refine ⟨⟨by omega, Int.le_refl _⟩, ?_⟩
    refine detCallB_of _ (Result_call (n := e[i]) (l := args) (s := s) (hI _ (List.getElem_mem hi)) (by rw [hal]; exact hk.symm) hm) rfl ?_
    simp only [go_sem, simprocAttr, TyL.row]
    refine ⟨fun h1 => by rw [hbad h1], fun h1 => ?_⟩
    obtain ⟨ps', hn, hps⟩ := hgood h1
    rw [← hst, ← hsl] at hps
    have hlen2 : (st.take (st.length - k) ++ [(nodeT e[i] args s).1]).length ≤ i + 1 := by simp; omega
    by_cases s0 : st.length - k = 0
    · have s1 : (st.length - k = 0) = True := eq_true s0
      simp only [go_sem, simprocAttr, Int.toNat_natCast, tysV_take, all_len_tysV, Nat.sub_zero, s1]
      have e0 : st.take (st.length - k) = [] := by rw [s0]; rfl
      rw [e0] at hps hlen2
      exact ⟨by omega, (i + 1, [] ++ [(nodeT e[i] args s).1]), by rw [w64s (by omega)]; rfl, ⟨hlen2, _, ps', hn, hps.symm⟩, by simp only; omega⟩
    · simp only [go_sem, simprocAttr, Int.toNat_natCast, tysV_take, all_len_tysV, Nat.sub_zero, s0]
      exact ⟨by omega, by simp; omega, (i + 1, st.take (st.length - k) ++ [(nodeT e[i] args s).1]), by rw [w64s (by omega), tysV_snoc]; rfl, ⟨hlen2, _, ps', hn, hps.symm⟩, by simp only; omega⟩
  · obtain rfl : i = e.length := by omega
    have hne : 0 < st.length := by
      rw [hsl]
      have hc := hinv.ch
      cases ps with
      | nil => simp only [ChainT] at hc; omega
      | cons x r => simp
    have hR : typeL e s = (st[0], 0, 0) := by
      have := hinv.ty
      rw [List.drop_length, ← hst] at this
      simp only [typeGo, List.getElem?_eq_getElem hne, Option.getD_some] at this
      exact this.symm
    have hz := tysV_get hne
    simp only [go_sem, simprocAttr, ltF hi, hz]
    rw [hR]; rfl
end Go.Fx.Tryz
set_option linter.unusedVariables false
set_option linter.unusedSimpArgs false
namespace Go.Fm
open Go
abbrev SSort (l : List Int) : Prop := l.Pairwise (· < ·)
theorem ssort_ext : ∀ {a b : List Int}, SSort a → SSort b → (∀ x, x ∈ a ↔ x ∈ b) → a = b
  | [], [], _, _, _ => rfl
  | [], y :: b, _, _, h => by have := (h y).2 (by simp); cases this
  | x :: a, [], _, _, h => by have := (h x).1 (by simp); cases this
  | x :: a, y :: b, ha, hb, h => by
    obtain ⟨ha1, ha2⟩ := List.pairwise_cons.1 ha
    obtain ⟨hb1, hb2⟩ := List.pairwise_cons.1 hb
    have e : x = y := by
      rcases List.mem_cons.1 ((h x).1 (by simp)) with e | e
      · exact e
      · rcases List.mem_cons.1 ((h y).2 (by simp)) with e2 | e2
        · exact e2.symm
        · have := ha1 _ e2; have := hb1 _ e; omega
    subst e
    congr 1
    refine ssort_ext ha2 hb2 fun z => ⟨fun hz => ?_, fun hz => ?_⟩
    · rcases List.mem_cons.1 ((h z).1 (by simp [hz])) with e | e
      · subst e; have := ha1 _ hz; omega
      · exact e
    · rcases List.mem_cons.1 ((h z).2 (by simp [hz])) with e | e
      · subst e; have := hb1 _ hz; omega
      · exact e
def insZ (n : Int) : List Int → List Int
  | [] => [n]
  | x :: l => if x < n then x :: insZ n l else if x = n then x :: l else n :: x :: l
theorem mem_insZ {n x : Int} : ∀ {l : List Int}, x ∈ insZ n l ↔ x = n ∨ x ∈ l
  | [] => by simp [insZ]
  | y :: l => by
    unfold insZ
    split
    · simp only [List.mem_cons, mem_insZ (l := l)]
      constructor
      · rintro (h | h | h)
        · exact .inr (.inl h)
        · exact .inl h
        · exact .inr (.inr h)
      · rintro (h | h | h)
        · exact .inr (.inl h)
        · exact .inl h
        · exact .inr (.inr h)
    · split
      · rename_i h1 h2
        subst h2
        simp only [List.mem_cons]
        constructor
        · exact fun h => .inr h
        · rintro (h | h)
          · exact .inl h
          · exact h
      · simp only [List.mem_cons]
theorem ssort_insZ {n : Int} : ∀ {l : List Int}, SSort l → SSort (insZ n l)
  | [], _ => by simp [insZ]
  | y :: l, h => by
    obtain ⟨h1, h2⟩ := List.pairwise_cons.1 h
    unfold insZ
    split
    · refine List.pairwise_cons.2 ⟨fun z hz => ?_, ssort_insZ h2⟩
      rcases mem_insZ.1 hz with rfl | hz
      · assumption
      · exact h1 z hz
    · split
      · exact h
      · refine List.pairwise_cons.2 ⟨fun z hz => ?_, h⟩
        rcases List.mem_cons.1 hz with rfl | hz
        · omega
        · have := h1 z hz; omega
theorem insZ_length {n : Int} : ∀ {l : List Int}, (insZ n l).length ≤ l.length + 1
  | [] => by simp [insZ]
  | y :: l => by
    have := insZ_length (n := n) (l := l)
    unfold insZ
    split
    · simp only [List.length_cons]; omega
    · split <;> simp only [List.length_cons] <;> omega
def usort (l : List Int) : List Int := l.foldl (fun a x => insZ x a) []
theorem foldl_insZ_mem {x : Int} : ∀ {l a : List Int}, x ∈ l.foldl (fun a x => insZ x a) a ↔ x ∈ a ∨ x ∈ l
  | [], a => by simp
  | y :: l, a => by
    simp only [List.foldl_cons, foldl_insZ_mem (l := l), mem_insZ, List.mem_cons]
    constructor
    · rintro ((h | h) | h)
      · exact .inr (.inl h)
      · exact .inl h
      · exact .inr (.inr h)
    · rintro (h | h | h)
      · exact .inl (.inr h)
      · exact .inl (.inl h)
      · exact .inr h
theorem foldl_insZ_ssort : ∀ {l a : List Int}, SSort a → SSort (l.foldl (fun a x => insZ x a) a)
  | [], a, h => h
  | y :: l, a, h => by simp only [List.foldl_cons]; exact foldl_insZ_ssort (ssort_insZ h)
theorem mem_usort {x : Int} {l : List Int} : x ∈ usort l ↔ x ∈ l := by
  unfold usort; rw [foldl_insZ_mem]; simp
theorem ssort_usort (l : List Int) : SSort (usort l) := foldl_insZ_ssort .nil
theorem usort_append (a b : List Int) : usort (a ++ b) = b.foldl (fun a x => insZ x a) (usort a) := by
  unfold usort; rw [List.foldl_append]
theorem foldl_insZ_length : ∀ {l a : List Int}, (l.foldl (fun a x => insZ x a) a).length ≤ a.length + l.length
  | [], a => by simp
  | y :: l, a => by
    simp only [List.foldl_cons, List.length_cons]
    have := foldl_insZ_length (l := l) (a := insZ y a)
    have := insZ_length (n := y) (l := a)
    omega
theorem usort_length (l : List Int) : (usort l).length ≤ l.length := by
  have := foldl_insZ_length (l := l) (a := [])
  simpa [usort] using this
theorem compactUpTo_sorted {d : Array Int} (hs : ∀ i j, i < j → j < d.size → d[i]! ≤ d[j]!) : ∀ m, m ≤ d.size →
    SSort (Lib.compactUpTo d m) ∧ (∀ x, x ∈ Lib.compactUpTo d m ↔ ∃ j, j < m ∧ d[j]! = x)
  | 0, _ => by
    refine ⟨.nil, fun x => ?_⟩
    simp [Lib.compactUpTo]
  | m + 1, hm => by
    obtain ⟨h1, h2⟩ := compactUpTo_sorted hs m (by omega)
    rw [Lib.compactUpTo_succ]
    by_cases hk : Lib.keeps d m = true
    · rw [if_pos hk]
      have hle : ∀ x ∈ Lib.compactUpTo d m, x < d[m]! := by
        intro x hx
        obtain ⟨j, hj, rfl⟩ := (h2 x).1 hx
        simp only [Lib.keeps, decide_eq_true_eq] at hk
        rcases hk with rfl | hk
        · omega
        · have e1 : d[m - 1]! ≤ d[m]! := hs _ _ (by omega) (by omega)
          have e2 : d[j]! ≤ d[m - 1]! := by
            by_cases e : j = m - 1
            · subst e; exact Int.le_refl _
            · exact hs _ _ (by omega) (by omega)
          omega
      refine ⟨?_, fun x => ?_⟩
      · refine List.pairwise_append.2 ⟨h1, by simp, fun a ha b hb => ?_⟩
        rw [List.mem_singleton] at hb
        subst hb
        exact hle a ha
      · rw [List.mem_append, h2, List.mem_singleton]
        constructor
        · rintro (⟨j, hj, e⟩ | e)
          · exact ⟨j, by omega, e⟩
          · exact ⟨m, by omega, e.symm⟩
        · rintro ⟨j, hj, e⟩
          by_cases e2 : j = m
          · subst e2; exact .inr e.symm
          · exact .inl ⟨j, by omega, e⟩
    · rw [if_neg hk, List.append_nil]
      refine ⟨h1, fun x => ?_⟩
      rw [h2]
      simp only [Lib.keeps, decide_eq_true_eq, not_or, Classical.not_not] at hk
      constructor
      · rintro ⟨j, hj, e⟩; exact ⟨j, by omega, e⟩
      · rintro ⟨j, hj, e⟩
        by_cases e2 : j = m
        · subst e2; exact ⟨j - 1, by omega, by rw [← hk.2]; exact e⟩
        · exact ⟨j, by omega, e⟩
theorem compact_sort (l : List Int) : Lib.compact (l.mergeSort fun x y => decide (x ≤ y)) = usort l := by
  generalize hz : (l.mergeSort fun x y => decide (x ≤ y)) = z
  have hp : z.Pairwise (fun a b => decide (a ≤ b) = true) := by
    rw [← hz]
    exact List.pairwise_mergeSort (fun a b c h1 h2 => by simp only [decide_eq_true_eq] at *; omega) (fun a b => by simp only [Bool.or_eq_true, decide_eq_true_eq]; omega) l
  have hs : ∀ i j, i < j → j < z.toArray.size → z.toArray[i]! ≤ z.toArray[j]! := by
    intro i j hij hj
    have hj' : j < z.length := by simpa using hj
    have := (List.pairwise_iff_getElem.1 hp) i j (by omega) hj' hij
    simp only [decide_eq_true_eq] at this
    simpa [getElem!_pos, hj', show i < z.length by omega] using this
  obtain ⟨h1, h2⟩ := compactUpTo_sorted hs z.toArray.size (Nat.le_refl _)
  refine ssort_ext (by simpa [Lib.compact] using h1) (ssort_usort l) fun x => ?_
  rw [mem_usort]
  have h3 : x ∈ Lib.compact z ↔ ∃ j, j < z.length ∧ z.toArray[j]! = x := by simpa [Lib.compact] using h2 x
  rw [h3]
  have h4 : x ∈ z ↔ x ∈ l := by rw [← hz]; exact List.mem_mergeSort
  rw [← h4]
  constructor
  · rintro ⟨j, hj, rfl⟩
    have : z.toArray[j]! = z[j] := by simp [getElem!_pos, hj]
    rw [this]; exact List.getElem_mem hj
  · intro h
    obtain ⟨j, hj, e⟩ := List.getElem_of_mem h
    exact ⟨j, hj, by rw [← e]; simp [getElem!_pos, hj]⟩
theorem insZ_lt {n : Int} : ∀ {a : List Int}, (∀ y ∈ a, y < n) → insZ n a = a ++ [n]
  | [], _ => rfl
  | y :: a, h => by unfold insZ; rw [if_pos (h y (by simp)), insZ_lt fun z m => h z (by simp [m])]; rfl
theorem insZ_split {n x : Int} {r : List Int} : ∀ {a : List Int}, (∀ y ∈ a, y < n) → n ≤ x → insZ n (a ++ x :: r) = a ++ (if n < x then n :: x :: r else x :: r)
  | [], _, h => by
    show insZ n (x :: r) = _
    unfold insZ
    rw [if_neg (by omega)]
    by_cases e : x = n
    · rw [if_pos e, if_neg (by omega)]; rfl
    · rw [if_neg e, if_pos (by omega)]; rfl
  | y :: a, h1, h => by
    show insZ n (y :: (a ++ x :: r)) = _
    unfold insZ
    rw [if_pos (h1 y (by simp)), insZ_split (fun z m => h1 z (by simp [m])) h]; rfl
def InsInv (n : Int) (l : List Int) (i : Nat) (out : List Int) (done : Bool) : Prop := if done then insZ n l = out ++ l.drop i ∧ out.length ≤ i + 1 else out = l.take i ∧ ∀ x ∈ l.take i, x < n
end Go.Fm
set_option linter.unusedVariables false
set_option linter.unusedSimpArgs false
namespace Go.Fm
open Go
abbrev Calls := FuncId → List FV → Option FV
abbrev Muts := FuncId → List (List FV) → Option (List (List FV))
def SoundC (P : Program) (c : Calls) : Prop := ∀ f fs v, c f fs = some v → FCall P f fs (· = v)
def SoundM (P : Program) (m : Muts) : Prop := ∀ f es es', m f es = some es' → FMut P f es (· = es')
def xFree (c : Calls) (f : FuncId) (fs : List FV) : Option FV := match c f fs with
  | some r => cond r.free (some r) none
  | none => none
def xNil (neg : Bool) (d : Nat) (E : Env) (es : List (List FV)) : Option Env := match es with
  | [] => none
  | _ :: _ => some (E.upd d (.bool neg))
def xNilOn (E : Env) (d : Nat) (neg : Bool) (f : FV) : Option Env := match f with
  | .sl _ es => xNil neg d E es
  | .al q p => match E.at q p with
    | .arr es => xNil neg d E es
    | _ => none
  | _ => none
def xStW (E : Env) (f : FV) (d n : Nat) : Option Env := cond f.alias none (stG E f (.t d) n)
def xM (m : Muts) (f : FuncId) (q d : Nat) (E : Env) (l g : FV) : Option Env := match l with
  | .al q' p => match p with
    | [] => cond (Nat.beq q' q) (match g with
      | .arr es => match m f es with
        | some es' => some (((E.upd q .undef).upd q (.arr es')).upd d (.tup []))
        | none => none
      | _ => none) none
    | _ => none
  | _ => none
def xV (P : Program) (c : Calls) (s : FV) (fs : List FV) : Option FV := match s with
  | .fn g cap => cond (isFn P g) (xFree c g (fs ++ cap)) none
  | _ => none
def xF (P : Program) (c : Calls) (s : FV) (fs : List FV) : Option FV := match s with
  | .fn g cap => match cap with
    | [] => cond (isFn P g) (c g fs) none
    | _ => none
  | _ => none
def xK (P : Program) (c : Calls) (m : Muts) (k : FK) (d : Nat) (E : Env) : Option Env :=
  match k with
  | .op f => f.eval E d
  | .call f ss => match c f (E.passM ss).1 with
    | some r => some ((E.passM ss).2.upd d r)
    | none => none
  | .callB f ss => match xFree c f (ss.map E.lend) with
    | some r => some (E.upd d r)
    | none => none
  | .callL f ss => cond (ss.all fun s => !(E.look s).alias) (match c f (ss.map E.look) with
    | some r => some (E.upd d r)
    | none => none) none
  | .callV s ss => match xV P c (E.lend s) (ss.map E.lend) with
    | some r => some (E.upd d r)
    | none => none
  | .callM f s q => xM m f q d E (E.look s) (E.get q)
  | .callF s ss => match xF P c (E.lend s) (E.passM ss).1 with
    | some r => some ((E.passM ss).2.upd d r)
    | none => none
  | .isNil neg s => xNilOn E d neg (E.look s)
  | .storeW s n => xStW E (E.look s) d n
section
variable {P : Program} {c : Calls} {m : Muts}
theorem xFree_sound (hc : SoundC P c) {f : FuncId} {fs : List FV} {v : FV} {J : FV → Prop} (h : xFree c f fs = some v) (hj : J v) : FCall P f fs (fun r => r.free = true ∧ J r) := by
  unfold xFree at h
  split at h <;> try (cases h; done)
  rename_i r hr
  cases hf : r.free <;> rw [hf] at h <;> cases h
  exact (hc _ _ _ hr).mono fun r hr => by subst hr; exact ⟨hf, hj⟩
theorem xNil_sound {neg : Bool} {d : Nat} {E E' : Env} {es : List (List FV)} {J : Env → Prop} (h : xNil neg d E es = some E') (hj : J E') : nilK es neg fun b => J (E.upd d (.bool b)) := by
  cases es with
  | nil => cases h
  | cons x es => cases h; exact ⟨fun h => by simp at h, fun _ => hj⟩
theorem xK_sound (hc : SoundC P c) (hm : SoundM P m) {k : FK} {d : Nat} {E E' : Env} {J : Env → Prop} (h : xK P c m k d E = some E') (hj : J E') : runK P k d E J := by
  cases k with
  | op f => exact ⟨E', h, hj⟩
  | call f ss =>
    simp only [xK] at h
    split at h <;> cases h
    rename_i r hr
    exact (hc _ _ _ hr).mono fun r hr => by subst hr; exact hj
  | callB f ss =>
    simp only [xK] at h
    split at h <;> cases h
    rename_i r hr
    exact xFree_sound hc hr hj
  | callL f ss =>
    simp only [xK] at h
    cases ha : (ss.all fun s => !(E.look s).alias) <;> rw [ha] at h <;> simp only [cond_true, cond_false] at h
    · cases h
    · split at h <;> cases h
      rename_i r hr
      exact ⟨ha, (hc _ _ _ hr).mono fun r hr => by subst hr; exact hj⟩
  | callV s ss =>
    simp only [xK] at h
    split at h <;> cases h
    rename_i r hr
    unfold xV at hr
    simp only [runK]
    split at hr <;> try (cases hr; done)
    rename_i g cap hs
    simp only [hs]
    cases hi : isFn P g <;> rw [hi] at hr <;> simp only [cond_true, cond_false] at hr
    · cases hr
    · exact ⟨rfl, xFree_sound hc hr hj⟩
  | callF s ss =>
    simp only [xK] at h
    split at h <;> cases h
    rename_i r hr
    unfold xF at hr
    simp only [runK]
    split at hr <;> try (cases hr; done)
    rename_i g cap hs
    simp only [hs]
    split at hr <;> try (cases hr; done)
    cases hi : isFn P g <;> rw [hi] at hr <;> simp only [cond_true, cond_false] at hr
    · cases hr
    · exact ⟨rfl, rfl, (hc _ _ _ hr).mono fun r hr => by subst hr; exact hj⟩
  | callM f s q =>
    simp only [xK, xM] at h
    split at h <;> try (cases h; done)
    rename_i q' p hl
    split at h <;> try (cases h; done)
    cases hq : Nat.beq q' q <;> rw [hq] at h <;> simp only [cond_true, cond_false] at h
    · cases h
    · have := Nat.eq_of_beq_eq_true hq
      subst this
      split at h <;> try (cases h; done)
      rename_i es he
      split at h <;> try (cases h; done)
      rename_i es' hes
      cases h
      exact ⟨hl, es, he, (hm _ _ _ hes).mono fun r hr => by subst hr; exact hj⟩
  | isNil neg s =>
    simp only [xK, xNilOn] at h
    simp only [runK, nilOn]
    split at h <;> try (cases h; done)
    · rename_i b es hl
      rw [hl]
      exact xNil_sound h hj
    · rename_i q p hl
      rw [hl]
      simp only
      split at h <;> try (cases h; done)
      rename_i es he
      rw [he]
      exact xNil_sound h hj
  | storeW s n =>
    simp only [xK, xStW] at h
    cases ha : (E.look s).alias <;> rw [ha] at h <;> simp only [cond_true, cond_false] at h
    · exact ⟨E', h, ha, hj⟩
    · cases h
def xG (P : Program) (c : Calls) (m : Muts) (f : FO) (E : Env) : Option Env := match f.g with
  | none => xK P c m f.k f.d E
  | some (t, want) => match E.get t with
    | .bool b => cond (b == want) (xK P c m f.k f.d E) (some (E.upd f.d skipped))
    | .tup [] => some (E.upd f.d skipped)
    | _ => none
def xOps (P : Program) (c : Calls) (m : Muts) : List FO → Env → Option Env
  | [], E => some E
  | f :: r, E => match xG P c m f E with
    | some E' => xOps P c m r E'
    | none => none
theorem xG_sound (hc : SoundC P c) (hm : SoundM P m) {f : FO} {E E' : Env} {J : Env → Prop} (h : xG P c m f E = some E') (hj : J E') : stepG P f E J := by
  unfold xG at h
  unfold stepG
  cases hg : f.g with
  | none => rw [hg] at h; exact xK_sound hc hm h hj
  | some x =>
    obtain ⟨t, want⟩ := x
    rw [hg] at h
    simp only at h ⊢
    split at h <;> try (cases h; done)
    · rename_i b hb
      rw [hb]
      cases hbw : b == want <;> rw [hbw] at h <;> simp only [cond_true, cond_false] at h
      · cases h
        exact ⟨fun e => by subst e; simp at hbw, fun _ => hj⟩
      · exact ⟨fun _ => xK_sound hc hm h hj, fun e => absurd (by simpa using hbw) e⟩
    · rename_i hb
      rw [hb]
      cases h
      exact hj
theorem xOps_sound (hc : SoundC P c) (hm : SoundM P m) : ∀ {fs : List FO} {E E' : Env} {J : Env → Prop}, xOps P c m fs E = some E' → J E' → runOps P fs E J
  | [], E, E', J, h, hj => by cases h; exact hj
  | f :: r, E, E', J, h, hj => by
    simp only [xOps] at h
    split at h <;> try (cases h; done)
    rename_i E1 h1
    rw [runOps_cons]
    exact xG_sound hc hm h1 (xOps_sound hc hm h hj)
def xDOp (E : Env) (d : Nat) (f : FOp) : Option Env := match f with
  | .build tmpl ps ss => cond (ss.all E.noAl) (match bdF E tmpl ps ss with
    | some x => some (x.2.put d x.1)
    | none => none) none
  | .buildSl tmpl ln is ss => cond (ss.all E.noAl) (match bsF E tmpl ln is ss with
    | some x => some (x.2.put d x.1)
    | none => none) none
  | .mvP deep s => cond (E.noAl s) (some ((E.pass deep s).2.put d (E.pass deep s).1)) none
  | .extract n i => match exF (E.get n) i with
    | some f => some ((if f.flat then E else E.put n (exT (E.get n) i)).put d f)
    | none => none
  | f => match f.val E with
    | some v => cond (v.notRoot d) (some (E.put d v)) none
    | none => none
def xPut (E : Env) (d : Nat) (x : Option FV) : Option Env := match x with
  | some v => some (E.put d v)
  | none => none
def xDK (P : Program) (c : Calls) (k : FK) (d : Nat) (E : Env) : Option Env :=
  match k with
  | .op f => xDOp E d f
  | .callB f ss => xPut E d (xFree c f (ss.map E.lend))
  | .callL f ss => cond (ss.all fun s => !(E.look s).alias) (xPut E d (c f (ss.map E.look))) none
  | .callV s ss => xPut E d (xV P c (E.lend s) (ss.map E.lend))
  | .storeW s n => xPut E d (stW (E.get d) (E.look s) n)
  | _ => none
theorem xPut_inv {E E' : Env} {d : Nat} {x : Option FV} (h : xPut E d x = some E') : ∃ v, x = some v ∧ E' = E.put d v := by
  cases x with
  | none => cases h
  | some v => cases h; exact ⟨v, rfl, rfl⟩
theorem xDK_sound (hc : SoundC P c) {k : FK} {d : Nat} {E E' : Env} {J : Env → Prop} (h : xDK P c k d E = some E') (hj : J E') : detK P k d E J := by
  have free : ∀ {f : FuncId} {fs : List FV} {v : FV}, xFree c f fs = some v → FCall P f fs (· = v) ∧ v.free = true := fun {f fs v} h => by
    unfold xFree at h
    split at h <;> try (cases h; done)
    rename_i r hr
    cases hf : r.free <;> rw [hf] at h <;> cases h
    exact ⟨hc _ _ _ hr, hf⟩
  cases k with
  | op f =>
    have val : (match f.val E with
        | some v => cond (v.notRoot d) (some (E.put d v)) none
        | none => none) = some E' → ∃ v, f.val E = some v ∧ v.notRoot d = true ∧ J (E.put d v) := fun h => by
      split at h <;> try (cases h; done)
      rename_i u hu
      cases hn : u.notRoot d <;> rw [hn] at h <;> cases h
      exact ⟨u, hu, hn, hj⟩
    cases f with
    | build tmpl ps ss =>
      simp only [xDK, xDOp] at h
      cases ha : ss.all E.noAl <;> rw [ha] at h <;> simp only [cond_true, cond_false] at h
      · cases h
      · split at h <;> cases h
        rename_i x hx
        exact ⟨ha, x, hx, hj⟩
    | buildSl tmpl ln is ss =>
      simp only [xDK, xDOp] at h
      cases ha : ss.all E.noAl <;> rw [ha] at h <;> simp only [cond_true, cond_false] at h
      · cases h
      · split at h <;> cases h
        rename_i x hx
        exact ⟨ha, x, hx, hj⟩
    | mvP deep s =>
      simp only [xDK, xDOp] at h
      cases ha : E.noAl s <;> rw [ha] at h <;> cases h
      exact ⟨ha, hj⟩
    | extract n i =>
      simp only [xDK, xDOp] at h
      split at h <;> cases h
      rename_i f hf
      exact ⟨f, hf, hj⟩
    | _ => exact val h
  | call f ss => cases h
  | callB f ss =>
    obtain ⟨v, h1, rfl⟩ := xPut_inv h
    obtain ⟨h1, h2⟩ := free h1
    exact ⟨v, h1, h2, hj⟩
  | callL f ss =>
    simp only [xDK] at h
    cases ha : (ss.all fun s => !(E.look s).alias) <;> rw [ha] at h <;> simp only [cond_true, cond_false] at h
    · cases h
    · obtain ⟨v, h1, rfl⟩ := xPut_inv h
      exact ⟨ha, v, hc _ _ _ h1, hj⟩
  | callV s ss =>
    obtain ⟨v, h1, rfl⟩ := xPut_inv h
    simp only [xV] at h1
    simp only [detK]
    split at h1 <;> try (cases h1; done)
    rename_i g cap hs
    simp only [hs]
    cases hi : isFn P g <;> rw [hi] at h1 <;> simp only [cond_true, cond_false] at h1
    · cases h1
    · obtain ⟨h1, h2⟩ := free h1
      exact ⟨rfl, v, h1, h2, hj⟩
  | callM f s q => cases h
  | callF s ss => cases h
  | isNil neg s => cases h
  | storeW s n =>
    obtain ⟨v, h1, rfl⟩ := xPut_inv h
    exact ⟨v, h1, hj⟩
def xDG (P : Program) (c : Calls) (f : FO) (E : Env) : Option Env := match f.g with
  | none => xDK P c f.k f.d E
  | some (t, want) => match E.get t with
    | .bool b => cond (b == want) (xDK P c f.k f.d E) (some (E.put f.d skipped))
    | .tup [] => some (E.put f.d skipped)
    | _ => none
theorem xDG_sound (hc : SoundC P c) {f : FO} {E E' : Env} {J : Env → Prop} (h : xDG P c f E = some E') (hj : J E') : detG P f E J := by
  unfold xDG at h
  unfold detG
  cases hg : f.g with
  | none => rw [hg] at h; exact xDK_sound hc h hj
  | some x =>
    obtain ⟨t, want⟩ := x
    rw [hg] at h
    simp only at h ⊢
    split at h <;> try (cases h; done)
    · rename_i b hb
      rw [hb]
      cases hbw : b == want <;> rw [hbw] at h <;> simp only [cond_true, cond_false] at h
      · cases h
        exact ⟨fun e => by subst e; simp at hbw, fun _ => hj⟩
      · exact ⟨fun _ => xDK_sound hc h hj, fun e => absurd (by simpa using hbw) e⟩
    · rename_i hb
      rw [hb]
      cases h
      exact hj
def xDet (P : Program) (c : Calls) (D : List Nat) : List FO → Env → Option Env
  | [], E => some E
  | f :: r, E => match xDG P c f E with
    | some E' => cond (rootOk D (E'.get f.d)) (xDet P c D r E') none
    | none => none
theorem xDet_sound (hc : SoundC P c) {D : List Nat} : ∀ {fs : List FO} {E E' : Env} {J : Env → Prop}, xDet P c D fs E = some E' → J E' → runDet P D fs E J
  | [], E, E', J, h, hj => by cases h; exact hj
  | f :: r, E, E', J, h, hj => by
    simp only [xDet] at h
    unfold runDet
    split at h <;> try (cases h; done)
    rename_i E1 h1
    cases hr : rootOk D (E1.get f.d) <;> rw [hr] at h <;> simp only [cond_true, cond_false] at h
    · cases h
    · exact xDG_sound hc h1 ⟨hr, xDet_sound hc h hj⟩
def xLoop (x : Env → Option (Exit × Env)) : Nat → Env → Option (Exit × Env)
  | 0, _ => none
  | n + 1, E => match x E with
    | some (e, E') => match e with
      | .normal => xLoop x n E'
      | e => some (e, E')
    | none => none
def xCode (P : Program) (c : Calls) (m : Muts) (n : Nat) : FC → Env → Option (Exit × Env)
  | .skip, E => some (.normal, E)
  | .ret, E => some (.ret, E)
  | .exit id, E => some (.exit id, E)
  | .seq x y, E => match xCode P c m n x E with
    | some (e, E') => match e with
      | .normal => xCode P c m n y E'
      | e => some (e, E')
    | none => none
  | .cond s x y, E => match E.look s with
    | .bool b => cond b (xCode P c m n x E) (xCode P c m n y E)
    | _ => none
  | .block id x, E => match xCode P c m n x E with
    | some (e, E') => match e with
      | .exit id' => cond (Nat.beq id' id) (some (.normal, E')) (some (.exit id', E'))
      | e => some (e, E')
    | none => none
  | .loop x, E => xLoop (fun E => xCode P c m n x E) n E
  | .reg dr fs ks, E => match dr with
    | none => match xOps P c m fs E with
      | some E' => some (.normal, E'.kills ks)
      | none => none
    | some k => cond (P.follows .mixedOrders && rootsOk (wrs (fs.take k)) E) (match xDet P c (wrs (fs.take k)) (fs.take k) E with
      | some Ef => match xOps P c m (fs.drop k) Ef with
        | some E' => some (.normal, E'.kills ks)
        | none => none
      | none => none) none
theorem xCode_sound {N n : Nat} (hc : SoundC P c) (hm : SoundM P m) : ∀ {x : FC} {E : Env} {r : Exit × Env} {K : Exit → Env → Prop}, xCode P c m n x E = some r → K r.1 r.2 → FW P N x E K
  | .skip, E, r, K, h, hk => by cases h; exact FW.skip hk
  | .ret, E, r, K, h, hk => by cases h; exact FW.ret hk
  | .exit id, E, r, K, h, hk => by cases h; exact FW.exit hk
  | .seq x y, E, r, K, h, hk => by
    simp only [xCode] at h
    split at h <;> try (cases h; done)
    rename_i e E' h1
    refine FW.seq (xCode_sound hc hm h1 ?_)
    cases e with
    | normal => exact xCode_sound hc hm h hk
    | _ => cases h; exact hk
  | .cond s x y, E, r, K, h, hk => by
    simp only [xCode] at h
    split at h <;> try (cases h; done)
    rename_i b hb
    refine FW.cond hb ?_
    cases b
    · exact xCode_sound hc hm h hk
    · exact xCode_sound hc hm h hk
  | .block id x, E, r, K, h, hk => by
    simp only [xCode] at h
    split at h <;> try (cases h; done)
    rename_i e E' h1
    refine FW.block (xCode_sound hc hm h1 ?_)
    cases e with
    | exit id' =>
      simp only [blockK]
      simp only at h
      cases hb : Nat.beq id' id <;> rw [hb] at h <;> simp only [cond_true, cond_false] at h <;> cases h
      · rw [if_neg (Nat.ne_of_beq_eq_false hb)]; exact hk
      · rw [if_pos (Nat.eq_of_beq_eq_true hb)]; exact hk
    | _ => cases h; exact hk
  | .loop x, E, r, K, h, hk => by
    simp only [xCode] at h
    refine FW.loop (fun k E => xLoop (fun E => xCode P c m n x E) k E = some r) n h fun k E1 h1 => ?_
    cases k with
    | zero => cases h1
    | succ k =>
      simp only [xLoop] at h1
      split at h1 <;> try (cases h1; done)
      rename_i e E2 h2
      refine xCode_sound hc hm h2 ?_
      cases e with
      | normal => exact ⟨k, Nat.lt_succ_self k, h1⟩
      | _ => cases h1; exact hk
  | .reg none fs ks, E, r, K, h, hk => by
    simp only [xCode] at h
    split at h <;> try (cases h; done)
    rename_i E' h1
    cases h
    exact FW.reg (xOps_sound hc hm h1 hk)
  | .reg (some k) fs ks, E, r, K, h, hk => by
    simp only [xCode] at h
    cases hf : P.follows .mixedOrders && rootsOk (wrs (fs.take k)) E <;> rw [hf] at h <;> simp only [cond_true, cond_false] at h
    · cases h
    simp only [Bool.and_eq_true] at hf
    split at h <;> try (cases h; done)
    rename_i Ef h1
    split at h <;> try (cases h; done)
    rename_i E' h2
    cases h
    exact FW.draw hf.1 hf.2 (xDet_sound hc h1 (xOps_sound hc hm h2 hk))
structure XE where
  fc : FC
  N : Nat
  na : Nat
  rs : List RV
def XT.find : List (FuncId × XE) → FuncId → Option XE
  | [], _ => none
  | (g, e) :: t, f => cond (Nat.beq g f) (some e) (XT.find t f)
def XT.Good (P : Program) : List (FuncId × XE) → Prop
  | [] => True
  | (g, e) :: t => (∃ fn, P.funcs[g]? = some fn ∧ fnOk P fn e.fc e.N e.na e.rs = true) ∧ XT.Good P t
theorem XT.find_good : ∀ {t : List (FuncId × XE)} {f : FuncId} {e : XE}, XT.Good P t → XT.find t f = some e → ∃ fn, P.funcs[f]? = some fn ∧ fnOk P fn e.fc e.N e.na e.rs = true
  | [], f, e, _, h => by cases h
  | (g, e') :: t, f, e, hg, h => by
    simp only [XT.find] at h
    cases hb : Nat.beq g f <;> rw [hb] at h <;> simp only [cond_true, cond_false] at h
    · exact XT.find_good hg.2 h
    · have := Nat.eq_of_beq_eq_true hb
      subst this
      cases h
      exact hg.1
def xFin (rs : List RV) (e : Exit) (E : Env) : Option FV := match e with
  | .normal | .ret => match outs E rs with
    | some x => some (one x.1)
    | none => none
  | _ => none
def xRun (P : Program) (c : Calls) (m : Muts) (n : Nat) (e : XE) (fs : List FV) : Option FV :=
  cond (Nat.beq fs.length e.na) (match xCode P c m n e.fc (entryFrom 0 fs) with
    | some (x, E) => xFin e.rs x E
    | none => none) none
def xCall (P : Program) (t : List (FuncId × XE)) (prim : Calls) (m : Muts) (n : Nat) : Nat → FuncId → List FV → Option FV
  | 0, _, _ => none
  | k + 1, f, fs => match prim f fs with
    | some v => some v
    | none => match XT.find t f with
      | some e => xRun P (xCall P t prim m n k) m n e fs
      | none => none
theorem xCall_sound {t : List (FuncId × XE)} {prim : Calls} {n : Nat} (ht : XT.Good P t) (hp : SoundC P prim) (hm : SoundM P m) : ∀ k, SoundC P (xCall P t prim m n k)
  | 0 => fun f fs v h => by cases h
  | k + 1 => fun f fs v h => by
    simp only [xCall] at h
    split at h
    · rename_i u hu
      cases h
      exact hp _ _ _ hu
    · split at h <;> try (cases h; done)
      rename_i e he
      obtain ⟨fn, h1, h2⟩ := XT.find_good ht he
      unfold xRun at h
      cases hl : Nat.beq fs.length e.na <;> rw [hl] at h <;> simp only [cond_true, cond_false] at h
      · cases h
      split at h <;> try (cases h; done)
      rename_i x E hx
      refine FCall.of h1 h2 (Nat.eq_of_beq_eq_true hl) (xCode_sound (xCall_sound ht hp hm k) hm hx ?_)
      unfold xFin at h
      cases x <;> simp only at h <;> try (cases h; done)
      · split at h <;> cases h
        rename_i y hy
        exact ⟨.inl rfl, y, hy, rfl⟩
      · split at h <;> cases h
        rename_i y hy
        exact ⟨.inr rfl, y, hy, rfl⟩
end
end Go.Fm
set_option linter.unusedVariables false
namespace Go.Fx.Tryz
open Go Go.Fm Go.Proofs
def tab : List (FuncId × XE) := [
  (n_law17_LawValidate, ⟨c_law17_LawValidate, 15, 1, [.t 2]⟩),
  (n_same_SmallLaw, ⟨c_same_SmallLaw, 127, 1, [.t 2]⟩),
  (n_law17_awake, ⟨c_law17_awake, 19, 0, [.t 0]⟩),
  (n_law_Validate, ⟨c_law_Validate, 124, 1, [.c 2 4 true]⟩),
  (n_ref17_Validate, ⟨c_ref17_Validate, 67, 1, [.c 2 4 true]⟩),
  (n_same_smallScope, ⟨c_same_smallScope, 93, 1, [.t 2]⟩),
  (n_same_TinyLaw, ⟨c_same_TinyLaw, 22, 1, [.c 2 3 true]⟩),
  (n_law_bad, ⟨c_law_bad, 14, 4, [.c 8 4 true]⟩),
  (n_law_name, ⟨c_law_name, 22, 4, [.c 8 4 true]⟩),
  (n_law_enum, ⟨c_law_enum, 46, 2, [.c 4 4 true]⟩),
  (n_law_rows, ⟨c_law_rows, 30, 3, [.c 6 4 true]⟩),
  (n_law_scope, ⟨c_law_scope, 115, 2, [.c 4 4 true]⟩),
  (n_ref17_enumError, ⟨c_ref17_enumError, 80, 2, [.c 4 4 true]⟩),
  (n_ref17_tableError, ⟨c_ref17_tableError, 47, 2, [.c 4 4 true]⟩),
  (n_ref17_scopeError, ⟨c_ref17_scopeError, 125, 2, [.c 4 4 true]⟩),
  (n_lexer_IsIdentifier, ⟨c_lexer_IsIdentifier, 29, 1, [.t 2]⟩),
  (n_slices_Contains_string_string, ⟨c_slices_Contains_string_string, 9, 2, [.t 4]⟩),
  (n_table_Validate, ⟨c_table_Validate, 58, 2, [.t 4, .t 5]⟩),
  (n_law_fields, ⟨c_law_fields, 59, 5, [.c 10 4 true]⟩),
  (n_law_names, ⟨c_law_names, 19, 1, [.t 2]⟩),
  (n_law_Signature, ⟨c_law_Signature, 50, 2, [.c 4 6 true]⟩),
  (n_law_rule, ⟨c_law_rule, 102, 3, [.t 6]⟩),
  (n_deps_Transitive, ⟨c_deps_Transitive, 59, 2, [.t 4]⟩),
  (n_slices_Contains_int_int, ⟨c_slices_Contains_int_int, 9, 2, [.t 4]⟩),
  (n_ref08_IsIdentifier, ⟨c_ref08_IsIdentifier, 44, 1, [.t 2]⟩),
  (n_ref17_nameTaken, ⟨c_ref17_nameTaken, 88, 4, [.t 8]⟩),
  (n_ref12_Validate, ⟨c_ref12_Validate, 57, 2, [.t 4, .t 5]⟩),
  (n_ref17_fieldError, ⟨c_ref17_fieldError, 122, 2, [.c 4 4 true]⟩),
  (n_ref17_ruleError, ⟨c_ref17_ruleError, 144, 3, [.t 6]⟩),
  (n_ref16_Transitive, ⟨c_ref16_Transitive, 47, 2, [.t 4]⟩),
  (n_lexer_lower, ⟨c_lexer_lower, 9, 1, [.t 2]⟩),
  (n_lexer_run, ⟨c_lexer_run, 20, 2, [.t 4]⟩),
  (n_lexer_part, ⟨c_lexer_part, 13, 1, [.t 2]⟩),
  (n_slices_Index_string_string, ⟨c_slices_Index_string_string, 19, 2, [.t 4]⟩),
  (n_value_ValidType, ⟨c_value_ValidType, 28, 2, [.t 4]⟩),
  (n_table_check, ⟨c_table_check, 82, 3, [.t 6]⟩),
  (n_table_conflict, ⟨c_table_conflict, 29, 2, [.t 4]⟩),
  (n_law_enums, ⟨c_law_enums, 23, 1, [.t 2]⟩),
  (n_law_tables, ⟨c_law_tables, 22, 1, [.t 2]⟩),
  (n_law_types, ⟨c_law_types, 19, 1, [.t 2]⟩),
  (n_law_member, ⟨c_law_member, 24, 2, [.c 4 5 true, .t 5]⟩),
  (n_law_named, ⟨c_law_named, 69, 2, [.t 4]⟩),
  (n_law_source, ⟨c_law_source, 29, 1, [.t 2]⟩),
  (n_law_expression, ⟨c_law_expression, 25, 3, [.t 6]⟩),
  (n_deps_valid, ⟨c_deps_valid, 14, 2, [.t 4]⟩),
  (n_deps_Direct, ⟨c_deps_Direct, 66, 2, [.t 4]⟩),
  (n_slices_Index_int_int, ⟨c_slices_Index_int_int, 19, 2, [.t 4]⟩),
  (n_ref08_lower, ⟨c_ref08_lower, 9, 1, [.t 2]⟩),
  (n_ref08_word, ⟨c_ref08_word, 13, 1, [.t 2]⟩),
  (n_ref08_Reserved, ⟨c_ref08_Reserved, 2, 0, [.t 0]⟩),
  (n_ref09_ValidType, ⟨c_ref09_ValidType, 31, 2, [.t 4]⟩),
  (n_ref12_wrong, ⟨c_ref12_wrong, 53, 3, [.t 6]⟩),
  (n_ref12_conflict, ⟨c_ref12_conflict, 29, 2, [.t 4]⟩),
  (n_ref17_hasField, ⟨c_ref17_hasField, 26, 3, [.t 6]⟩),
  (n_ref05_Valid, ⟨c_ref05_Valid, 18, 1, [.t 2]⟩),
  (n_ref17_plainText, ⟨c_ref17_plainText, 29, 1, [.t 2]⟩),
  (n_ref17_Signature, ⟨c_ref17_Signature, 55, 2, [.c 4 6 true]⟩),
  (n_ref17_exprError, ⟨c_ref17_exprError, 23, 3, [.t 6]⟩),
  (n_ref16_Direct, ⟨c_ref16_Direct, 93, 2, [.t 4]⟩),
  (n_ref16_insert, ⟨c_ref16_insert, 48, 2, [.t 4]⟩),
  (n_lexer_digit, ⟨c_lexer_digit, 9, 1, [.t 2]⟩),
  (n_value_Bounds, ⟨c_value_Bounds, 30, 2, [.t 4, .t 5]⟩),
  (n_daterange_Valid, ⟨c_daterange_Valid, 18, 1, [.t 2]⟩),
  (n_daterange_Intersect, ⟨c_daterange_Intersect, 35, 2, [.c 4 2 true, .t 5]⟩),
  (n_slices_Clone_string_string, ⟨c_slices_Clone_string_string, 8, 1, [.t 2]⟩),
  (n_slices_Clone_api_Row_api_Row, ⟨c_slices_Clone_api_Row_api_Row, 8, 1, [.t 2]⟩),
  (n_expr_TypeOf, ⟨c_expr_TypeOf, 79, 2, [.c 4 2 true, .t 5, .t 6]⟩),
  (n_expr_References, ⟨c_expr_References, 53, 1, [.t 2, .t 3, .t 4]⟩),
  (n_ref08_digit, ⟨c_ref08_digit, 9, 1, [.t 2]⟩),
  (n_ref09_In, ⟨c_ref09_In, 23, 3, [.t 6]⟩),
  (n_ref05_Intersect, ⟨c_ref05_Intersect, 34, 2, [.c 4 2 true, .t 5]⟩),
  (n_ref17_fieldTypes, ⟨c_ref17_fieldTypes, 20, 1, [.t 2]⟩),
  (n_ref10_TypeOf, ⟨c_ref10_TypeOf, 67, 2, [.c 4 2 true, .t 5, .t 6]⟩),
  (n_ref16_is, ⟨c_ref16_is, 14, 2, [.t 4]⟩),
  (n_ref10_References, ⟨c_ref10_References, 55, 1, [.t 2, .t 3, .t 4]⟩),
  (n_daterange_proper, ⟨c_daterange_proper, 12, 1, [.t 2]⟩),
  (n_expr_starts, ⟨c_expr_starts, 69, 1, [.t 2, .t 3, .t 4]⟩),
  (n_expr_operands, ⟨c_expr_operands, 37, 3, [.t 6]⟩),
  (n_expr_typeOf, ⟨c_expr_typeOf, 93, 3, [.c 6 2 true, .t 7]⟩),
  (n_expr_References_1, ⟨c_expr_References_1, 7, 1, [.t 2]⟩),
  (n_ref09_Bounds, ⟨c_ref09_Bounds, 30, 2, [.t 4, .t 5]⟩),
  (n_ref10_structure, ⟨c_ref10_structure, 70, 1, [.t 2, .t 3, .t 4]⟩),
  (n_ref10_Arity, ⟨c_ref10_Arity, 33, 1, [.t 2]⟩),
  (n_ref10_Result, ⟨c_ref10_Result, 87, 3, [.c 6 2 true, .t 7]⟩),
  (n_ref10_insert, ⟨c_ref10_insert, 48, 2, [.t 4]⟩),
  (n_expr_Arity, ⟨c_expr_Arity, 31, 1, [.t 2]⟩),
  (n_expr_number, ⟨c_expr_number, 67, 1, [.t 2]⟩),
  (n_expr_leaf, ⟨c_expr_leaf, 109, 2, [.c 4 2 true, .t 5]⟩),
  (n_expr_table, ⟨c_expr_table, 24, 2, [.c 4 6 true, .t 5]⟩),
  (n_expr_result, ⟨c_expr_result, 156, 2, [.c 4 2 true]⟩),
  (n_ref10_meaning, ⟨c_ref10_meaning, 35, 1, [.t 2]⟩),
  (n_ref10_ranged, ⟨c_ref10_ranged, 62, 2, [.t 4]⟩),
  (n_ref10_found, ⟨c_ref10_found, 103, 2, [.t 4]⟩),
  (n_ref10_leaf, ⟨c_ref10_leaf, 91, 2, [.c 4 2 true, .t 5]⟩),
  (n_ref10_single, ⟨c_ref10_single, 82, 3, [.c 6 2 true, .t 7]⟩),
  (n_ref10_double, ⟨c_ref10_double, 108, 3, [.c 6 2 true, .t 7]⟩),
  (n_expr_meaning, ⟨c_expr_meaning, 19, 1, [.t 2]⟩),
  (n_expr_at_api_Enum, ⟨c_expr_at_api_Enum, 20, 2, [.c 4 2 true, .t 5]⟩),
  (n_expr_at_string, ⟨c_expr_at_string, 20, 2, [.t 4, .t 5]⟩),
  (n_expr_at_api_Type, ⟨c_expr_at_api_Type, 20, 2, [.c 4 2 true, .t 5]⟩),
  (n_expr_aggregate, ⟨c_expr_aggregate, 23, 2, [.t 4]⟩),
  (n_expr_at_api_Table, ⟨c_expr_at_api_Table, 20, 2, [.c 4 6 true, .t 5]⟩),
  (n_expr_result_1, ⟨c_expr_result_1, 10, 2, [.c 4 2 true]⟩),
  (n_expr_numeric, ⟨c_expr_numeric, 13, 1, [.t 2]⟩),
  (n_expr_arithmetic, ⟨c_expr_arithmetic, 77, 3, [.t 6]⟩),
  (n_expr_ordered, ⟨c_expr_ordered, 9, 1, [.t 2]⟩),
  (n_ref10_kind, ⟨c_ref10_kind, 5, 1, [.c 2 2 true]⟩),
  (n_ref10_ordered, ⟨c_ref10_ordered, 9, 1, [.t 2]⟩),
  (n_ref10_number, ⟨c_ref10_number, 13, 1, [.t 2]⟩),
  (n_ref10_scaled, ⟨c_ref10_scaled, 56, 3, [.c 6 2 true, .t 7]⟩),
  (n_expr_literal, ⟨c_expr_literal, 10, 1, [.t 2]⟩)]
theorem tab_good : XT.Good Tryz.prog tab := ⟨⟨_, u_law17_LawValidate, k_law17_LawValidate⟩, ⟨_, u_same_SmallLaw, k_same_SmallLaw⟩, ⟨_, u_law17_awake, k_law17_awake⟩, ⟨_, u_law_Validate, k_law_Validate⟩, ⟨_, u_ref17_Validate, k_ref17_Validate⟩, ⟨_, u_same_smallScope, k_same_smallScope⟩, ⟨_, u_same_TinyLaw, k_same_TinyLaw⟩, ⟨_, u_law_bad, k_law_bad⟩, ⟨_, u_law_name, k_law_name⟩, ⟨_, u_law_enum, k_law_enum⟩, ⟨_, u_law_rows, k_law_rows⟩, ⟨_, u_law_scope, k_law_scope⟩, ⟨_, u_ref17_enumError, k_ref17_enumError⟩, ⟨_, u_ref17_tableError, k_ref17_tableError⟩, ⟨_, u_ref17_scopeError, k_ref17_scopeError⟩, ⟨_, u_lexer_IsIdentifier, k_lexer_IsIdentifier⟩, ⟨_, u_slices_Contains_string_string, k_slices_Contains_string_string⟩, ⟨_, u_table_Validate, k_table_Validate⟩, ⟨_, u_law_fields, k_law_fields⟩, ⟨_, u_law_names, k_law_names⟩, ⟨_, u_law_Signature, k_law_Signature⟩, ⟨_, u_law_rule, k_law_rule⟩, ⟨_, u_deps_Transitive, k_deps_Transitive⟩, ⟨_, u_slices_Contains_int_int, k_slices_Contains_int_int⟩, ⟨_, u_ref08_IsIdentifier, k_ref08_IsIdentifier⟩, ⟨_, u_ref17_nameTaken, k_ref17_nameTaken⟩, ⟨_, u_ref12_Validate, k_ref12_Validate⟩, ⟨_, u_ref17_fieldError, k_ref17_fieldError⟩, ⟨_, u_ref17_ruleError, k_ref17_ruleError⟩, ⟨_, u_ref16_Transitive, k_ref16_Transitive⟩, ⟨_, u_lexer_lower, k_lexer_lower⟩, ⟨_, u_lexer_run, k_lexer_run⟩, ⟨_, u_lexer_part, k_lexer_part⟩, ⟨_, u_slices_Index_string_string, k_slices_Index_string_string⟩, ⟨_, u_value_ValidType, k_value_ValidType⟩, ⟨_, u_table_check, k_table_check⟩, ⟨_, u_table_conflict, k_table_conflict⟩, ⟨_, u_law_enums, k_law_enums⟩, ⟨_, u_law_tables, k_law_tables⟩, ⟨_, u_law_types, k_law_types⟩, ⟨_, u_law_member, k_law_member⟩, ⟨_, u_law_named, k_law_named⟩, ⟨_, u_law_source, k_law_source⟩, ⟨_, u_law_expression, k_law_expression⟩, ⟨_, u_deps_valid, k_deps_valid⟩, ⟨_, u_deps_Direct, k_deps_Direct⟩, ⟨_, u_slices_Index_int_int, k_slices_Index_int_int⟩, ⟨_, u_ref08_lower, k_ref08_lower⟩, ⟨_, u_ref08_word, k_ref08_word⟩, ⟨_, u_ref08_Reserved, k_ref08_Reserved⟩, ⟨_, u_ref09_ValidType, k_ref09_ValidType⟩, ⟨_, u_ref12_wrong, k_ref12_wrong⟩, ⟨_, u_ref12_conflict, k_ref12_conflict⟩, ⟨_, u_ref17_hasField, k_ref17_hasField⟩, ⟨_, u_ref05_Valid, k_ref05_Valid⟩, ⟨_, u_ref17_plainText, k_ref17_plainText⟩, ⟨_, u_ref17_Signature, k_ref17_Signature⟩, ⟨_, u_ref17_exprError, k_ref17_exprError⟩, ⟨_, u_ref16_Direct, k_ref16_Direct⟩, ⟨_, u_ref16_insert, k_ref16_insert⟩, ⟨_, u_lexer_digit, k_lexer_digit⟩, ⟨_, u_value_Bounds, k_value_Bounds⟩, ⟨_, u_daterange_Valid, k_daterange_Valid⟩, ⟨_, u_daterange_Intersect, k_daterange_Intersect⟩, ⟨_, u_slices_Clone_string_string, k_slices_Clone_string_string⟩, ⟨_, u_slices_Clone_api_Row_api_Row, k_slices_Clone_api_Row_api_Row⟩, ⟨_, u_expr_TypeOf, k_expr_TypeOf⟩, ⟨_, u_expr_References, k_expr_References⟩, ⟨_, u_ref08_digit, k_ref08_digit⟩, ⟨_, u_ref09_In, k_ref09_In⟩, ⟨_, u_ref05_Intersect, k_ref05_Intersect⟩, ⟨_, u_ref17_fieldTypes, k_ref17_fieldTypes⟩, ⟨_, u_ref10_TypeOf, k_ref10_TypeOf⟩, ⟨_, u_ref16_is, k_ref16_is⟩, ⟨_, u_ref10_References, k_ref10_References⟩, ⟨_, u_daterange_proper, k_daterange_proper⟩, ⟨_, u_expr_starts, k_expr_starts⟩, ⟨_, u_expr_operands, k_expr_operands⟩, ⟨_, u_expr_typeOf, k_expr_typeOf⟩, ⟨_, u_expr_References_1, k_expr_References_1⟩, ⟨_, u_ref09_Bounds, k_ref09_Bounds⟩, ⟨_, u_ref10_structure, k_ref10_structure⟩, ⟨_, u_ref10_Arity, k_ref10_Arity⟩, ⟨_, u_ref10_Result, k_ref10_Result⟩, ⟨_, u_ref10_insert, k_ref10_insert⟩, ⟨_, u_expr_Arity, k_expr_Arity⟩, ⟨_, u_expr_number, k_expr_number⟩, ⟨_, u_expr_leaf, k_expr_leaf⟩, ⟨_, u_expr_table, k_expr_table⟩, ⟨_, u_expr_result, k_expr_result⟩, ⟨_, u_ref10_meaning, k_ref10_meaning⟩, ⟨_, u_ref10_ranged, k_ref10_ranged⟩, ⟨_, u_ref10_found, k_ref10_found⟩, ⟨_, u_ref10_leaf, k_ref10_leaf⟩, ⟨_, u_ref10_single, k_ref10_single⟩, ⟨_, u_ref10_double, k_ref10_double⟩, ⟨_, u_expr_meaning, k_expr_meaning⟩, ⟨_, u_expr_at_api_Enum, k_expr_at_api_Enum⟩, ⟨_, u_expr_at_string, k_expr_at_string⟩, ⟨_, u_expr_at_api_Type, k_expr_at_api_Type⟩, ⟨_, u_expr_aggregate, k_expr_aggregate⟩, ⟨_, u_expr_at_api_Table, k_expr_at_api_Table⟩, ⟨_, u_expr_result_1, k_expr_result_1⟩, ⟨_, u_expr_numeric, k_expr_numeric⟩, ⟨_, u_expr_arithmetic, k_expr_arithmetic⟩, ⟨_, u_expr_ordered, k_expr_ordered⟩, ⟨_, u_ref10_kind, k_ref10_kind⟩, ⟨_, u_ref10_ordered, k_ref10_ordered⟩, ⟨_, u_ref10_number, k_ref10_number⟩, ⟨_, u_ref10_scaled, k_ref10_scaled⟩, ⟨_, u_expr_literal, k_expr_literal⟩, trivial⟩
end Go.Fx.Tryz
namespace Go.Fx.Tryz
open Go Go.Fm Go.Proofs
theorem p_sort {zs : List Int} (h : zs.length < 4611686018427387904) : FMut Tryz.prog n_slices_Sort_int_int (ints zs) (· = ints (zs.mergeSort fun x y => decide (x ≤ y))) :=
  FMut.sort (fun blk off cap zs w => Go.Proofs.Tryz.slices_Sort_int blk off cap zs w) (fun p cap w => Go.Proofs.Tryz.slices_Sort_int_none p cap w) h
end Go.Fx.Tryz
set_option linter.unusedVariables false
set_option linter.unusedSimpArgs false
namespace Go.Fx.Tryz
open Go Go.Fm Go.Proofs
theorem unique_call {l : List Int} (h : l.length < 2 ^ 40) : FCall Tryz.prog n_expr_References_1 [.arr (ints l)] (· = .arr (ints (usort l))) := by
  refine FCall.walk u_expr_References_1 k_expr_References_1 rfl ?_
  unfold c_expr_References_1
  simp only [go_sem, simprocAttr]
  refine FMutT.of (p_sort (zs := l) (by omega)) ?_
  rintro _ rfl
  simp only [go_sem, simprocAttr]
  refine FCallT.of (p_compact (zs := l.mergeSort fun x y => decide (x ≤ y)) (by rw [List.length_mergeSort]; omega)) ?_
  rintro _ rfl
  simp only [go_sem, simprocAttr, compact_sort]
theorem insert_call {l : List Int} {n : Int} {u : Bool} (h : l.length < 2 ^ 42) : FCall Tryz.prog n_ref16_insert [.sl u (ints l), .int .i64 n] (· = .arr (ints (insZ n l))) := by
  refine FCall.walk u_ref16_insert k_ref16_insert rfl ?_
  unfold c_ref16_insert
  simp only [go_sem, simprocAttr]
  refine FWT.upd [] (fun s : Nat × List Int × Bool => [(5, .arr (ints s.2.1)), (6, .bool s.2.2), (7, .int .i64 s.1)]) (fun s => l.length - s.1) (fun s => s.1 ≤ l.length ∧ InsInv n l s.1 s.2.1 s.2.2) (0, [], false) rfl ⟨by simp, by simp [InsInv]⟩ ?_
  rintro ⟨i, out, done⟩ ⟨g1, g2⟩
  simp only at g1 g2
  by_cases hi : i < l.length
  · have hx := ints_get hi
    have hd : l.drop i = l[i] :: l.drop (i + 1) := List.drop_eq_getElem_cons hi
    cases done with
    | true =>
      simp only [InsInv, if_true] at g2
      simp only [go_sem, simprocAttr, ltT hi, Int.toNat_natCast, hx]
      refine ⟨by omega, (i + 1, out ++ [l[i]], true), by rw [w64s (by omega), ints_snoc], ⟨hi, ?_⟩, by simp only; omega⟩
      simp only [InsInv, if_true]
      exact ⟨by rw [g2.1, hd]; simp, by simp; omega⟩
    | false =>
      simp only [InsInv, Bool.false_eq_true, if_false] at g2
      have hl0 : l = l.take i ++ l[i] :: l.drop (i + 1) := by rw [← hd, List.take_append_drop]
      have hol : out.length ≤ i := by rw [g2.1]; simp; omega
      by_cases c1 : n ≤ l[i]
      · have hs := insZ_split (r := l.drop (i + 1)) g2.2 c1
        rw [← hl0, ← g2.1] at hs
        by_cases c2 : n < l[i]
        · simp only [go_sem, simprocAttr, ltT hi, Int.toNat_natCast, hx, c1, c2]
          rw [if_pos c2] at hs
          refine ⟨by omega, by rw [← ints_snoc]; exact ⟨rowsOk_ints _, by rw [ints_length]; simp; omega⟩, (i + 1, out ++ [n] ++ [l[i]], true), by rw [w64s (by omega), ints_snoc, ints_snoc], ⟨hi, ?_⟩, by simp only; omega⟩
          simp only [InsInv, if_true]
          exact ⟨by rw [hs]; simp, by simp; omega⟩
        · simp only [go_sem, simprocAttr, ltT hi, Int.toNat_natCast, hx, c1, c2]
          rw [if_neg c2] at hs
          refine ⟨by omega, (i + 1, out ++ [l[i]], true), by rw [w64s (by omega), ints_snoc], ⟨hi, ?_⟩, by simp only; omega⟩
          simp only [InsInv, if_true]
          exact ⟨by rw [hs]; simp, by simp; omega⟩
      · simp only [go_sem, simprocAttr, ltT hi, Int.toNat_natCast, hx, c1]
        refine ⟨by omega, (i + 1, out ++ [l[i]], false), by rw [w64s (by omega), ints_snoc], ⟨hi, ?_⟩, by simp only; omega⟩
        simp only [InsInv, Bool.false_eq_true, if_false]
        exact ⟨by rw [g2.1, List.take_succ_eq_append_getElem hi], (all_take_succ hi).2 ⟨g2.2, by omega⟩⟩
  · obtain rfl : i = l.length := by omega
    cases done with
    | true =>
      simp only [InsInv, if_true] at g2
      simp only [go_sem, simprocAttr, ltF hi]
      rw [g2.1]; simp
    | false =>
      simp only [InsInv, Bool.false_eq_true, if_false] at g2
      rw [List.take_length] at g2
      simp only [go_sem, simprocAttr, ltF hi]
      rw [g2.1, insZ_lt g2.2, ints_snoc]
      exact ⟨by omega, rfl⟩
theorem insertQ_call {l : List Int} {n : Int} {u : Bool} (h : l.length < 2 ^ 42) : FCall Tryz.prog n_ref10_insert [.sl u (ints l), .int .i64 n] (· = .arr (ints (insZ n l))) := by
  refine FCall.walk u_ref10_insert k_ref10_insert rfl ?_
  unfold c_ref10_insert
  simp only [go_sem, simprocAttr]
  refine FWT.upd [] (fun s : Nat × List Int × Bool => [(5, .arr (ints s.2.1)), (6, .bool s.2.2), (7, .int .i64 s.1)]) (fun s => l.length - s.1) (fun s => s.1 ≤ l.length ∧ InsInv n l s.1 s.2.1 s.2.2) (0, [], false) rfl ⟨by simp, by simp [InsInv]⟩ ?_
  rintro ⟨i, out, done⟩ ⟨g1, g2⟩
  simp only at g1 g2
  by_cases hi : i < l.length
  · have hx := ints_get hi
    have hd : l.drop i = l[i] :: l.drop (i + 1) := List.drop_eq_getElem_cons hi
    cases done with
    | true =>
      simp only [InsInv, if_true] at g2
      simp only [go_sem, simprocAttr, ltT hi, Int.toNat_natCast, hx]
      refine ⟨by omega, (i + 1, out ++ [l[i]], true), by rw [w64s (by omega), ints_snoc], ⟨hi, ?_⟩, by simp only; omega⟩
      simp only [InsInv, if_true]
      exact ⟨by rw [g2.1, hd]; simp, by simp; omega⟩
    | false =>
      simp only [InsInv, Bool.false_eq_true, if_false] at g2
      have hl0 : l = l.take i ++ l[i] :: l.drop (i + 1) := by rw [← hd, List.take_append_drop]
      have hol : out.length ≤ i := by rw [g2.1]; simp; omega
      by_cases c1 : n ≤ l[i]
      · have hs := insZ_split (r := l.drop (i + 1)) g2.2 c1
        rw [← hl0, ← g2.1] at hs
        by_cases c2 : n < l[i]
        · simp only [go_sem, simprocAttr, ltT hi, Int.toNat_natCast, hx, c1, c2]
          rw [if_pos c2] at hs
          refine ⟨by omega, by rw [← ints_snoc]; exact ⟨rowsOk_ints _, by rw [ints_length]; simp; omega⟩, (i + 1, out ++ [n] ++ [l[i]], true), by rw [w64s (by omega), ints_snoc, ints_snoc], ⟨hi, ?_⟩, by simp only; omega⟩
          simp only [InsInv, if_true]
          exact ⟨by rw [hs]; simp, by simp; omega⟩
        · simp only [go_sem, simprocAttr, ltT hi, Int.toNat_natCast, hx, c1, c2]
          rw [if_neg c2] at hs
          refine ⟨by omega, (i + 1, out ++ [l[i]], true), by rw [w64s (by omega), ints_snoc], ⟨hi, ?_⟩, by simp only; omega⟩
          simp only [InsInv, if_true]
          exact ⟨by rw [hs]; simp, by simp; omega⟩
      · simp only [go_sem, simprocAttr, ltT hi, Int.toNat_natCast, hx, c1]
        refine ⟨by omega, (i + 1, out ++ [l[i]], false), by rw [w64s (by omega), ints_snoc], ⟨hi, ?_⟩, by simp only; omega⟩
        simp only [InsInv, Bool.false_eq_true, if_false]
        exact ⟨by rw [g2.1, List.take_succ_eq_append_getElem hi], (all_take_succ hi).2 ⟨g2.2, by omega⟩⟩
  · obtain rfl : i = l.length := by omega
    cases done with
    | true =>
      simp only [InsInv, if_true] at g2
      simp only [go_sem, simprocAttr, ltF hi]
      rw [g2.1]; simp
    | false =>
      simp only [InsInv, Bool.false_eq_true, if_false] at g2
      rw [List.take_length] at g2
      simp only [go_sem, simprocAttr, ltF hi]
      rw [g2.1, insZ_lt g2.2, ints_snoc]
      exact ⟨by omega, rfl⟩
theorem References_call {e : List NodeL} {u : Bool} (h : e.length < 2 ^ 40) : FCall Tryz.prog n_expr_References [.sl u (nodesV e)] (· = .tup [.arr (ints (usort (refsN 7 e))), .arr (ints (usort (refsN 8 e))), .arr (ints (usort (refsM e)))]) := by
  refine FCall.walk u_expr_References k_expr_References rfl ?_
  unfold c_expr_References
  simp only [go_sem, simprocAttr]
  refine FWT.count [] e.length (fun i => [(5, .arr (ints (refsN 7 (e.take i)))), (6, .arr (ints (refsN 8 (e.take i)))), (7, .arr (ints (refsM (e.take i)))), (13, .int .i64 i)]) (fun _ => True) rfl trivial ?_
  intro i hi _
  by_cases h2 : i < e.length
  · have hx := nodesV_get h2
    have b7 := refsN_length (op := 7) (e := e.take i)
    have b8 := refsN_length (op := 8) (e := e.take i)
    have bm := refsM_length (e := e.take i)
    have hlen : (e.take i).length ≤ e.length := by simp; omega
    simp only [go_sem, simprocAttr, ltT h2, Int.toNat_natCast, hx, NodeL.row]
    repeat' first
      | apply And.intro <;> intro h
      | ((first
        | (refine FCallT.of () ?_; rintro _ rfl)
        | refine detCall_of _ () ?_
        | refine detCallB_of _ () rfl ?_); simp only [go_sem, simprocAttr])
    all_goals first | (exfalso; omega) | skip
    all_goals rw [w64s (by omega)]
    all_goals have r1 := refsN_succ (op := 7) h2
    all_goals have r2 := refsN_succ (op := 8) h2
    all_goals have r3 := refsM_succ h2
    all_goals simp only [*, reduceIte, Int.reduceEq, Int.reduceLE, and_self, false_and, and_false, true_and, and_true, List.append_nil, ints_snoc] at r1 r2 r3
    all_goals first | (rw [r1, r2, r3, ints_snoc]; exact ⟨by omega, rfl, h2⟩) | (rw [r1, r2, r3]; exact ⟨rfl, h2⟩) | (rw [r1, r2, r3, if_neg (by omega)]; simp only [List.append_nil]; exact ⟨trivial, h2⟩)
  · rw [List.take_of_length_le (by omega)]
    have k7 := refsN_length (op := 7) (e := e)
    have k8 := refsN_length (op := 8) (e := e)
    have km := refsM_length (e := e)
    have isFn_u : isFn Tryz.prog n_expr_References_1 = true := by kernel_rfl
    simp only [go_sem, simprocAttr, ltF h2, isFn_u]
    refine FCallT.of (unique_call (l := refsN 7 e) (by omega)) ?_
    rintro _ rfl
    simp only [go_sem, simprocAttr, isFn_u]
    refine FCallT.of (unique_call (l := refsN 8 e) (by omega)) ?_
    rintro _ rfl
    simp only [go_sem, simprocAttr, isFn_u]
    refine FCallT.of (unique_call (l := refsM e) (by omega)) ?_
    rintro _ rfl
    simp only [go_sem, simprocAttr, isFn_u]
theorem usort_snoc (l : List Int) (x : Int) : usort (l ++ [x]) = insZ x (usort l) := by rw [usort_append]; rfl
theorem ReferencesR_call {e : List NodeL} {u : Bool} (h : e.length < 2 ^ 39) : FCall Tryz.prog n_ref10_References [.sl u (nodesV e)] (· = .tup [.arr (ints (usort (refsN 7 e))), .arr (ints (usort (refsN 8 e))), .arr (ints (usort (refsM e)))]) := by
  refine FCall.walk u_ref10_References k_ref10_References rfl ?_
  unfold c_ref10_References
  simp only [go_sem, simprocAttr]
  refine FWT.count [] e.length (fun i => [(5, .arr (ints (usort (refsN 7 (e.take i))))), (6, .arr (ints (usort (refsN 8 (e.take i))))), (7, .arr (ints (usort (refsM (e.take i))))), (8, .int .i64 i)]) (fun _ => True) rfl trivial ?_
  intro i hi _
  by_cases h2 : i < e.length
  · have hx := nodesV_get h2
    have b7 := Nat.le_trans (usort_length _) (refsN_length (op := 7) (e := e.take i))
    have b8 := Nat.le_trans (usort_length _) (refsN_length (op := 8) (e := e.take i))
    have bm := Nat.le_trans (usort_length _) (refsM_length (e := e.take i))
    have hlen : (e.take i).length ≤ e.length := by simp; omega
    have r1 := refsN_succ (op := 7) h2
    have r2 := refsN_succ (op := 8) h2
    have r3 := refsM_succ h2
    by_cases c7 : e[i].op = 7
    · skip
      have p7 : (e[i].op = 7) = True := eq_true (by omega)
      have p8 : (e[i].op = 8) = False := eq_false (by omega)
      have p36 : (36 ≤ e[i].op) = False := eq_false (by omega)
      have p39 : (e[i].op ≤ 39) = True := eq_true (by omega)
      rw [if_pos (by omega)] at r1
      rw [if_neg (by omega), List.append_nil] at r2
      rw [if_neg (by omega), List.append_nil] at r3
      simp only [go_sem, simprocAttr, p7, p8, p36, p39, ltT h2, Int.toNat_natCast, hx, NodeL.row, free_ints]
      refine FCallT.of (insertQ_call (l := usort (refsN 7 (e.take i))) (n := e[i].n) (by omega)) ?_
      rintro _ rfl
      simp only [go_sem, simprocAttr, p7, p8, p36, p39, ltT h2, Int.toNat_natCast, hx, NodeL.row, free_ints]
      rw [r1, r2, r3, w64s (by omega), usort_snoc]
      exact ⟨rfl, h2⟩
    by_cases c8 : e[i].op = 8
    · skip
      have p7 : (e[i].op = 7) = False := eq_false (by omega)
      have p8 : (e[i].op = 8) = True := eq_true (by omega)
      have p36 : (36 ≤ e[i].op) = False := eq_false (by omega)
      have p39 : (e[i].op ≤ 39) = True := eq_true (by omega)
      rw [if_neg (by omega), List.append_nil] at r1
      rw [if_pos (by omega)] at r2
      rw [if_neg (by omega), List.append_nil] at r3
      simp only [go_sem, simprocAttr, p7, p8, p36, p39, ltT h2, Int.toNat_natCast, hx, NodeL.row, free_ints]
      refine FCallT.of (insertQ_call (l := usort (refsN 8 (e.take i))) (n := e[i].n) (by omega)) ?_
      rintro _ rfl
      simp only [go_sem, simprocAttr, p7, p8, p36, p39, ltT h2, Int.toNat_natCast, hx, NodeL.row, free_ints]
      rw [r1, r2, r3, w64s (by omega), usort_snoc]
      exact ⟨rfl, h2⟩
    by_cases c36 : 36 ≤ e[i].op
    · by_cases c39 : e[i].op ≤ 39
      · skip
        have p7 : (e[i].op = 7) = False := eq_false (by omega)
        have p8 : (e[i].op = 8) = False := eq_false (by omega)
        have p36 : (36 ≤ e[i].op) = True := eq_true (by omega)
        have p39 : (e[i].op ≤ 39) = True := eq_true (by omega)
        rw [if_neg (by omega), List.append_nil] at r1
        rw [if_neg (by omega), List.append_nil] at r2
        rw [if_pos (by omega)] at r3
        simp only [go_sem, simprocAttr, p7, p8, p36, p39, ltT h2, Int.toNat_natCast, hx, NodeL.row, free_ints]
        refine FCallT.of (insertQ_call (l := usort (refsM (e.take i))) (n := e[i].n) (by omega)) ?_
        rintro _ rfl
        simp only [go_sem, simprocAttr, p7, p8, p36, p39, ltT h2, Int.toNat_natCast, hx, NodeL.row, free_ints]
        rw [r1, r2, r3, w64s (by omega), usort_snoc]
        exact ⟨rfl, h2⟩
      · skip
        have p7 : (e[i].op = 7) = False := eq_false (by omega)
        have p8 : (e[i].op = 8) = False := eq_false (by omega)
        have p36 : (36 ≤ e[i].op) = True := eq_true (by omega)
        have p39 : (e[i].op ≤ 39) = False := eq_false (by omega)
        rw [if_neg (by omega), List.append_nil] at r1
        rw [if_neg (by omega), List.append_nil] at r2
        rw [if_neg (by omega), List.append_nil] at r3
        simp only [go_sem, simprocAttr, p7, p8, p36, p39, ltT h2, Int.toNat_natCast, hx, NodeL.row, free_ints]
        rw [r1, r2, r3, w64s (by omega)]
        exact ⟨rfl, h2⟩
    · by_cases c39 : e[i].op ≤ 39
      · skip
        have p7 : (e[i].op = 7) = False := eq_false (by omega)
        have p8 : (e[i].op = 8) = False := eq_false (by omega)
        have p36 : (36 ≤ e[i].op) = False := eq_false (by omega)
        have p39 : (e[i].op ≤ 39) = True := eq_true (by omega)
        rw [if_neg (by omega), List.append_nil] at r1
        rw [if_neg (by omega), List.append_nil] at r2
        rw [if_neg (by omega), List.append_nil] at r3
        simp only [go_sem, simprocAttr, p7, p8, p36, p39, ltT h2, Int.toNat_natCast, hx, NodeL.row, free_ints]
        rw [r1, r2, r3, w64s (by omega)]
        exact ⟨rfl, h2⟩
      · omega
  · rw [List.take_of_length_le (by omega)]
    simp only [go_sem, simprocAttr, ltF h2]
theorem deps_valid_call {s : ScopeL} {d : Int} : FCall Tryz.prog n_deps_valid [.agg s.row, .int .i64 d] (· = .bool (bp (0 ≤ d ∧ d < s.defs.length))) := by
  refine FCall.walk u_deps_valid k_deps_valid rfl ?_
  unfold c_deps_valid
  simp only [go_sem, simprocAttr, ScopeL.row]
  repeat' first
    | apply And.intro <;> intro h
    | ((first
      | (refine FCallT.of () ?_; rintro _ rfl)
      | refine detCall_of _ () ?_
      | refine detCallB_of _ () rfl ?_); simp only [go_sem, simprocAttr])
  all_goals first | exact fbp_false (by omega) | (rw [dec_bp]; exact congrArg FV.bool (bp_congr (by omega)))
theorem is_call {s : ScopeL} {d : Int} : FCall Tryz.prog n_ref16_is [.agg s.row, .int .i64 d] (· = .bool (bp (0 ≤ d ∧ d < s.defs.length))) := by
  refine FCall.walk u_ref16_is k_ref16_is rfl ?_
  unfold c_ref16_is
  simp only [go_sem, simprocAttr, ScopeL.row]
  repeat' first
    | apply And.intro <;> intro h
    | ((first
      | (refine FCallT.of () ?_; rintro _ rfl)
      | refine detCall_of _ () ?_
      | refine detCallB_of _ () rfl ?_); simp only [go_sem, simprocAttr])
  all_goals first | exact fbp_false (by omega) | (rw [dec_bp]; exact congrArg FV.bool (bp_congr (by omega)))
end Go.Fx.Tryz
set_option linter.unusedVariables false
set_option linter.unusedSimpArgs false
namespace Go.Fm
open Go
inductive Reach (D : Int → List Int) (a : Int) : Int → Prop
  | one {x : Int} : x ∈ D a → Reach D a x
  | more {x y : Int} : Reach D a x → y ∈ D x → Reach D a y
noncomputable def numsL (p : Int → Prop) (n : Nat) : List Int := ((List.range n).map (fun i : Nat => (i : Int))).filter (fun x => bp (p x))
theorem mem_numsL {p : Int → Prop} {n : Nat} {x : Int} : x ∈ numsL p n ↔ (0 ≤ x ∧ x < n) ∧ p x := by
  unfold numsL
  simp only [List.mem_filter, List.mem_map, List.mem_range, bp_iff]
  constructor
  · rintro ⟨⟨i, h, rfl⟩, hp⟩; exact ⟨⟨by omega, by omega⟩, hp⟩
  · rintro ⟨⟨h1, h2⟩, hp⟩; exact ⟨⟨x.toNat, by omega, by omega⟩, hp⟩
theorem ssort_range (n : Nat) : SSort ((List.range n).map (fun i : Nat => (i : Int))) := by
  rw [SSort, List.pairwise_map]
  exact List.pairwise_lt_range.imp fun h => by omega
theorem ssort_numsL (p : Int → Prop) (n : Nat) : SSort (numsL p n) := (ssort_range n).filter _
theorem numsL_length (p : Int → Prop) (n : Nat) : (numsL p n).length ≤ n := by
  unfold numsL
  refine Nat.le_trans (List.length_filter_le _ _) ?_
  simp
noncomputable def transL (D : Int → List Int) (n : Nat) (a : Int) : List Int := numsL (Reach D a) n
noncomputable def cntP (p : Int → Prop) : Nat → Nat
  | 0 => 0
  | n + 1 => cntP p n + (if bp (p n) then 1 else 0)
theorem cntP_le (p : Int → Prop) : ∀ n, cntP p n ≤ n
  | 0 => Nat.le_refl _
  | n + 1 => by have := cntP_le p n; unfold cntP; split <;> omega
theorem cntP_mono {p q : Int → Prop} : ∀ {n : Nat}, (∀ x : Int, 0 ≤ x → x < n → p x → q x) → cntP p n ≤ cntP q n
  | 0, _ => Nat.le_refl _
  | n + 1, h => by
    have ih := cntP_mono (p := p) (q := q) (n := n) fun x h1 h2 => h x h1 (by omega)
    unfold cntP
    by_cases hp : p n
    · rw [bp_true hp, bp_true (h n (by omega) (by omega) hp)]; simpa using ih
    · rw [bp_false hp]; simp; omega
theorem cntP_lt {p q : Int → Prop} : ∀ {n : Nat}, (∀ x : Int, 0 ≤ x → x < n → p x → q x) → (∃ x : Int, 0 ≤ x ∧ x < n ∧ q x ∧ ¬ p x) → cntP p n < cntP q n
  | 0, _, ⟨x, h1, h2, _⟩ => by omega
  | n + 1, h, ⟨x, h1, h2, h3, h4⟩ => by
    have h' : ∀ x : Int, 0 ≤ x → x < n → p x → q x := fun x h1 h2 => h x h1 (by omega)
    unfold cntP
    by_cases e : x = n
    · subst e
      rw [bp_false h4, bp_true h3]
      have := cntP_mono h'
      simp; omega
    · have ih := cntP_lt h' ⟨x, h1, by omega, h3, h4⟩
      by_cases hp : p n
      · rw [bp_true hp, bp_true (h n (by omega) (by omega) hp)]; simpa using ih
      · rw [bp_false hp]; simp; omega
section
variable {D : Int → List Int} {n : Nat} {a : Int}
def roundS (D : Int → List Int) (out : List Int) : List Int := out.foldl (fun o x => (D x).foldl (fun o y => insZ y o) o) out
theorem mem_foldRound {y : Int} : ∀ {l o : List Int}, y ∈ l.foldl (fun o x => (D x).foldl (fun o y => insZ y o) o) o ↔ y ∈ o ∨ ∃ x ∈ l, y ∈ D x
  | [], o => by simp
  | z :: l, o => by
    simp only [List.foldl_cons, mem_foldRound (l := l), foldl_insZ_mem, List.mem_cons]
    constructor
    · rintro ((h | h) | ⟨x, hx, h⟩)
      · exact .inl h
      · exact .inr ⟨z, .inl rfl, h⟩
      · exact .inr ⟨x, .inr hx, h⟩
    · rintro (h | ⟨x, rfl | hx, h⟩)
      · exact .inl (.inl h)
      · exact .inl (.inr h)
      · exact .inr ⟨x, hx, h⟩
theorem ssort_foldRound : ∀ {l o : List Int}, SSort o → SSort (l.foldl (fun o x => (D x).foldl (fun o y => insZ y o) o) o)
  | [], o, h => h
  | z :: l, o, h => by simp only [List.foldl_cons]; exact ssort_foldRound (foldl_insZ_ssort h)
def roundsS (D : Int → List Int) (a : Int) : Nat → List Int
  | 0 => D a
  | r + 1 => roundS D (roundsS D a r)
theorem rounds_sub {y : Int} : ∀ {r : Nat}, y ∈ roundsS D a r → Reach D a y
  | 0, h => .one h
  | r + 1, h => by
    rcases mem_foldRound.1 h with h | ⟨x, hx, h⟩
    · exact rounds_sub h
    · exact .more (rounds_sub hx) h
theorem rounds_keep {y : Int} : ∀ {r : Nat}, y ∈ D a → y ∈ roundsS D a r
  | 0, h => h
  | r + 1, h => mem_foldRound.2 (.inl (rounds_keep h))
theorem rounds_ssort (h : SSort (D a)) : ∀ {r : Nat}, SSort (roundsS D a r)
  | 0 => h
  | r + 1 => ssort_foldRound (rounds_ssort h)
theorem rounds_closed (hD : ∀ x y, y ∈ D x → 0 ≤ y ∧ y < n) : ∀ r, (∀ x ∈ roundsS D a r, ∀ y ∈ D x, y ∈ roundsS D a r) ∨ r < cntP (· ∈ roundsS D a r) n
  | 0 => by
    by_cases h : D a = []
    · left; intro x hx; simp [roundsS, h] at hx
    · right
      obtain ⟨y, l, e⟩ := List.exists_cons_of_ne_nil h
      have hy : y ∈ D a := by simp [e]
      have := cntP_lt (p := fun _ => False) (q := (· ∈ roundsS D a 0)) (n := n) (fun _ _ _ h => h.elim) ⟨y, (hD a y hy).1, (hD a y hy).2, hy, fun h => h⟩
      omega
  | r + 1 => by
    rcases rounds_closed hD r with h | h
    · left
      intro x hx y hy
      have hx' : x ∈ roundsS D a r := by
        rcases mem_foldRound.1 hx with h1 | ⟨z, hz, h1⟩
        · exact h1
        · exact h z hz x h1
      exact mem_foldRound.2 (.inl (h x hx' y hy))
    · by_cases hc : ∀ x ∈ roundsS D a r, ∀ y ∈ D x, y ∈ roundsS D a r
      · left
        intro x hx y hy
        have hx' : x ∈ roundsS D a r := by
          rcases mem_foldRound.1 hx with h1 | ⟨z, hz, h1⟩
          · exact h1
          · exact hc z hz x h1
        exact mem_foldRound.2 (.inl (hc x hx' y hy))
      · right
        have ⟨x, hx, y, hy, hn⟩ : ∃ x ∈ roundsS D a r, ∃ y ∈ D x, y ∉ roundsS D a r := by
          refine Classical.byContradiction fun hh => hc fun x hx y hy => Classical.byContradiction fun hn => hh ⟨x, hx, y, hy, hn⟩
        have := cntP_lt (p := (· ∈ roundsS D a r)) (q := (· ∈ roundsS D a (r + 1))) (n := n) (fun x _ _ h => mem_foldRound.2 (.inl h))
          ⟨y, (hD x y hy).1, (hD x y hy).2, mem_foldRound.2 (.inr ⟨x, hx, hy⟩), hn⟩
        omega
theorem reach_lt (hD : ∀ x y, y ∈ D x → 0 ≤ y ∧ y < n) {y : Int} (h : Reach D a y) : 0 ≤ y ∧ y < n := by
  cases h with
  | one h => exact hD _ _ h
  | more _ h => exact hD _ _ h
theorem rounds_eq (hD : ∀ x y, y ∈ D x → 0 ≤ y ∧ y < n) (hs : SSort (D a)) : roundsS D a n = transL D n a := by
  refine ssort_ext (rounds_ssort hs) (ssort_numsL _ _) fun x => ?_
  rw [transL, mem_numsL]
  constructor
  · intro h
    have := rounds_sub h
    exact ⟨reach_lt hD this, this⟩
  · rintro ⟨hh, h⟩
    clear hh
    have hc : ∀ x ∈ roundsS D a n, ∀ y ∈ D x, y ∈ roundsS D a n := by
      rcases rounds_closed (a := a) hD n with h | h
      · exact h
      · have := cntP_le (· ∈ roundsS D a n) n; omega
    induction h with
    | one h => exact rounds_keep h
    | more _ h ih => exact hc _ ih _ h
structure Bfs (D : Int → List Int) (n : Nat) (a : Int) (p : Int → Prop) (todo : List Int) : Prop where
  r1 : ∀ x, p x → Reach D a x
  r2 : ∀ x ∈ todo, Reach D a x
  s1 : ∀ y ∈ D a, p y ∨ y ∈ todo
  s2 : ∀ x, p x → ∀ y ∈ D x, p y ∨ y ∈ todo
theorem Bfs.start : Bfs D n a (fun _ => False) (D a) := ⟨fun _ h => h.elim, fun x h => .one h, fun y h => .inr h, fun _ h => h.elim⟩
theorem Bfs.old {p : Int → Prop} {x : Int} {todo : List Int} (h : Bfs D n a p (x :: todo)) (hx : p x) : Bfs D n a p todo :=
  ⟨h.r1, fun y m => h.r2 y (by simp [m]), fun y m => by
    rcases h.s1 y m with h1 | h1
    · exact .inl h1
    · rcases List.mem_cons.1 h1 with rfl | h1
      · exact .inl hx
      · exact .inr h1, fun z hz y m => by
    rcases h.s2 z hz y m with h1 | h1
    · exact .inl h1
    · rcases List.mem_cons.1 h1 with rfl | h1
      · exact .inl hx
      · exact .inr h1⟩
theorem Bfs.new {p : Int → Prop} {x : Int} {todo : List Int} (h : Bfs D n a p (x :: todo)) : Bfs D n a (fun y => y = x ∨ p y) (todo ++ D x) :=
  ⟨fun y m => by
    rcases m with rfl | m
    · exact h.r2 _ (by simp)
    · exact h.r1 y m, fun y m => by
    rcases List.mem_append.1 m with m | m
    · exact h.r2 y (by simp [m])
    · exact .more (h.r2 x (by simp)) m, fun y m => by
    rcases h.s1 y m with h1 | h1
    · exact .inl (.inr h1)
    · rcases List.mem_cons.1 h1 with rfl | h1
      · exact .inl (.inl rfl)
      · exact .inr (by simp [h1]), fun z hz y m => by
    rcases hz with rfl | hz
    · exact .inr (by simp [m])
    · rcases h.s2 z hz y m with h1 | h1
      · exact .inl (.inr h1)
      · rcases List.mem_cons.1 h1 with rfl | h1
        · exact .inl (.inl rfl)
        · exact .inr (by simp [h1])⟩
theorem Bfs.done {p : Int → Prop} (h : Bfs D n a p []) (x : Int) : p x ↔ Reach D a x := by
  refine ⟨h.r1 x, fun hr => ?_⟩
  induction hr with
  | one hx => exact (h.s1 _ hx).resolve_right (by simp)
  | more _ hy ih => exact (h.s2 _ ih _ hy).resolve_right (by simp)
end
end Go.Fm
set_option linter.unusedVariables false
set_option linter.unusedSimpArgs false
namespace Go.Fm
open Go
def inD (s : ScopeL) (x : Int) : Bool := decide (0 ≤ x ∧ x < s.defs.length)
def partD (s : ScopeL) (g : List NodeL) : List Int := (usort (refsN 8 g)).filter (inD s)
def stepD (s : ScopeL) (d : Int) (r : RuleL) : List Int := if r.d = d then partD s r.guard ++ partD s r.value else []
def outD (s : ScopeL) (d : Int) (i : Nat) : List Int := (s.rules.take i).flatMap (stepD s d)
def directL (s : ScopeL) (d : Int) : List Int := if inD s d then usort (outD s d s.rules.length) else []
def ScopeL.mid (s : ScopeL) : Prop := s.defs.length ≤ 1048576 ∧ s.rules.length ≤ 1048576 ∧ ∀ r ∈ s.rules, r.guard.length ≤ 1048576 ∧ r.value.length ≤ 1048576
theorem partD_length (s : ScopeL) (g : List NodeL) : (partD s g).length ≤ g.length := Nat.le_trans (List.length_filter_le _ _) (Nat.le_trans (usort_length _) refsN_length)
theorem stepD_length {s : ScopeL} (h : s.mid) {d : Int} {r : RuleL} (hr : r ∈ s.rules) : (stepD s d r).length ≤ 2097152 := by
  unfold stepD
  split
  · have := partD_length s r.guard; have := partD_length s r.value; have := h.2.2 r hr; simp only [List.length_append]; omega
  · simp
theorem outD_succ {s : ScopeL} {d : Int} {i : Nat} (h : i < s.rules.length) : outD s d (i + 1) = outD s d i ++ stepD s d s.rules[i] := by
  unfold outD; rw [List.take_succ_eq_append_getElem h, List.flatMap_append]; simp
theorem outD_length {s : ScopeL} (h : s.mid) {d : Int} : ∀ {i : Nat}, i ≤ s.rules.length → (outD s d i).length ≤ i * 2097152
  | 0, _ => by simp [outD]
  | i + 1, hi => by
    have ih := outD_length h (d := d) (i := i) (by omega)
    have := stepD_length h (d := d) (List.getElem_mem (show i < s.rules.length by omega))
    rw [outD_succ (by omega), List.length_append]; omega
theorem inD_iff {s : ScopeL} {x : Int} : inD s x = true ↔ 0 ≤ x ∧ x < s.defs.length := by unfold inD; rw [decide_eq_true_eq]
theorem mem_directL {s : ScopeL} {d x : Int} : x ∈ directL s d ↔ inD s d = true ∧ inD s x = true ∧ ∃ r ∈ s.rules, r.d = d ∧ (x ∈ refsN 8 r.guard ∨ x ∈ refsN 8 r.value) := by
  unfold directL
  by_cases h : inD s d = true
  · simp only [h, if_true, mem_usort, outD, List.take_length, List.mem_flatMap, stepD, true_and]
    constructor
    · rintro ⟨r, hr, hx⟩
      split at hx
      · rename_i hd
        simp only [List.mem_append, partD, List.mem_filter, mem_usort] at hx
        rcases hx with ⟨h1, h2⟩ | ⟨h1, h2⟩
        · exact ⟨h2, r, hr, hd, .inl h1⟩
        · exact ⟨h2, r, hr, hd, .inr h1⟩
      · simp at hx
    · rintro ⟨h2, r, hr, hd, h1⟩
      refine ⟨r, hr, ?_⟩
      rw [if_pos hd]
      simp only [List.mem_append, partD, List.mem_filter, mem_usort]
      rcases h1 with h1 | h1
      · exact .inl ⟨h1, h2⟩
      · exact .inr ⟨h1, h2⟩
  · simp [h]
theorem directL_lt {s : ScopeL} {d x : Int} (h : x ∈ directL s d) : 0 ≤ x ∧ x < s.defs.length := inD_iff.1 (mem_directL.1 h).2.1
theorem ssort_directL (s : ScopeL) (d : Int) : SSort (directL s d) := by unfold directL; split; exact ssort_usort _; exact .nil
theorem ssort_bound : ∀ {l : List Int} {lo : Int} {n : Nat}, SSort l → (∀ x ∈ l, lo ≤ x ∧ x < lo + n) → l.length ≤ n
  | [], _, _, _, _ => Nat.zero_le _
  | x :: l, lo, n, hs, h => by
    obtain ⟨h1, h2⟩ := List.pairwise_cons.1 hs
    have hx := h x (by simp)
    obtain ⟨m, rfl⟩ : ∃ m, n = m + 1 := ⟨n - 1, by omega⟩
    have := ssort_bound (l := l) (lo := lo + 1) (n := m) h2 fun y hy => by
      have := h1 y hy; have := h y (by simp [hy]); omega
    simp only [List.length_cons]; omega
theorem directL_length (s : ScopeL) (d : Int) : (directL s d).length ≤ s.defs.length :=
  ssort_bound (lo := 0) (ssort_directL s d) fun x hx => by have := directL_lt hx; omega
theorem filter_take_succ {α : Type} {p : α → Bool} {l : List α} {k : Nat} (h : k < l.length) : (l.take (k + 1)).filter p = (l.take k).filter p ++ (if p l[k] then [l[k]] else []) := by
  rw [List.take_succ_eq_append_getElem h, List.filter_append]
  by_cases e : p l[k] = true <;> simp [e]
noncomputable def transD (s : ScopeL) (d : Int) : List Int := transL (directL s) s.defs.length d
def boolsV (l : List Bool) : List (List FV) := l.map fun b => [.bool b]
@[go_sem] theorem boolsV_length (l : List Bool) : (boolsV l).length = l.length := by simp [boolsV]
theorem boolsV_get {l : List Bool} {i : Nat} (h : i < l.length) : (boolsV l)[i]? = some [.bool l[i]] := by simp [boolsV, h]
theorem boolsV_set (l : List Bool) (i : Nat) (b : Bool) : (boolsV l).set i [.bool b] = boolsV (l.set i b) := by simp [boolsV, List.map_set]
def seenP (l : List Bool) (x : Int) : Prop := 0 ≤ x ∧ l[x.toNat]? = some true
theorem seenP_set {l : List Bool} {x y : Int} (hx : 0 ≤ x) (h : x.toNat < l.length) : seenP (l.set x.toNat true) y ↔ y = x ∨ seenP l y := by
  unfold seenP
  by_cases e : y = x
  · subst e
    simp [hx, List.getElem?_set_self h]
  · by_cases hy : 0 ≤ y
    · have : x.toNat ≠ y.toNat := by omega
      rw [List.getElem?_set_ne this]; simp [e]
    · simp [hy, e]
theorem seenP_none {n : Nat} {x : Int} : ¬ seenP (List.replicate n false) x := by
  rintro ⟨_, h⟩
  rw [List.getElem?_replicate] at h
  split at h <;> simp at h
noncomputable def bfsM (n : Nat) (l : List Bool) (todo : List Int) : Nat := (n - cntP (seenP l) n) * (n + 1) + todo.length
theorem bfsM_old {n : Nat} {l : List Bool} {x : Int} {todo : List Int} : bfsM n l todo < bfsM n l (x :: todo) := by unfold bfsM; simp
theorem bfsM_new {n : Nat} {l : List Bool} {x : Int} {todo d : List Int} (hl : l.length = n) (hx : 0 ≤ x ∧ x < n) (hn : ¬ seenP l x) (hd : d.length ≤ n) : bfsM n (l.set x.toNat true) (todo ++ d) < bfsM n l (x :: todo) := by
  have h1 := cntP_lt (p := seenP l) (q := seenP (l.set x.toNat true)) (n := n) (fun y _ _ h => (seenP_set hx.1 (by omega)).2 (.inr h)) ⟨x, hx.1, hx.2, (seenP_set hx.1 (by omega)).2 (.inl rfl), hn⟩
  have h2 := cntP_le (seenP (l.set x.toNat true)) n
  unfold bfsM
  obtain ⟨a, ha⟩ : ∃ a, n - cntP (seenP l) n = (n - cntP (seenP (l.set x.toNat true)) n) + 1 + a := ⟨n - cntP (seenP l) n - (n - cntP (seenP (l.set x.toNat true)) n) - 1, by omega⟩
  rw [ha, Nat.add_mul, Nat.add_mul]
  simp only [List.length_append, List.length_cons]
  omega
theorem trueIdx {l : List Bool} {p : Int → Prop} (h : ∀ x : Int, 0 ≤ x → x < l.length → (seenP l x ↔ p x)) : ∀ i : Nat, i ≤ l.length → ((List.range i).map (fun k : Nat => (k : Int))).filter (fun x => (l[x.toNat]?).getD false) = ((List.range i).map (fun k : Nat => (k : Int))).filter (fun x => bp (p x)) := by
  intro i hi
  refine List.filter_congr fun x hx => ?_
  obtain ⟨k, hk, rfl⟩ := List.mem_map.1 hx
  have hk := List.mem_range.1 hk
  have h1 := h (k : Int) (by omega) (by omega)
  rw [Bool.eq_iff_iff, bp_iff, ← h1, seenP, Int.toNat_natCast]
  cases hq : l[k]? with
  | none => simp
  | some b => simp
end Go.Fm
set_option linter.unusedVariables false
set_option linter.unusedSimpArgs false
namespace Go.Fx.Tryz
open Go Go.Fm Go.Proofs
theorem Direct_call {s : ScopeL} {d : Int} (hs : s.mid) : FCall Tryz.prog n_deps_Direct [.agg s.row, .int .i64 d] (· = .arr (ints (directL s d))) := by
  have hv0 := deps_valid_call (s := s) (d := d)
  by_cases hd : inD s d = true
  · have hd2 := inD_iff.1 hd
    rw [bp_true hd2] at hv0
    refine FCall.walk u_deps_Direct k_deps_Direct rfl ?_
    unfold c_deps_Direct
    simp only [go_sem, simprocAttr, ScopeL.row]
    refine FCallT.of (hv0) ?_
    rintro _ rfl
    simp only [go_sem, simprocAttr, ScopeL.row]
    refine FWT.count [] s.rules.length (fun i => [(5, .arr (ints (outD s d i))), (22, .int .i64 i)]) (fun _ => True) rfl trivial ?_
    intro i hi _
    by_cases h2 : i < s.rules.length
    · have hx := rulesV_get h2
      obtain ⟨hg, hv⟩ := hs.2.2 _ (List.getElem_mem h2)
      have hol := outD_length hs (d := d) (i := i) (by omega)
      have hrl := hs.2.1
      have hsucc := outD_succ (d := d) h2
      generalize s.rules[i] = r at hx hg hv hsucc
      by_cases hr : r.d = d
      · have hr' : (r.d = d) = True := eq_true hr
        simp only [go_sem, simprocAttr, ltT h2, Int.toNat_natCast, hx, RuleL.row, hr']
        have hpl := partD_length s r.guard
        refine FWT.count [] 2 (fun j => [(5, .arr (ints (if j = 0 then outD s d i else if j = 1 then outD s d i ++ partD s r.guard else outD s d i ++ partD s r.guard ++ partD s r.value))), (36, .int .i64 j)]) (fun _ => True) rfl trivial ?_
        intro j hj _
        obtain rfl | rfl | rfl : j = 0 ∨ j = 1 ∨ j = 2 := by omega
        · skip
          have hlg : (usort (refsN 8 r.guard)).length ≤ 1048576 := Nat.le_trans (Nat.le_trans (usort_length _) refsN_length) hg
          simp only [go_sem, simprocAttr]
          refine FCallT.of (References_call (e := r.guard) (by omega)) ?_
          rintro _ rfl
          simp only [go_sem, simprocAttr]
          generalize hG : usort (refsN 8 r.guard) = l at hlg
          have hGp : partD s r.guard = l.filter (inD s) := by unfold partD; rw [hG]
          refine FWT.count [] l.length (fun k => [(5, .arr (ints (outD s d i ++ (l.take k).filter (inD s)))), (48, .int .i64 k)]) (fun _ => True) (by simp only [List.take_zero, List.filter_nil, List.append_nil]; rfl) trivial ?_
          intro k hk _
          by_cases k2 : k < l.length
          · have hy := ints_get k2
            have hfl : ((l.take k).filter (inD s)).length ≤ k := Nat.le_trans (List.length_filter_le _ _) (by simp; omega)
            have hfs := filter_take_succ (p := inD s) k2
            have hdv := deps_valid_call (s := s) (d := l[k])
            simp only [go_sem, simprocAttr, ltT k2, Int.toNat_natCast, hy]
            by_cases kd : inD s l[k] = true
            · rw [bp_true (inD_iff.1 kd)] at hdv
              rw [if_pos kd] at hfs
              refine FCallT.of (hdv) ?_
              rintro _ rfl
              simp only [go_sem, simprocAttr, ScopeL.row]
              exact ⟨by simp only [List.length_append]; skip; omega, by rw [w64s (by omega), hfs, ← List.append_assoc, ints_snoc], k2⟩
            · rw [bp_false fun x => kd (inD_iff.2 x)] at hdv
              rw [if_neg kd, List.append_nil] at hfs
              refine FCallT.of (hdv) ?_
              rintro _ rfl
              simp only [go_sem, simprocAttr, ScopeL.row]
              exact ⟨by rw [w64s (by omega), hfs], k2⟩
          · rw [List.take_of_length_le (by omega), ← hGp]
            simp only [go_sem, simprocAttr, ltF k2]
            first | rfl | trace_state
        · skip
          have hlg : (usort (refsN 8 r.value)).length ≤ 1048576 := Nat.le_trans (Nat.le_trans (usort_length _) refsN_length) hv
          simp only [go_sem, simprocAttr]
          refine FCallT.of (References_call (e := r.value) (by omega)) ?_
          rintro _ rfl
          simp only [go_sem, simprocAttr]
          generalize hG : usort (refsN 8 r.value) = l at hlg
          have hGp : partD s r.value = l.filter (inD s) := by unfold partD; rw [hG]
          refine FWT.count [] l.length (fun k => [(5, .arr (ints ((outD s d i ++ partD s r.guard) ++ (l.take k).filter (inD s)))), (48, .int .i64 k)]) (fun _ => True) (by simp only [List.take_zero, List.filter_nil, List.append_nil]; rfl) trivial ?_
          intro k hk _
          by_cases k2 : k < l.length
          · have hy := ints_get k2
            have hfl : ((l.take k).filter (inD s)).length ≤ k := Nat.le_trans (List.length_filter_le _ _) (by simp; omega)
            have hfs := filter_take_succ (p := inD s) k2
            have hdv := deps_valid_call (s := s) (d := l[k])
            simp only [go_sem, simprocAttr, ltT k2, Int.toNat_natCast, hy]
            by_cases kd : inD s l[k] = true
            · rw [bp_true (inD_iff.1 kd)] at hdv
              rw [if_pos kd] at hfs
              refine FCallT.of (hdv) ?_
              rintro _ rfl
              simp only [go_sem, simprocAttr, ScopeL.row]
              exact ⟨by simp only [List.length_append]; skip; omega, by rw [w64s (by omega), hfs, ← List.append_assoc, ints_snoc], k2⟩
            · rw [bp_false fun x => kd (inD_iff.2 x)] at hdv
              rw [if_neg kd, List.append_nil] at hfs
              refine FCallT.of (hdv) ?_
              rintro _ rfl
              simp only [go_sem, simprocAttr, ScopeL.row]
              exact ⟨by rw [w64s (by omega), hfs], k2⟩
          · rw [List.take_of_length_le (by omega), ← hGp]
            simp only [go_sem, simprocAttr, ltF k2]
            first | rfl | trace_state
        · simp only [go_sem, simprocAttr]
          exact ⟨by rw [w64s (by omega), hsucc, stepD, if_pos hr, List.append_assoc], h2⟩
      · have hr' : (r.d = d) = False := eq_false hr
        simp only [go_sem, simprocAttr, ltT h2, Int.toNat_natCast, hx, RuleL.row, hr']
        exact ⟨by rw [w64s (by omega), hsucc, stepD, if_neg hr, List.append_nil], h2⟩
    · obtain rfl : i = s.rules.length := by omega
      have hol := outD_length hs (d := d) (Nat.le_refl _)
      have hrl := hs.2.1
      simp only [go_sem, simprocAttr, ltF h2]
      refine FMutT.of (p_sort (zs := outD s d s.rules.length) (by omega)) ?_
      rintro _ rfl
      simp only [go_sem, simprocAttr]
      refine FCallT.of (p_compact (zs := (outD s d s.rules.length).mergeSort fun x y => decide (x ≤ y)) (by rw [List.length_mergeSort]; omega)) ?_
      rintro _ rfl
      simp only [go_sem, simprocAttr, compact_sort]
      unfold directL; rw [if_pos hd]
  · have hd2 : ¬ (0 ≤ d ∧ d < s.defs.length) := fun k => hd (inD_iff.2 k)
    rw [bp_false hd2] at hv0
    refine FCall.walk u_deps_Direct k_deps_Direct rfl ?_
    unfold c_deps_Direct
    simp only [go_sem, simprocAttr, ScopeL.row]
    refine FCallT.of (hv0) ?_
    rintro _ rfl
    simp only [go_sem, simprocAttr, ScopeL.row]
    unfold directL; rw [if_neg hd]; rfl
end Go.Fx.Tryz
set_option linter.unusedVariables false
set_option linter.unusedSimpArgs false
namespace Go.Fx.Tryz
open Go Go.Fm Go.Proofs
theorem DirectR_call {s : ScopeL} {d : Int} (hs : s.mid) : FCall Tryz.prog n_ref16_Direct [.agg s.row, .int .i64 d] (· = .arr (ints (directL s d))) := by
  have hv0 := is_call (s := s) (d := d)
  by_cases hd : inD s d = true
  · have hd2 := inD_iff.1 hd
    rw [bp_true hd2] at hv0
    refine FCall.walk u_ref16_Direct k_ref16_Direct rfl ?_
    unfold c_ref16_Direct
    simp only [go_sem, simprocAttr, ScopeL.row]
    refine FCallT.of (hv0) ?_
    rintro _ rfl
    simp only [go_sem, simprocAttr, ScopeL.row]
    refine FWT.count [] s.rules.length (fun i => [(5, .arr (ints (usort (outD s d i)))), (6, .int .i64 i)]) (fun _ => True) rfl trivial ?_
    intro i hi _
    by_cases h2 : i < s.rules.length
    · have hx := rulesV_get h2
      obtain ⟨hg, hv⟩ := hs.2.2 _ (List.getElem_mem h2)
      have hol := outD_length hs (d := d) (i := i) (by omega)
      have hrl := hs.2.1
      have hsucc := outD_succ (d := d) h2
      have hul := usort_length (outD s d i)
      generalize s.rules[i] = r at hx hg hv hsucc
      by_cases hr : r.d = d
      · have hr' : (r.d = d) = True := eq_true hr
        have hlg : (usort (refsN 8 r.guard)).length ≤ 1048576 := Nat.le_trans (Nat.le_trans (usort_length _) refsN_length) hg
        have hlv : (usort (refsN 8 r.value)).length ≤ 1048576 := Nat.le_trans (Nat.le_trans (usort_length _) refsN_length) hv
        simp only [go_sem, simprocAttr, ltT h2, Int.toNat_natCast, hx, RuleL.row, hr']
        refine FCallT.of (ReferencesR_call (e := r.guard) (by omega)) ?_
        rintro _ rfl
        simp only [go_sem, simprocAttr, Int.toNat_natCast, hx, RuleL.row]
        refine FCallT.of (ReferencesR_call (e := r.value) (by omega)) ?_
        rintro _ rfl
        simp only [go_sem, simprocAttr, Int.toNat_natCast, hx, RuleL.row]
        have hGp : partD s r.guard = (usort (refsN 8 r.guard)).filter (inD s) := rfl
        have hVp : partD s r.value = (usort (refsN 8 r.value)).filter (inD s) := rfl
        generalize usort (refsN 8 r.guard) = l1 at hlg hGp
        generalize usort (refsN 8 r.value) = l2 at hlv hVp
        refine FWT.count [] l1.length (fun k => [(5, .arr (ints (usort (outD s d i ++ (l1.take k).filter (inD s))))), (13, .int .i64 k)]) (fun _ => True) (by simp only [List.take_zero, List.filter_nil, List.append_nil]; rfl) trivial ?_
        intro k hk _
        by_cases k2 : k < l1.length
        · have hy := ints_get k2
          have hfl : ((l1.take k).filter (inD s)).length ≤ k := Nat.le_trans (List.length_filter_le _ _) (by simp; omega)
          have hbl := usort_length (outD s d i ++ (l1.take k).filter (inD s))
          rw [List.length_append] at hbl
          have hfs := filter_take_succ (p := inD s) k2
          have hdv := is_call (s := s) (d := l1[k])
          simp only [go_sem, simprocAttr, ltT k2, Int.toNat_natCast, hy]
          by_cases kd : inD s l1[k] = true
          · rw [bp_true (inD_iff.1 kd)] at hdv
            rw [if_pos kd] at hfs
            refine detCall_of _ (hdv) ?_
            simp only [go_sem, simprocAttr, ScopeL.row, Int.toNat_natCast, hy]
            refine FCallT.of (insert_call (l := usort (outD s d i ++ (l1.take k).filter (inD s))) (n := l1[k]) (by omega)) ?_
            rintro _ rfl
            simp only [go_sem, simprocAttr, free_ints, Int.toNat_natCast, hy]
            exact ⟨by rw [w64s (by omega), hfs, ← List.append_assoc, usort_snoc], k2⟩
          · rw [bp_false fun x => kd (inD_iff.2 x)] at hdv
            rw [if_neg kd, List.append_nil] at hfs
            refine detCall_of _ (hdv) ?_
            simp only [go_sem, simprocAttr, ScopeL.row, Int.toNat_natCast, hy]
            exact ⟨by rw [w64s (by omega), hfs], k2⟩
        rw [List.take_of_length_le (by omega), ← hGp]
        simp only [go_sem, simprocAttr, ltF k2]
        refine FWT.count [] l2.length (fun k => [(5, .arr (ints (usort ((outD s d i ++ partD s r.guard) ++ (l2.take k).filter (inD s))))), (14, .int .i64 k)]) (fun _ => True) (by simp only [List.take_zero, List.filter_nil, List.append_nil]; rfl) trivial ?_
        intro k hk _
        by_cases m2 : k < l2.length
        · have hy := ints_get m2
          have hfl : ((l2.take k).filter (inD s)).length ≤ k := Nat.le_trans (List.length_filter_le _ _) (by simp; omega)
          have hbl := usort_length ((outD s d i ++ partD s r.guard) ++ (l2.take k).filter (inD s))
          rw [List.length_append] at hbl
          have hfs := filter_take_succ (p := inD s) m2
          have hdv := is_call (s := s) (d := l2[k])
          simp only [go_sem, simprocAttr, ltT m2, Int.toNat_natCast, hy]
          by_cases kd : inD s l2[k] = true
          · rw [bp_true (inD_iff.1 kd)] at hdv
            rw [if_pos kd] at hfs
            refine detCall_of _ (hdv) ?_
            simp only [go_sem, simprocAttr, ScopeL.row, Int.toNat_natCast, hy]
            refine FCallT.of (insert_call (l := usort ((outD s d i ++ partD s r.guard) ++ (l2.take k).filter (inD s))) (n := l2[k]) (by have hpg := partD_length s r.guard; simp only [List.length_append] at hbl; omega)) ?_
            rintro _ rfl
            simp only [go_sem, simprocAttr, free_ints, Int.toNat_natCast, hy]
            exact ⟨by rw [w64s (by omega), hfs, ← List.append_assoc, usort_snoc], m2⟩
          · rw [bp_false fun x => kd (inD_iff.2 x)] at hdv
            rw [if_neg kd, List.append_nil] at hfs
            refine detCall_of _ (hdv) ?_
            simp only [go_sem, simprocAttr, ScopeL.row, Int.toNat_natCast, hy]
            exact ⟨by rw [w64s (by omega), hfs], m2⟩
        rw [List.take_of_length_le (by omega), ← hVp]
        simp only [go_sem, simprocAttr, ltF m2]
        exact ⟨by rw [w64s (by omega), hsucc, stepD, if_pos hr, List.append_assoc], h2⟩
      · have hr' : (r.d = d) = False := eq_false hr
        simp only [go_sem, simprocAttr, ltT h2, Int.toNat_natCast, hx, RuleL.row, hr']
        exact ⟨by rw [w64s (by omega), hsucc, stepD, if_neg hr, List.append_nil], h2⟩
    · obtain rfl : i = s.rules.length := by omega
      simp only [go_sem, simprocAttr, ltF h2]
      unfold directL; rw [if_pos hd]
  · have hd2 : ¬ (0 ≤ d ∧ d < s.defs.length) := fun k => hd (inD_iff.2 k)
    rw [bp_false hd2] at hv0
    refine FCall.walk u_ref16_Direct k_ref16_Direct rfl ?_
    unfold c_ref16_Direct
    simp only [go_sem, simprocAttr, ScopeL.row]
    refine FCallT.of (hv0) ?_
    rintro _ rfl
    simp only [go_sem, simprocAttr, ScopeL.row]
    unfold directL; rw [if_neg hd]; rfl
end Go.Fx.Tryz
set_option linter.unusedVariables false
set_option linter.unusedSimpArgs false
namespace Go.Fx.Tryz
open Go Go.Fm Go.Proofs
theorem ints_cons (x : Int) (l : List Int) : ints (x :: l) = [.int .i64 x] :: ints l := rfl
def trueL (l : List Bool) (i : Nat) : List Int := ((List.range i).map (fun k : Nat => (k : Int))).filter (fun x => (l[x.toNat]?).getD false)
theorem trueL_succ {l : List Bool} {i : Nat} (h : i < l.length) : trueL l (i + 1) = trueL l i ++ (if l[i] then [(i : Int)] else []) := by
  unfold trueL
  rw [List.range_succ, List.map_append, List.filter_append]
  cases e : l[i] <;> simp [h, e]
theorem trueL_length (l : List Bool) (i : Nat) : (trueL l i).length ≤ i := by
  unfold trueL
  exact Nat.le_trans (List.length_filter_le _ _) (by simp)
theorem Transitive_call {s : ScopeL} {d : Int} (hs : s.mid) (hd : 0 ≤ d ∧ d < s.defs.length) (hn : s.defs.length ≤ 1000000) : FCall Tryz.prog n_deps_Transitive [.agg s.row, .int .i64 d] (· = .arr (ints (transD s d))) := by
  have hv0 := deps_valid_call (s := s) (d := d)
  rw [bp_true hd] at hv0
  refine FCall.walk u_deps_Transitive k_deps_Transitive rfl ?_
  unfold c_deps_Transitive
  simp only [go_sem, simprocAttr, ScopeL.row]
  refine FCallT.of (hv0) ?_
  rintro _ rfl
  simp only [go_sem, simprocAttr, ScopeL.row]
  have hrep : List.replicate s.defs.length ([.bool false] : List FV) = boolsV (List.replicate s.defs.length false) := by simp [boolsV]
  rw [Int.toNat_natCast, hrep]
  refine ⟨by omega, ?_⟩
  refine FCallT.of (Direct_call hs (d := d)) ?_
  rintro _ rfl
  simp only [go_sem, simprocAttr]
  refine FWT.upd [] (fun x : List Bool × List Int × Bool => [(5, .arr (boolsV x.1)), (6, if x.2.2 then .buf 1 else .arr (ints x.2.1))]) (fun x => bfsM s.defs.length x.1 x.2.1)
    (fun x => x.1.length = s.defs.length ∧ (x.2.2 = true → x.2.1 = []) ∧ bfsM s.defs.length x.1 x.2.1 ≤ 1000000 * 1000001 + 1000000 ∧ Bfs (directL s) s.defs.length d (seenP x.1) x.2.1) (List.replicate s.defs.length false, directL s d, false) rfl ⟨by simp, by simp, ?_, ?_⟩ ?_
  · have := directL_length s d
    unfold bfsM
    have h1 : (s.defs.length - cntP (seenP (List.replicate s.defs.length false)) s.defs.length) * (s.defs.length + 1) ≤ 1000000 * 1000001 := Nat.mul_le_mul (by omega) (by omega)
    simp only; omega
  · have e1 : seenP (List.replicate s.defs.length false) = fun _ => False := funext fun x => propext ⟨fun h => seenP_none h, fun h => h.elim⟩
    simp only [e1]; exact Bfs.start
  rintro ⟨seen, todo, b⟩ ⟨g1, g2, g3, g4⟩
  simp only at g1 g2 g3 g4
  have hlen : todo.length ≤ 1000000 * 1000001 + 1000000 := by unfold bfsM at g3; omega
  cases todo with
  | nil =>
    have hb : (if b = true then FV.buf 1 else FV.arr (ints [])) = .buf 1 ∨ (if b = true then FV.buf 1 else FV.arr (ints [])) = .arr [] := by cases b; exact .inr rfl; exact .inl rfl
    simp only
    rcases hb with hb | hb
    all_goals
      rw [hb]
      simp only [go_sem, simprocAttr]
      refine FWT.count [] seen.length (fun i => [(7, .arr (ints (trueL seen i))), (47, .int .i64 i)]) (fun _ => True) rfl trivial ?_
      intro i hi _
      by_cases h2 : i < seen.length
      · have hy := boolsV_get h2
        have ho := trueL_length seen i
        have hsc := trueL_succ h2
        cases e : seen[i] with
        | true =>
          rw [e] at hy hsc
          simp only [if_true] at hsc
          simp only [go_sem, simprocAttr, ltT h2, Int.toNat_natCast, hy]
          exact ⟨by omega, by rw [w64s (by omega), hsc, ints_snoc], h2⟩
        | false =>
          rw [e] at hy hsc
          simp only [Bool.false_eq_true, if_false, List.append_nil] at hsc
          simp only [go_sem, simprocAttr, ltT h2, Int.toNat_natCast, hy]
          exact ⟨by rw [w64s (by omega), hsc], h2⟩
      · have ei : i = seen.length := by omega
        subst ei
        have hfin : trueL seen seen.length = transD s d := by
          have := trueIdx (l := seen) (p := Go.Fm.Reach (directL s) d) (fun x _ _ => g4.done x) seen.length (Nat.le_refl _)
          unfold transD transL numsL
          rw [← g1]; exact this
        rw [hfin]
        simp only [go_sem, simprocAttr, ltF h2]
  | cons x rest =>
    have hbf : b = false := by cases b; rfl; exact absurd (g2 rfl) (by simp)
    subst hbf
    have hx := reach_lt (D := directL s) (n := s.defs.length) (fun a y h => directL_lt h) (g4.r2 x (by simp))
    have hxl : x.toNat < seen.length := by omega
    have hy := boolsV_get hxl
    simp only [Bool.false_eq_true, if_false]
    have hpos : ((0 : Int) < ((rest.length + 1 : Nat) : Int)) = True := eq_true (by omega)
    cases e : seen[x.toNat] with
    | true =>
      rw [e] at hy
      simp only [go_sem, simprocAttr, ints_cons, hy, hx.1, hpos]
      refine ⟨⟨by omega, by omega, all_len_ints _⟩, (seen, rest, decide (rest = [])), ?_, ⟨g1, fun h => of_decide_eq_true h, ?_, ?_⟩, bfsM_old⟩
      · have e1 : (((rest.length + 1 : Nat) : Int)).toNat - 1 = rest.length := by omega
        rw [e1, ints_take, List.take_length]
        cases rest <;> simp
      · have := bfsM_old (n := s.defs.length) (l := seen) (x := x) (todo := rest); simp only; omega
      · exact g4.old ⟨hx.1, by rw [List.getElem?_eq_getElem hxl, e]⟩
    | false =>
      rw [e] at hy
      simp only [go_sem, simprocAttr, ints_cons, hy, hx.1, hpos]
      refine detCall_of _ (Direct_call hs (d := x)) ?_
      simp only [go_sem, simprocAttr]
      have hDl := directL_length s x
      have hne : ¬ seenP seen x := by
        rintro ⟨_, h⟩
        rw [List.getElem?_eq_getElem hxl, e] at h; simp at h
      have hbn := bfsM_new (todo := rest) g1 hx hne hDl
      have hnew : Bfs (directL s) s.defs.length d (seenP (seen.set x.toNat true)) (rest ++ directL s x) := by
        have := g4.new
        rwa [← show seenP (seen.set x.toNat true) = fun y => y = x ∨ seenP seen y from funext fun y => propext (seenP_set hx.1 hxl)] at this
      have eapp : ints rest ++ ints (directL s x) = ints (rest ++ directL s x) := by simp [ints]
      rw [eapp, ints_length]
      simp only [List.length_cons] at hlen
      refine ⟨by omega, ⟨by omega, by omega, all_len_ints _⟩, (seen.set x.toNat true, rest ++ directL s x, decide (rest ++ directL s x = [])), ?_, ⟨by simp [g1], fun h => of_decide_eq_true h, ?_, hnew⟩, hbn⟩
      · have e1 : ((((rest ++ directL s x).length + 1 : Nat) : Int)).toNat - 1 = (rest ++ directL s x).length := by omega
        rw [e1, ints_take, List.take_length, boolsV_set]
        generalize rest ++ directL s x = l
        cases l <;> simp
      · simp only; omega
end Go.Fx.Tryz
