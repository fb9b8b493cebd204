/- Part of a proof: see the last text of the claim. -/
import Derived.Test.YtdjbhceoodcphaaGreatA4
import Derived.Lib.SlicesCompact
import Derived.Lib.IndexMore
import Derived.Test.YtdjbhceoodcphaaGreatRows
set_option linter.unusedVariables false
set_option linter.unusedSimpArgs false
namespace Go.Fx.Tryz
open Go Go.Fm Go.Proofs
theorem leaf_call {n : NodeL} {s : SigL} (ha : arityZ n.op = 0) (hn : numE n = 0) (hI : I64 n.n) : FCall Tryz.prog n_expr_leaf [.agg n.row, .agg s.row] (· = .tup [.agg (leafR n s).1.row, .int .i64 (leafR n s).2]) := by
  obtain ⟨op, N⟩ := n
  simp only at ha hI
  have hop : (1 ≤ op ∧ op ≤ 9) ∨ (35 ≤ op ∧ op ≤ 39) := by unfold arityZ at ha; (repeat' split at ha) <;> omega
  have hr : rangedP ⟨op, N⟩ := by rcases numE_cases ⟨op, N⟩ with h | h | h <;> first | (rw [hn] at h; omega) | exact h.2
  by_cases h5 : 1 ≤ op ∧ op ≤ 5
  · exact leaf_lit h5
  · have hc : op = 6 ∨ op = 7 ∨ op = 8 ∨ op = 9 ∨ op = 35 ∨ op = 36 ∨ op = 37 ∨ op = 38 ∨ op = 39 := by omega
    rcases hc with rfl | rfl | rfl | rfl | rfl | rfl | rfl | rfl | rfl
    · exact leaf_enum (hr.2.2.2 rfl) hI
    · exact leaf_in
    · exact leaf_def
    · exact leaf_date
    · exact leaf_count
    · exact leaf_m36
    · exact leaf_m37
    · exact leaf_m38
    · exact leaf_m39
theorem bin_k (op : Int) {a b : TyL} {n : Nat} (hv : validT a n) (hop : 11 ≤ op) : (binT op a b).2 = true → (binT op a b).1.k ≠ 0 := by
  have := validT_e hv
  unfold binT scT kindT
  (repeat' split) <;> simp <;> omega
theorem typeOf_leaf {n : NodeL} {s : SigL} {u : Bool} (ha : arityZ n.op = 0) (hI : I64 n.n) : FCall Tryz.prog n_expr_typeOf [.agg n.row, .sl u (tysV []), .agg s.row] (· = .tup [.agg (nodeT n [] s).1.row, .int .i64 (nodeT n [] s).2]) := by
  refine FCall.walk u_expr_typeOf k_expr_typeOf rfl ?_
  unfold c_expr_typeOf
  simp only [go_sem, simprocAttr, NodeL.row, SigL.row, tysV, List.map_nil]
  refine FCallT.of (number_call (n := n) hI) ?_
  rintro _ rfl
  simp only [go_sem, simprocAttr]
  refine ⟨fun h => ?_, fun h => ?_⟩
  · rw [nodeT_bad h]; rfl
  · rw [nodeT_leaf h]
    refine FCallT.of (leaf_call (n := n) (s := s) ha h hI) ?_
    rintro _ rfl
    simp only [go_sem, simprocAttr, TyL.row]
theorem typeOf_10 {N : Int} {a : TyL} {s : SigL} {u : Bool} (hI : I64 N) (hv : validT a s.enums.length) : FCall Tryz.prog n_expr_typeOf [.agg (NodeL.mk 10 N).row, .sl u (tysV [a]), .agg s.row] (· = .tup [.agg (nodeT ⟨10, N⟩ [a] s).1.row, .int .i64 (nodeT ⟨10, N⟩ [a] s).2]) := by
  refine FCall.walk u_expr_typeOf k_expr_typeOf rfl ?_
  unfold c_expr_typeOf
  simp only [go_sem, simprocAttr, NodeL.row, SigL.row]
  refine FCallT.of (number_call (n := ⟨10, N⟩) hI) ?_
  rintro _ rfl
  simp only [go_sem, simprocAttr]
  refine ⟨fun h => by rw [nodeT_bad h]; rfl, fun h => ?_⟩
  rw [nodeT_un h (by simp [foundP])]
  refine FCallT.of (result_10 (N := N) (s := s) hv) ?_
  rintro _ rfl
  simp only [go_sem, simprocAttr, TyL.row]
  have := validT_e hv
  exact fin_ok (by simp [unT, numK, kindT]; try omega)
theorem typeOf_25 {N : Int} {a : TyL} {s : SigL} {u : Bool} (hI : I64 N) (hv : validT a s.enums.length) : FCall Tryz.prog n_expr_typeOf [.agg (NodeL.mk 25 N).row, .sl u (tysV [a]), .agg s.row] (· = .tup [.agg (nodeT ⟨25, N⟩ [a] s).1.row, .int .i64 (nodeT ⟨25, N⟩ [a] s).2]) := by
  refine FCall.walk u_expr_typeOf k_expr_typeOf rfl ?_
  unfold c_expr_typeOf
  simp only [go_sem, simprocAttr, NodeL.row, SigL.row]
  refine FCallT.of (number_call (n := ⟨25, N⟩) hI) ?_
  rintro _ rfl
  simp only [go_sem, simprocAttr]
  refine ⟨fun h => by rw [nodeT_bad h]; rfl, fun h => ?_⟩
  rw [nodeT_un h (by simp [foundP])]
  refine FCallT.of (result_25 (N := N) (s := s) hv) ?_
  rintro _ rfl
  simp only [go_sem, simprocAttr, TyL.row]
  have := validT_e hv
  exact fin_ok (by simp [unT, numK, kindT]; try omega)
theorem typeOf_31 {N : Int} {a : TyL} {s : SigL} {u : Bool} (hI : I64 N) (hv : validT a s.enums.length) : FCall Tryz.prog n_expr_typeOf [.agg (NodeL.mk 31 N).row, .sl u (tysV [a]), .agg s.row] (· = .tup [.agg (nodeT ⟨31, N⟩ [a] s).1.row, .int .i64 (nodeT ⟨31, N⟩ [a] s).2]) := by
  refine FCall.walk u_expr_typeOf k_expr_typeOf rfl ?_
  unfold c_expr_typeOf
  simp only [go_sem, simprocAttr, NodeL.row, SigL.row]
  refine FCallT.of (number_call (n := ⟨31, N⟩) hI) ?_
  rintro _ rfl
  simp only [go_sem, simprocAttr]
  refine ⟨fun h => by rw [nodeT_bad h]; rfl, fun h => ?_⟩
  rw [nodeT_un h (by simp [foundP])]
  refine FCallT.of (result_31 (N := N) (s := s) hv) ?_
  rintro _ rfl
  simp only [go_sem, simprocAttr, TyL.row]
  have := validT_e hv
  exact fin_ok (by simp [unT, numK, kindT]; try omega)
theorem typeOf_32 {N : Int} {a : TyL} {s : SigL} {u : Bool} (hI : I64 N) (hv : validT a s.enums.length) : FCall Tryz.prog n_expr_typeOf [.agg (NodeL.mk 32 N).row, .sl u (tysV [a]), .agg s.row] (· = .tup [.agg (nodeT ⟨32, N⟩ [a] s).1.row, .int .i64 (nodeT ⟨32, N⟩ [a] s).2]) := by
  refine FCall.walk u_expr_typeOf k_expr_typeOf rfl ?_
  unfold c_expr_typeOf
  simp only [go_sem, simprocAttr, NodeL.row, SigL.row]
  refine FCallT.of (number_call (n := ⟨32, N⟩) hI) ?_
  rintro _ rfl
  simp only [go_sem, simprocAttr]
  refine ⟨fun h => by rw [nodeT_bad h]; rfl, fun h => ?_⟩
  rw [nodeT_un h (by simp [foundP])]
  refine FCallT.of (result_32 (N := N) (s := s) hv) ?_
  rintro _ rfl
  simp only [go_sem, simprocAttr, TyL.row]
  have := validT_e hv
  exact fin_ok (by simp [unT, numK, kindT]; try omega)
theorem typeOf_11 {N : Int} {a b : TyL} {s : SigL} {u : Bool} (hI : I64 N) (hv : validT a s.enums.length) (hw : validT b s.enums.length) : FCall Tryz.prog n_expr_typeOf [.agg (NodeL.mk 11 N).row, .sl u (tysV [a, b]), .agg s.row] (· = .tup [.agg (nodeT ⟨11, N⟩ [a, b] s).1.row, .int .i64 (nodeT ⟨11, N⟩ [a, b] s).2]) := by
  refine FCall.walk u_expr_typeOf k_expr_typeOf rfl ?_
  unfold c_expr_typeOf
  simp only [go_sem, simprocAttr, NodeL.row, SigL.row]
  refine FCallT.of (number_call (n := ⟨11, N⟩) hI) ?_
  rintro _ rfl
  simp only [go_sem, simprocAttr]
  refine ⟨fun h => by rw [nodeT_bad h]; rfl, fun h => ?_⟩
  rw [nodeT_bin h (by simp [foundP])]
  refine FCallT.of (result_11 hv hw) ?_
  rintro _ rfl
  simp only [go_sem, simprocAttr, TyL.row]
  have := validT_e hv
  exact fin_ok (bin_k 11 hv (by decide))
theorem typeOf_12 {N : Int} {a b : TyL} {s : SigL} {u : Bool} (hI : I64 N) (hv : validT a s.enums.length) (hw : validT b s.enums.length) : FCall Tryz.prog n_expr_typeOf [.agg (NodeL.mk 12 N).row, .sl u (tysV [a, b]), .agg s.row] (· = .tup [.agg (nodeT ⟨12, N⟩ [a, b] s).1.row, .int .i64 (nodeT ⟨12, N⟩ [a, b] s).2]) := by
  refine FCall.walk u_expr_typeOf k_expr_typeOf rfl ?_
  unfold c_expr_typeOf
  simp only [go_sem, simprocAttr, NodeL.row, SigL.row]
  refine FCallT.of (number_call (n := ⟨12, N⟩) hI) ?_
  rintro _ rfl
  simp only [go_sem, simprocAttr]
  refine ⟨fun h => by rw [nodeT_bad h]; rfl, fun h => ?_⟩
  rw [nodeT_bin h (by simp [foundP])]
  refine FCallT.of (result_12 hv hw) ?_
  rintro _ rfl
  simp only [go_sem, simprocAttr, TyL.row]
  have := validT_e hv
  exact fin_ok (bin_k 12 hv (by decide))
theorem typeOf_13 {N : Int} {a b : TyL} {s : SigL} {u : Bool} (hI : I64 N) (hv : validT a s.enums.length) (hw : validT b s.enums.length) : FCall Tryz.prog n_expr_typeOf [.agg (NodeL.mk 13 N).row, .sl u (tysV [a, b]), .agg s.row] (· = .tup [.agg (nodeT ⟨13, N⟩ [a, b] s).1.row, .int .i64 (nodeT ⟨13, N⟩ [a, b] s).2]) := by
  refine FCall.walk u_expr_typeOf k_expr_typeOf rfl ?_
  unfold c_expr_typeOf
  simp only [go_sem, simprocAttr, NodeL.row, SigL.row]
  refine FCallT.of (number_call (n := ⟨13, N⟩) hI) ?_
  rintro _ rfl
  simp only [go_sem, simprocAttr]
  refine ⟨fun h => by rw [nodeT_bad h]; rfl, fun h => ?_⟩
  rw [nodeT_bin h (by simp [foundP])]
  refine FCallT.of (result_13 hv hw) ?_
  rintro _ rfl
  simp only [go_sem, simprocAttr, TyL.row]
  have := validT_e hv
  exact fin_ok (bin_k 13 hv (by decide))
theorem typeOf_14 {N : Int} {a b : TyL} {s : SigL} {u : Bool} (hI : I64 N) (hv : validT a s.enums.length) (hw : validT b s.enums.length) : FCall Tryz.prog n_expr_typeOf [.agg (NodeL.mk 14 N).row, .sl u (tysV [a, b]), .agg s.row] (· = .tup [.agg (nodeT ⟨14, N⟩ [a, b] s).1.row, .int .i64 (nodeT ⟨14, N⟩ [a, b] s).2]) := by
  refine FCall.walk u_expr_typeOf k_expr_typeOf rfl ?_
  unfold c_expr_typeOf
  simp only [go_sem, simprocAttr, NodeL.row, SigL.row]
  refine FCallT.of (number_call (n := ⟨14, N⟩) hI) ?_
  rintro _ rfl
  simp only [go_sem, simprocAttr]
  refine ⟨fun h => by rw [nodeT_bad h]; rfl, fun h => ?_⟩
  rw [nodeT_bin h (by simp [foundP])]
  refine FCallT.of (result_14 hv hw) ?_
  rintro _ rfl
  simp only [go_sem, simprocAttr, TyL.row]
  have := validT_e hv
  exact fin_ok (bin_k 14 hv (by decide))
theorem typeOf_15 {N : Int} {a b : TyL} {s : SigL} {u : Bool} (hI : I64 N) (hv : validT a s.enums.length) (hw : validT b s.enums.length) : FCall Tryz.prog n_expr_typeOf [.agg (NodeL.mk 15 N).row, .sl u (tysV [a, b]), .agg s.row] (· = .tup [.agg (nodeT ⟨15, N⟩ [a, b] s).1.row, .int .i64 (nodeT ⟨15, N⟩ [a, b] s).2]) := by
  refine FCall.walk u_expr_typeOf k_expr_typeOf rfl ?_
  unfold c_expr_typeOf
  simp only [go_sem, simprocAttr, NodeL.row, SigL.row]
  refine FCallT.of (number_call (n := ⟨15, N⟩) hI) ?_
  rintro _ rfl
  simp only [go_sem, simprocAttr]
  refine ⟨fun h => by rw [nodeT_bad h]; rfl, fun h => ?_⟩
  rw [nodeT_bin h (by simp [foundP])]
  refine FCallT.of (result_15 hv hw) ?_
  rintro _ rfl
  simp only [go_sem, simprocAttr, TyL.row]
  have := validT_e hv
  exact fin_ok (bin_k 15 hv (by decide))
theorem typeOf_16 {N : Int} {a b : TyL} {s : SigL} {u : Bool} (hI : I64 N) (hv : validT a s.enums.length) (hw : validT b s.enums.length) : FCall Tryz.prog n_expr_typeOf [.agg (NodeL.mk 16 N).row, .sl u (tysV [a, b]), .agg s.row] (· = .tup [.agg (nodeT ⟨16, N⟩ [a, b] s).1.row, .int .i64 (nodeT ⟨16, N⟩ [a, b] s).2]) := by
  refine FCall.walk u_expr_typeOf k_expr_typeOf rfl ?_
  unfold c_expr_typeOf
  simp only [go_sem, simprocAttr, NodeL.row, SigL.row]
  refine FCallT.of (number_call (n := ⟨16, N⟩) hI) ?_
  rintro _ rfl
  simp only [go_sem, simprocAttr]
  refine ⟨fun h => by rw [nodeT_bad h]; rfl, fun h => ?_⟩
  rw [nodeT_bin h (by simp [foundP])]
  refine FCallT.of (result_16 hv hw) ?_
  rintro _ rfl
  simp only [go_sem, simprocAttr, TyL.row]
  have := validT_e hv
  exact fin_ok (bin_k 16 hv (by decide))
theorem typeOf_17 {N : Int} {a b : TyL} {s : SigL} {u : Bool} (hI : I64 N) (hv : validT a s.enums.length) (hw : validT b s.enums.length) : FCall Tryz.prog n_expr_typeOf [.agg (NodeL.mk 17 N).row, .sl u (tysV [a, b]), .agg s.row] (· = .tup [.agg (nodeT ⟨17, N⟩ [a, b] s).1.row, .int .i64 (nodeT ⟨17, N⟩ [a, b] s).2]) := by
  refine FCall.walk u_expr_typeOf k_expr_typeOf rfl ?_
  unfold c_expr_typeOf
  simp only [go_sem, simprocAttr, NodeL.row, SigL.row]
  refine FCallT.of (number_call (n := ⟨17, N⟩) hI) ?_
  rintro _ rfl
  simp only [go_sem, simprocAttr]
  refine ⟨fun h => by rw [nodeT_bad h]; rfl, fun h => ?_⟩
  rw [nodeT_bin h (by simp [foundP])]
  refine FCallT.of (result_17 hv hw) ?_
  rintro _ rfl
  simp only [go_sem, simprocAttr, TyL.row]
  have := validT_e hv
  exact fin_ok (bin_k 17 hv (by decide))
theorem typeOf_18 {N : Int} {a b : TyL} {s : SigL} {u : Bool} (hI : I64 N) (hv : validT a s.enums.length) (hw : validT b s.enums.length) : FCall Tryz.prog n_expr_typeOf [.agg (NodeL.mk 18 N).row, .sl u (tysV [a, b]), .agg s.row] (· = .tup [.agg (nodeT ⟨18, N⟩ [a, b] s).1.row, .int .i64 (nodeT ⟨18, N⟩ [a, b] s).2]) := by
  refine FCall.walk u_expr_typeOf k_expr_typeOf rfl ?_
  unfold c_expr_typeOf
  simp only [go_sem, simprocAttr, NodeL.row, SigL.row]
  refine FCallT.of (number_call (n := ⟨18, N⟩) hI) ?_
  rintro _ rfl
  simp only [go_sem, simprocAttr]
  refine ⟨fun h => by rw [nodeT_bad h]; rfl, fun h => ?_⟩
  rw [nodeT_bin h (by simp [foundP])]
  refine FCallT.of (result_18 hv hw) ?_
  rintro _ rfl
  simp only [go_sem, simprocAttr, TyL.row]
  have := validT_e hv
  exact fin_ok (bin_k 18 hv (by decide))
theorem typeOf_19 {N : Int} {a b : TyL} {s : SigL} {u : Bool} (hI : I64 N) (hv : validT a s.enums.length) (hw : validT b s.enums.length) : FCall Tryz.prog n_expr_typeOf [.agg (NodeL.mk 19 N).row, .sl u (tysV [a, b]), .agg s.row] (· = .tup [.agg (nodeT ⟨19, N⟩ [a, b] s).1.row, .int .i64 (nodeT ⟨19, N⟩ [a, b] s).2]) := by
  refine FCall.walk u_expr_typeOf k_expr_typeOf rfl ?_
  unfold c_expr_typeOf
  simp only [go_sem, simprocAttr, NodeL.row, SigL.row]
  refine FCallT.of (number_call (n := ⟨19, N⟩) hI) ?_
  rintro _ rfl
  simp only [go_sem, simprocAttr]
  refine ⟨fun h => by rw [nodeT_bad h]; rfl, fun h => ?_⟩
  rw [nodeT_bin h (by simp [foundP])]
  refine FCallT.of (result_19 hv hw) ?_
  rintro _ rfl
  simp only [go_sem, simprocAttr, TyL.row]
  have := validT_e hv
  exact fin_ok (bin_k 19 hv (by decide))
theorem typeOf_20 {N : Int} {a b : TyL} {s : SigL} {u : Bool} (hI : I64 N) (hv : validT a s.enums.length) (hw : validT b s.enums.length) : FCall Tryz.prog n_expr_typeOf [.agg (NodeL.mk 20 N).row, .sl u (tysV [a, b]), .agg s.row] (· = .tup [.agg (nodeT ⟨20, N⟩ [a, b] s).1.row, .int .i64 (nodeT ⟨20, N⟩ [a, b] s).2]) := by
  refine FCall.walk u_expr_typeOf k_expr_typeOf rfl ?_
  unfold c_expr_typeOf
  simp only [go_sem, simprocAttr, NodeL.row, SigL.row]
  refine FCallT.of (number_call (n := ⟨20, N⟩) hI) ?_
  rintro _ rfl
  simp only [go_sem, simprocAttr]
  refine ⟨fun h => by rw [nodeT_bad h]; rfl, fun h => ?_⟩
  rw [nodeT_bin h (by simp [foundP])]
  refine FCallT.of (result_20 hv hw) ?_
  rintro _ rfl
  simp only [go_sem, simprocAttr, TyL.row]
  have := validT_e hv
  exact fin_ok (bin_k 20 hv (by decide))
theorem typeOf_21 {N : Int} {a b : TyL} {s : SigL} {u : Bool} (hI : I64 N) (hv : validT a s.enums.length) (hw : validT b s.enums.length) : FCall Tryz.prog n_expr_typeOf [.agg (NodeL.mk 21 N).row, .sl u (tysV [a, b]), .agg s.row] (· = .tup [.agg (nodeT ⟨21, N⟩ [a, b] s).1.row, .int .i64 (nodeT ⟨21, N⟩ [a, b] s).2]) := by
  refine FCall.walk u_expr_typeOf k_expr_typeOf rfl ?_
  unfold c_expr_typeOf
  simp only [go_sem, simprocAttr, NodeL.row, SigL.row]
  refine FCallT.of (number_call (n := ⟨21, N⟩) hI) ?_
  rintro _ rfl
  simp only [go_sem, simprocAttr]
  refine ⟨fun h => by rw [nodeT_bad h]; rfl, fun h => ?_⟩
  rw [nodeT_bin h (by simp [foundP])]
  refine FCallT.of (result_21 hv hw) ?_
  rintro _ rfl
  simp only [go_sem, simprocAttr, TyL.row]
  have := validT_e hv
  exact fin_ok (bin_k 21 hv (by decide))
theorem typeOf_22 {N : Int} {a b : TyL} {s : SigL} {u : Bool} (hI : I64 N) (hv : validT a s.enums.length) (hw : validT b s.enums.length) : FCall Tryz.prog n_expr_typeOf [.agg (NodeL.mk 22 N).row, .sl u (tysV [a, b]), .agg s.row] (· = .tup [.agg (nodeT ⟨22, N⟩ [a, b] s).1.row, .int .i64 (nodeT ⟨22, N⟩ [a, b] s).2]) := by
  refine FCall.walk u_expr_typeOf k_expr_typeOf rfl ?_
  unfold c_expr_typeOf
  simp only [go_sem, simprocAttr, NodeL.row, SigL.row]
  refine FCallT.of (number_call (n := ⟨22, N⟩) hI) ?_
  rintro _ rfl
  simp only [go_sem, simprocAttr]
  refine ⟨fun h => by rw [nodeT_bad h]; rfl, fun h => ?_⟩
  rw [nodeT_bin h (by simp [foundP])]
  refine FCallT.of (result_22 hv hw) ?_
  rintro _ rfl
  simp only [go_sem, simprocAttr, TyL.row]
  have := validT_e hv
  exact fin_ok (bin_k 22 hv (by decide))
theorem typeOf_23 {N : Int} {a b : TyL} {s : SigL} {u : Bool} (hI : I64 N) (hv : validT a s.enums.length) (hw : validT b s.enums.length) : FCall Tryz.prog n_expr_typeOf [.agg (NodeL.mk 23 N).row, .sl u (tysV [a, b]), .agg s.row] (· = .tup [.agg (nodeT ⟨23, N⟩ [a, b] s).1.row, .int .i64 (nodeT ⟨23, N⟩ [a, b] s).2]) := by
  refine FCall.walk u_expr_typeOf k_expr_typeOf rfl ?_
  unfold c_expr_typeOf
  simp only [go_sem, simprocAttr, NodeL.row, SigL.row]
  refine FCallT.of (number_call (n := ⟨23, N⟩) hI) ?_
  rintro _ rfl
  simp only [go_sem, simprocAttr]
  refine ⟨fun h => by rw [nodeT_bad h]; rfl, fun h => ?_⟩
  rw [nodeT_bin h (by simp [foundP])]
  refine FCallT.of (result_23 hv hw) ?_
  rintro _ rfl
  simp only [go_sem, simprocAttr, TyL.row]
  have := validT_e hv
  exact fin_ok (bin_k 23 hv (by decide))
theorem typeOf_24 {N : Int} {a b : TyL} {s : SigL} {u : Bool} (hI : I64 N) (hv : validT a s.enums.length) (hw : validT b s.enums.length) : FCall Tryz.prog n_expr_typeOf [.agg (NodeL.mk 24 N).row, .sl u (tysV [a, b]), .agg s.row] (· = .tup [.agg (nodeT ⟨24, N⟩ [a, b] s).1.row, .int .i64 (nodeT ⟨24, N⟩ [a, b] s).2]) := by
  refine FCall.walk u_expr_typeOf k_expr_typeOf rfl ?_
  unfold c_expr_typeOf
  simp only [go_sem, simprocAttr, NodeL.row, SigL.row]
  refine FCallT.of (number_call (n := ⟨24, N⟩) hI) ?_
  rintro _ rfl
  simp only [go_sem, simprocAttr]
  refine ⟨fun h => by rw [nodeT_bad h]; rfl, fun h => ?_⟩
  rw [nodeT_bin h (by simp [foundP])]
  refine FCallT.of (result_24 hv hw) ?_
  rintro _ rfl
  simp only [go_sem, simprocAttr, TyL.row]
  have := validT_e hv
  exact fin_ok (bin_k 24 hv (by decide))
theorem typeOf_27 {N : Int} {a b : TyL} {s : SigL} {u : Bool} (hI : I64 N) (hv : validT a s.enums.length) (hw : validT b s.enums.length) : FCall Tryz.prog n_expr_typeOf [.agg (NodeL.mk 27 N).row, .sl u (tysV [a, b]), .agg s.row] (· = .tup [.agg (nodeT ⟨27, N⟩ [a, b] s).1.row, .int .i64 (nodeT ⟨27, N⟩ [a, b] s).2]) := by
  refine FCall.walk u_expr_typeOf k_expr_typeOf rfl ?_
  unfold c_expr_typeOf
  simp only [go_sem, simprocAttr, NodeL.row, SigL.row]
  refine FCallT.of (number_call (n := ⟨27, N⟩) hI) ?_
  rintro _ rfl
  simp only [go_sem, simprocAttr]
  refine ⟨fun h => by rw [nodeT_bad h]; rfl, fun h => ?_⟩
  rw [nodeT_bin h (by simp [foundP])]
  refine FCallT.of (result_27 hv hw) ?_
  rintro _ rfl
  simp only [go_sem, simprocAttr, TyL.row]
  have := validT_e hv
  exact fin_ok (bin_k 27 hv (by decide))
theorem typeOf_28 {N : Int} {a b : TyL} {s : SigL} {u : Bool} (hI : I64 N) (hv : validT a s.enums.length) (hw : validT b s.enums.length) : FCall Tryz.prog n_expr_typeOf [.agg (NodeL.mk 28 N).row, .sl u (tysV [a, b]), .agg s.row] (· = .tup [.agg (nodeT ⟨28, N⟩ [a, b] s).1.row, .int .i64 (nodeT ⟨28, N⟩ [a, b] s).2]) := by
  refine FCall.walk u_expr_typeOf k_expr_typeOf rfl ?_
  unfold c_expr_typeOf
  simp only [go_sem, simprocAttr, NodeL.row, SigL.row]
  refine FCallT.of (number_call (n := ⟨28, N⟩) hI) ?_
  rintro _ rfl
  simp only [go_sem, simprocAttr]
  refine ⟨fun h => by rw [nodeT_bad h]; rfl, fun h => ?_⟩
  rw [nodeT_bin h (by simp [foundP])]
  refine FCallT.of (result_28 hv hw) ?_
  rintro _ rfl
  simp only [go_sem, simprocAttr, TyL.row]
  have := validT_e hv
  exact fin_ok (bin_k 28 hv (by decide))
theorem typeOf_29 {N : Int} {a b : TyL} {s : SigL} {u : Bool} (hI : I64 N) (hv : validT a s.enums.length) (hw : validT b s.enums.length) : FCall Tryz.prog n_expr_typeOf [.agg (NodeL.mk 29 N).row, .sl u (tysV [a, b]), .agg s.row] (· = .tup [.agg (nodeT ⟨29, N⟩ [a, b] s).1.row, .int .i64 (nodeT ⟨29, N⟩ [a, b] s).2]) := by
  refine FCall.walk u_expr_typeOf k_expr_typeOf rfl ?_
  unfold c_expr_typeOf
  simp only [go_sem, simprocAttr, NodeL.row, SigL.row]
  refine FCallT.of (number_call (n := ⟨29, N⟩) hI) ?_
  rintro _ rfl
  simp only [go_sem, simprocAttr]
  refine ⟨fun h => by rw [nodeT_bad h]; rfl, fun h => ?_⟩
  rw [nodeT_bin h (by simp [foundP])]
  refine FCallT.of (result_29 hv hw) ?_
  rintro _ rfl
  simp only [go_sem, simprocAttr, TyL.row]
  have := validT_e hv
  exact fin_ok (bin_k 29 hv (by decide))
theorem typeOf_30 {N : Int} {a b : TyL} {s : SigL} {u : Bool} (hI : I64 N) (hv : validT a s.enums.length) (hw : validT b s.enums.length) : FCall Tryz.prog n_expr_typeOf [.agg (NodeL.mk 30 N).row, .sl u (tysV [a, b]), .agg s.row] (· = .tup [.agg (nodeT ⟨30, N⟩ [a, b] s).1.row, .int .i64 (nodeT ⟨30, N⟩ [a, b] s).2]) := by
  refine FCall.walk u_expr_typeOf k_expr_typeOf rfl ?_
  unfold c_expr_typeOf
  simp only [go_sem, simprocAttr, NodeL.row, SigL.row]
  refine FCallT.of (number_call (n := ⟨30, N⟩) hI) ?_
  rintro _ rfl
  simp only [go_sem, simprocAttr]
  refine ⟨fun h => by rw [nodeT_bad h]; rfl, fun h => ?_⟩
  rw [nodeT_bin h (by simp [foundP])]
  refine FCallT.of (result_30 hv hw) ?_
  rintro _ rfl
  simp only [go_sem, simprocAttr, TyL.row]
  have := validT_e hv
  exact fin_ok (bin_k 30 hv (by decide))
theorem typeOf_26 {N : Int} {a b c : TyL} {s : SigL} {u : Bool} (hI : I64 N) (hv : validT b s.enums.length) : FCall Tryz.prog n_expr_typeOf [.agg (NodeL.mk 26 N).row, .sl u (tysV [a, b, c]), .agg s.row] (· = .tup [.agg (nodeT ⟨26, N⟩ [a, b, c] s).1.row, .int .i64 (nodeT ⟨26, N⟩ [a, b, c] s).2]) := by
  refine FCall.walk u_expr_typeOf k_expr_typeOf rfl ?_
  unfold c_expr_typeOf
  simp only [go_sem, simprocAttr, NodeL.row, SigL.row]
  refine FCallT.of (number_call (n := ⟨26, N⟩) hI) ?_
  rintro _ rfl
  simp only [go_sem, simprocAttr]
  refine ⟨fun h => by rw [nodeT_bad h]; rfl, fun h => ?_⟩
  rw [nodeT_tri h (by simp [foundP])]
  refine FCallT.of (result_26 hv) ?_
  rintro _ rfl
  simp only [go_sem, simprocAttr, TyL.row]
  have := validT_e hv
  exact fin_ok (by simp [triT]; omega)
theorem typeOf_33 {N : Int} {a : TyL} {s : SigL} {u : Bool} (hI : I64 N) : FCall Tryz.prog n_expr_typeOf [.agg (NodeL.mk 33 N).row, .sl u (tysV [a]), .agg s.row] (· = .tup [.agg (nodeT ⟨33, N⟩ [a] s).1.row, .int .i64 (nodeT ⟨33, N⟩ [a] s).2]) := by
  obtain ⟨ak, ae⟩ := a
  refine FCall.walk u_expr_typeOf k_expr_typeOf rfl ?_
  unfold c_expr_typeOf
  simp only [go_sem, simprocAttr, NodeL.row, SigL.row]
  refine FCallT.of (number_call (n := ⟨33, N⟩) hI) ?_
  rintro _ rfl
  simp only [go_sem, simprocAttr]
  refine ⟨fun h => by rw [nodeT_bad h]; rfl, fun h => ?_⟩
  by_cases hf : 0 ≤ N ∧ N < s.tables.length
  · rw [nodeT_un h (by simp [foundP]; omega)]
    refine FCallT.of (tableLk_call (s := s) hf) ?_
    rintro _ rfl
    simp only [go_sem, simprocAttr, TableL.row]
    generalize hT : tabAt s.tables N = T
    have hU : unT ⟨33, N⟩ ⟨ak, ae⟩ s = (⟨T.vk, T.ve⟩, decide (validT ⟨T.kk, T.ke⟩ s.enums.length ∧ validT ⟨T.vk, T.ve⟩ s.enums.length ∧ ak = T.kk ∧ ae = T.ke)) := by simp [unT, hT]
    rw [hU]
    clear hU
    have h0x : (tysV [⟨ak, ae⟩])[0]? = some [.int .i64 ak, .int .i64 ae] := rfl
    repeat' first
      | apply And.intro <;> intro h
      | ((first
        | refine detCall_of _ (validT_call (t := ⟨T.kk, T.ke⟩) (en := s.enums)) ?_
        | refine detCall_of _ (validT_call (t := ⟨T.vk, T.ve⟩) (en := s.enums)) ?_); simp only [go_sem, simprocAttr, TyL.row, h0x])
    all_goals simp only [bp_iff, bpF, Bool.and_eq_true, Bool.and_eq_false_iff, decide_eq_true_eq, decide_eq_false_iff_not, Bool.not_eq_true', Bool.not_eq_false'] at *
    all_goals first | (simp [finT, *]; done) | (simp only [finT, TyL.mk.injEq] at *; simp [*]; done) | (rw [finT_false (by rintro ⟨_, _, x, y⟩; omega)]; done)
  · rw [nodeT_nf h (fun k => hf (k.2.2.2.1 rfl))]
    refine FCallT.of (tableLk_out (s := s) hf) ?_
    rintro _ rfl
    simp only [go_sem, simprocAttr, TableL.row, zeroTab]
    rfl
theorem typeOf_34 {N : Int} {a : TyL} {s : SigL} {u : Bool} (hI : I64 N) (hv : validT a s.enums.length) : FCall Tryz.prog n_expr_typeOf [.agg (NodeL.mk 34 N).row, .sl u (tysV [a]), .agg s.row] (· = .tup [.agg (nodeT ⟨34, N⟩ [a] s).1.row, .int .i64 (nodeT ⟨34, N⟩ [a] s).2]) := by
  obtain ⟨ak, ae⟩ := a
  refine FCall.walk u_expr_typeOf k_expr_typeOf rfl ?_
  unfold c_expr_typeOf
  simp only [go_sem, simprocAttr, NodeL.row, SigL.row]
  refine FCallT.of (number_call (n := ⟨34, N⟩) hI) ?_
  rintro _ rfl
  simp only [go_sem, simprocAttr]
  refine ⟨fun h => by rw [nodeT_bad h]; rfl, fun h => ?_⟩
  have h0 : 0 ≤ N := by rcases numE_cases ⟨34, N⟩ with k | k | k <;> first | (rw [h] at k; omega) | exact (k.2.2.2.1 rfl).1
  by_cases hf : N / 8 < s.tables.length
  · rw [nodeT_un h (by simp [foundP]; omega)]
    refine FCallT.of (tableBr_call (s := s) h0 hI hf) ?_
    rintro _ rfl
    simp only [go_sem, simprocAttr, TableL.row]
    generalize hT : tabAt s.tables (N / 8) = T
    have hU : unT ⟨34, N⟩ ⟨ak, ae⟩ s = (⟨ak, ae⟩, decide (ak = 3 ∧ T.kk = 3 ∧ T.ke = 0 ∧ T.vk = 4 ∧ T.ve = 0)) := by simp [unT, hT]
    rw [hU]
    clear hU
    have h0x : (tysV [⟨ak, ae⟩])[0]? = some [.int .i64 ak, .int .i64 ae] := rfl
    repeat' first
      | apply And.intro <;> intro h
      | ((first
        | refine detCall_of _ (validT_call (t := ⟨T.kk, T.ke⟩) (en := s.enums)) ?_
        | refine detCall_of _ (validT_call (t := ⟨T.vk, T.ve⟩) (en := s.enums)) ?_); simp only [go_sem, simprocAttr, TyL.row, h0x])
    all_goals simp only [bp_iff, bpF, Bool.and_eq_true, Bool.and_eq_false_iff, decide_eq_true_eq, decide_eq_false_iff_not, Bool.not_eq_true', Bool.not_eq_false'] at *
    all_goals first | (simp [finT, *]; done) | (simp only [finT, TyL.mk.injEq] at *; simp [*]; done) | (refine congrArg FV.tup (by unfold finT; split <;> simp_all [validT] <;> omega)) 
  · rw [nodeT_nf h (fun k => hf (k.2.2.2.2.1 rfl))]
    refine FCallT.of (tableBr_out (s := s) h0 hI hf) ?_
    rintro _ rfl
    simp only [go_sem, simprocAttr, TableL.row, zeroTab]
    rfl
theorem typeOf_call {n : NodeL} {l : List TyL} {s : SigL} {u : Bool} (hI : I64 n.n) (hl : (l.length : Int) = arityZ n.op) (hv : ∀ t ∈ l, validT t s.enums.length) :
    FCall Tryz.prog n_expr_typeOf [.agg n.row, .sl u (tysV l), .agg s.row] (· = .tup [.agg (nodeT n l s).1.row, .int .i64 (nodeT n l s).2]) := by
  match l, hl, hv with
  | [], hl, hv => exact typeOf_leaf hl.symm hI
  | [a], hl, hv =>
    obtain ⟨op, N⟩ := n
    simp only at hl hI
    have hc : op = 10 ∨ op = 25 ∨ op = 31 ∨ op = 32 ∨ op = 33 ∨ op = 34 := by unfold arityZ at hl; simp only [List.length_singleton] at hl; (repeat' split at hl) <;> omega
    have ha := hv a (by simp)
    rcases hc with rfl | rfl | rfl | rfl | rfl | rfl
    · exact typeOf_10 hI ha
    · exact typeOf_25 hI ha
    · exact typeOf_31 hI ha
    · exact typeOf_32 hI ha
    · exact typeOf_33 hI
    · exact typeOf_34 hI ha
  | [a, b], hl, hv =>
    obtain ⟨op, N⟩ := n
    simp only at hl hI
    have hc : op = 11 ∨ op = 12 ∨ op = 13 ∨ op = 14 ∨ op = 15 ∨ op = 16 ∨ op = 17 ∨ op = 18 ∨ op = 19 ∨ op = 20 ∨ op = 21 ∨ op = 22 ∨ op = 23 ∨ op = 24 ∨ op = 27 ∨ op = 28 ∨ op = 29 ∨ op = 30 := by unfold arityZ at hl; simp only [List.length_cons, List.length_nil] at hl; (repeat' split at hl) <;> omega
    have ha := hv a (by simp)
    have hb := hv b (by simp)
    rcases hc with rfl | rfl | rfl | rfl | rfl | rfl | rfl | rfl | rfl | rfl | rfl | rfl | rfl | rfl | rfl | rfl | rfl | rfl
    · exact typeOf_11 hI ha hb
    · exact typeOf_12 hI ha hb
    · exact typeOf_13 hI ha hb
    · exact typeOf_14 hI ha hb
    · exact typeOf_15 hI ha hb
    · exact typeOf_16 hI ha hb
    · exact typeOf_17 hI ha hb
    · exact typeOf_18 hI ha hb
    · exact typeOf_19 hI ha hb
    · exact typeOf_20 hI ha hb
    · exact typeOf_21 hI ha hb
    · exact typeOf_22 hI ha hb
    · exact typeOf_23 hI ha hb
    · exact typeOf_24 hI ha hb
    · exact typeOf_27 hI ha hb
    · exact typeOf_28 hI ha hb
    · exact typeOf_29 hI ha hb
    · exact typeOf_30 hI ha hb
  | [a, b, c], hl, hv =>
    obtain ⟨op, N⟩ := n
    simp only at hl hI
    obtain rfl : op = 26 := by unfold arityZ at hl; simp only [List.length_cons, List.length_nil] at hl; (repeat' split at hl) <;> omega
    exact typeOf_26 hI (hv b (by simp))
  | a :: b :: c :: d :: r, hl, hv =>
    exfalso
    unfold arityZ at hl; simp only [List.length_cons] at hl; (repeat' split at hl) <;> omega
end Go.Fx.Tryz
set_option linter.unusedVariables false
set_option linter.unusedSimpArgs false
namespace Go.Fx.Tryz
open Go Go.Fm Go.Proofs
theorem ints_set (l : List Int) (i : Nat) (x : Int) : (ints l).set i [.int .i64 x] = ints (l.set i x) := by simp [ints, List.map_set]
theorem repl_set (m : Nat) (acc : List Int) (x : Int) : (List.replicate (m + 1) (0 : Int) ++ acc).set m x = List.replicate m 0 ++ (x :: acc) := by
  induction m with
  | zero => rfl
  | succ m ih => rw [List.replicate_succ, List.cons_append, List.set_cons_succ, ih]; rfl
theorem operands_call {e : List NodeL} {l : List Int} {i k : Nat} {u v : Bool} (hi : i < e.length) (hb : e.length ≤ 48) (hk : arityZ e[i].op = k) (hk3 : k ≤ 3) (hl : ∀ x ∈ l, 0 ≤ x ∧ x ≤ 48) (ho : OpsOk l ((i : Int) - 1) k) :
    FCall Tryz.prog n_expr_operands [.sl u (nodesV e), .sl v (ints l), .int .i64 i] (· = .arr (ints (opsGo l ((i : Int) - 1) k []))) := by
  have hx := nodesV_get hi
  refine FCall.walk u_expr_operands k_expr_operands rfl ?_
  unfold c_expr_operands
  simp only [go_sem, simprocAttr, Int.toNat_natCast, hx, NodeL.row]
  refine FCallT.of (arity_call (op := e[i].op)) ?_
  rintro _ rfl
  simp only [go_sem, simprocAttr]
  rw [hk]
  simp only [go_sem, simprocAttr]
  have hrep : List.replicate k ([.int .i64 0] : List FV) = ints (List.replicate k 0) := by simp [ints]
  have hw1 : IntKind.i64.wrap ((i : Int) - 1) = (i : Int) - 1 := w64 (by unfold I64; omega)
  have hw2 : IntKind.i64.wrap ((k : Int) - 1) = (k : Int) - 1 := w64 (by unfold I64; omega)
  rw [Int.toNat_natCast, hrep, hw1, hw2]
  refine ⟨by omega, ?_⟩
  refine FWT.upd [] (fun s : Nat × Int × List Int => [(8, .arr (ints (List.replicate s.1 0 ++ s.2.2))), (9, .int .i64 s.2.1), (10, .int .i64 ((s.1 : Int) - 1))]) (fun s => s.1)
    (fun s => s.1 ≤ k ∧ OpsOk l s.2.1 s.1 ∧ opsGo l s.2.1 s.1 s.2.2 = opsGo l ((i : Int) - 1) k []) (k, (i : Int) - 1, []) (by simp [Env.puts, Env.kills, Env.put]) ⟨Nat.le_refl _, ho, rfl⟩ ?_
  rintro ⟨m, last, acc⟩ ⟨g1, g2, g3⟩
  simp only at g1 g2 g3
  cases m with
  | zero =>
    have h0 : ¬ (0 : Int) ≤ ((0 : Nat) : Int) - 1 := by omega
    simp only [go_sem, simprocAttr, h0]
    rw [← g3]; rfl
  | succ m =>
    obtain ⟨o1, o2, o3⟩ := g2
    have e1 : ((m + 1 : Nat) : Int) - 1 = m := by omega
    rw [e1]
    have h0 : (0 : Int) ≤ (m : Int) := by omega
    have hset := repl_set m acc last
    have hm : m < (List.replicate (m + 1) (0 : Int) ++ acc).length := by simp; omega
    generalize List.replicate (m + 1) (0 : Int) ++ acc = L at hset hm
    have hy := ints_get (l := L) hm
    have hlt : last.toNat < l.length := by omega
    have hz := ints_get (l := l) hlt
    have hb2 := hl _ (List.getElem_mem hlt)
    have hw3 : IntKind.i64.wrap (l[last.toNat] - 1) = l[last.toNat] - 1 := w64 (by unfold I64; omega)
    have hw4 : IntKind.i64.wrap ((m : Int) - 1) = (m : Int) - 1 := w64 (by unfold I64; omega)
    have hq : l[last.toNat]? = some l[last.toNat] := List.getElem?_eq_getElem hlt
    simp only [go_sem, simprocAttr, h0, Int.toNat_natCast, hy, hz, o1, hw3, hw4, ints_set, hset]
    rw [hq] at o3
    simp only [opsGo, hq] at g3
    exact ⟨(m, l[last.toNat] - 1, last :: acc), rfl, ⟨by simp only; omega, o3, g3⟩, by simp only; omega⟩
end Go.Fx.Tryz
set_option linter.unusedVariables false
set_option linter.unusedSimpArgs false
namespace Go.Fx.Tryz
open Go Go.Fm Go.Proofs
theorem free_ints (l : List Int) : freeLL (ints l) = true := by
  induction l with
  | nil => rfl
  | cons x l ih => simp only [ints, List.map_cons, freeLL] at ih ⊢; rw [ih]; rfl
theorem tysV_set (l : List TyL) (i : Nat) (x : TyL) : (tysV l).set i [.int .i64 x.k, .int .i64 x.e] = tysV (l.set i x) := by simp [tysV, List.map_set, TyL.row]
theorem tysV_some {l : List TyL} {i : Nat} {x : TyL} (h : l[i]? = some x) : (tysV l)[i]? = some [.int .i64 x.k, .int .i64 x.e] := by simp [tysV, h, TyL.row]
theorem TypeOf_call {e : List NodeL} {s : SigL} {u : Bool} (hI : ∀ n ∈ e, I64 n.n) : FCall Tryz.prog n_expr_TypeOf [.sl u (nodesV e), .agg s.row] (· = .tup [.agg (typeL e s).1.row, .int .i64 (typeL e s).2.1, .int .i64 (typeL e s).2.2]) := by
  refine FCall.walk u_expr_TypeOf k_expr_TypeOf rfl ?_
  unfold c_expr_TypeOf
  simp only [go_sem, simprocAttr, SigL.row]
  refine FCallT.of (starts_call (e := e)) ?_
  rintro _ rfl
  simp only [go_sem, simprocAttr]
  refine ⟨fun h => ?_, fun h => ?_⟩
  · unfold typeL; rw [if_pos h]; rfl
  obtain ⟨L, hL, hG, he, h48⟩ := structL_ok h
  have hpos : 0 < e.length := List.length_pos_iff.2 he
  have hT : typeL e s = typeGo s 0 [] e := by unfold typeL; rw [if_neg (by simpa using h)]
  have hbL := structGo_bnd hG (by simp) (by simp)
  have hrep : List.replicate e.length ([.int .i64 0, .int .i64 0] : List FV) = tysV (List.replicate e.length ⟨0, 0⟩) := by simp [tysV, TyL.row]
  rw [hL, Int.toNat_natCast, hrep]
  refine ⟨by omega, ?_⟩
  refine FWT.upd [] (fun x : Nat × List TyL => [(10, .arr (tysV x.2)), (34, .int .i64 x.1)]) (fun x => e.length - x.1)
    (fun x => ∃ ps, TyInv e s L (typeL e s) x.1 x.2 ps) (0, List.replicate e.length ⟨0, 0⟩) rfl ⟨[], by rw [hT]; exact TyInv.start hG (by simp)⟩ ?_
  rintro ⟨i, T⟩ ⟨ps, hinv⟩
  simp only at hinv
  have hi0 := hinv.hi
  have hTl := hinv.len
  by_cases hi : i < e.length
  · obtain ⟨k, args, hk, hk3, hal, _, _, hops, hmap, hargs, hbad, hgood⟩ := hinv.step hi
    have hx := nodesV_get hi
    simp only [go_sem, simprocAttr, ltT hi, Int.toNat_natCast, hx, NodeL.row]
    refine FCallT.of (operands_call (e := e) (l := L) (i := i) (k := k) hi h48 hk hk3 (fun x m => by have := hbL x m; omega) hops) ?_
    rintro _ rfl
    simp only [go_sem, simprocAttr]
    have hol : (opsGo L ((i : Int) - 1) k []).length = k := by simpa using opsGo_length (L := L) (k := k) (last := (i : Int) - 1) (acc := [])
    have hpp := chain_pos (acc := []) hops (by simp)
    generalize opsGo L ((i : Int) - 1) k [] = ops at hol hmap hpp
    refine ⟨free_ints _, ?_⟩
    refine FWT.count [15] ops.length (fun j => [(13, .arr (tysV (args.take j))), (44, .int .i64 j)]) (fun _ => True) rfl trivial ?_
    intro j hj _
    by_cases hj2 : j < ops.length
    · have hy := ints_get hj2
      have hja : j < args.length := by omega
      have hp := hpp _ (List.getElem_mem hj2)
      have hTj : T[ops[j].toNat]? = some args[j] := by
        have := congrArg (fun l => l[j]?) hmap
        simpa [List.getElem?_map, List.getElem?_eq_getElem hj2, List.getElem?_eq_getElem hja] using this
      have hz := tysV_some hTj
      simp only [go_sem, simprocAttr, ltT hj2, Int.toNat_natCast, hy, hz, hp.1]
      exact ⟨by simp; omega, by rw [List.take_succ_eq_append_getElem hja, tysV_snoc, w64s (by omega)]; rfl, hj2⟩
    · have hj3 : args.take j = args := List.take_of_length_le (by omega)
      rw [hj3]
      simp only [go_sem, simprocAttr, ltF hj2]
      refine FCallT.of (typeOf_call (n := e[i]) (l := args) (s := s) (hI _ (List.getElem_mem hi)) (by rw [hal]; exact hk.symm) hargs) ?_
      rintro _ rfl
      simp only [go_sem, simprocAttr, TyL.row]
      refine ⟨fun h1 => by rw [hbad h1], fun h1 => ?_⟩
      obtain ⟨ps', hn, _⟩ := hgood h1
      have hq := tysV_get (l := T) (i := i) (by omega)
      simp only [go_sem, simprocAttr, Int.toNat_natCast, hq, tysV_set]
      exact ⟨(i + 1, T.set i (nodeT e[i] args s).1), by rw [w64s (by omega)], ⟨ps', hn⟩, by simp only; omega⟩
  · obtain rfl : i = e.length := by omega
    obtain ⟨t, ht, hR⟩ := hinv.done he
    have hz := tysV_some ht
    have hw : IntKind.i64.wrap ((e.length : Int) - 1) = ((e.length - 1 : Nat) : Int) := by rw [w64 (by unfold I64; omega)]; omega
    simp only [go_sem, simprocAttr, ltF hi, Int.toNat_natCast, hw, hz]
    rw [hR]; rfl
end Go.Fx.Tryz
set_option linter.unusedVariables false
set_option linter.unusedSimpArgs false
namespace Go.Fx.Tryz
open Go Go.Fm Go.Proofs
end Go.Fx.Tryz
set_option linter.unusedVariables false
set_option linter.unusedSimpArgs false
namespace Go.Fx.Tryz
open Go Go.Fm Go.Proofs
end Go.Fx.Tryz
set_option linter.unusedVariables false
set_option linter.unusedSimpArgs false
namespace Go.Fx.Tryz
open Go Go.Fm Go.Proofs
end Go.Fx.Tryz
set_option linter.unusedVariables false
set_option linter.unusedSimpArgs false
namespace Go.Fx.Tryz
open Go Go.Fm Go.Proofs
end Go.Fx.Tryz
set_option linter.unusedVariables false
set_option linter.unusedSimpArgs false
namespace Go.Fx.Tryz
open Go Go.Fm Go.Proofs
end Go.Fx.Tryz
set_option linter.unusedVariables false
set_option linter.unusedSimpArgs false
namespace Go.Fm
open Go
abbrev SSort (l : List Int) : Prop := l.Pairwise (· < ·)
theorem ssort_ext : ∀ {a b : List Int}, SSort a → SSort b → (∀ x, x ∈ a ↔ x ∈ b) → a = b
  | [], [], _, _, _ => rfl
  | [], y :: b, _, _, h => by have := (h y).2 (by simp); cases this
  | x :: a, [], _, _, h => by have := (h x).1 (by simp); cases this
  | x :: a, y :: b, ha, hb, h => by
    obtain ⟨ha1, ha2⟩ := List.pairwise_cons.1 ha
    obtain ⟨hb1, hb2⟩ := List.pairwise_cons.1 hb
    have e : x = y := by
      rcases List.mem_cons.1 ((h x).1 (by simp)) with e | e
      · exact e
      · rcases List.mem_cons.1 ((h y).2 (by simp)) with e2 | e2
        · exact e2.symm
        · have := ha1 _ e2; have := hb1 _ e; omega
    subst e
    congr 1
    refine ssort_ext ha2 hb2 fun z => ⟨fun hz => ?_, fun hz => ?_⟩
    · rcases List.mem_cons.1 ((h z).1 (by simp [hz])) with e | e
      · subst e; have := ha1 _ hz; omega
      · exact e
    · rcases List.mem_cons.1 ((h z).2 (by simp [hz])) with e | e
      · subst e; have := hb1 _ hz; omega
      · exact e
def insZ (n : Int) : List Int → List Int
  | [] => [n]
  | x :: l => if x < n then x :: insZ n l else if x = n then x :: l else n :: x :: l
theorem mem_insZ {n x : Int} : ∀ {l : List Int}, x ∈ insZ n l ↔ x = n ∨ x ∈ l
  | [] => by simp [insZ]
  | y :: l => by
    unfold insZ
    split
    · simp only [List.mem_cons, mem_insZ (l := l)]
      constructor
      · rintro (h | h | h)
        · exact .inr (.inl h)
        · exact .inl h
        · exact .inr (.inr h)
      · rintro (h | h | h)
        · exact .inr (.inl h)
        · exact .inl h
        · exact .inr (.inr h)
    · split
      · rename_i h1 h2
        subst h2
        simp only [List.mem_cons]
        constructor
        · exact fun h => .inr h
        · rintro (h | h)
          · exact .inl h
          · exact h
      · simp only [List.mem_cons]
theorem ssort_insZ {n : Int} : ∀ {l : List Int}, SSort l → SSort (insZ n l)
  | [], _ => by simp [insZ]
  | y :: l, h => by
    obtain ⟨h1, h2⟩ := List.pairwise_cons.1 h
    unfold insZ
    split
    · refine List.pairwise_cons.2 ⟨fun z hz => ?_, ssort_insZ h2⟩
      rcases mem_insZ.1 hz with rfl | hz
      · assumption
      · exact h1 z hz
    · split
      · exact h
      · refine List.pairwise_cons.2 ⟨fun z hz => ?_, h⟩
        rcases List.mem_cons.1 hz with rfl | hz
        · omega
        · have := h1 z hz; omega
theorem insZ_length {n : Int} : ∀ {l : List Int}, (insZ n l).length ≤ l.length + 1
  | [] => by simp [insZ]
  | y :: l => by
    have := insZ_length (n := n) (l := l)
    unfold insZ
    split
    · simp only [List.length_cons]; omega
    · split <;> simp only [List.length_cons] <;> omega
def usort (l : List Int) : List Int := l.foldl (fun a x => insZ x a) []
theorem foldl_insZ_mem {x : Int} : ∀ {l a : List Int}, x ∈ l.foldl (fun a x => insZ x a) a ↔ x ∈ a ∨ x ∈ l
  | [], a => by simp
  | y :: l, a => by
    simp only [List.foldl_cons, foldl_insZ_mem (l := l), mem_insZ, List.mem_cons]
    constructor
    · rintro ((h | h) | h)
      · exact .inr (.inl h)
      · exact .inl h
      · exact .inr (.inr h)
    · rintro (h | h | h)
      · exact .inl (.inr h)
      · exact .inl (.inl h)
      · exact .inr h
theorem foldl_insZ_ssort : ∀ {l a : List Int}, SSort a → SSort (l.foldl (fun a x => insZ x a) a)
  | [], a, h => h
  | y :: l, a, h => by simp only [List.foldl_cons]; exact foldl_insZ_ssort (ssort_insZ h)
theorem mem_usort {x : Int} {l : List Int} : x ∈ usort l ↔ x ∈ l := by
  unfold usort; rw [foldl_insZ_mem]; simp
theorem ssort_usort (l : List Int) : SSort (usort l) := foldl_insZ_ssort .nil
theorem foldl_insZ_length : ∀ {l a : List Int}, (l.foldl (fun a x => insZ x a) a).length ≤ a.length + l.length
  | [], a => by simp
  | y :: l, a => by
    simp only [List.foldl_cons, List.length_cons]
    have := foldl_insZ_length (l := l) (a := insZ y a)
    have := insZ_length (n := y) (l := a)
    omega
theorem usort_length (l : List Int) : (usort l).length ≤ l.length := by
  have := foldl_insZ_length (l := l) (a := [])
  simpa [usort] using this
theorem compactUpTo_sorted {d : Array Int} (hs : ∀ i j, i < j → j < d.size → d[i]! ≤ d[j]!) : ∀ m, m ≤ d.size →
    SSort (Lib.compactUpTo d m) ∧ (∀ x, x ∈ Lib.compactUpTo d m ↔ ∃ j, j < m ∧ d[j]! = x)
  | 0, _ => by
    refine ⟨.nil, fun x => ?_⟩
    simp [Lib.compactUpTo]
  | m + 1, hm => by
    obtain ⟨h1, h2⟩ := compactUpTo_sorted hs m (by omega)
    rw [Lib.compactUpTo_succ]
    by_cases hk : Lib.keeps d m = true
    · rw [if_pos hk]
      have hle : ∀ x ∈ Lib.compactUpTo d m, x < d[m]! := by
        intro x hx
        obtain ⟨j, hj, rfl⟩ := (h2 x).1 hx
        simp only [Lib.keeps, decide_eq_true_eq] at hk
        rcases hk with rfl | hk
        · omega
        · have e1 : d[m - 1]! ≤ d[m]! := hs _ _ (by omega) (by omega)
          have e2 : d[j]! ≤ d[m - 1]! := by
            by_cases e : j = m - 1
            · subst e; exact Int.le_refl _
            · exact hs _ _ (by omega) (by omega)
          omega
      refine ⟨?_, fun x => ?_⟩
      · refine List.pairwise_append.2 ⟨h1, by simp, fun a ha b hb => ?_⟩
        rw [List.mem_singleton] at hb
        subst hb
        exact hle a ha
      · rw [List.mem_append, h2, List.mem_singleton]
        constructor
        · rintro (⟨j, hj, e⟩ | e)
          · exact ⟨j, by omega, e⟩
          · exact ⟨m, by omega, e.symm⟩
        · rintro ⟨j, hj, e⟩
          by_cases e2 : j = m
          · subst e2; exact .inr e.symm
          · exact .inl ⟨j, by omega, e⟩
    · rw [if_neg hk, List.append_nil]
      refine ⟨h1, fun x => ?_⟩
      rw [h2]
      simp only [Lib.keeps, decide_eq_true_eq, not_or, Classical.not_not] at hk
      constructor
      · rintro ⟨j, hj, e⟩; exact ⟨j, by omega, e⟩
      · rintro ⟨j, hj, e⟩
        by_cases e2 : j = m
        · subst e2; exact ⟨j - 1, by omega, by rw [← hk.2]; exact e⟩
        · exact ⟨j, by omega, e⟩
theorem compact_sort (l : List Int) : Lib.compact (l.mergeSort fun x y => decide (x ≤ y)) = usort l := by
  generalize hz : (l.mergeSort fun x y => decide (x ≤ y)) = z
  have hp : z.Pairwise (fun a b => decide (a ≤ b) = true) := by
    rw [← hz]
    exact List.pairwise_mergeSort (fun a b c h1 h2 => by simp only [decide_eq_true_eq] at *; omega) (fun a b => by simp only [Bool.or_eq_true, decide_eq_true_eq]; omega) l
  have hs : ∀ i j, i < j → j < z.toArray.size → z.toArray[i]! ≤ z.toArray[j]! := by
    intro i j hij hj
    have hj' : j < z.length := by simpa using hj
    have := (List.pairwise_iff_getElem.1 hp) i j (by omega) hj' hij
    simp only [decide_eq_true_eq] at this
    simpa [getElem!_pos, hj', show i < z.length by omega] using this
  obtain ⟨h1, h2⟩ := compactUpTo_sorted hs z.toArray.size (Nat.le_refl _)
  refine ssort_ext (by simpa [Lib.compact] using h1) (ssort_usort l) fun x => ?_
  rw [mem_usort]
  have h3 : x ∈ Lib.compact z ↔ ∃ j, j < z.length ∧ z.toArray[j]! = x := by simpa [Lib.compact] using h2 x
  rw [h3]
  have h4 : x ∈ z ↔ x ∈ l := by rw [← hz]; exact List.mem_mergeSort
  rw [← h4]
  constructor
  · rintro ⟨j, hj, rfl⟩
    have : z.toArray[j]! = z[j] := by simp [getElem!_pos, hj]
    rw [this]; exact List.getElem_mem hj
  · intro h
    obtain ⟨j, hj, e⟩ := List.getElem_of_mem h
    exact ⟨j, hj, by rw [← e]; simp [getElem!_pos, hj]⟩
end Go.Fm
set_option linter.unusedVariables false
set_option linter.unusedSimpArgs false
namespace Go.Fm
open Go
abbrev Calls := FuncId → List FV → Option FV
abbrev Muts := FuncId → List (List FV) → Option (List (List FV))
def SoundC (P : Program) (c : Calls) : Prop := ∀ f fs v, c f fs = some v → FCall P f fs (· = v)
def SoundM (P : Program) (m : Muts) : Prop := ∀ f es es', m f es = some es' → FMut P f es (· = es')
def xFree (c : Calls) (f : FuncId) (fs : List FV) : Option FV := match c f fs with
  | some r => cond r.free (some r) none
  | none => none
def xNil (neg : Bool) (d : Nat) (E : Env) (es : List (List FV)) : Option Env := match es with
  | [] => none
  | _ :: _ => some (E.upd d (.bool neg))
def xNilOn (E : Env) (d : Nat) (neg : Bool) (f : FV) : Option Env := match f with
  | .sl _ es => xNil neg d E es
  | .al q p => match E.at q p with
    | .arr es => xNil neg d E es
    | _ => none
  | _ => none
def xStW (E : Env) (f : FV) (d n : Nat) : Option Env := cond f.alias none (stG E f (.t d) n)
def xM (m : Muts) (f : FuncId) (q d : Nat) (E : Env) (l g : FV) : Option Env := match l with
  | .al q' p => match p with
    | [] => cond (Nat.beq q' q) (match g with
      | .arr es => match m f es with
        | some es' => some (((E.upd q .undef).upd q (.arr es')).upd d (.tup []))
        | none => none
      | _ => none) none
    | _ => none
  | _ => none
def xV (P : Program) (c : Calls) (s : FV) (fs : List FV) : Option FV := match s with
  | .fn g cap => cond (isFn P g) (xFree c g (fs ++ cap)) none
  | _ => none
def xF (P : Program) (c : Calls) (s : FV) (fs : List FV) : Option FV := match s with
  | .fn g cap => match cap with
    | [] => cond (isFn P g) (c g fs) none
    | _ => none
  | _ => none
def xK (P : Program) (c : Calls) (m : Muts) (k : FK) (d : Nat) (E : Env) : Option Env :=
  match k with
  | .op f => f.eval E d
  | .call f ss => match c f (E.passM ss).1 with
    | some r => some ((E.passM ss).2.upd d r)
    | none => none
  | .callB f ss => match xFree c f (ss.map E.lend) with
    | some r => some (E.upd d r)
    | none => none
  | .callL f ss => cond (ss.all fun s => !(E.look s).alias) (match c f (ss.map E.look) with
    | some r => some (E.upd d r)
    | none => none) none
  | .callV s ss => match xV P c (E.lend s) (ss.map E.lend) with
    | some r => some (E.upd d r)
    | none => none
  | .callM f s q => xM m f q d E (E.look s) (E.get q)
  | .callF s ss => match xF P c (E.lend s) (E.passM ss).1 with
    | some r => some ((E.passM ss).2.upd d r)
    | none => none
  | .isNil neg s => xNilOn E d neg (E.look s)
  | .storeW s n => xStW E (E.look s) d n
section
variable {P : Program} {c : Calls} {m : Muts}
theorem xFree_sound (hc : SoundC P c) {f : FuncId} {fs : List FV} {v : FV} {J : FV → Prop} (h : xFree c f fs = some v) (hj : J v) : FCall P f fs (fun r => r.free = true ∧ J r) := by
  unfold xFree at h
  split at h <;> try (cases h; done)
  rename_i r hr
  cases hf : r.free <;> rw [hf] at h <;> cases h
  exact (hc _ _ _ hr).mono fun r hr => by subst hr; exact ⟨hf, hj⟩
theorem xNil_sound {neg : Bool} {d : Nat} {E E' : Env} {es : List (List FV)} {J : Env → Prop} (h : xNil neg d E es = some E') (hj : J E') : nilK es neg fun b => J (E.upd d (.bool b)) := by
  cases es with
  | nil => cases h
  | cons x es => cases h; exact ⟨fun h => by simp at h, fun _ => hj⟩
theorem xK_sound (hc : SoundC P c) (hm : SoundM P m) {k : FK} {d : Nat} {E E' : Env} {J : Env → Prop} (h : xK P c m k d E = some E') (hj : J E') : runK P k d E J := by
  cases k with
  | op f => exact ⟨E', h, hj⟩
  | call f ss =>
    simp only [xK] at h
    split at h <;> cases h
    rename_i r hr
    exact (hc _ _ _ hr).mono fun r hr => by subst hr; exact hj
  | callB f ss =>
    simp only [xK] at h
    split at h <;> cases h
    rename_i r hr
    exact xFree_sound hc hr hj
  | callL f ss =>
    simp only [xK] at h
    cases ha : (ss.all fun s => !(E.look s).alias) <;> rw [ha] at h <;> simp only [cond_true, cond_false] at h
    · cases h
    · split at h <;> cases h
      rename_i r hr
      exact ⟨ha, (hc _ _ _ hr).mono fun r hr => by subst hr; exact hj⟩
  | callV s ss =>
    simp only [xK] at h
    split at h <;> cases h
    rename_i r hr
    unfold xV at hr
    simp only [runK]
    split at hr <;> try (cases hr; done)
    rename_i g cap hs
    simp only [hs]
    cases hi : isFn P g <;> rw [hi] at hr <;> simp only [cond_true, cond_false] at hr
    · cases hr
    · exact ⟨rfl, xFree_sound hc hr hj⟩
  | callF s ss =>
    simp only [xK] at h
    split at h <;> cases h
    rename_i r hr
    unfold xF at hr
    simp only [runK]
    split at hr <;> try (cases hr; done)
    rename_i g cap hs
    simp only [hs]
    split at hr <;> try (cases hr; done)
    cases hi : isFn P g <;> rw [hi] at hr <;> simp only [cond_true, cond_false] at hr
    · cases hr
    · exact ⟨rfl, rfl, (hc _ _ _ hr).mono fun r hr => by subst hr; exact hj⟩
  | callM f s q =>
    simp only [xK, xM] at h
    split at h <;> try (cases h; done)
    rename_i q' p hl
    split at h <;> try (cases h; done)
    cases hq : Nat.beq q' q <;> rw [hq] at h <;> simp only [cond_true, cond_false] at h
    · cases h
    · have := Nat.eq_of_beq_eq_true hq
      subst this
      split at h <;> try (cases h; done)
      rename_i es he
      split at h <;> try (cases h; done)
      rename_i es' hes
      cases h
      exact ⟨hl, es, he, (hm _ _ _ hes).mono fun r hr => by subst hr; exact hj⟩
  | isNil neg s =>
    simp only [xK, xNilOn] at h
    simp only [runK, nilOn]
    split at h <;> try (cases h; done)
    · rename_i b es hl
      rw [hl]
      exact xNil_sound h hj
    · rename_i q p hl
      rw [hl]
      simp only
      split at h <;> try (cases h; done)
      rename_i es he
      rw [he]
      exact xNil_sound h hj
  | storeW s n =>
    simp only [xK, xStW] at h
    cases ha : (E.look s).alias <;> rw [ha] at h <;> simp only [cond_true, cond_false] at h
    · exact ⟨E', h, ha, hj⟩
    · cases h
def xG (P : Program) (c : Calls) (m : Muts) (f : FO) (E : Env) : Option Env := match f.g with
  | none => xK P c m f.k f.d E
  | some (t, want) => match E.get t with
    | .bool b => cond (b == want) (xK P c m f.k f.d E) (some (E.upd f.d skipped))
    | .tup [] => some (E.upd f.d skipped)
    | _ => none
def xOps (P : Program) (c : Calls) (m : Muts) : List FO → Env → Option Env
  | [], E => some E
  | f :: r, E => match xG P c m f E with
    | some E' => xOps P c m r E'
    | none => none
theorem xG_sound (hc : SoundC P c) (hm : SoundM P m) {f : FO} {E E' : Env} {J : Env → Prop} (h : xG P c m f E = some E') (hj : J E') : stepG P f E J := by
  unfold xG at h
  unfold stepG
  cases hg : f.g with
  | none => rw [hg] at h; exact xK_sound hc hm h hj
  | some x =>
    obtain ⟨t, want⟩ := x
    rw [hg] at h
    simp only at h ⊢
    split at h <;> try (cases h; done)
    · rename_i b hb
      rw [hb]
      cases hbw : b == want <;> rw [hbw] at h <;> simp only [cond_true, cond_false] at h
      · cases h
        exact ⟨fun e => by subst e; simp at hbw, fun _ => hj⟩
      · exact ⟨fun _ => xK_sound hc hm h hj, fun e => absurd (by simpa using hbw) e⟩
    · rename_i hb
      rw [hb]
      cases h
      exact hj
theorem xOps_sound (hc : SoundC P c) (hm : SoundM P m) : ∀ {fs : List FO} {E E' : Env} {J : Env → Prop}, xOps P c m fs E = some E' → J E' → runOps P fs E J
  | [], E, E', J, h, hj => by cases h; exact hj
  | f :: r, E, E', J, h, hj => by
    simp only [xOps] at h
    split at h <;> try (cases h; done)
    rename_i E1 h1
    rw [runOps_cons]
    exact xG_sound hc hm h1 (xOps_sound hc hm h hj)
def xDOp (E : Env) (d : Nat) (f : FOp) : Option Env := match f with
  | .build tmpl ps ss => cond (ss.all E.noAl) (match bdF E tmpl ps ss with
    | some x => some (x.2.put d x.1)
    | none => none) none
  | .buildSl tmpl ln is ss => cond (ss.all E.noAl) (match bsF E tmpl ln is ss with
    | some x => some (x.2.put d x.1)
    | none => none) none
  | .mvP deep s => cond (E.noAl s) (some ((E.pass deep s).2.put d (E.pass deep s).1)) none
  | .extract n i => match exF (E.get n) i with
    | some f => some ((if f.flat then E else E.put n (exT (E.get n) i)).put d f)
    | none => none
  | f => match f.val E with
    | some v => cond (v.notRoot d) (some (E.put d v)) none
    | none => none
def xPut (E : Env) (d : Nat) (x : Option FV) : Option Env := match x with
  | some v => some (E.put d v)
  | none => none
def xDK (P : Program) (c : Calls) (k : FK) (d : Nat) (E : Env) : Option Env :=
  match k with
  | .op f => xDOp E d f
  | .callB f ss => xPut E d (xFree c f (ss.map E.lend))
  | .callL f ss => cond (ss.all fun s => !(E.look s).alias) (xPut E d (c f (ss.map E.look))) none
  | .callV s ss => xPut E d (xV P c (E.lend s) (ss.map E.lend))
  | .storeW s n => xPut E d (stW (E.get d) (E.look s) n)
  | _ => none
theorem xPut_inv {E E' : Env} {d : Nat} {x : Option FV} (h : xPut E d x = some E') : ∃ v, x = some v ∧ E' = E.put d v := by
  cases x with
  | none => cases h
  | some v => cases h; exact ⟨v, rfl, rfl⟩
theorem xDK_sound (hc : SoundC P c) {k : FK} {d : Nat} {E E' : Env} {J : Env → Prop} (h : xDK P c k d E = some E') (hj : J E') : detK P k d E J := by
  have free : ∀ {f : FuncId} {fs : List FV} {v : FV}, xFree c f fs = some v → FCall P f fs (· = v) ∧ v.free = true := fun {f fs v} h => by
    unfold xFree at h
    split at h <;> try (cases h; done)
    rename_i r hr
    cases hf : r.free <;> rw [hf] at h <;> cases h
    exact ⟨hc _ _ _ hr, hf⟩
  cases k with
  | op f =>
    have val : (match f.val E with
        | some v => cond (v.notRoot d) (some (E.put d v)) none
        | none => none) = some E' → ∃ v, f.val E = some v ∧ v.notRoot d = true ∧ J (E.put d v) := fun h => by
      split at h <;> try (cases h; done)
      rename_i u hu
      cases hn : u.notRoot d <;> rw [hn] at h <;> cases h
      exact ⟨u, hu, hn, hj⟩
    cases f with
    | build tmpl ps ss =>
      simp only [xDK, xDOp] at h
      cases ha : ss.all E.noAl <;> rw [ha] at h <;> simp only [cond_true, cond_false] at h
      · cases h
      · split at h <;> cases h
        rename_i x hx
        exact ⟨ha, x, hx, hj⟩
    | buildSl tmpl ln is ss =>
      simp only [xDK, xDOp] at h
      cases ha : ss.all E.noAl <;> rw [ha] at h <;> simp only [cond_true, cond_false] at h
      · cases h
      · split at h <;> cases h
        rename_i x hx
        exact ⟨ha, x, hx, hj⟩
    | mvP deep s =>
      simp only [xDK, xDOp] at h
      cases ha : E.noAl s <;> rw [ha] at h <;> cases h
      exact ⟨ha, hj⟩
    | extract n i =>
      simp only [xDK, xDOp] at h
      split at h <;> cases h
      rename_i f hf
      exact ⟨f, hf, hj⟩
    | _ => exact val h
  | call f ss => cases h
  | callB f ss =>
    obtain ⟨v, h1, rfl⟩ := xPut_inv h
    obtain ⟨h1, h2⟩ := free h1
    exact ⟨v, h1, h2, hj⟩
  | callL f ss =>
    simp only [xDK] at h
    cases ha : (ss.all fun s => !(E.look s).alias) <;> rw [ha] at h <;> simp only [cond_true, cond_false] at h
    · cases h
    · obtain ⟨v, h1, rfl⟩ := xPut_inv h
      exact ⟨ha, v, hc _ _ _ h1, hj⟩
  | callV s ss =>
    obtain ⟨v, h1, rfl⟩ := xPut_inv h
    simp only [xV] at h1
    simp only [detK]
    split at h1 <;> try (cases h1; done)
    rename_i g cap hs
    simp only [hs]
    cases hi : isFn P g <;> rw [hi] at h1 <;> simp only [cond_true, cond_false] at h1
    · cases h1
    · obtain ⟨h1, h2⟩ := free h1
      exact ⟨rfl, v, h1, h2, hj⟩
  | callM f s q => cases h
  | callF s ss => cases h
  | isNil neg s => cases h
  | storeW s n =>
    obtain ⟨v, h1, rfl⟩ := xPut_inv h
    exact ⟨v, h1, hj⟩
def xDG (P : Program) (c : Calls) (f : FO) (E : Env) : Option Env := match f.g with
  | none => xDK P c f.k f.d E
  | some (t, want) => match E.get t with
    | .bool b => cond (b == want) (xDK P c f.k f.d E) (some (E.put f.d skipped))
    | .tup [] => some (E.put f.d skipped)
    | _ => none
theorem xDG_sound (hc : SoundC P c) {f : FO} {E E' : Env} {J : Env → Prop} (h : xDG P c f E = some E') (hj : J E') : detG P f E J := by
  unfold xDG at h
  unfold detG
  cases hg : f.g with
  | none => rw [hg] at h; exact xDK_sound hc h hj
  | some x =>
    obtain ⟨t, want⟩ := x
    rw [hg] at h
    simp only at h ⊢
    split at h <;> try (cases h; done)
    · rename_i b hb
      rw [hb]
      cases hbw : b == want <;> rw [hbw] at h <;> simp only [cond_true, cond_false] at h
      · cases h
        exact ⟨fun e => by subst e; simp at hbw, fun _ => hj⟩
      · exact ⟨fun _ => xDK_sound hc h hj, fun e => absurd (by simpa using hbw) e⟩
    · rename_i hb
      rw [hb]
      cases h
      exact hj
def xDet (P : Program) (c : Calls) (D : List Nat) : List FO → Env → Option Env
  | [], E => some E
  | f :: r, E => match xDG P c f E with
    | some E' => cond (rootOk D (E'.get f.d)) (xDet P c D r E') none
    | none => none
theorem xDet_sound (hc : SoundC P c) {D : List Nat} : ∀ {fs : List FO} {E E' : Env} {J : Env → Prop}, xDet P c D fs E = some E' → J E' → runDet P D fs E J
  | [], E, E', J, h, hj => by cases h; exact hj
  | f :: r, E, E', J, h, hj => by
    simp only [xDet] at h
    unfold runDet
    split at h <;> try (cases h; done)
    rename_i E1 h1
    cases hr : rootOk D (E1.get f.d) <;> rw [hr] at h <;> simp only [cond_true, cond_false] at h
    · cases h
    · exact xDG_sound hc h1 ⟨hr, xDet_sound hc h hj⟩
def xLoop (x : Env → Option (Exit × Env)) : Nat → Env → Option (Exit × Env)
  | 0, _ => none
  | n + 1, E => match x E with
    | some (e, E') => match e with
      | .normal => xLoop x n E'
      | e => some (e, E')
    | none => none
def xCode (P : Program) (c : Calls) (m : Muts) (n : Nat) : FC → Env → Option (Exit × Env)
  | .skip, E => some (.normal, E)
  | .ret, E => some (.ret, E)
  | .exit id, E => some (.exit id, E)
  | .seq x y, E => match xCode P c m n x E with
    | some (e, E') => match e with
      | .normal => xCode P c m n y E'
      | e => some (e, E')
    | none => none
  | .cond s x y, E => match E.look s with
    | .bool b => cond b (xCode P c m n x E) (xCode P c m n y E)
    | _ => none
  | .block id x, E => match xCode P c m n x E with
    | some (e, E') => match e with
      | .exit id' => cond (Nat.beq id' id) (some (.normal, E')) (some (.exit id', E'))
      | e => some (e, E')
    | none => none
  | .loop x, E => xLoop (fun E => xCode P c m n x E) n E
  | .reg dr fs ks, E => match dr with
    | none => match xOps P c m fs E with
      | some E' => some (.normal, E'.kills ks)
      | none => none
    | some k => cond (P.follows .mixedOrders && rootsOk (wrs (fs.take k)) E) (match xDet P c (wrs (fs.take k)) (fs.take k) E with
      | some Ef => match xOps P c m (fs.drop k) Ef with
        | some E' => some (.normal, E'.kills ks)
        | none => none
      | none => none) none
theorem xCode_sound {N n : Nat} (hc : SoundC P c) (hm : SoundM P m) : ∀ {x : FC} {E : Env} {r : Exit × Env} {K : Exit → Env → Prop}, xCode P c m n x E = some r → K r.1 r.2 → FW P N x E K
  | .skip, E, r, K, h, hk => by cases h; exact FW.skip hk
  | .ret, E, r, K, h, hk => by cases h; exact FW.ret hk
  | .exit id, E, r, K, h, hk => by cases h; exact FW.exit hk
  | .seq x y, E, r, K, h, hk => by
    simp only [xCode] at h
    split at h <;> try (cases h; done)
    rename_i e E' h1
    refine FW.seq (xCode_sound hc hm h1 ?_)
    cases e with
    | normal => exact xCode_sound hc hm h hk
    | _ => cases h; exact hk
  | .cond s x y, E, r, K, h, hk => by
    simp only [xCode] at h
    split at h <;> try (cases h; done)
    rename_i b hb
    refine FW.cond hb ?_
    cases b
    · exact xCode_sound hc hm h hk
    · exact xCode_sound hc hm h hk
  | .block id x, E, r, K, h, hk => by
    simp only [xCode] at h
    split at h <;> try (cases h; done)
    rename_i e E' h1
    refine FW.block (xCode_sound hc hm h1 ?_)
    cases e with
    | exit id' =>
      simp only [blockK]
      simp only at h
      cases hb : Nat.beq id' id <;> rw [hb] at h <;> simp only [cond_true, cond_false] at h <;> cases h
      · rw [if_neg (Nat.ne_of_beq_eq_false hb)]; exact hk
      · rw [if_pos (Nat.eq_of_beq_eq_true hb)]; exact hk
    | _ => cases h; exact hk
  | .loop x, E, r, K, h, hk => by
    simp only [xCode] at h
    refine FW.loop (fun k E => xLoop (fun E => xCode P c m n x E) k E = some r) n h fun k E1 h1 => ?_
    cases k with
    | zero => cases h1
    | succ k =>
      simp only [xLoop] at h1
      split at h1 <;> try (cases h1; done)
      rename_i e E2 h2
      refine xCode_sound hc hm h2 ?_
      cases e with
      | normal => exact ⟨k, Nat.lt_succ_self k, h1⟩
      | _ => cases h1; exact hk
  | .reg none fs ks, E, r, K, h, hk => by
    simp only [xCode] at h
    split at h <;> try (cases h; done)
    rename_i E' h1
    cases h
    exact FW.reg (xOps_sound hc hm h1 hk)
  | .reg (some k) fs ks, E, r, K, h, hk => by
    simp only [xCode] at h
    cases hf : P.follows .mixedOrders && rootsOk (wrs (fs.take k)) E <;> rw [hf] at h <;> simp only [cond_true, cond_false] at h
    · cases h
    simp only [Bool.and_eq_true] at hf
    split at h <;> try (cases h; done)
    rename_i Ef h1
    split at h <;> try (cases h; done)
    rename_i E' h2
    cases h
    exact FW.draw hf.1 hf.2 (xDet_sound hc h1 (xOps_sound hc hm h2 hk))
structure XE where
  fc : FC
  N : Nat
  na : Nat
  rs : List RV
def XT.find : List (FuncId × XE) → FuncId → Option XE
  | [], _ => none
  | (g, e) :: t, f => cond (Nat.beq g f) (some e) (XT.find t f)
def XT.Good (P : Program) : List (FuncId × XE) → Prop
  | [] => True
  | (g, e) :: t => (∃ fn, P.funcs[g]? = some fn ∧ fnOk P fn e.fc e.N e.na e.rs = true) ∧ XT.Good P t
theorem XT.find_good : ∀ {t : List (FuncId × XE)} {f : FuncId} {e : XE}, XT.Good P t → XT.find t f = some e → ∃ fn, P.funcs[f]? = some fn ∧ fnOk P fn e.fc e.N e.na e.rs = true
  | [], f, e, _, h => by cases h
  | (g, e') :: t, f, e, hg, h => by
    simp only [XT.find] at h
    cases hb : Nat.beq g f <;> rw [hb] at h <;> simp only [cond_true, cond_false] at h
    · exact XT.find_good hg.2 h
    · have := Nat.eq_of_beq_eq_true hb
      subst this
      cases h
      exact hg.1
def xFin (rs : List RV) (e : Exit) (E : Env) : Option FV := match e with
  | .normal | .ret => match outs E rs with
    | some x => some (one x.1)
    | none => none
  | _ => none
def xRun (P : Program) (c : Calls) (m : Muts) (n : Nat) (e : XE) (fs : List FV) : Option FV :=
  cond (Nat.beq fs.length e.na) (match xCode P c m n e.fc (entryFrom 0 fs) with
    | some (x, E) => xFin e.rs x E
    | none => none) none
def xCall (P : Program) (t : List (FuncId × XE)) (prim : Calls) (m : Muts) (n : Nat) : Nat → FuncId → List FV → Option FV
  | 0, _, _ => none
  | k + 1, f, fs => match prim f fs with
    | some v => some v
    | none => match XT.find t f with
      | some e => xRun P (xCall P t prim m n k) m n e fs
      | none => none
theorem xCall_sound {t : List (FuncId × XE)} {prim : Calls} {n : Nat} (ht : XT.Good P t) (hp : SoundC P prim) (hm : SoundM P m) : ∀ k, SoundC P (xCall P t prim m n k)
  | 0 => fun f fs v h => by cases h
  | k + 1 => fun f fs v h => by
    simp only [xCall] at h
    split at h
    · rename_i u hu
      cases h
      exact hp _ _ _ hu
    · split at h <;> try (cases h; done)
      rename_i e he
      obtain ⟨fn, h1, h2⟩ := XT.find_good ht he
      unfold xRun at h
      cases hl : Nat.beq fs.length e.na <;> rw [hl] at h <;> simp only [cond_true, cond_false] at h
      · cases h
      split at h <;> try (cases h; done)
      rename_i x E hx
      refine FCall.of h1 h2 (Nat.eq_of_beq_eq_true hl) (xCode_sound (xCall_sound ht hp hm k) hm hx ?_)
      unfold xFin at h
      cases x <;> simp only at h <;> try (cases h; done)
      · split at h <;> cases h
        rename_i y hy
        exact ⟨.inl rfl, y, hy, rfl⟩
      · split at h <;> cases h
        rename_i y hy
        exact ⟨.inr rfl, y, hy, rfl⟩
end
end Go.Fm
set_option linter.unusedVariables false
namespace Go.Fx.Tryz
open Go Go.Fm Go.Proofs
def tab : List (FuncId × XE) := [
  (n_law17_LawOnDateValid, ⟨c_law17_LawOnDateValid, 32, 2, [.t 4]⟩),
  (n_same_SmallLaw, ⟨c_same_SmallLaw, 127, 1, [.t 2]⟩),
  (n_law_Validate, ⟨c_law_Validate, 124, 1, [.c 2 4 true]⟩),
  (n_law17_awake, ⟨c_law17_awake, 19, 0, [.t 0]⟩),
  (n_effective_LawOn, ⟨c_effective_LawOn, 85, 2, [.c 4 3 true]⟩),
  (n_same_smallScope, ⟨c_same_smallScope, 93, 1, [.t 2]⟩),
  (n_law_bad, ⟨c_law_bad, 14, 4, [.c 8 4 true]⟩),
  (n_law_name, ⟨c_law_name, 22, 4, [.c 8 4 true]⟩),
  (n_law_enum, ⟨c_law_enum, 46, 2, [.c 4 4 true]⟩),
  (n_law_rows, ⟨c_law_rows, 30, 3, [.c 6 4 true]⟩),
  (n_law_scope, ⟨c_law_scope, 115, 2, [.c 4 4 true]⟩),
  (n_same_TinyLaw, ⟨c_same_TinyLaw, 22, 1, [.c 2 3 true]⟩),
  (n_slices_Clone_string_string, ⟨c_slices_Clone_string_string, 8, 1, [.t 2]⟩),
  (n_daterange_Contains, ⟨c_daterange_Contains, 19, 2, [.t 4]⟩),
  (n_effective_scopeOn, ⟨c_effective_scopeOn, 71, 2, [.c 4 5 true]⟩),
  (n_lexer_IsIdentifier, ⟨c_lexer_IsIdentifier, 29, 1, [.t 2]⟩),
  (n_slices_Contains_string_string, ⟨c_slices_Contains_string_string, 9, 2, [.t 4]⟩),
  (n_table_Validate, ⟨c_table_Validate, 58, 2, [.t 4, .t 5]⟩),
  (n_law_fields, ⟨c_law_fields, 59, 5, [.c 10 4 true]⟩),
  (n_law_names, ⟨c_law_names, 19, 1, [.t 2]⟩),
  (n_law_Signature, ⟨c_law_Signature, 50, 2, [.c 4 6 true]⟩),
  (n_law_rule, ⟨c_law_rule, 102, 3, [.t 6]⟩),
  (n_deps_Transitive, ⟨c_deps_Transitive, 59, 2, [.t 4]⟩),
  (n_slices_Contains_int_int, ⟨c_slices_Contains_int_int, 9, 2, [.t 4]⟩),
  (n_daterange_Valid, ⟨c_daterange_Valid, 18, 1, [.t 2]⟩),
  (n_effective_ancestor, ⟨c_effective_ancestor, 29, 3, [.t 6]⟩),
  (n_slices_Clone_api_Node_api_Node, ⟨c_slices_Clone_api_Node_api_Node, 8, 1, [.t 2]⟩),
  (n_slices_Clone_api_Field_api_Field, ⟨c_slices_Clone_api_Field_api_Field, 8, 1, [.t 2]⟩),
  (n_lexer_lower, ⟨c_lexer_lower, 9, 1, [.t 2]⟩),
  (n_lexer_run, ⟨c_lexer_run, 20, 2, [.t 4]⟩),
  (n_lexer_part, ⟨c_lexer_part, 13, 1, [.t 2]⟩),
  (n_slices_Index_string_string, ⟨c_slices_Index_string_string, 19, 2, [.t 4]⟩),
  (n_value_ValidType, ⟨c_value_ValidType, 28, 2, [.t 4]⟩),
  (n_table_check, ⟨c_table_check, 82, 3, [.t 6]⟩),
  (n_table_conflict, ⟨c_table_conflict, 29, 2, [.t 4]⟩),
  (n_law_enums, ⟨c_law_enums, 23, 1, [.t 2]⟩),
  (n_law_tables, ⟨c_law_tables, 22, 1, [.t 2]⟩),
  (n_law_types, ⟨c_law_types, 19, 1, [.t 2]⟩),
  (n_law_member, ⟨c_law_member, 24, 2, [.c 4 5 true, .t 5]⟩),
  (n_law_named, ⟨c_law_named, 69, 2, [.t 4]⟩),
  (n_law_source, ⟨c_law_source, 29, 1, [.t 2]⟩),
  (n_law_expression, ⟨c_law_expression, 25, 3, [.t 6]⟩),
  (n_deps_valid, ⟨c_deps_valid, 14, 2, [.t 4]⟩),
  (n_deps_Direct, ⟨c_deps_Direct, 66, 2, [.t 4]⟩),
  (n_slices_Index_int_int, ⟨c_slices_Index_int_int, 19, 2, [.t 4]⟩),
  (n_lexer_digit, ⟨c_lexer_digit, 9, 1, [.t 2]⟩),
  (n_value_Bounds, ⟨c_value_Bounds, 30, 2, [.t 4, .t 5]⟩),
  (n_daterange_Intersect, ⟨c_daterange_Intersect, 35, 2, [.c 4 2 true, .t 5]⟩),
  (n_slices_Clone_api_Row_api_Row, ⟨c_slices_Clone_api_Row_api_Row, 8, 1, [.t 2]⟩),
  (n_expr_TypeOf, ⟨c_expr_TypeOf, 79, 2, [.c 4 2 true, .t 5, .t 6]⟩),
  (n_expr_References, ⟨c_expr_References, 53, 1, [.t 2, .t 3, .t 4]⟩),
  (n_daterange_proper, ⟨c_daterange_proper, 12, 1, [.t 2]⟩),
  (n_expr_starts, ⟨c_expr_starts, 69, 1, [.t 2, .t 3, .t 4]⟩),
  (n_expr_operands, ⟨c_expr_operands, 37, 3, [.t 6]⟩),
  (n_expr_typeOf, ⟨c_expr_typeOf, 93, 3, [.c 6 2 true, .t 7]⟩),
  (n_expr_References_1, ⟨c_expr_References_1, 7, 1, [.t 2]⟩),
  (n_expr_Arity, ⟨c_expr_Arity, 31, 1, [.t 2]⟩),
  (n_expr_number, ⟨c_expr_number, 67, 1, [.t 2]⟩),
  (n_expr_leaf, ⟨c_expr_leaf, 109, 2, [.c 4 2 true, .t 5]⟩),
  (n_expr_table, ⟨c_expr_table, 24, 2, [.c 4 6 true, .t 5]⟩),
  (n_expr_result, ⟨c_expr_result, 156, 2, [.c 4 2 true]⟩),
  (n_expr_meaning, ⟨c_expr_meaning, 19, 1, [.t 2]⟩),
  (n_expr_at_api_Enum, ⟨c_expr_at_api_Enum, 20, 2, [.c 4 2 true, .t 5]⟩),
  (n_expr_at_string, ⟨c_expr_at_string, 20, 2, [.t 4, .t 5]⟩),
  (n_expr_at_api_Type, ⟨c_expr_at_api_Type, 20, 2, [.c 4 2 true, .t 5]⟩),
  (n_expr_aggregate, ⟨c_expr_aggregate, 23, 2, [.t 4]⟩),
  (n_expr_at_api_Table, ⟨c_expr_at_api_Table, 20, 2, [.c 4 6 true, .t 5]⟩),
  (n_expr_result_1, ⟨c_expr_result_1, 10, 2, [.c 4 2 true]⟩),
  (n_expr_numeric, ⟨c_expr_numeric, 13, 1, [.t 2]⟩),
  (n_expr_arithmetic, ⟨c_expr_arithmetic, 77, 3, [.t 6]⟩),
  (n_expr_ordered, ⟨c_expr_ordered, 9, 1, [.t 2]⟩),
  (n_expr_literal, ⟨c_expr_literal, 10, 1, [.t 2]⟩)]
theorem tab_good : XT.Good Tryz.prog tab := ⟨⟨_, u_law17_LawOnDateValid, k_law17_LawOnDateValid⟩, ⟨_, u_same_SmallLaw, k_same_SmallLaw⟩, ⟨_, u_law_Validate, k_law_Validate⟩, ⟨_, u_law17_awake, k_law17_awake⟩, ⟨_, u_effective_LawOn, k_effective_LawOn⟩, ⟨_, u_same_smallScope, k_same_smallScope⟩, ⟨_, u_law_bad, k_law_bad⟩, ⟨_, u_law_name, k_law_name⟩, ⟨_, u_law_enum, k_law_enum⟩, ⟨_, u_law_rows, k_law_rows⟩, ⟨_, u_law_scope, k_law_scope⟩, ⟨_, u_same_TinyLaw, k_same_TinyLaw⟩, ⟨_, u_slices_Clone_string_string, k_slices_Clone_string_string⟩, ⟨_, u_daterange_Contains, k_daterange_Contains⟩, ⟨_, u_effective_scopeOn, k_effective_scopeOn⟩, ⟨_, u_lexer_IsIdentifier, k_lexer_IsIdentifier⟩, ⟨_, u_slices_Contains_string_string, k_slices_Contains_string_string⟩, ⟨_, u_table_Validate, k_table_Validate⟩, ⟨_, u_law_fields, k_law_fields⟩, ⟨_, u_law_names, k_law_names⟩, ⟨_, u_law_Signature, k_law_Signature⟩, ⟨_, u_law_rule, k_law_rule⟩, ⟨_, u_deps_Transitive, k_deps_Transitive⟩, ⟨_, u_slices_Contains_int_int, k_slices_Contains_int_int⟩, ⟨_, u_daterange_Valid, k_daterange_Valid⟩, ⟨_, u_effective_ancestor, k_effective_ancestor⟩, ⟨_, u_slices_Clone_api_Node_api_Node, k_slices_Clone_api_Node_api_Node⟩, ⟨_, u_slices_Clone_api_Field_api_Field, k_slices_Clone_api_Field_api_Field⟩, ⟨_, u_lexer_lower, k_lexer_lower⟩, ⟨_, u_lexer_run, k_lexer_run⟩, ⟨_, u_lexer_part, k_lexer_part⟩, ⟨_, u_slices_Index_string_string, k_slices_Index_string_string⟩, ⟨_, u_value_ValidType, k_value_ValidType⟩, ⟨_, u_table_check, k_table_check⟩, ⟨_, u_table_conflict, k_table_conflict⟩, ⟨_, u_law_enums, k_law_enums⟩, ⟨_, u_law_tables, k_law_tables⟩, ⟨_, u_law_types, k_law_types⟩, ⟨_, u_law_member, k_law_member⟩, ⟨_, u_law_named, k_law_named⟩, ⟨_, u_law_source, k_law_source⟩, ⟨_, u_law_expression, k_law_expression⟩, ⟨_, u_deps_valid, k_deps_valid⟩, ⟨_, u_deps_Direct, k_deps_Direct⟩, ⟨_, u_slices_Index_int_int, k_slices_Index_int_int⟩, ⟨_, u_lexer_digit, k_lexer_digit⟩, ⟨_, u_value_Bounds, k_value_Bounds⟩, ⟨_, u_daterange_Intersect, k_daterange_Intersect⟩, ⟨_, u_slices_Clone_api_Row_api_Row, k_slices_Clone_api_Row_api_Row⟩, ⟨_, u_expr_TypeOf, k_expr_TypeOf⟩, ⟨_, u_expr_References, k_expr_References⟩, ⟨_, u_daterange_proper, k_daterange_proper⟩, ⟨_, u_expr_starts, k_expr_starts⟩, ⟨_, u_expr_operands, k_expr_operands⟩, ⟨_, u_expr_typeOf, k_expr_typeOf⟩, ⟨_, u_expr_References_1, k_expr_References_1⟩, ⟨_, u_expr_Arity, k_expr_Arity⟩, ⟨_, u_expr_number, k_expr_number⟩, ⟨_, u_expr_leaf, k_expr_leaf⟩, ⟨_, u_expr_table, k_expr_table⟩, ⟨_, u_expr_result, k_expr_result⟩, ⟨_, u_expr_meaning, k_expr_meaning⟩, ⟨_, u_expr_at_api_Enum, k_expr_at_api_Enum⟩, ⟨_, u_expr_at_string, k_expr_at_string⟩, ⟨_, u_expr_at_api_Type, k_expr_at_api_Type⟩, ⟨_, u_expr_aggregate, k_expr_aggregate⟩, ⟨_, u_expr_at_api_Table, k_expr_at_api_Table⟩, ⟨_, u_expr_result_1, k_expr_result_1⟩, ⟨_, u_expr_numeric, k_expr_numeric⟩, ⟨_, u_expr_arithmetic, k_expr_arithmetic⟩, ⟨_, u_expr_ordered, k_expr_ordered⟩, ⟨_, u_expr_literal, k_expr_literal⟩, trivial⟩
end Go.Fx.Tryz
namespace Go.Fx.Tryz
open Go Go.Fm Go.Proofs
theorem p_sort {zs : List Int} (h : zs.length < 4611686018427387904) : FMut Tryz.prog n_slices_Sort_int_int (ints zs) (· = ints (zs.mergeSort fun x y => decide (x ≤ y))) :=
  FMut.sort (fun blk off cap zs w => Go.Proofs.Tryz.slices_Sort_int blk off cap zs w) (fun p cap w => Go.Proofs.Tryz.slices_Sort_int_none p cap w) h
end Go.Fx.Tryz
set_option linter.unusedVariables false
set_option linter.unusedSimpArgs false
namespace Go.Fx.Tryz
open Go Go.Fm Go.Proofs
theorem unique_call {l : List Int} (h : l.length < 2 ^ 40) : FCall Tryz.prog n_expr_References_1 [.arr (ints l)] (· = .arr (ints (usort l))) := by
  refine FCall.walk u_expr_References_1 k_expr_References_1 rfl ?_
  unfold c_expr_References_1
  simp only [go_sem, simprocAttr]
  refine FMutT.of (p_sort (zs := l) (by omega)) ?_
  rintro _ rfl
  simp only [go_sem, simprocAttr]
  refine FCallT.of (p_compact (zs := l.mergeSort fun x y => decide (x ≤ y)) (by rw [List.length_mergeSort]; omega)) ?_
  rintro _ rfl
  simp only [go_sem, simprocAttr, compact_sort]
theorem References_call {e : List NodeL} {u : Bool} (h : e.length < 2 ^ 40) : FCall Tryz.prog n_expr_References [.sl u (nodesV e)] (· = .tup [.arr (ints (usort (refsN 7 e))), .arr (ints (usort (refsN 8 e))), .arr (ints (usort (refsM e)))]) := by
  refine FCall.walk u_expr_References k_expr_References rfl ?_
  unfold c_expr_References
  simp only [go_sem, simprocAttr]
  refine FWT.count [] e.length (fun i => [(5, .arr (ints (refsN 7 (e.take i)))), (6, .arr (ints (refsN 8 (e.take i)))), (7, .arr (ints (refsM (e.take i)))), (13, .int .i64 i)]) (fun _ => True) rfl trivial ?_
  intro i hi _
  by_cases h2 : i < e.length
  · have hx := nodesV_get h2
    have b7 := refsN_length (op := 7) (e := e.take i)
    have b8 := refsN_length (op := 8) (e := e.take i)
    have bm := refsM_length (e := e.take i)
    have hlen : (e.take i).length ≤ e.length := by simp; omega
    simp only [go_sem, simprocAttr, ltT h2, Int.toNat_natCast, hx, NodeL.row]
    repeat' first
      | apply And.intro <;> intro h
      | ((first
        | (refine FCallT.of () ?_; rintro _ rfl)
        | refine detCall_of _ () ?_
        | refine detCallB_of _ () rfl ?_); simp only [go_sem, simprocAttr])
    all_goals first | (exfalso; omega) | skip
    all_goals rw [w64s (by omega)]
    all_goals have r1 := refsN_succ (op := 7) h2
    all_goals have r2 := refsN_succ (op := 8) h2
    all_goals have r3 := refsM_succ h2
    all_goals simp only [*, reduceIte, Int.reduceEq, Int.reduceLE, and_self, false_and, and_false, true_and, and_true, List.append_nil, ints_snoc] at r1 r2 r3
    all_goals first | (rw [r1, r2, r3, ints_snoc]; exact ⟨by omega, rfl, h2⟩) | (rw [r1, r2, r3]; exact ⟨rfl, h2⟩) | (rw [r1, r2, r3, if_neg (by omega)]; simp only [List.append_nil]; exact ⟨trivial, h2⟩)
  · rw [List.take_of_length_le (by omega)]
    have k7 := refsN_length (op := 7) (e := e)
    have k8 := refsN_length (op := 8) (e := e)
    have km := refsM_length (e := e)
    have isFn_u : isFn Tryz.prog n_expr_References_1 = true := by kernel_rfl
    simp only [go_sem, simprocAttr, ltF h2, isFn_u]
    refine FCallT.of (unique_call (l := refsN 7 e) (by omega)) ?_
    rintro _ rfl
    simp only [go_sem, simprocAttr, isFn_u]
    refine FCallT.of (unique_call (l := refsN 8 e) (by omega)) ?_
    rintro _ rfl
    simp only [go_sem, simprocAttr, isFn_u]
    refine FCallT.of (unique_call (l := refsM e) (by omega)) ?_
    rintro _ rfl
    simp only [go_sem, simprocAttr, isFn_u]
theorem deps_valid_call {s : ScopeL} {d : Int} : FCall Tryz.prog n_deps_valid [.agg s.row, .int .i64 d] (· = .bool (bp (0 ≤ d ∧ d < s.defs.length))) := by
  refine FCall.walk u_deps_valid k_deps_valid rfl ?_
  unfold c_deps_valid
  simp only [go_sem, simprocAttr, ScopeL.row]
  repeat' first
    | apply And.intro <;> intro h
    | ((first
      | (refine FCallT.of () ?_; rintro _ rfl)
      | refine detCall_of _ () ?_
      | refine detCallB_of _ () rfl ?_); simp only [go_sem, simprocAttr])
  all_goals first | exact fbp_false (by omega) | (rw [dec_bp]; exact congrArg FV.bool (bp_congr (by omega)))
end Go.Fx.Tryz
set_option linter.unusedVariables false
set_option linter.unusedSimpArgs false
namespace Go.Fm
open Go
inductive Reach (D : Int → List Int) (a : Int) : Int → Prop
  | one {x : Int} : x ∈ D a → Reach D a x
  | more {x y : Int} : Reach D a x → y ∈ D x → Reach D a y
noncomputable def numsL (p : Int → Prop) (n : Nat) : List Int := ((List.range n).map (fun i : Nat => (i : Int))).filter (fun x => bp (p x))
theorem mem_numsL {p : Int → Prop} {n : Nat} {x : Int} : x ∈ numsL p n ↔ (0 ≤ x ∧ x < n) ∧ p x := by
  unfold numsL
  simp only [List.mem_filter, List.mem_map, List.mem_range, bp_iff]
  constructor
  · rintro ⟨⟨i, h, rfl⟩, hp⟩; exact ⟨⟨by omega, by omega⟩, hp⟩
  · rintro ⟨⟨h1, h2⟩, hp⟩; exact ⟨⟨x.toNat, by omega, by omega⟩, hp⟩
theorem ssort_range (n : Nat) : SSort ((List.range n).map (fun i : Nat => (i : Int))) := by
  rw [SSort, List.pairwise_map]
  exact List.pairwise_lt_range.imp fun h => by omega
theorem ssort_numsL (p : Int → Prop) (n : Nat) : SSort (numsL p n) := (ssort_range n).filter _
theorem numsL_length (p : Int → Prop) (n : Nat) : (numsL p n).length ≤ n := by
  unfold numsL
  refine Nat.le_trans (List.length_filter_le _ _) ?_
  simp
noncomputable def transL (D : Int → List Int) (n : Nat) (a : Int) : List Int := numsL (Reach D a) n
noncomputable def cntP (p : Int → Prop) : Nat → Nat
  | 0 => 0
  | n + 1 => cntP p n + (if bp (p n) then 1 else 0)
theorem cntP_le (p : Int → Prop) : ∀ n, cntP p n ≤ n
  | 0 => Nat.le_refl _
  | n + 1 => by have := cntP_le p n; unfold cntP; split <;> omega
theorem cntP_mono {p q : Int → Prop} : ∀ {n : Nat}, (∀ x : Int, 0 ≤ x → x < n → p x → q x) → cntP p n ≤ cntP q n
  | 0, _ => Nat.le_refl _
  | n + 1, h => by
    have ih := cntP_mono (p := p) (q := q) (n := n) fun x h1 h2 => h x h1 (by omega)
    unfold cntP
    by_cases hp : p n
    · rw [bp_true hp, bp_true (h n (by omega) (by omega) hp)]; simpa using ih
    · rw [bp_false hp]; simp; omega
theorem cntP_lt {p q : Int → Prop} : ∀ {n : Nat}, (∀ x : Int, 0 ≤ x → x < n → p x → q x) → (∃ x : Int, 0 ≤ x ∧ x < n ∧ q x ∧ ¬ p x) → cntP p n < cntP q n
  | 0, _, ⟨x, h1, h2, _⟩ => by omega
  | n + 1, h, ⟨x, h1, h2, h3, h4⟩ => by
    have h' : ∀ x : Int, 0 ≤ x → x < n → p x → q x := fun x h1 h2 => h x h1 (by omega)
    unfold cntP
    by_cases e : x = n
    · subst e
      rw [bp_false h4, bp_true h3]
      have := cntP_mono h'
      simp; omega
    · have ih := cntP_lt h' ⟨x, h1, by omega, h3, h4⟩
      by_cases hp : p n
      · rw [bp_true hp, bp_true (h n (by omega) (by omega) hp)]; simpa using ih
      · rw [bp_false hp]; simp; omega
section
variable {D : Int → List Int} {n : Nat} {a : Int}
theorem reach_lt (hD : ∀ x y, y ∈ D x → 0 ≤ y ∧ y < n) {y : Int} (h : Reach D a y) : 0 ≤ y ∧ y < n := by
  cases h with
  | one h => exact hD _ _ h
  | more _ h => exact hD _ _ h
structure Bfs (D : Int → List Int) (n : Nat) (a : Int) (p : Int → Prop) (todo : List Int) : Prop where
  r1 : ∀ x, p x → Reach D a x
  r2 : ∀ x ∈ todo, Reach D a x
  s1 : ∀ y ∈ D a, p y ∨ y ∈ todo
  s2 : ∀ x, p x → ∀ y ∈ D x, p y ∨ y ∈ todo
theorem Bfs.start : Bfs D n a (fun _ => False) (D a) := ⟨fun _ h => h.elim, fun x h => .one h, fun y h => .inr h, fun _ h => h.elim⟩
theorem Bfs.old {p : Int → Prop} {x : Int} {todo : List Int} (h : Bfs D n a p (x :: todo)) (hx : p x) : Bfs D n a p todo :=
  ⟨h.r1, fun y m => h.r2 y (by simp [m]), fun y m => by
    rcases h.s1 y m with h1 | h1
    · exact .inl h1
    · rcases List.mem_cons.1 h1 with rfl | h1
      · exact .inl hx
      · exact .inr h1, fun z hz y m => by
    rcases h.s2 z hz y m with h1 | h1
    · exact .inl h1
    · rcases List.mem_cons.1 h1 with rfl | h1
      · exact .inl hx
      · exact .inr h1⟩
theorem Bfs.new {p : Int → Prop} {x : Int} {todo : List Int} (h : Bfs D n a p (x :: todo)) : Bfs D n a (fun y => y = x ∨ p y) (todo ++ D x) :=
  ⟨fun y m => by
    rcases m with rfl | m
    · exact h.r2 _ (by simp)
    · exact h.r1 y m, fun y m => by
    rcases List.mem_append.1 m with m | m
    · exact h.r2 y (by simp [m])
    · exact .more (h.r2 x (by simp)) m, fun y m => by
    rcases h.s1 y m with h1 | h1
    · exact .inl (.inr h1)
    · rcases List.mem_cons.1 h1 with rfl | h1
      · exact .inl (.inl rfl)
      · exact .inr (by simp [h1]), fun z hz y m => by
    rcases hz with rfl | hz
    · exact .inr (by simp [m])
    · rcases h.s2 z hz y m with h1 | h1
      · exact .inl (.inr h1)
      · rcases List.mem_cons.1 h1 with rfl | h1
        · exact .inl (.inl rfl)
        · exact .inr (by simp [h1])⟩
theorem Bfs.done {p : Int → Prop} (h : Bfs D n a p []) (x : Int) : p x ↔ Reach D a x := by
  refine ⟨h.r1 x, fun hr => ?_⟩
  induction hr with
  | one hx => exact (h.s1 _ hx).resolve_right (by simp)
  | more _ hy ih => exact (h.s2 _ ih _ hy).resolve_right (by simp)
end
end Go.Fm
set_option linter.unusedVariables false
set_option linter.unusedSimpArgs false
namespace Go.Fm
open Go
def inD (s : ScopeL) (x : Int) : Bool := decide (0 ≤ x ∧ x < s.defs.length)
def partD (s : ScopeL) (g : List NodeL) : List Int := (usort (refsN 8 g)).filter (inD s)
def stepD (s : ScopeL) (d : Int) (r : RuleL) : List Int := if r.d = d then partD s r.guard ++ partD s r.value else []
def outD (s : ScopeL) (d : Int) (i : Nat) : List Int := (s.rules.take i).flatMap (stepD s d)
def directL (s : ScopeL) (d : Int) : List Int := if inD s d then usort (outD s d s.rules.length) else []
def ScopeL.mid (s : ScopeL) : Prop := s.defs.length ≤ 1048576 ∧ s.rules.length ≤ 1048576 ∧ ∀ r ∈ s.rules, r.guard.length ≤ 1048576 ∧ r.value.length ≤ 1048576
theorem partD_length (s : ScopeL) (g : List NodeL) : (partD s g).length ≤ g.length := Nat.le_trans (List.length_filter_le _ _) (Nat.le_trans (usort_length _) refsN_length)
theorem stepD_length {s : ScopeL} (h : s.mid) {d : Int} {r : RuleL} (hr : r ∈ s.rules) : (stepD s d r).length ≤ 2097152 := by
  unfold stepD
  split
  · have := partD_length s r.guard; have := partD_length s r.value; have := h.2.2 r hr; simp only [List.length_append]; omega
  · simp
theorem outD_succ {s : ScopeL} {d : Int} {i : Nat} (h : i < s.rules.length) : outD s d (i + 1) = outD s d i ++ stepD s d s.rules[i] := by
  unfold outD; rw [List.take_succ_eq_append_getElem h, List.flatMap_append]; simp
theorem outD_length {s : ScopeL} (h : s.mid) {d : Int} : ∀ {i : Nat}, i ≤ s.rules.length → (outD s d i).length ≤ i * 2097152
  | 0, _ => by simp [outD]
  | i + 1, hi => by
    have ih := outD_length h (d := d) (i := i) (by omega)
    have := stepD_length h (d := d) (List.getElem_mem (show i < s.rules.length by omega))
    rw [outD_succ (by omega), List.length_append]; omega
theorem inD_iff {s : ScopeL} {x : Int} : inD s x = true ↔ 0 ≤ x ∧ x < s.defs.length := by unfold inD; rw [decide_eq_true_eq]
theorem mem_directL {s : ScopeL} {d x : Int} : x ∈ directL s d ↔ inD s d = true ∧ inD s x = true ∧ ∃ r ∈ s.rules, r.d = d ∧ (x ∈ refsN 8 r.guard ∨ x ∈ refsN 8 r.value) := by
  unfold directL
  by_cases h : inD s d = true
  · simp only [h, if_true, mem_usort, outD, List.take_length, List.mem_flatMap, stepD, true_and]
    constructor
    · rintro ⟨r, hr, hx⟩
      split at hx
      · rename_i hd
        simp only [List.mem_append, partD, List.mem_filter, mem_usort] at hx
        rcases hx with ⟨h1, h2⟩ | ⟨h1, h2⟩
        · exact ⟨h2, r, hr, hd, .inl h1⟩
        · exact ⟨h2, r, hr, hd, .inr h1⟩
      · simp at hx
    · rintro ⟨h2, r, hr, hd, h1⟩
      refine ⟨r, hr, ?_⟩
      rw [if_pos hd]
      simp only [List.mem_append, partD, List.mem_filter, mem_usort]
      rcases h1 with h1 | h1
      · exact .inl ⟨h1, h2⟩
      · exact .inr ⟨h1, h2⟩
  · simp [h]
theorem directL_lt {s : ScopeL} {d x : Int} (h : x ∈ directL s d) : 0 ≤ x ∧ x < s.defs.length := inD_iff.1 (mem_directL.1 h).2.1
theorem ssort_directL (s : ScopeL) (d : Int) : SSort (directL s d) := by unfold directL; split; exact ssort_usort _; exact .nil
theorem ssort_bound : ∀ {l : List Int} {lo : Int} {n : Nat}, SSort l → (∀ x ∈ l, lo ≤ x ∧ x < lo + n) → l.length ≤ n
  | [], _, _, _, _ => Nat.zero_le _
  | x :: l, lo, n, hs, h => by
    obtain ⟨h1, h2⟩ := List.pairwise_cons.1 hs
    have hx := h x (by simp)
    obtain ⟨m, rfl⟩ : ∃ m, n = m + 1 := ⟨n - 1, by omega⟩
    have := ssort_bound (l := l) (lo := lo + 1) (n := m) h2 fun y hy => by
      have := h1 y hy; have := h y (by simp [hy]); omega
    simp only [List.length_cons]; omega
theorem directL_length (s : ScopeL) (d : Int) : (directL s d).length ≤ s.defs.length :=
  ssort_bound (lo := 0) (ssort_directL s d) fun x hx => by have := directL_lt hx; omega
theorem filter_take_succ {α : Type} {p : α → Bool} {l : List α} {k : Nat} (h : k < l.length) : (l.take (k + 1)).filter p = (l.take k).filter p ++ (if p l[k] then [l[k]] else []) := by
  rw [List.take_succ_eq_append_getElem h, List.filter_append]
  by_cases e : p l[k] = true <;> simp [e]
noncomputable def transD (s : ScopeL) (d : Int) : List Int := transL (directL s) s.defs.length d
def boolsV (l : List Bool) : List (List FV) := l.map fun b => [.bool b]
@[go_sem] theorem boolsV_length (l : List Bool) : (boolsV l).length = l.length := by simp [boolsV]
theorem boolsV_get {l : List Bool} {i : Nat} (h : i < l.length) : (boolsV l)[i]? = some [.bool l[i]] := by simp [boolsV, h]
theorem boolsV_set (l : List Bool) (i : Nat) (b : Bool) : (boolsV l).set i [.bool b] = boolsV (l.set i b) := by simp [boolsV, List.map_set]
def seenP (l : List Bool) (x : Int) : Prop := 0 ≤ x ∧ l[x.toNat]? = some true
theorem seenP_set {l : List Bool} {x y : Int} (hx : 0 ≤ x) (h : x.toNat < l.length) : seenP (l.set x.toNat true) y ↔ y = x ∨ seenP l y := by
  unfold seenP
  by_cases e : y = x
  · subst e
    simp [hx, List.getElem?_set_self h]
  · by_cases hy : 0 ≤ y
    · have : x.toNat ≠ y.toNat := by omega
      rw [List.getElem?_set_ne this]; simp [e]
    · simp [hy, e]
theorem seenP_none {n : Nat} {x : Int} : ¬ seenP (List.replicate n false) x := by
  rintro ⟨_, h⟩
  rw [List.getElem?_replicate] at h
  split at h <;> simp at h
noncomputable def bfsM (n : Nat) (l : List Bool) (todo : List Int) : Nat := (n - cntP (seenP l) n) * (n + 1) + todo.length
theorem bfsM_old {n : Nat} {l : List Bool} {x : Int} {todo : List Int} : bfsM n l todo < bfsM n l (x :: todo) := by unfold bfsM; simp
theorem bfsM_new {n : Nat} {l : List Bool} {x : Int} {todo d : List Int} (hl : l.length = n) (hx : 0 ≤ x ∧ x < n) (hn : ¬ seenP l x) (hd : d.length ≤ n) : bfsM n (l.set x.toNat true) (todo ++ d) < bfsM n l (x :: todo) := by
  have h1 := cntP_lt (p := seenP l) (q := seenP (l.set x.toNat true)) (n := n) (fun y _ _ h => (seenP_set hx.1 (by omega)).2 (.inr h)) ⟨x, hx.1, hx.2, (seenP_set hx.1 (by omega)).2 (.inl rfl), hn⟩
  have h2 := cntP_le (seenP (l.set x.toNat true)) n
  unfold bfsM
  obtain ⟨a, ha⟩ : ∃ a, n - cntP (seenP l) n = (n - cntP (seenP (l.set x.toNat true)) n) + 1 + a := ⟨n - cntP (seenP l) n - (n - cntP (seenP (l.set x.toNat true)) n) - 1, by omega⟩
  rw [ha, Nat.add_mul, Nat.add_mul]
  simp only [List.length_append, List.length_cons]
  omega
theorem trueIdx {l : List Bool} {p : Int → Prop} (h : ∀ x : Int, 0 ≤ x → x < l.length → (seenP l x ↔ p x)) : ∀ i : Nat, i ≤ l.length → ((List.range i).map (fun k : Nat => (k : Int))).filter (fun x => (l[x.toNat]?).getD false) = ((List.range i).map (fun k : Nat => (k : Int))).filter (fun x => bp (p x)) := by
  intro i hi
  refine List.filter_congr fun x hx => ?_
  obtain ⟨k, hk, rfl⟩ := List.mem_map.1 hx
  have hk := List.mem_range.1 hk
  have h1 := h (k : Int) (by omega) (by omega)
  rw [Bool.eq_iff_iff, bp_iff, ← h1, seenP, Int.toNat_natCast]
  cases hq : l[k]? with
  | none => simp
  | some b => simp
end Go.Fm
set_option linter.unusedVariables false
set_option linter.unusedSimpArgs false
namespace Go.Fx.Tryz
open Go Go.Fm Go.Proofs
theorem Direct_call {s : ScopeL} {d : Int} (hs : s.mid) : FCall Tryz.prog n_deps_Direct [.agg s.row, .int .i64 d] (· = .arr (ints (directL s d))) := by
  have hv0 := deps_valid_call (s := s) (d := d)
  by_cases hd : inD s d = true
  · have hd2 := inD_iff.1 hd
    rw [bp_true hd2] at hv0
    refine FCall.walk u_deps_Direct k_deps_Direct rfl ?_
    unfold c_deps_Direct
    simp only [go_sem, simprocAttr, ScopeL.row]
    refine FCallT.of (hv0) ?_
    rintro _ rfl
    simp only [go_sem, simprocAttr, ScopeL.row]
    refine FWT.count [] s.rules.length (fun i => [(5, .arr (ints (outD s d i))), (22, .int .i64 i)]) (fun _ => True) rfl trivial ?_
    intro i hi _
    by_cases h2 : i < s.rules.length
    · have hx := rulesV_get h2
      obtain ⟨hg, hv⟩ := hs.2.2 _ (List.getElem_mem h2)
      have hol := outD_length hs (d := d) (i := i) (by omega)
      have hrl := hs.2.1
      have hsucc := outD_succ (d := d) h2
      generalize s.rules[i] = r at hx hg hv hsucc
      by_cases hr : r.d = d
      · have hr' : (r.d = d) = True := eq_true hr
        simp only [go_sem, simprocAttr, ltT h2, Int.toNat_natCast, hx, RuleL.row, hr']
        have hpl := partD_length s r.guard
        refine FWT.count [] 2 (fun j => [(5, .arr (ints (if j = 0 then outD s d i else if j = 1 then outD s d i ++ partD s r.guard else outD s d i ++ partD s r.guard ++ partD s r.value))), (36, .int .i64 j)]) (fun _ => True) rfl trivial ?_
        intro j hj _
        obtain rfl | rfl | rfl : j = 0 ∨ j = 1 ∨ j = 2 := by omega
        · skip
          have hlg : (usort (refsN 8 r.guard)).length ≤ 1048576 := Nat.le_trans (Nat.le_trans (usort_length _) refsN_length) hg
          simp only [go_sem, simprocAttr]
          refine FCallT.of (References_call (e := r.guard) (by omega)) ?_
          rintro _ rfl
          simp only [go_sem, simprocAttr]
          generalize hG : usort (refsN 8 r.guard) = l at hlg
          have hGp : partD s r.guard = l.filter (inD s) := by unfold partD; rw [hG]
          refine FWT.count [] l.length (fun k => [(5, .arr (ints (outD s d i ++ (l.take k).filter (inD s)))), (48, .int .i64 k)]) (fun _ => True) (by simp only [List.take_zero, List.filter_nil, List.append_nil]; rfl) trivial ?_
          intro k hk _
          by_cases k2 : k < l.length
          · have hy := ints_get k2
            have hfl : ((l.take k).filter (inD s)).length ≤ k := Nat.le_trans (List.length_filter_le _ _) (by simp; omega)
            have hfs := filter_take_succ (p := inD s) k2
            have hdv := deps_valid_call (s := s) (d := l[k])
            simp only [go_sem, simprocAttr, ltT k2, Int.toNat_natCast, hy]
            by_cases kd : inD s l[k] = true
            · rw [bp_true (inD_iff.1 kd)] at hdv
              rw [if_pos kd] at hfs
              refine FCallT.of (hdv) ?_
              rintro _ rfl
              simp only [go_sem, simprocAttr, ScopeL.row]
              exact ⟨by simp only [List.length_append]; skip; omega, by rw [w64s (by omega), hfs, ← List.append_assoc, ints_snoc], k2⟩
            · rw [bp_false fun x => kd (inD_iff.2 x)] at hdv
              rw [if_neg kd, List.append_nil] at hfs
              refine FCallT.of (hdv) ?_
              rintro _ rfl
              simp only [go_sem, simprocAttr, ScopeL.row]
              exact ⟨by rw [w64s (by omega), hfs], k2⟩
          · rw [List.take_of_length_le (by omega), ← hGp]
            simp only [go_sem, simprocAttr, ltF k2]
            first | rfl | trace_state
        · skip
          have hlg : (usort (refsN 8 r.value)).length ≤ 1048576 := Nat.le_trans (Nat.le_trans (usort_length _) refsN_length) hv
          simp only [go_sem, simprocAttr]
          refine FCallT.of (References_call (e := r.value) (by omega)) ?_
          rintro _ rfl
          simp only [go_sem, simprocAttr]
          generalize hG : usort (refsN 8 r.value) = l at hlg
          have hGp : partD s r.value = l.filter (inD s) := by unfold partD; rw [hG]
          refine FWT.count [] l.length (fun k => [(5, .arr (ints ((outD s d i ++ partD s r.guard) ++ (l.take k).filter (inD s)))), (48, .int .i64 k)]) (fun _ => True) (by simp only [List.take_zero, List.filter_nil, List.append_nil]; rfl) trivial ?_
          intro k hk _
          by_cases k2 : k < l.length
          · have hy := ints_get k2
            have hfl : ((l.take k).filter (inD s)).length ≤ k := Nat.le_trans (List.length_filter_le _ _) (by simp; omega)
            have hfs := filter_take_succ (p := inD s) k2
            have hdv := deps_valid_call (s := s) (d := l[k])
            simp only [go_sem, simprocAttr, ltT k2, Int.toNat_natCast, hy]
            by_cases kd : inD s l[k] = true
            · rw [bp_true (inD_iff.1 kd)] at hdv
              rw [if_pos kd] at hfs
              refine FCallT.of (hdv) ?_
              rintro _ rfl
              simp only [go_sem, simprocAttr, ScopeL.row]
              exact ⟨by simp only [List.length_append]; skip; omega, by rw [w64s (by omega), hfs, ← List.append_assoc, ints_snoc], k2⟩
            · rw [bp_false fun x => kd (inD_iff.2 x)] at hdv
              rw [if_neg kd, List.append_nil] at hfs
              refine FCallT.of (hdv) ?_
              rintro _ rfl
              simp only [go_sem, simprocAttr, ScopeL.row]
              exact ⟨by rw [w64s (by omega), hfs], k2⟩
          · rw [List.take_of_length_le (by omega), ← hGp]
            simp only [go_sem, simprocAttr, ltF k2]
            first | rfl | trace_state
        · simp only [go_sem, simprocAttr]
          exact ⟨by rw [w64s (by omega), hsucc, stepD, if_pos hr, List.append_assoc], h2⟩
      · have hr' : (r.d = d) = False := eq_false hr
        simp only [go_sem, simprocAttr, ltT h2, Int.toNat_natCast, hx, RuleL.row, hr']
        exact ⟨by rw [w64s (by omega), hsucc, stepD, if_neg hr, List.append_nil], h2⟩
    · obtain rfl : i = s.rules.length := by omega
      have hol := outD_length hs (d := d) (Nat.le_refl _)
      have hrl := hs.2.1
      simp only [go_sem, simprocAttr, ltF h2]
      refine FMutT.of (p_sort (zs := outD s d s.rules.length) (by omega)) ?_
      rintro _ rfl
      simp only [go_sem, simprocAttr]
      refine FCallT.of (p_compact (zs := (outD s d s.rules.length).mergeSort fun x y => decide (x ≤ y)) (by rw [List.length_mergeSort]; omega)) ?_
      rintro _ rfl
      simp only [go_sem, simprocAttr, compact_sort]
      unfold directL; rw [if_pos hd]
  · have hd2 : ¬ (0 ≤ d ∧ d < s.defs.length) := fun k => hd (inD_iff.2 k)
    rw [bp_false hd2] at hv0
    refine FCall.walk u_deps_Direct k_deps_Direct rfl ?_
    unfold c_deps_Direct
    simp only [go_sem, simprocAttr, ScopeL.row]
    refine FCallT.of (hv0) ?_
    rintro _ rfl
    simp only [go_sem, simprocAttr, ScopeL.row]
    unfold directL; rw [if_neg hd]; rfl
end Go.Fx.Tryz
set_option linter.unusedVariables false
set_option linter.unusedSimpArgs false
namespace Go.Fx.Tryz
open Go Go.Fm Go.Proofs
end Go.Fx.Tryz
set_option linter.unusedVariables false
set_option linter.unusedSimpArgs false
namespace Go.Fx.Tryz
open Go Go.Fm Go.Proofs
theorem ints_cons (x : Int) (l : List Int) : ints (x :: l) = [.int .i64 x] :: ints l := rfl
def trueL (l : List Bool) (i : Nat) : List Int := ((List.range i).map (fun k : Nat => (k : Int))).filter (fun x => (l[x.toNat]?).getD false)
theorem trueL_succ {l : List Bool} {i : Nat} (h : i < l.length) : trueL l (i + 1) = trueL l i ++ (if l[i] then [(i : Int)] else []) := by
  unfold trueL
  rw [List.range_succ, List.map_append, List.filter_append]
  cases e : l[i] <;> simp [h, e]
theorem trueL_length (l : List Bool) (i : Nat) : (trueL l i).length ≤ i := by
  unfold trueL
  exact Nat.le_trans (List.length_filter_le _ _) (by simp)
theorem Transitive_call {s : ScopeL} {d : Int} (hs : s.mid) (hd : 0 ≤ d ∧ d < s.defs.length) (hn : s.defs.length ≤ 1000000) : FCall Tryz.prog n_deps_Transitive [.agg s.row, .int .i64 d] (· = .arr (ints (transD s d))) := by
  have hv0 := deps_valid_call (s := s) (d := d)
  rw [bp_true hd] at hv0
  refine FCall.walk u_deps_Transitive k_deps_Transitive rfl ?_
  unfold c_deps_Transitive
  simp only [go_sem, simprocAttr, ScopeL.row]
  refine FCallT.of (hv0) ?_
  rintro _ rfl
  simp only [go_sem, simprocAttr, ScopeL.row]
  have hrep : List.replicate s.defs.length ([.bool false] : List FV) = boolsV (List.replicate s.defs.length false) := by simp [boolsV]
  rw [Int.toNat_natCast, hrep]
  refine ⟨by omega, ?_⟩
  refine FCallT.of (Direct_call hs (d := d)) ?_
  rintro _ rfl
  simp only [go_sem, simprocAttr]
  refine FWT.upd [] (fun x : List Bool × List Int × Bool => [(5, .arr (boolsV x.1)), (6, if x.2.2 then .buf 1 else .arr (ints x.2.1))]) (fun x => bfsM s.defs.length x.1 x.2.1)
    (fun x => x.1.length = s.defs.length ∧ (x.2.2 = true → x.2.1 = []) ∧ bfsM s.defs.length x.1 x.2.1 ≤ 1000000 * 1000001 + 1000000 ∧ Bfs (directL s) s.defs.length d (seenP x.1) x.2.1) (List.replicate s.defs.length false, directL s d, false) rfl ⟨by simp, by simp, ?_, ?_⟩ ?_
  · have := directL_length s d
    unfold bfsM
    have h1 : (s.defs.length - cntP (seenP (List.replicate s.defs.length false)) s.defs.length) * (s.defs.length + 1) ≤ 1000000 * 1000001 := Nat.mul_le_mul (by omega) (by omega)
    simp only; omega
  · have e1 : seenP (List.replicate s.defs.length false) = fun _ => False := funext fun x => propext ⟨fun h => seenP_none h, fun h => h.elim⟩
    simp only [e1]; exact Bfs.start
  rintro ⟨seen, todo, b⟩ ⟨g1, g2, g3, g4⟩
  simp only at g1 g2 g3 g4
  have hlen : todo.length ≤ 1000000 * 1000001 + 1000000 := by unfold bfsM at g3; omega
  cases todo with
  | nil =>
    have hb : (if b = true then FV.buf 1 else FV.arr (ints [])) = .buf 1 ∨ (if b = true then FV.buf 1 else FV.arr (ints [])) = .arr [] := by cases b; exact .inr rfl; exact .inl rfl
    simp only
    rcases hb with hb | hb
    all_goals
      rw [hb]
      simp only [go_sem, simprocAttr]
      refine FWT.count [] seen.length (fun i => [(7, .arr (ints (trueL seen i))), (47, .int .i64 i)]) (fun _ => True) rfl trivial ?_
      intro i hi _
      by_cases h2 : i < seen.length
      · have hy := boolsV_get h2
        have ho := trueL_length seen i
        have hsc := trueL_succ h2
        cases e : seen[i] with
        | true =>
          rw [e] at hy hsc
          simp only [if_true] at hsc
          simp only [go_sem, simprocAttr, ltT h2, Int.toNat_natCast, hy]
          exact ⟨by omega, by rw [w64s (by omega), hsc, ints_snoc], h2⟩
        | false =>
          rw [e] at hy hsc
          simp only [Bool.false_eq_true, if_false, List.append_nil] at hsc
          simp only [go_sem, simprocAttr, ltT h2, Int.toNat_natCast, hy]
          exact ⟨by rw [w64s (by omega), hsc], h2⟩
      · have ei : i = seen.length := by omega
        subst ei
        have hfin : trueL seen seen.length = transD s d := by
          have := trueIdx (l := seen) (p := Go.Fm.Reach (directL s) d) (fun x _ _ => g4.done x) seen.length (Nat.le_refl _)
          unfold transD transL numsL
          rw [← g1]; exact this
        rw [hfin]
        simp only [go_sem, simprocAttr, ltF h2]
  | cons x rest =>
    have hbf : b = false := by cases b; rfl; exact absurd (g2 rfl) (by simp)
    subst hbf
    have hx := reach_lt (D := directL s) (n := s.defs.length) (fun a y h => directL_lt h) (g4.r2 x (by simp))
    have hxl : x.toNat < seen.length := by omega
    have hy := boolsV_get hxl
    simp only [Bool.false_eq_true, if_false]
    have hpos : ((0 : Int) < ((rest.length + 1 : Nat) : Int)) = True := eq_true (by omega)
    cases e : seen[x.toNat] with
    | true =>
      rw [e] at hy
      simp only [go_sem, simprocAttr, ints_cons, hy, hx.1, hpos]
      refine ⟨⟨by omega, by omega, all_len_ints _⟩, (seen, rest, decide (rest = [])), ?_, ⟨g1, fun h => of_decide_eq_true h, ?_, ?_⟩, bfsM_old⟩
      · have e1 : (((rest.length + 1 : Nat) : Int)).toNat - 1 = rest.length := by omega
        rw [e1, ints_take, List.take_length]
        cases rest <;> simp
      · have := bfsM_old (n := s.defs.length) (l := seen) (x := x) (todo := rest); simp only; omega
      · exact g4.old ⟨hx.1, by rw [List.getElem?_eq_getElem hxl, e]⟩
    | false =>
      rw [e] at hy
      simp only [go_sem, simprocAttr, ints_cons, hy, hx.1, hpos]
      refine detCall_of _ (Direct_call hs (d := x)) ?_
      simp only [go_sem, simprocAttr]
      have hDl := directL_length s x
      have hne : ¬ seenP seen x := by
        rintro ⟨_, h⟩
        rw [List.getElem?_eq_getElem hxl, e] at h; simp at h
      have hbn := bfsM_new (todo := rest) g1 hx hne hDl
      have hnew : Bfs (directL s) s.defs.length d (seenP (seen.set x.toNat true)) (rest ++ directL s x) := by
        have := g4.new
        rwa [← show seenP (seen.set x.toNat true) = fun y => y = x ∨ seenP seen y from funext fun y => propext (seenP_set hx.1 hxl)] at this
      have eapp : ints rest ++ ints (directL s x) = ints (rest ++ directL s x) := by simp [ints]
      rw [eapp, ints_length]
      simp only [List.length_cons] at hlen
      refine ⟨by omega, ⟨by omega, by omega, all_len_ints _⟩, (seen.set x.toNat true, rest ++ directL s x, decide (rest ++ directL s x = [])), ?_, ⟨by simp [g1], fun h => of_decide_eq_true h, ?_, hnew⟩, hbn⟩
      · have e1 : ((((rest ++ directL s x).length + 1 : Nat) : Int)).toNat - 1 = (rest ++ directL s x).length := by omega
        rw [e1, ints_take, List.take_length, boolsV_set]
        generalize rest ++ directL s x = l
        cases l <;> simp
      · simp only; omega
end Go.Fx.Tryz
set_option linter.unusedVariables false
set_option linter.unusedSimpArgs false
namespace Go.Fx.Tryz
open Go Go.Fm Go.Proofs
structure InR (n : Nat) (l : List Int) : Prop where
  so : SSort l
  lt : ∀ x ∈ l, 0 ≤ x ∧ x < n
end Go.Fx.Tryz
set_option linter.unusedVariables false
set_option linter.unusedSimpArgs false
namespace Go.Fm
open Go
def firstO {α : Type} (f : Nat → Option α) : Nat → Option α
  | 0 => none
  | n + 1 => match firstO f n with
    | some a => some a
    | none => f n
theorem firstO_none {α : Type} {f : Nat → Option α} : ∀ {n : Nat}, (∀ j, j < n → f j = none) → firstO f n = none
  | 0, _ => rfl
  | n + 1, h => by
    unfold firstO
    rw [firstO_none fun j hj => h j (by omega)]; exact h n (by omega)
theorem firstO_at {α : Type} {f : Nat → Option α} {i : Nat} {a : α} (h : ∀ j, j < i → f j = none) (ha : f i = some a) : ∀ {n : Nat}, i < n → firstO f n = some a
  | 0, hn => by omega
  | n + 1, hn => by
    unfold firstO
    by_cases e : i = n
    · subst e; rw [firstO_none h]; exact ha
    · rw [firstO_at h ha (n := n) (by omega)]
theorem none_succ {α : Type} {f : Nat → Option α} {i : Nat} (h : ∀ j, j < i → f j = none) (h2 : f i = none) : ∀ j, j < i + 1 → f j = none := fun j hj => by
  by_cases e : j = i
  · subst e; exact h2
  · exact h j (by omega)
def validD (f t : Int) : Prop := 0 ≤ f ∧ f ≤ t ∧ t ≤ 109573
instance (f t : Int) : Decidable (validD f t) := by unfold validD; infer_instance
def inT (x : Int) (t : TyL) (en : List EnumL) : Prop := loT t en ≤ x ∧ x ≤ hiT t en
instance (x : Int) (t : TyL) (en : List EnumL) : Decidable (inT x t en) := by unfold inT; infer_instance
def rowBad (r : RowL) (k v : TyL) (en : List EnumL) : Prop := ¬ validD r.f r.t ∨ r.f = r.t ∨ r.hi ≤ r.lo ∨ ¬ inT r.lo k en ∨ ¬ inT (IntKind.i64.wrap (r.hi - 1)) k en ∨ ¬ inT r.n v en
instance (r : RowL) (k v : TyL) (en : List EnumL) : Decidable (rowBad r k v en) := by unfold rowBad; infer_instance
def meetP (a b : RowL) : Prop := validD a.f a.t ∧ validD b.f b.t ∧ max a.f b.f < min a.t b.t ∧ max a.lo b.lo < min a.hi b.hi
instance (a b : RowL) : Decidable (meetP a b) := by unfold meetP; infer_instance
def rowE (t : TableL) (en : List EnumL) (i : Nat) : Option (Int × Int) :=
  match t.rows[i]? with
  | none => none
  | some r => if rowBad r ⟨t.kk, t.ke⟩ ⟨t.vk, t.ve⟩ en then some (i, 3) else if ∃ p ∈ t.rows.take i, meetP p r then some (i, 11) else none
def tableE (t : TableL) (en : List EnumL) : Int × Int :=
  if 64 < t.rows.length then (64, 4) else if ¬ validT ⟨t.kk, t.ke⟩ en.length ∨ ¬ validT ⟨t.vk, t.ve⟩ en.length then (-1, 8) else (firstO (rowE t en) t.rows.length).getD (0, 0)
end Go.Fm
set_option linter.unusedVariables false
set_option linter.unusedSimpArgs false
namespace Go.Fx.Tryz
open Go Go.Fm Go.Proofs
theorem indexS_call {l : List (List UInt8)} {u : Bool} {s : List UInt8} (hl : l.length < 2 ^ 60) : FCall Tryz.prog n_slices_Index_string_string [.sl u (strs l), .str s] (· = .int .i64 (idxZ (fun x => decide (s = x)) l)) := by
  refine FCall.walk u_slices_Index_string_string k_slices_Index_string_string rfl ?_
  unfold c_slices_Index_string_string
  simp only [go_sem, simprocAttr]
  refine FWT.count [5] l.length (fun i => [(8, .int .i64 i)]) (fun i => ∀ x ∈ l.take i, ¬ s = x) rfl (by simp) ?_
  intro i hi hg
  by_cases h : i < l.length
  · have hx := strs_get h
    simp only [go_sem, simprocAttr, ltT h, Int.toNat_natCast, hx]
    refine ⟨fun e => ?_, fun e => ⟨by rw [w64s (by omega)], (all_take_succ h).2 ⟨hg, e⟩, h⟩⟩
    rw [idxZ_at h (fun f m => decide_eq_false (hg f m)) (decide_eq_true e)]
  simp only [go_sem, simprocAttr, ltF h]
  rw [List.take_of_length_le (by omega)] at hg
  rw [idxZ_none fun f m => decide_eq_false (hg f m)]
theorem idx_nonneg {α : Type} [DecidableEq α] {l : List α} {s : α} : (0 ≤ idxZ (fun x => decide (s = x)) l) ↔ s ∈ l := by
  rcases idxZ_cases (fun x => decide (s = x)) l with ⟨h1, h2⟩ | ⟨i, h, h1, h2, h3⟩
  · rw [h1]
    exact ⟨fun h => by omega, fun h => absurd (h2 s h) (by simp)⟩
  · rw [h1]
    have e : s = l[i] := of_decide_eq_true h2
    exact ⟨fun _ => by rw [e]; exact List.getElem_mem h, fun _ => by omega⟩
theorem containsS_call {l : List (List UInt8)} {u : Bool} {s : List UInt8} (hl : l.length < 2 ^ 60) : FCall Tryz.prog n_slices_Contains_string_string [.sl u (strs l), .str s] (· = .bool (bp (s ∈ l))) := by
  refine FCall.walk u_slices_Contains_string_string k_slices_Contains_string_string rfl ?_
  unfold c_slices_Contains_string_string
  simp only [go_sem, simprocAttr]
  refine FCallT.of (indexS_call (l := l) (s := s) hl) ?_
  rintro _ rfl
  simp only [go_sem, simprocAttr]
  rw [dec_bp]; exact congrArg FV.bool (bp_congr idx_nonneg)
theorem indexI_call {l : List Int} {u : Bool} {s : Int} (hl : l.length < 2 ^ 60) : FCall Tryz.prog n_slices_Index_int_int [.sl u (ints l), .int .i64 s] (· = .int .i64 (idxZ (fun x => decide (s = x)) l)) := by
  refine FCall.walk u_slices_Index_int_int k_slices_Index_int_int rfl ?_
  unfold c_slices_Index_int_int
  simp only [go_sem, simprocAttr]
  refine FWT.count [5] l.length (fun i => [(8, .int .i64 i)]) (fun i => ∀ x ∈ l.take i, ¬ s = x) rfl (by simp) ?_
  intro i hi hg
  by_cases h : i < l.length
  · have hx := ints_get h
    simp only [go_sem, simprocAttr, ltT h, Int.toNat_natCast, hx]
    refine ⟨fun e => ?_, fun e => ⟨by rw [w64s (by omega)], (all_take_succ h).2 ⟨hg, e⟩, h⟩⟩
    rw [idxZ_at h (fun f m => decide_eq_false (hg f m)) (decide_eq_true e)]
  simp only [go_sem, simprocAttr, ltF h]
  rw [List.take_of_length_le (by omega)] at hg
  rw [idxZ_none fun f m => decide_eq_false (hg f m)]
theorem containsI_call {l : List Int} {u : Bool} {s : Int} (hl : l.length < 2 ^ 60) : FCall Tryz.prog n_slices_Contains_int_int [.sl u (ints l), .int .i64 s] (· = .bool (bp (s ∈ l))) := by
  refine FCall.walk u_slices_Contains_int_int k_slices_Contains_int_int rfl ?_
  unfold c_slices_Contains_int_int
  simp only [go_sem, simprocAttr]
  refine FCallT.of (indexI_call (l := l) (s := s) hl) ?_
  rintro _ rfl
  simp only [go_sem, simprocAttr]
  rw [dec_bp]; exact congrArg FV.bool (bp_congr idx_nonneg)
theorem validDate_call {f t : Int} : FCall Tryz.prog n_daterange_Valid [.agg [.int .i64 f, .int .i64 t]] (· = .bool (bp (validD f t))) := by
  refine FCall.walk u_daterange_Valid k_daterange_Valid rfl ?_
  unfold c_daterange_Valid
  simp only [go_sem, simprocAttr]
  repeat' first
    | apply And.intro <;> intro h
  all_goals first | (exfalso; omega) | exact fbp_true (by simp only [validD]; omega) | exact fbp_false (by simp only [validD]; omega) | (rw [dec_bp]; exact congrArg FV.bool (bp_congr (by simp only [validD]; omega)))
theorem proper_call {f t : Int} : FCall Tryz.prog n_daterange_proper [.agg [.int .i64 f, .int .i64 t]] (· = .bool (bp (validD f t ∧ f < t))) := by
  refine FCall.walk u_daterange_proper k_daterange_proper rfl ?_
  unfold c_daterange_proper
  simp only [go_sem, simprocAttr]
  repeat' first
    | apply And.intro <;> intro h
    | ((refine FCallT.of (validDate_call (f := f) (t := t)) ?_; rintro _ rfl); simp only [go_sem, simprocAttr])
  all_goals simp only [bp_iff, bpF] at *
  all_goals first | (exfalso; omega) | exact fbp_true (by simp only [validD] at *; omega) | exact fbp_false (by simp only [validD] at *; omega) | (rw [dec_bp]; exact congrArg FV.bool (bp_congr (by simp only [validD] at *; omega)))
def cutD (f t f' t' : Int) : FV := if validD f t ∧ validD f' t' ∧ max f f' < min t t' then .tup [.agg [.int .i64 (max f f'), .int .i64 (min t t')], .bool true] else .tup [.agg [.int .i64 0, .int .i64 0], .bool false]
theorem intersect_call {f t f' t' : Int} : FCall Tryz.prog n_daterange_Intersect [.agg [.int .i64 f, .int .i64 t], .agg [.int .i64 f', .int .i64 t']] (· = cutD f t f' t') := by
  refine FCall.walk u_daterange_Intersect k_daterange_Intersect rfl ?_
  unfold c_daterange_Intersect
  simp only [go_sem, simprocAttr]
  repeat' first
    | apply And.intro <;> intro h
    | ((first
      | (refine FCallT.of (proper_call (f := f) (t := t)) ?_; rintro _ rfl)
      | (refine FCallT.of (proper_call (f := f') (t := t')) ?_; rintro _ rfl)); simp only [go_sem, simprocAttr])
  all_goals simp only [bp_iff, bpF, validD] at *
  all_goals unfold cutD
  all_goals first | (rw [if_neg (by simp only [validD]; omega)]; done) | (rw [if_pos (by simp only [validD]; omega)]; done)
theorem conflict_call {a b : RowL} : FCall Tryz.prog n_table_conflict [.agg a.row, .agg b.row] (· = .bool (bp (meetP a b))) := by
  by_cases h : validD a.f a.t ∧ validD b.f b.t ∧ max a.f b.f < min a.t b.t
  · have hc := intersect_call (f := a.f) (t := a.t) (f' := b.f) (t' := b.t)
    rw [cutD, if_pos h] at hc
    refine FCall.walk u_table_conflict k_table_conflict rfl ?_
    unfold c_table_conflict
    simp only [go_sem, simprocAttr, RowL.row]
    refine FCallT.of (hc) ?_
    rintro _ rfl
    simp only [go_sem, simprocAttr]
    rw [dec_bp]; exact congrArg FV.bool (bp_congr (by simp only [meetP, validD] at *; omega))
  · have hc := intersect_call (f := a.f) (t := a.t) (f' := b.f) (t' := b.t)
    rw [cutD, if_neg h] at hc
    refine FCall.walk u_table_conflict k_table_conflict rfl ?_
    unfold c_table_conflict
    simp only [go_sem, simprocAttr, RowL.row]
    refine FCallT.of (hc) ?_
    rintro _ rfl
    simp only [go_sem, simprocAttr]
    exact fbp_false fun k => h ⟨k.1, k.2.1, k.2.2.1⟩
theorem check_call {r : RowL} {t : TableL} {u : Bool} {en : List EnumL} (hm : ∀ e ∈ en, e.members.length < 2 ^ 60) : FCall Tryz.prog n_table_check [.agg r.row, .agg t.row, .sl u (enumsV en)] (· = .int .i64 (if rowBad r ⟨t.kk, t.ke⟩ ⟨t.vk, t.ve⟩ en then 3 else 0)) := by
  refine FCall.walk u_table_check k_table_check rfl ?_
  unfold c_table_check
  simp only [go_sem, simprocAttr, RowL.row, TableL.row]
  have hk := bounds_call (t := ⟨t.kk, t.ke⟩) (u := u) hm
  have hv := bounds_call (t := ⟨t.vk, t.ve⟩) (u := u) hm
  repeat' first
    | apply And.intro <;> intro h
    | ((first
      | (refine FCallT.of (hk) ?_; rintro _ rfl)
      | (refine FCallT.of (hv) ?_; rintro _ rfl)
      | (refine FCallT.of (validDate_call (f := r.f) (t := r.t)) ?_; rintro _ rfl)); simp only [go_sem, simprocAttr])
  all_goals simp only [bp_iff, bpF, validD] at *
  all_goals first | (rw [if_neg (by simp only [rowBad, inT, validD]; omega)]; done) | (rw [if_pos (by simp only [rowBad, inT, validD]; omega)]; done) | trace_state
end Go.Fx.Tryz
set_option linter.unusedVariables false
set_option linter.unusedSimpArgs false
namespace Go.Fx.Tryz
open Go Go.Fm Go.Proofs
theorem tableE_long {t : TableL} {en : List EnumL} (h : 64 < t.rows.length) : tableE t en = (64, 4) := by unfold tableE; rw [if_pos h]
theorem tableE_ty {t : TableL} {en : List EnumL} (h : ¬ 64 < t.rows.length) (h2 : ¬ validT ⟨t.kk, t.ke⟩ en.length ∨ ¬ validT ⟨t.vk, t.ve⟩ en.length) : tableE t en = (-1, 8) := by unfold tableE; rw [if_neg h, if_pos h2]
theorem tableE_rows {t : TableL} {en : List EnumL} (h : ¬ 64 < t.rows.length) (h2 : validT ⟨t.kk, t.ke⟩ en.length) (h3 : validT ⟨t.vk, t.ve⟩ en.length) : tableE t en = (firstO (rowE t en) t.rows.length).getD (0, 0) := by unfold tableE; rw [if_neg h, if_neg (by simp [h2, h3])]
theorem rowE_at {t : TableL} {en : List EnumL} {i : Nat} (h : i < t.rows.length) : rowE t en i = if rowBad t.rows[i] ⟨t.kk, t.ke⟩ ⟨t.vk, t.ve⟩ en then some ((i : Int), 3) else if ∃ p ∈ t.rows.take i, meetP p t.rows[i] then some ((i : Int), 11) else none := by
  unfold rowE; rw [List.getElem?_eq_getElem h]
theorem rowsV_take (l : List RowL) (i : Nat) : (rowsV l).take i = rowsV (l.take i) := by simp [rowsV, List.map_take]
theorem all_len_map {α : Type} {f : α → List FV} {n : Nat} (h : ∀ x, ((f x).length == n) = true) (l : List α) : ((l.map f).all fun r => r.length == n) = true := by
  simp only [List.all_map, List.all_eq_true]; exact fun x _ => h x
theorem tableV_call {t : TableL} {u : Bool} {en : List EnumL} (hm : ∀ e ∈ en, e.members.length < 2 ^ 60) : FCall Tryz.prog n_table_Validate [.agg t.row, .sl u (enumsV en)] (· = .tup [.int .i64 (tableE t en).1, .int .i64 (tableE t en).2]) := by
  refine FCall.walk u_table_Validate k_table_Validate rfl ?_
  unfold c_table_Validate
  simp only [go_sem, simprocAttr, TableL.row]
  have hk := validT_call (t := ⟨t.kk, t.ke⟩) (u := u) (en := en)
  have hv := validT_call (t := ⟨t.vk, t.ve⟩) (u := u) (en := en)
  repeat' first
    | apply And.intro <;> intro h
    | ((first
      | (refine FCallT.of (hk) ?_; rintro _ rfl)
      | (refine FCallT.of (hv) ?_; rintro _ rfl)); simp only [go_sem, simprocAttr])
  all_goals try simp only [bp_iff, bpF] at *
  · rw [tableE_long (by omega)]
  · rw [tableE_ty (by omega) (.inl (by assumption))]
  · rw [tableE_ty (by omega) (.inr (by assumption))]
  rw [tableE_rows (by omega) (by assumption) (by assumption)]
  have hlen : t.rows.length ≤ 64 := by omega
  refine FWT.count [] t.rows.length (fun i => [(30, .int .i64 i)]) (fun i => ∀ j, j < i → rowE t en j = none) rfl (by simp) ?_
  intro i hi hg
  by_cases h2 : i < t.rows.length
  · have hx := rowsV_get h2
    have he := rowE_at (en := en) h2
    have hc := check_call (r := t.rows[i]) (t := t) (u := u) hm
    simp only [go_sem, simprocAttr, ltT h2, Int.toNat_natCast, hx, RowL.row]
    by_cases hb : rowBad t.rows[i] ⟨t.kk, t.ke⟩ ⟨t.vk, t.ve⟩ en
    · rw [if_pos hb] at hc he
      refine FCallT.of (hc) ?_
      rintro _ rfl
      simp only [go_sem, simprocAttr, TableL.row, RowL.row]
      rw [firstO_at hg he h2]; rfl
    · rw [if_neg hb] at hc he
      refine FCallT.of (hc) ?_
      rintro _ rfl
      simp only [go_sem, simprocAttr, TableL.row, RowL.row]
      refine ⟨all_len_map (fun _ => rfl) _, by omega, ?_⟩
      have e0 : ((i : Int)).toNat - 0 = i := by omega
      rw [e0, rowsV_take, rowsV_length, List.length_take, Nat.min_eq_left (by omega)]
      refine FWT.count [] i (fun j => [(48, .int .i64 j)]) (fun j => ∀ p ∈ t.rows.take j, ¬ meetP p t.rows[i]) rfl (by simp) ?_
      intro j hj hn
      by_cases j2 : j < i
      · have hy : (rowsV (t.rows.take i))[j]? = some t.rows[j].row := by rw [rowsV_get (by simp; omega), List.getElem_take]
        have hf := conflict_call (a := t.rows[j]) (b := t.rows[i])
        simp only [go_sem, simprocAttr, ltT j2, Int.toNat_natCast, hy, RowL.row]
        refine FCallT.of (hf) ?_
        rintro _ rfl
        simp only [go_sem, simprocAttr, RowL.row]
        refine ⟨fun hq => ?_, fun hq => ⟨by rw [w64s (by omega)], (all_take_succ (by omega)).2 ⟨hn, bpF.1 hq⟩, j2⟩⟩
        have hq' := bp_iff.1 hq
        rw [if_pos ⟨t.rows[j], List.mem_take_iff_getElem.2 ⟨j, by omega, rfl⟩, hq'⟩] at he
        rw [firstO_at hg he h2]; rfl
      · have ej : j = i := by omega
        subst ej
        rw [if_neg (fun ⟨p, m, q⟩ => hn p m q)] at he
        simp only [go_sem, simprocAttr, ltF j2]
        exact ⟨by rw [w64s (by omega)], none_succ hg he, h2⟩
  · rw [firstO_none fun j hj => hg j (by omega)]
    simp only [go_sem, simprocAttr, ltF h2]
    first | rfl | trace_state
end Go.Fx.Tryz
set_option linter.unusedVariables false
set_option linter.unusedSimpArgs false
namespace Go.Fm
open Go
abbrev ErrL := Int × Int × Int × Int
def errQ (o : Option ErrL) : ErrL := o.getD (0, 0, 0, 0)
@[simp] theorem errQ_none : errQ none = (0, 0, 0, 0) := rfl
@[simp] theorem errQ_some (e : ErrL) : errQ (some e) = e := rfl
abbrev errF (o : Option ErrL) : FV := FV.agg [FV.int IntKind.i64 (errQ o).1, FV.int IntKind.i64 (errQ o).2.1, FV.int IntKind.i64 (errQ o).2.2.1, FV.int IntKind.i64 (errQ o).2.2.2]
@[go_sem] theorem errF_eq (o : Option ErrL) : errF o = FV.agg [FV.int IntKind.i64 (errQ o).1, FV.int IntKind.i64 (errQ o).2.1, FV.int IntKind.i64 (errQ o).2.2.1, FV.int IntKind.i64 (errQ o).2.2.2] := rfl
theorem err_eq {o : Option ErrL} {a b c d : Int} (h : o = some (a, b, c, d)) : FV.agg [.int .i64 a, .int .i64 b, .int .i64 c, .int .i64 d] = errF (o) := by subst h; rfl
theorem err_no {o : Option ErrL} (h : o = none) : FV.agg [.int .i64 0, .int .i64 0, .int .i64 0, .int .i64 0] = errF (o) := by subst h; rfl
theorem err_congr {o p : Option ErrL} (h : o = p) : errF (o) = errF (p) := by rw [h]
theorem errQ_ne {o : Option ErrL} (h : ¬ (errQ o).1 = 0) : ∃ e, o = some e := by
  cases o with
  | none => exact absurd rfl h
  | some e => exact ⟨e, rfl⟩
def okE (o : Option ErrL) : Prop := ∀ e, o = some e → e.1 ≠ 0
theorem errQ_zero {o : Option ErrL} (hk : okE o) (h : (errQ o).1 = 0) : o = none := by
  cases o with
  | none => rfl
  | some e => exact absurd h (hk e rfl)
theorem or_ne {a b : Option ErrL} (h : ¬ (errQ a).1 = 0) : a.or b = a := by
  obtain ⟨e, rfl⟩ := errQ_ne h; rfl
theorem okE_none : okE none := fun _ h => by cases h
theorem okE_some {e : ErrL} (h : e.1 ≠ 0) : okE (some e) := fun _ k => by cases k; exact h
theorem okE_or {a b : Option ErrL} (ha : okE a) (hb : okE b) : okE (a.or b) := by
  cases a with
  | none => simpa using hb
  | some x => simpa using ha
theorem okE_first {f : Nat → Option ErrL} (h : ∀ i, okE (f i)) : ∀ n, okE (firstO f n)
  | 0 => okE_none
  | n + 1 => by
    have ih := okE_first h n
    unfold firstO
    cases e : firstO f n with
    | none => exact h n
    | some a => rw [e] at ih; exact ih
section
variable (idB : List UInt8 → Bool)
def nameE (s : List UInt8) (names : List (List UInt8)) (w i : Int) : Option ErrL := if idB s = false then some (2, w, i, 0) else if s ∈ names then some (7, w, i, 0) else none
def memberE (e : EnumL) (i : Int) (j : Nat) : Option ErrL :=
  match e.members[j]? with
  | none => none
  | some s => if idB s = false then some (2, 1, i, IntKind.i64.wrap (100 + j)) else if s ∈ e.members.take j then some (7, 1, i, IntKind.i64.wrap (100 + j)) else none
def enumE (e : EnumL) (i : Int) : Option ErrL := if e.members.length = 0 then some (5, 1, i, 0) else if 16 < e.members.length then some (4, 1, i, 116) else firstO (memberE idB e i) e.members.length
def rowsE (t : TableL) (en : List EnumL) (i : Int) : Option ErrL :=
  if (tableE t en).2 = 0 then none else if (tableE t en).1 < 0 then some ((tableE t en).2, 2, i, 0) else some ((tableE t en).2, 2, i, IntKind.i64.wrap (100 + (tableE t en).1))
def fieldE (l : List FieldL) (extra : List (List UInt8)) (ne : Nat) (i base : Int) (j : Nat) : Option ErrL :=
  match l[j]? with
  | none => none
  | some f => if idB f.name = false then some (2, 3, i, IntKind.i64.wrap (base + j)) else if f.name ∈ extra ∨ f.name ∈ (l.take j).map FieldL.name then some (7, 3, i, IntKind.i64.wrap (base + j)) else if ¬ validT f.ty ne then some (8, 3, i, IntKind.i64.wrap (base + j)) else none
def fieldsE (l : List FieldL) (extra : List (List UInt8)) (ne : Nat) (i base : Int) : Option ErrL := firstO (fieldE idB l extra ne i base) l.length
def sourceP (s : List UInt8) : Prop := (∀ b ∈ s, 32 ≤ b.toNat ∧ b.toNat ≤ 126 ∧ b.toNat ≠ 34) ∧ s.length ≤ 64
def exprE (e : List NodeL) (s : SigL) (t : TyL) : Int := if (typeL e s).2.2 = 0 ∧ (typeL e s).1 ≠ t then 8 else (typeL e s).2.2
def fieldAt (l : List FieldL) (d : Int) : FieldL := (l[d.toNat]?).getD ⟨[], 0, 0⟩
def namedE (x : ScopeL) (j : Nat) (r : RuleL) : Int :=
  if idB r.name = false then 2 else if ∃ q ∈ x.rules.take j, q.name = r.name then 7 else if r.d < 0 ∨ (x.defs.length : Int) ≤ r.d then 6 else
  if r.p < -1 ∨ (j : Int) ≤ r.p ∨ (0 ≤ r.p ∧ ((x.rules[r.p.toNat]?).map RuleL.d).getD 0 ≠ r.d) then 9 else 0
open Classical in
noncomputable def ruleE (x : ScopeL) (j : Nat) (s : SigL) : Int :=
  match x.rules[j]? with
  | none => 0
  | some r => if namedE idB x j r ≠ 0 then namedE idB x j r else if r.pr < 0 ∨ 9 < r.pr ∨ r.f < 0 ∨ r.t ≤ r.f ∨ 109573 < r.t then 3 else
    if 8 ≤ ((x.rules.take j).filter (fun q => decide (q.d = r.d))).length then 4 else if ¬ sourceP r.src then 2 else
    if 0 < r.guard.length ∧ exprE r.guard s ⟨1, 0⟩ ≠ 0 then exprE r.guard s ⟨1, 0⟩ else exprE r.value s (fieldAt x.defs r.d).ty
noncomputable def ruleO (x : ScopeL) (s : SigL) (i : Int) (j : Nat) : Option ErrL := if ruleE idB x j s = 0 then none else some (ruleE idB x j s, 3, i, IntKind.i64.wrap (300 + j))
open Classical in
noncomputable def cycleO (x : ScopeL) (i : Int) (d : Nat) : Option ErrL := if (d : Int) ∈ transD x d then some (9, 3, i, IntKind.i64.wrap (200 + d)) else none
def memBad (l : LawL) (x : ScopeL) (i : Nat) : Prop := x.ms ≠ -1 ∧ (x.ms < 0 ∨ (i : Int) ≤ x.ms ∨ ((l.scopes[x.ms.toNat]?).map ScopeL.ms).getD 0 ≠ -1)
open Classical in
noncomputable def scopeE (l : LawL) (i : Nat) (x : ScopeL) (s : SigL) : Option ErrL :=
  if memBad l x i then some (6, 3, i, 0) else if 12 < x.inputs.length then some (4, 3, i, 112) else if 12 < x.defs.length then some (4, 3, i, 212) else
  (fieldsE idB x.inputs [] l.enums.length i 100).or ((fieldsE idB x.defs (x.inputs.map FieldL.name) l.enums.length i 200).or ((firstO (ruleO idB x s i) x.rules.length).or (firstO (cycleO x i) x.defs.length)))
def enumO (l : LawL) (i : Nat) : Option ErrL :=
  match l.enums[i]? with
  | none => none
  | some e => (nameE idB e.name ((l.enums.take i).map EnumL.name) 1 i).or (enumE idB e i)
def tableO (l : LawL) (i : Nat) : Option ErrL :=
  match l.tables[i]? with
  | none => none
  | some t => (nameE idB t.name (l.enums.map EnumL.name ++ (l.tables.take i).map TableL.name) 2 i).or (rowsE t l.enums i)
variable {idB}
theorem nameE_id {s : List UInt8} {n : List (List UInt8)} {w i : Int} (h : idB s = false) : nameE idB s n w i = some (2, w, i, 0) := by unfold nameE; rw [if_pos h]
theorem nameE_in {s : List UInt8} {n : List (List UInt8)} {w i : Int} (h : idB s = true) (h2 : s ∈ n) : nameE idB s n w i = some (7, w, i, 0) := by unfold nameE; rw [if_neg (by simp [h]), if_pos h2]
theorem nameE_no {s : List UInt8} {n : List (List UInt8)} {w i : Int} (h : idB s = true) (h2 : ¬ s ∈ n) : nameE idB s n w i = none := by unfold nameE; rw [if_neg (by simp [h]), if_neg h2]
theorem memberE_id {e : EnumL} {i : Int} {j : Nat} (h : j < e.members.length) (h1 : idB e.members[j] = false) : memberE idB e i j = some (2, 1, i, IntKind.i64.wrap (100 + j)) := by unfold memberE; rw [List.getElem?_eq_getElem h]; simp only [h1, if_true]
theorem memberE_in {e : EnumL} {i : Int} {j : Nat} (h : j < e.members.length) (h1 : idB e.members[j] = true) (h2 : e.members[j] ∈ e.members.take j) : memberE idB e i j = some (7, 1, i, IntKind.i64.wrap (100 + j)) := by unfold memberE; rw [List.getElem?_eq_getElem h]; simp [h1, h2]
theorem memberE_no {e : EnumL} {i : Int} {j : Nat} (h : j < e.members.length) (h1 : idB e.members[j] = true) (h2 : ¬ e.members[j] ∈ e.members.take j) : memberE idB e i j = none := by unfold memberE; rw [List.getElem?_eq_getElem h]; simp [h1, h2]
theorem nameE_ok {s : List UInt8} {n : List (List UInt8)} {w i : Int} : okE (nameE idB s n w i) := by
  unfold nameE; split
  · exact okE_some (by simp)
  · split
    · exact okE_some (by simp)
    · exact okE_none
theorem memberE_ok {e : EnumL} {i : Int} {j : Nat} : okE (memberE idB e i j) := by
  unfold memberE; split
  · exact okE_none
  · split
    · exact okE_some (by simp)
    · split
      · exact okE_some (by simp)
      · exact okE_none
theorem enumE_ok {e : EnumL} {i : Int} : okE (enumE idB e i) := by
  unfold enumE; split
  · exact okE_some (by simp)
  · split
    · exact okE_some (by simp)
    · exact okE_first (fun _ => memberE_ok) _
theorem rowsE_ok {t : TableL} {en : List EnumL} {i : Int} : okE (rowsE t en i) := by
  unfold rowsE; split
  · exact okE_none
  · split
    · exact okE_some (by assumption)
    · exact okE_some (by assumption)
theorem fieldE_ok {l : List FieldL} {x : List (List UInt8)} {ne : Nat} {i b : Int} {j : Nat} : okE (fieldE idB l x ne i b j) := by
  unfold fieldE; split
  · exact okE_none
  · split
    · exact okE_some (by simp)
    · split
      · exact okE_some (by simp)
      · split
        · exact okE_some (by simp)
        · exact okE_none
theorem fieldsE_ok {l : List FieldL} {x : List (List UInt8)} {ne : Nat} {i b : Int} : okE (fieldsE idB l x ne i b) := okE_first (fun _ => fieldE_ok) _
theorem ruleO_ok {x : ScopeL} {s : SigL} {i : Int} {j : Nat} : okE (ruleO idB x s i j) := by
  unfold ruleO; split
  · exact okE_none
  · exact okE_some (by assumption)
theorem cycleO_ok {x : ScopeL} {i : Int} {j : Nat} : okE (cycleO x i j) := by
  unfold cycleO; split
  · exact okE_some (by simp)
  · exact okE_none
theorem scopeE_ok {l : LawL} {i : Nat} {x : ScopeL} {s : SigL} : okE (scopeE idB l i x s) := by
  unfold scopeE; split
  · exact okE_some (by simp)
  · split
    · exact okE_some (by simp)
    · split
      · exact okE_some (by simp)
      · exact okE_or fieldsE_ok (okE_or fieldsE_ok (okE_or (okE_first (fun _ => ruleO_ok) _) (okE_first (fun _ => cycleO_ok) _)))
theorem enumO_ok {l : LawL} {i : Nat} : okE (enumO idB l i) := by
  unfold enumO; split
  · exact okE_none
  · exact okE_or nameE_ok enumE_ok
theorem tableO_ok {l : LawL} {i : Nat} : okE (tableO idB l i) := by
  unfold tableO; split
  · exact okE_none
  · exact okE_or nameE_ok rowsE_ok
end
structure LawL.sane (l : LawL) : Prop where
  e1 : l.enums.length < 2 ^ 40
  e2 : ∀ e ∈ l.enums, e.name.length < 2 ^ 60 ∧ e.members.length < 2 ^ 40 ∧ ∀ m ∈ e.members, m.length < 2 ^ 60
  t1 : l.tables.length < 2 ^ 40
  t2 : ∀ t ∈ l.tables, t.name.length < 2 ^ 60 ∧ t.rows.length < 2 ^ 40
  s1 : l.scopes.length < 2 ^ 40
  s2 : ∀ x ∈ l.scopes, x.name.length < 2 ^ 60 ∧ x.inputs.length < 2 ^ 30 ∧ x.mid ∧ (∀ f ∈ x.inputs, f.name.length < 2 ^ 60) ∧ (∀ f ∈ x.defs, f.name.length < 2 ^ 60) ∧ ∀ r ∈ x.rules, r.name.length < 2 ^ 60 ∧ r.src.length < 2 ^ 60 ∧ (∀ n ∈ r.guard, I64 n.n) ∧ ∀ n ∈ r.value, I64 n.n
theorem LawL.sane.mid {l : LawL} (h : l.sane) : l.mid := ⟨h.e1, fun x m => (h.e2 x m).2.1, h.t1, fun x m => (h.t2 x m).2, h.s1, fun x m => by
  have h1 := (h.s2 x m).2.1; have h2 := (h.s2 x m).2.2.1.1; omega⟩
theorem LawL.sane.hm {l : LawL} (h : l.sane) : ∀ e ∈ l.enums, e.members.length < 2 ^ 60 := fun x m => by have := (h.e2 x m).2.1; omega
end Go.Fm
set_option linter.unusedVariables false
set_option linter.unusedSimpArgs false
namespace Go.Fx.Tryz
open Go Go.Fm Go.Proofs
theorem strs_take (l : List (List UInt8)) (i : Nat) : (strs l).take i = strs (l.take i) := by simp [strs, List.map_take]
theorem bad_call {a b c d : Int} : FCall Tryz.prog n_law_bad [.int .i64 a, .int .i64 b, .int .i64 c, .int .i64 d] (· = .agg [.int .i64 a, .int .i64 b, .int .i64 c, .int .i64 d]) := by
  refine FCall.walk u_law_bad k_law_bad rfl ?_
  unfold c_law_bad
  simp only [go_sem, simprocAttr]
theorem name_call {s : List UInt8} {names : List (List UInt8)} {u : Bool} {w i : Int} (hl : names.length < 2 ^ 60) : FCall Tryz.prog n_law_name [.str s, .sl u (strs names), .int .i64 w, .int .i64 i] (· = errF (nameE isIdB s names w i)) := by
  refine FCall.walk u_law_name k_law_name rfl ?_
  unfold c_law_name
  simp only [go_sem, simprocAttr]
  repeat' first
    | apply And.intro <;> intro h
    | ((first
      | (refine FCallT.of (isId_call (s := s)) ?_; rintro _ rfl)
      | (refine FCallT.of (containsS_call (l := names) (s := s) hl) ?_; rintro _ rfl)
      | (refine FCallT.of (bad_call) ?_; rintro _ rfl)); simp only [go_sem, simprocAttr])
  · exact err_eq (nameE_id (by assumption))
  · exact err_eq (nameE_in (by assumption) (bp_iff.1 (by assumption)))
  · exact err_no (nameE_no (by assumption) (bpF.1 (by assumption)))
theorem enum_call {e : EnumL} {i : Int} (hm : e.members.length < 2 ^ 60) : FCall Tryz.prog n_law_enum [.agg e.row, .int .i64 i] (· = errF (enumE isIdB e i)) := by
  refine FCall.walk u_law_enum k_law_enum rfl ?_
  unfold c_law_enum
  simp only [go_sem, simprocAttr, EnumL.row]
  repeat' first
    | apply And.intro <;> intro h
    | ((refine FCallT.of (bad_call) ?_; rintro _ rfl); simp only [go_sem, simprocAttr])
  · exact err_eq (by unfold enumE; rw [if_pos (by omega)])
  · exact err_eq (by unfold enumE; rw [if_neg (by omega), if_pos (by omega)])
  have hE : enumE isIdB e i = firstO (memberE isIdB e i) e.members.length := by unfold enumE; rw [if_neg (by omega), if_neg (by omega)]
  rw [hE]
  refine FWT.count [] e.members.length (fun j => [(22, .int .i64 j)]) (fun k => ∀ j, j < k → memberE isIdB e i j = none) rfl (by simp) ?_
  intro j hj hg
  by_cases h2 : j < e.members.length
  · have hx := strs_get h2
    have htl : (e.members.take j).length < 2 ^ 60 := by simp; omega
    have hc := fun u => containsS_call (l := e.members.take j) (u := u) (s := e.members[j]) htl
    simp only [go_sem, simprocAttr, ltT h2, Int.toNat_natCast, hx]
    repeat' first
      | apply And.intro <;> intro h
      | ((first
        | (refine FCallT.of (isId_call (s := e.members[j])) ?_; rintro _ rfl)
        | (refine FCallT.of (bad_call) ?_; rintro _ rfl)); simp only [go_sem, simprocAttr])
    · rw [firstO_at hg (memberE_id h2 (by assumption)) h2]; rfl
    refine ⟨all_len_map (fun _ => rfl) _, by omega, ?_⟩
    have e0 : ((j : Int)).toNat - 0 = j := by omega
    rw [e0, strs_take]
    repeat' first
      | apply And.intro <;> intro h
      | ((first
        | (refine FCallT.of (hc _) ?_; rintro _ rfl)
        | (refine FCallT.of (bad_call) ?_; rintro _ rfl)); simp only [go_sem, simprocAttr])
    · rw [firstO_at hg (memberE_in h2 (by assumption) (bp_iff.1 (by assumption))) h2]; rfl
    · exact ⟨by rw [w64s (by omega)], none_succ hg (memberE_no h2 (by assumption) (bpF.1 (by assumption))), h2⟩
  · rw [firstO_none fun k hk => hg k (by omega)]
    simp only [go_sem, simprocAttr, ltF h2]
    first | rfl | trace_state
theorem rows_call {t : TableL} {u : Bool} {en : List EnumL} {i : Int} (hm : ∀ e ∈ en, e.members.length < 2 ^ 60) : FCall Tryz.prog n_law_rows [.agg t.row, .int .i64 i, .sl u (enumsV en)] (· = errF (rowsE t en i)) := by
  refine FCall.walk u_law_rows k_law_rows rfl ?_
  unfold c_law_rows
  simp only [go_sem, simprocAttr, TableL.row]
  repeat' first
    | apply And.intro <;> intro h
    | ((first
      | (refine FCallT.of (tableV_call (t := t) (u := u) hm) ?_; rintro _ rfl)
      | (refine FCallT.of (bad_call) ?_; rintro _ rfl)); simp only [go_sem, simprocAttr, TableL.row])
  · exact err_no (by unfold rowsE; rw [if_pos (by assumption)])
  · exact err_eq (by unfold rowsE; rw [if_neg (by assumption), if_pos (by assumption)])
  · exact err_eq (by unfold rowsE; rw [if_neg (by assumption), if_neg (by assumption)])
end Go.Fx.Tryz
set_option linter.unusedVariables false
set_option linter.unusedSimpArgs false
namespace Go.Fx.Tryz
open Go Go.Fm Go.Proofs
theorem source_call {s : List UInt8} (h : s.length < 2 ^ 60) : FCall Tryz.prog n_law_source [.str s] (· = .bool (bp (sourceP s))) := by
  refine FCall.walk u_law_source k_law_source rfl ?_
  unfold c_law_source
  simp only [go_sem, simprocAttr]
  refine FWT.count [] s.length (fun j => [(6, .int .i64 j)]) (fun j => ∀ b ∈ s.take j, 32 ≤ b.toNat ∧ b.toNat ≤ 126 ∧ b.toNat ≠ 34) rfl (by simp) ?_
  intro j hj hg
  by_cases h2 : j < s.length
  · have hx : s[j]? = some s[j] := List.getElem?_eq_getElem h2
    simp only [go_sem, simprocAttr, ltT h2, Int.toNat_natCast, hx]
    repeat' first
      | apply And.intro <;> intro h
    all_goals first
      | exact fbp_false (fun k => by have := k.1 s[j] (List.getElem_mem h2); omega)
      | exact ⟨by rw [w64s (by omega)], (all_take_succ h2).2 ⟨hg, by omega⟩, h2⟩
      | trace_state
  · rw [List.take_of_length_le (by omega)] at hg
    simp only [go_sem, simprocAttr, ltF h2]
    rw [dec_bp]; exact congrArg FV.bool (bp_congr ⟨fun k => ⟨hg, by omega⟩, fun k => by have := k.2; omega⟩)
theorem expr_ne {a : Int} {x t : TyL} (h : ¬ a = 0) : a = if a = 0 ∧ x ≠ t then 8 else a := by rw [if_neg fun k => h k.1]
theorem ty_ext {x t : TyL} (h : x.k = t.k ∧ x.e = t.e) : x = t := by cases x; cases t; simp_all
theorem expr_eq {a : Int} {x t : TyL} (h : a = 0) (h2 : x.k = t.k ∧ x.e = t.e) : a = if a = 0 ∧ x ≠ t then 8 else a := by rw [if_neg fun k => k.2 (ty_ext h2)]
theorem expr_eq0 {a : Int} {x t : TyL} (h : a = 0) (h2 : x.k = t.k ∧ x.e = t.e) : 0 = if a = 0 ∧ x ≠ t then 8 else a := by rw [if_neg fun k => k.2 (ty_ext h2)]; exact h.symm
theorem expr_8 {a : Int} {x t : TyL} (h : a = 0) (h2 : ¬ x.k = t.k ∨ ¬ x.e = t.e) : 8 = if a = 0 ∧ x ≠ t then 8 else a := by
  rw [if_pos ⟨h, fun k => by subst k; rcases h2 with h2 | h2 <;> exact h2 rfl⟩]
theorem expression_call {e : List NodeL} {s : SigL} {u : Bool} {t : TyL} (hI : ∀ n ∈ e, I64 n.n) : FCall Tryz.prog n_law_expression [.sl u (nodesV e), .agg s.row, .agg t.row] (· = .int .i64 (exprE e s t)) := by
  have hT := TypeOf_call (s := s) (u := u) hI
  generalize hr : typeL e s = r at hT
  obtain ⟨r1, r2, r3⟩ := r
  refine FCall.walk u_law_expression k_law_expression rfl ?_
  unfold c_law_expression
  simp only [go_sem, simprocAttr, SigL.row, TyL.row]
  repeat' first
    | apply And.intro <;> intro h
    | ((refine FCallT.of (hT) ?_; rintro _ rfl); simp only [go_sem, simprocAttr, SigL.row, TyL.row])
  all_goals (refine congrArg (FV.int .i64) ?_; unfold exprE; rw [hr])
  all_goals simp only [Bool.and_eq_true, Bool.and_eq_false_iff, decide_eq_true_eq, decide_eq_false_iff_not] at *
  all_goals first
    | exact expr_ne (by assumption)
    | exact expr_eq (by assumption) (by assumption)
    | exact expr_eq0 (by assumption) (by assumption)
    | exact expr_8 (by assumption) (by assumption)
end Go.Fx.Tryz
set_option linter.unusedVariables false
set_option linter.unusedSimpArgs false
namespace Go.Fx.Tryz
open Go Go.Fm Go.Proofs
theorem fieldE_id {l : List FieldL} {x : List (List UInt8)} {ne : Nat} {i b : Int} {j : Nat} (h : j < l.length) (h1 : isIdB l[j].name = false) : fieldE isIdB l x ne i b j = some (2, 3, i, IntKind.i64.wrap (b + j)) := by
  unfold fieldE; rw [List.getElem?_eq_getElem h]; simp [h1]
theorem fieldE_in {l : List FieldL} {x : List (List UInt8)} {ne : Nat} {i b : Int} {j : Nat} (h : j < l.length) (h1 : isIdB l[j].name = true) (h2 : l[j].name ∈ x ∨ l[j].name ∈ (l.take j).map FieldL.name) : fieldE isIdB l x ne i b j = some (7, 3, i, IntKind.i64.wrap (b + j)) := by
  unfold fieldE; rw [List.getElem?_eq_getElem h]; simp only [h1, Bool.true_eq_false, if_false]; rw [if_pos h2]
theorem fieldE_ty {l : List FieldL} {x : List (List UInt8)} {ne : Nat} {i b : Int} {j : Nat} (h : j < l.length) (h1 : isIdB l[j].name = true) (h2 : ¬ (l[j].name ∈ x ∨ l[j].name ∈ (l.take j).map FieldL.name)) (h3 : ¬ validT l[j].ty ne) : fieldE isIdB l x ne i b j = some (8, 3, i, IntKind.i64.wrap (b + j)) := by
  unfold fieldE; rw [List.getElem?_eq_getElem h]; simp only [h1, Bool.true_eq_false, if_false]; rw [if_neg h2, if_pos h3]
theorem fieldE_no {l : List FieldL} {x : List (List UInt8)} {ne : Nat} {i b : Int} {j : Nat} (h : j < l.length) (h1 : isIdB l[j].name = true) (h2 : ¬ (l[j].name ∈ x ∨ l[j].name ∈ (l.take j).map FieldL.name)) (h3 : validT l[j].ty ne) : fieldE isIdB l x ne i b j = none := by
  unfold fieldE; rw [List.getElem?_eq_getElem h]; simp only [h1, Bool.true_eq_false, if_false]; rw [if_neg h2, if_neg (by simpa using h3)]
theorem fieldsV_take (l : List FieldL) (i : Nat) : (fieldsV l).take i = fieldsV (l.take i) := by simp [fieldsV, List.map_take]
theorem fields_call {l : List FieldL} {x : List (List UInt8)} {en : List EnumL} {u v w : Bool} {i b : Int} (hl : l.length < 2 ^ 30) (hx : x.length < 2 ^ 60) : FCall Tryz.prog n_law_fields [.sl u (fieldsV l), .sl v (strs x), .sl w (enumsV en), .int .i64 i, .int .i64 b] (· = errF (fieldsE isIdB l x en.length i b)) := by
  refine FCall.walk u_law_fields k_law_fields rfl ?_
  unfold c_law_fields
  simp only [go_sem, simprocAttr]
  unfold fieldsE
  refine FWT.count [] l.length (fun j => [(15, .int .i64 j)]) (fun k => ∀ j, j < k → fieldE isIdB l x en.length i b j = none) rfl (by simp) ?_
  intro j hj hg
  by_cases h2 : j < l.length
  · have hf := fieldsV_get h2
    have hty := validT_call (t := l[j].ty) (u := w) (en := en)
    simp only [go_sem, simprocAttr, ltT h2, Int.toNat_natCast, hf, FieldL.row]
    repeat' first
      | apply And.intro <;> intro h
      | ((first
        | (refine FCallT.of (isId_call (s := l[j].name)) ?_; rintro _ rfl)
        | (refine FCallT.of (bad_call) ?_; rintro _ rfl)); simp only [go_sem, simprocAttr])
    · rw [firstO_at hg (fieldE_id h2 (by assumption)) h2]; rfl
    have hid : isIdB l[j].name = true := by assumption
    by_cases hin : l[j].name ∈ x
    · have hc := containsS_call (l := x) (u := v) (s := l[j].name) hx
      rw [bp_true hin] at hc
      refine detCall_of _ (hc) ?_
      simp only [go_sem, simprocAttr]
      repeat' first
        | apply And.intro <;> intro h
        | ((refine FCallT.of (bad_call) ?_; rintro _ rfl); simp only [go_sem, simprocAttr])
      rw [firstO_at hg (fieldE_in h2 hid (.inl hin)) h2]; rfl
    · have hc := containsS_call (l := x) (u := v) (s := l[j].name) hx
      rw [bp_false hin] at hc
      refine detCall_of _ (hc) ?_
      simp only [go_sem, simprocAttr]
      refine ⟨all_len_map (fun _ => rfl) _, by omega, ?_⟩
      have e0 : ((j : Int)).toNat - 0 = j := by omega
      rw [e0, fieldsV_take]
      have hn := fun u => names_call (l := l.take j) (u := u) (by simp; omega)
      have hc2 := fun u => containsS_call (l := (l.take j).map FieldL.name) (u := u) (s := l[j].name) (by simp; omega)
      refine detCall_of _ (hn _) ?_
      simp only [go_sem, simprocAttr]
      repeat' first
        | apply And.intro <;> intro h
        | ((first
          | refine detCallB_of _ (hc2 _) rfl ?_
          | (refine FCallT.of (bad_call) ?_; rintro _ rfl)
          | (refine FCallT.of (hty) ?_; rintro _ rfl)); simp only [go_sem, simprocAttr])
      · rw [firstO_at hg (fieldE_in h2 hid (.inr (bp_iff.1 (by assumption)))) h2]; rfl
      · rw [firstO_at hg (fieldE_ty h2 hid (fun k => k.elim hin (bpF.1 (by assumption))) (bpF.1 (by assumption))) h2]; rfl
      · exact ⟨by rw [w64s (by omega)], none_succ hg (fieldE_no h2 hid (fun k => k.elim hin (bpF.1 (by assumption))) (bp_iff.1 (by assumption))), h2⟩
  · rw [firstO_none fun k hk => hg k (by omega)]
    simp only [go_sem, simprocAttr, ltF h2]
    first | rfl | trace_state
end Go.Fx.Tryz
set_option linter.unusedVariables false
set_option linter.unusedSimpArgs false
namespace Go.Fx.Tryz
open Go Go.Fm Go.Proofs
end Go.Fx.Tryz
set_option linter.unusedVariables false
set_option linter.unusedSimpArgs false
namespace Go.Fx.Tryz
open Go Go.Fm Go.Proofs
end Go.Fx.Tryz
set_option linter.unusedVariables false
set_option linter.unusedSimpArgs false
namespace Go.Fx.Tryz
open Go Go.Fm Go.Proofs
end Go.Fx.Tryz
set_option linter.unusedVariables false
set_option linter.unusedSimpArgs false
namespace Go.Fx.Tryz
open Go Go.Fm Go.Proofs
theorem rulesV_take (l : List RuleL) (i : Nat) : (rulesV l).take i = rulesV (l.take i) := by simp [rulesV, List.map_take]
theorem named_call {x : ScopeL} {j : Nat} (h : j < x.rules.length) (hs : x.mid) : FCall Tryz.prog n_law_named [.agg x.row, .int .i64 j] (· = .int .i64 (namedE isIdB x j x.rules[j])) := by
  have hx := rulesV_get h
  have hr := hs.2.1
  have hid := isId_call (s := x.rules[j].name)
  generalize hq : x.rules[j] = r at *
  refine FCall.walk u_law_named k_law_named rfl ?_
  unfold c_law_named
  simp only [go_sem, simprocAttr, ScopeL.row]
  simp only [go_sem, simprocAttr, Int.toNat_natCast, hx, RuleL.row]
  repeat' first
    | apply And.intro <;> intro h
    | ((refine FCallT.of (hid) ?_; rintro _ rfl); simp only [go_sem, simprocAttr])
  · unfold namedE; rw [if_pos (by assumption)]
  have hidj : isIdB r.name = true := by assumption
  refine ⟨all_len_map (fun _ => rfl) _, by omega, ?_⟩
  have e0 : ((j : Int)).toNat - 0 = j := by omega
  rw [e0, rulesV_take, rulesV_length, List.length_take, Nat.min_eq_left (by omega)]
  refine FWT.count [] j (fun k => [(22, .int .i64 k)]) (fun k => ∀ q ∈ x.rules.take k, ¬ q.name = r.name) rfl (by simp) ?_
  intro k hk hn
  by_cases k2 : k < j
  · have hy : (rulesV (x.rules.take j))[k]? = some x.rules[k].row := by rw [rulesV_get (by simp; omega), List.getElem_take]
    simp only [go_sem, simprocAttr, ltT k2, Int.toNat_natCast, hy, RuleL.row]
    refine ⟨fun e => ?_, fun e => ⟨by rw [w64s (by omega)], (all_take_succ (by omega)).2 ⟨hn, e⟩, k2⟩⟩
    unfold namedE
    rw [if_neg (by simp [hidj]), if_pos ⟨x.rules[k], List.mem_take_iff_getElem.2 ⟨k, by omega, rfl⟩, e⟩]
  · have ek : k = j := by omega
    subst ek
    have hN : namedE isIdB x k r = if r.d < 0 ∨ (x.defs.length : Int) ≤ r.d then 6 else
        if r.p < -1 ∨ (k : Int) ≤ r.p ∨ (0 ≤ r.p ∧ ((x.rules[r.p.toNat]?).map RuleL.d).getD 0 ≠ r.d) then 9 else 0 := by
      unfold namedE; rw [if_neg (by simp [hidj]), if_neg (fun ⟨q, m, e⟩ => hn q m e)]
    rw [hN]
    simp only [go_sem, simprocAttr, ltF k2]
    repeat' first
      | apply And.intro <;> intro h
    · rw [if_pos (by omega)]
    · rw [if_pos (by omega)]
    · rw [if_neg (by omega), if_pos (by omega)]
    · rw [if_neg (by omega), if_pos (by omega)]
    · have hpl : r.p.toNat < x.rules.length := by omega
      have hp := rulesV_get hpl
      have hp0 : (0 ≤ r.p) = True := eq_true (by assumption)
      have hpe : ((x.rules[r.p.toNat]?).map RuleL.d).getD 0 = x.rules[r.p.toNat].d := by rw [List.getElem?_eq_getElem hpl]; rfl
      rw [hpe, if_neg (show ¬ (r.d < 0 ∨ (x.defs.length : Int) ≤ r.d) by omega)]
      simp only [go_sem, simprocAttr, hp, hp0, RuleL.row]
      refine ⟨fun e => ?_, fun e => ?_⟩
      · first | rw [if_neg (by omega)] | rw [if_pos (by omega)]
      · first | rw [if_neg (by omega)] | rw [if_pos (by omega)]
    · rw [if_neg (by omega), if_neg (by omega)]
end Go.Fx.Tryz
set_option linter.unusedVariables false
set_option linter.unusedSimpArgs false
namespace Go.Fx.Tryz
open Go Go.Fm Go.Proofs
theorem ruleE_at {x : ScopeL} {j : Nat} {s : SigL} (h : j < x.rules.length) {r : RuleL} (hr : x.rules[j] = r) :
    (namedE isIdB x j r ≠ 0 → ruleE isIdB x j s = namedE isIdB x j r) ∧ (namedE isIdB x j r = 0 →
    ((r.pr < 0 ∨ 9 < r.pr ∨ r.f < 0 ∨ r.t ≤ r.f ∨ 109573 < r.t) → ruleE isIdB x j s = 3) ∧ (¬ (r.pr < 0 ∨ 9 < r.pr ∨ r.f < 0 ∨ r.t ≤ r.f ∨ 109573 < r.t) →
    (8 ≤ ((x.rules.take j).filter (fun q => decide (q.d = r.d))).length → ruleE isIdB x j s = 4) ∧ (¬ 8 ≤ ((x.rules.take j).filter (fun q => decide (q.d = r.d))).length →
    (¬ sourceP r.src → ruleE isIdB x j s = 2) ∧ (sourceP r.src →
    (0 < r.guard.length → exprE r.guard s ⟨1, 0⟩ ≠ 0 → ruleE isIdB x j s = exprE r.guard s ⟨1, 0⟩) ∧ (¬ (0 < r.guard.length ∧ exprE r.guard s ⟨1, 0⟩ ≠ 0) → ruleE isIdB x j s = exprE r.value s (fieldAt x.defs r.d).ty))))) := by
  have e : x.rules[j]? = some r := by rw [List.getElem?_eq_getElem h, hr]
  unfold ruleE
  simp only [e]
  refine ⟨fun a => by rw [if_pos a], fun a => ⟨fun b => by rw [if_neg (by simpa using a), if_pos b], fun b => ⟨fun c => by rw [if_neg (by simpa using a), if_neg b, if_pos c], fun c => ⟨fun d => by rw [if_neg (by simpa using a), if_neg b, if_neg c, if_pos d], fun d => ⟨fun p q => ?_, fun p => ?_⟩⟩⟩⟩⟩
  · rw [if_neg (by simpa using a), if_neg b, if_neg c, if_neg (by simpa using d), if_pos ⟨p, q⟩]
  · rw [if_neg (by simpa using a), if_neg b, if_neg c, if_neg (by simpa using d), if_neg p]
theorem namedE_d {x : ScopeL} {j : Nat} {r : RuleL} (h : namedE isIdB x j r = 0) : 0 ≤ r.d ∧ r.d < x.defs.length := by
  unfold namedE at h
  by_cases a : isIdB r.name = false
  · rw [if_pos a] at h; omega
  · rw [if_neg a] at h
    split at h
    · omega
    · split at h
      · omega
      · omega
theorem rule_call {x : ScopeL} {j : Nat} {s : SigL} (h : j < x.rules.length) (hs : x.mid) (hsrc : x.rules[j].src.length < 2 ^ 60) (hI1 : ∀ n ∈ x.rules[j].guard, I64 n.n) (hI2 : ∀ n ∈ x.rules[j].value, I64 n.n) : FCall Tryz.prog n_law_rule [.agg x.row, .int .i64 j, .agg s.row] (· = .int .i64 (ruleE isIdB x j s)) := by
  have hx := rulesV_get h
  have hr := hs.2.1
  have hnm := named_call h hs
  generalize hq : x.rules[j] = r at *
  obtain ⟨c1, c2⟩ := ruleE_at (s := s) h hq
  have hrd := namedE_d (x := x) (j := j) (r := r)
  have hfl : ∀ k, ((x.rules.take k).filter (fun q => decide (q.d = r.d))).length ≤ k := fun k => Nat.le_trans (List.length_filter_le _ _) (by simp; omega)
  generalize hN : namedE isIdB x j r = N at *
  refine FCall.walk u_law_rule k_law_rule rfl ?_
  unfold c_law_rule
  simp only [go_sem, simprocAttr, ScopeL.row, SigL.row]
  refine FCallT.of (hnm) ?_
  rintro _ rfl
  simp only [go_sem, simprocAttr, ScopeL.row, SigL.row]
  refine ⟨fun a => ?_, fun a => ?_⟩
  · rw [c1 a]
  replace c2 := c2 (by omega)
  replace hrd := hrd (by omega)
  simp only [go_sem, simprocAttr, Int.toNat_natCast, hx, RuleL.row]
  refine ⟨all_len_map (fun _ => rfl) _, by omega, ?_⟩
  rw [Nat.sub_zero, rulesV_take, rulesV_length, List.length_take, Nat.min_eq_left (by omega)]
  refine FWT.count [] j (fun k => [(9, .int .i64 ((x.rules.take k).filter (fun q => decide (q.d = r.d))).length), (29, .int .i64 k)]) (fun _ => True) rfl trivial ?_
  intro k hk _
  by_cases k2 : k < j
  · have hy : (rulesV (x.rules.take j))[k]? = some x.rules[k].row := by rw [rulesV_get (by simp; omega), List.getElem_take]
    have hfs := filter_take_succ (p := fun q => decide (q.d = r.d)) (show k < x.rules.length by omega)
    have := hfl k
    simp only [go_sem, simprocAttr, ltT k2, Int.toNat_natCast, hy, RuleL.row]
    refine ⟨fun e => ⟨?_, k2⟩, fun e => ⟨?_, k2⟩⟩
    · rw [hfs, if_pos (by simpa using e), List.length_append, w64s (by omega), w64s (by omega)]; rfl
    · rw [hfs, if_neg (by simpa using e), List.append_nil, w64s (by omega)]
  · have ek : k = j := by omega
    subst ek
    obtain ⟨c3, c4⟩ := c2
    have hdl : r.d.toNat < x.defs.length := by omega
    have hdx := fieldsV_get hdl
    have hd0 : (0 ≤ r.d) = True := eq_true hrd.1
    have hfa : fieldAt x.defs r.d = x.defs[r.d.toNat] := by unfold fieldAt; rw [List.getElem?_eq_getElem hdl]; rfl
    rw [hfa] at c4
    have hg := fun u => expression_call (e := r.guard) (s := s) (u := u) (t := ⟨1, 0⟩) hI1
    have hv := fun u => expression_call (e := r.value) (s := s) (u := u) (t := x.defs[r.d.toNat].ty) hI2
    generalize exprE r.guard s ⟨1, 0⟩ = G at *
    generalize exprE r.value s x.defs[r.d.toNat].ty = V at *
    simp only [go_sem, simprocAttr, ltF k2]
    repeat' first
      | apply And.intro <;> intro h
      | ((first
        | (refine FCallT.of (source_call (s := r.src) hsrc) ?_; rintro _ rfl)
        | (refine FCallT.of (hg _) ?_; rintro _ rfl)
        | refine detCall_of _ (hv _) ?_); simp only [go_sem, simprocAttr, SigL.row, hdx, hd0, FieldL.row])
    · rw [c3 (by omega)]
    · rw [c3 (by omega)]
    · rw [c3 (by omega)]
    · rw [c3 (by omega)]
    · rw [c3 (by omega)]
    · rw [(c4 (by omega)).1 (by omega)]
    all_goals replace c4 := (c4 (by omega)).2 (by omega)
    · rw [c4.1 (bpF.1 (by assumption))]
    all_goals replace c4 := c4.2 (bp_iff.1 (by assumption))
    · rw [c4.1 (by omega) (by assumption)]
    · rw [c4.2 (by omega)]
    · rw [c4.2 (by omega)]
end Go.Fx.Tryz
set_option linter.unusedVariables false
set_option linter.unusedSimpArgs false
namespace Go.Fx.Tryz
open Go Go.Fm Go.Proofs
def sigOL (l : LawL) (x : ScopeL) : SigL := ⟨false, l.enums.map EnumL.bare, false, l.tables.map TableL.bare, false, x.inputs.map FieldL.ty, false, x.defs.map FieldL.ty, !hasMem l x, if hasMem l x then (memOf l x).defs.map FieldL.ty else [], hasMem l x⟩
theorem sigO_at {l : LawL} {i : Nat} {x : ScopeL} (h : l.scopes[i]? = some x) : sigO l i = .agg [.arr (enumsO l.enums), .arr (tablesO l.tables), .arr (tysV (x.inputs.map FieldL.ty)), .arr (tysV (x.defs.map FieldL.ty)), if hasMem l x then .arr (tysV ((memOf l x).defs.map FieldL.ty)) else .sl true [], .bool (hasMem l x)] := by
  unfold sigO; rw [if_neg (by omega), Int.toNat_natCast, h]
end Go.Fx.Tryz
set_option linter.unusedVariables false
set_option linter.unusedSimpArgs false
namespace Go.Fx.Tryz
open Go Go.Fm Go.Proofs
theorem scope_call {l : LawL} {i : Nat} (hl : l.sane) (hi : i < l.scopes.length) : FCall Tryz.prog n_law_scope [.agg l.row, .int .i64 i] (· = errF (scopeE isIdB l i l.scopes[i] (sigOL l l.scopes[i]))) := by
  have hx := scopesV_get hi
  have hsg := signature_call (l := l) (i := i) hl.mid
  rw [sigO_at (List.getElem?_eq_getElem hi)] at hsg
  obtain ⟨-, hin, hs, -, -, hrs⟩ := hl.s2 _ (List.getElem_mem hi)
  have hsc := hl.s1
  generalize l.scopes[i] = x at *
  refine FCall.walk u_law_scope k_law_scope rfl ?_
  unfold c_law_scope
  simp only [go_sem, simprocAttr, LawL.row]
  by_cases m1 : x.ms = -1
  · have e1 : (x.ms = -1) = True := eq_true m1
    have hnb : ¬ memBad l x i := fun k => k.1 m1
    simp only [go_sem, simprocAttr, Int.toNat_natCast, hx, ScopeL.row, e1]
    have hfe := fun v w => fields_call (l := x.inputs) (x := []) (en := l.enums) (u := x.ifull) (v := v) (w := w) (i := i) (b := 100) hin (by simp)
    have hfd := fun v w => fields_call (l := x.defs) (x := x.inputs.map FieldL.name) (en := l.enums) (u := x.dfull) (v := v) (w := w) (i := i) (b := 200) (by have := hs.1; omega) (by simp; omega)
    have hna := fun u => names_call (l := x.inputs) (u := u) (by omega)
    repeat' first
      | apply And.intro <;> intro h
      | ((first
        | (refine FCallT.of (bad_call) ?_; rintro _ rfl)
        | (refine FCallT.of (hfe _ _) ?_; rintro _ rfl)
        | refine detCall_of _ (hna _) ?_
        | refine detCallB_of _ (hfd _ _) rfl ?_); simp only [go_sem, simprocAttr])
    · exact err_eq (by unfold scopeE; rw [if_neg hnb, if_pos (by omega)])
    · exact err_eq (by unfold scopeE; rw [if_neg hnb, if_neg (by omega), if_pos (by omega)])
    all_goals have hS : scopeE isIdB l i x (sigOL l x) = (fieldsE isIdB x.inputs [] l.enums.length i 100).or ((fieldsE isIdB x.defs (x.inputs.map FieldL.name) l.enums.length i 200).or ((firstO (ruleO isIdB x (sigOL l x) i) x.rules.length).or (firstO (cycleO x i) x.defs.length))) := by unfold scopeE; rw [if_neg hnb, if_neg (by omega), if_neg (by omega)]
    all_goals rw [hS]
    · exact err_congr (or_ne (by assumption)).symm
    all_goals rw [errQ_zero fieldsE_ok (show (errQ (fieldsE isIdB x.inputs [] l.enums.length i 100)).1 = 0 by assumption), Option.none_or]
    · exact err_congr (or_ne (by assumption)).symm
    rw [errQ_zero fieldsE_ok (show (errQ (fieldsE isIdB x.defs (x.inputs.map FieldL.name) l.enums.length i 200)).1 = 0 by assumption), Option.none_or]
    cases hh : hasMem l x with
    | false =>
      have hL : sigOL l x = ⟨false, l.enums.map EnumL.bare, false, l.tables.map TableL.bare, false, x.inputs.map FieldL.ty, false, x.defs.map FieldL.ty, true, [], false⟩ := by unfold sigOL; simp [hh]
      simp only [hh, Bool.false_eq_true, if_false] at hsg
      refine FCallT.of (hsg) ?_
      rintro _ rfl
      simp only [go_sem, simprocAttr, LawL.row]
      have hrl := hs.2.1
      have hdl : x.defs.length ≤ 12 := by omega
      refine FWT.count [] x.rules.length (fun j => [(83, .int .i64 j)]) (fun k => ∀ j, j < k → ruleO isIdB x (sigOL l x) i j = none) rfl (by simp) ?_
      intro j hj hg
      by_cases h2 : j < x.rules.length
      · obtain ⟨-, hsrc, hI1, hI2⟩ := hrs _ (List.getElem_mem h2)
        have hr := rule_call (s := sigOL l x) h2 hs hsrc hI1 hI2
        have hO : ruleO isIdB x (sigOL l x) i j = if ruleE isIdB x j (sigOL l x) = 0 then none else some (ruleE isIdB x j (sigOL l x), (3 : Int), (i : Int), IntKind.i64.wrap (300 + j)) := by unfold ruleO; rfl
        generalize ruleE isIdB x j (sigOL l x) = R at hr hO
        simp only [hL, SigL.row, ScopeL.row] at hr
        simp only [go_sem, simprocAttr, ltT h2, Int.toNat_natCast]
        repeat' first
          | apply And.intro <;> intro h
          | ((first
            | (refine FCallT.of (hr) ?_; rintro _ rfl)
            | (refine FCallT.of (bad_call) ?_; rintro _ rfl)); simp only [go_sem, simprocAttr, ScopeL.row])
        · exact err_eq (by rw [firstO_at hg (hO.trans (if_neg (by assumption))) h2]; rfl)
        · exact ⟨by rw [w64s (by omega)], none_succ hg (hO.trans (if_pos (by assumption))), h2⟩
      · rw [firstO_none fun k hk => hg k (by omega), Option.none_or]
        simp only [go_sem, simprocAttr, ltF h2]
        refine FWT.count [] x.defs.length (fun d => [(101, .int .i64 d)]) (fun k => ∀ d, d < k → cycleO x i d = none) rfl (by simp) ?_
        intro d hd hg
        by_cases d2 : d < x.defs.length
        · have ht := Transitive_call (s := x) (d := d) hs (by omega) (by omega)
          have htl : (transD x d).length ≤ x.defs.length := numsL_length _ _
          have hc := fun u => containsI_call (l := transD x d) (u := u) (s := (d : Int)) (by omega)
          simp only [go_sem, simprocAttr, ltT d2, Int.toNat_natCast]
          repeat' first
            | apply And.intro <;> intro h
            | ((first
              | (refine FCallT.of (ht) ?_; rintro _ rfl)
              | (refine FCallT.of (hc _) ?_; rintro _ rfl)
              | (refine FCallT.of (bad_call) ?_; rintro _ rfl)); simp only [go_sem, simprocAttr, ScopeL.row])
          · exact err_eq (firstO_at hg (if_pos (bp_iff.1 (by assumption))) d2)
          · exact ⟨by rw [w64s (by omega)], none_succ hg (if_neg (bpF.1 (by assumption))), d2⟩
        · rw [firstO_none fun k hk => hg k (by omega)]
          simp only [go_sem, simprocAttr, ltF d2]
          rfl
    | true =>
      have hL : sigOL l x = ⟨false, l.enums.map EnumL.bare, false, l.tables.map TableL.bare, false, x.inputs.map FieldL.ty, false, x.defs.map FieldL.ty, false, (memOf l x).defs.map FieldL.ty, true⟩ := by unfold sigOL; simp [hh]
      simp only [hh, if_true] at hsg
      refine FCallT.of (hsg) ?_
      rintro _ rfl
      simp only [go_sem, simprocAttr, LawL.row]
      have hrl := hs.2.1
      have hdl : x.defs.length ≤ 12 := by omega
      refine FWT.count [] x.rules.length (fun j => [(83, .int .i64 j)]) (fun k => ∀ j, j < k → ruleO isIdB x (sigOL l x) i j = none) rfl (by simp) ?_
      intro j hj hg
      by_cases h2 : j < x.rules.length
      · obtain ⟨-, hsrc, hI1, hI2⟩ := hrs _ (List.getElem_mem h2)
        have hr := rule_call (s := sigOL l x) h2 hs hsrc hI1 hI2
        have hO : ruleO isIdB x (sigOL l x) i j = if ruleE isIdB x j (sigOL l x) = 0 then none else some (ruleE isIdB x j (sigOL l x), (3 : Int), (i : Int), IntKind.i64.wrap (300 + j)) := by unfold ruleO; rfl
        generalize ruleE isIdB x j (sigOL l x) = R at hr hO
        simp only [hL, SigL.row, ScopeL.row] at hr
        simp only [go_sem, simprocAttr, ltT h2, Int.toNat_natCast]
        repeat' first
          | apply And.intro <;> intro h
          | ((first
            | (refine FCallT.of (hr) ?_; rintro _ rfl)
            | (refine FCallT.of (bad_call) ?_; rintro _ rfl)); simp only [go_sem, simprocAttr, ScopeL.row])
        · exact err_eq (by rw [firstO_at hg (hO.trans (if_neg (by assumption))) h2]; rfl)
        · exact ⟨by rw [w64s (by omega)], none_succ hg (hO.trans (if_pos (by assumption))), h2⟩
      · rw [firstO_none fun k hk => hg k (by omega), Option.none_or]
        simp only [go_sem, simprocAttr, ltF h2]
        refine FWT.count [] x.defs.length (fun d => [(101, .int .i64 d)]) (fun k => ∀ d, d < k → cycleO x i d = none) rfl (by simp) ?_
        intro d hd hg
        by_cases d2 : d < x.defs.length
        · have ht := Transitive_call (s := x) (d := d) hs (by omega) (by omega)
          have htl : (transD x d).length ≤ x.defs.length := numsL_length _ _
          have hc := fun u => containsI_call (l := transD x d) (u := u) (s := (d : Int)) (by omega)
          simp only [go_sem, simprocAttr, ltT d2, Int.toNat_natCast]
          repeat' first
            | apply And.intro <;> intro h
            | ((first
              | (refine FCallT.of (ht) ?_; rintro _ rfl)
              | (refine FCallT.of (hc _) ?_; rintro _ rfl)
              | (refine FCallT.of (bad_call) ?_; rintro _ rfl)); simp only [go_sem, simprocAttr, ScopeL.row])
          · exact err_eq (firstO_at hg (if_pos (bp_iff.1 (by assumption))) d2)
          · exact ⟨by rw [w64s (by omega)], none_succ hg (if_neg (bpF.1 (by assumption))), d2⟩
        · rw [firstO_none fun k hk => hg k (by omega)]
          simp only [go_sem, simprocAttr, ltF d2]
          rfl
  by_cases m2 : x.ms < 0 ∨ (i : Int) ≤ x.ms
  · have hb : memBad l x i := ⟨m1, m2.elim .inl fun k => .inr (.inl k)⟩
    simp only [go_sem, simprocAttr, Int.toNat_natCast, hx, ScopeL.row, eq_false m1]
    repeat' first
      | apply And.intro <;> intro h
      | ((refine FCallT.of (bad_call) ?_; rintro _ rfl); simp only [go_sem, simprocAttr])
    all_goals first
      | exact err_eq (by unfold scopeE; rw [if_pos hb])
      | (exfalso; omega)
      | trace_state
  have e2 : (x.ms < 0) = False := eq_false (by omega)
  have e3 : ((i : Int) ≤ x.ms) = False := eq_false (by omega)
  have e4 : (0 ≤ x.ms) = True := eq_true (by omega)
  have hyl : x.ms.toNat < l.scopes.length := by omega
  have hy := scopesV_get hyl
  have hye : ((l.scopes[x.ms.toNat]?).map ScopeL.ms).getD 0 = l.scopes[x.ms.toNat].ms := by rw [List.getElem?_eq_getElem hyl]; rfl
  by_cases m3 : l.scopes[x.ms.toNat].ms = -1
  · have hnb : ¬ memBad l x i := fun k => by
      rcases k.2 with k | k | k
      · omega
      · omega
      · rw [hye] at k; exact k m3
    simp only [go_sem, simprocAttr, Int.toNat_natCast, hx, ScopeL.row, eq_false m1, e2, e3, e4, hy, eq_true m3]
    have hfe := fun v w => fields_call (l := x.inputs) (x := []) (en := l.enums) (u := x.ifull) (v := v) (w := w) (i := i) (b := 100) hin (by simp)
    have hfd := fun v w => fields_call (l := x.defs) (x := x.inputs.map FieldL.name) (en := l.enums) (u := x.dfull) (v := v) (w := w) (i := i) (b := 200) (by have := hs.1; omega) (by simp; omega)
    have hna := fun u => names_call (l := x.inputs) (u := u) (by omega)
    repeat' first
      | apply And.intro <;> intro h
      | ((first
        | (refine FCallT.of (bad_call) ?_; rintro _ rfl)
        | (refine FCallT.of (hfe _ _) ?_; rintro _ rfl)
        | refine detCall_of _ (hna _) ?_
        | refine detCallB_of _ (hfd _ _) rfl ?_); simp only [go_sem, simprocAttr])
    · exact err_eq (by unfold scopeE; rw [if_neg hnb, if_pos (by omega)])
    · exact err_eq (by unfold scopeE; rw [if_neg hnb, if_neg (by omega), if_pos (by omega)])
    all_goals have hS : scopeE isIdB l i x (sigOL l x) = (fieldsE isIdB x.inputs [] l.enums.length i 100).or ((fieldsE isIdB x.defs (x.inputs.map FieldL.name) l.enums.length i 200).or ((firstO (ruleO isIdB x (sigOL l x) i) x.rules.length).or (firstO (cycleO x i) x.defs.length))) := by unfold scopeE; rw [if_neg hnb, if_neg (by omega), if_neg (by omega)]
    all_goals rw [hS]
    · exact err_congr (or_ne (by assumption)).symm
    all_goals rw [errQ_zero fieldsE_ok (show (errQ (fieldsE isIdB x.inputs [] l.enums.length i 100)).1 = 0 by assumption), Option.none_or]
    · exact err_congr (or_ne (by assumption)).symm
    rw [errQ_zero fieldsE_ok (show (errQ (fieldsE isIdB x.defs (x.inputs.map FieldL.name) l.enums.length i 200)).1 = 0 by assumption), Option.none_or]
    cases hh : hasMem l x with
    | false =>
      have hL : sigOL l x = ⟨false, l.enums.map EnumL.bare, false, l.tables.map TableL.bare, false, x.inputs.map FieldL.ty, false, x.defs.map FieldL.ty, true, [], false⟩ := by unfold sigOL; simp [hh]
      simp only [hh, Bool.false_eq_true, if_false] at hsg
      refine FCallT.of (hsg) ?_
      rintro _ rfl
      simp only [go_sem, simprocAttr, LawL.row]
      have hrl := hs.2.1
      have hdl : x.defs.length ≤ 12 := by omega
      refine FWT.count [] x.rules.length (fun j => [(83, .int .i64 j)]) (fun k => ∀ j, j < k → ruleO isIdB x (sigOL l x) i j = none) rfl (by simp) ?_
      intro j hj hg
      by_cases h2 : j < x.rules.length
      · obtain ⟨-, hsrc, hI1, hI2⟩ := hrs _ (List.getElem_mem h2)
        have hr := rule_call (s := sigOL l x) h2 hs hsrc hI1 hI2
        have hO : ruleO isIdB x (sigOL l x) i j = if ruleE isIdB x j (sigOL l x) = 0 then none else some (ruleE isIdB x j (sigOL l x), (3 : Int), (i : Int), IntKind.i64.wrap (300 + j)) := by unfold ruleO; rfl
        generalize ruleE isIdB x j (sigOL l x) = R at hr hO
        simp only [hL, SigL.row, ScopeL.row] at hr
        simp only [go_sem, simprocAttr, ltT h2, Int.toNat_natCast]
        repeat' first
          | apply And.intro <;> intro h
          | ((first
            | (refine FCallT.of (hr) ?_; rintro _ rfl)
            | (refine FCallT.of (bad_call) ?_; rintro _ rfl)); simp only [go_sem, simprocAttr, ScopeL.row])
        · exact err_eq (by rw [firstO_at hg (hO.trans (if_neg (by assumption))) h2]; rfl)
        · exact ⟨by rw [w64s (by omega)], none_succ hg (hO.trans (if_pos (by assumption))), h2⟩
      · rw [firstO_none fun k hk => hg k (by omega), Option.none_or]
        simp only [go_sem, simprocAttr, ltF h2]
        refine FWT.count [] x.defs.length (fun d => [(101, .int .i64 d)]) (fun k => ∀ d, d < k → cycleO x i d = none) rfl (by simp) ?_
        intro d hd hg
        by_cases d2 : d < x.defs.length
        · have ht := Transitive_call (s := x) (d := d) hs (by omega) (by omega)
          have htl : (transD x d).length ≤ x.defs.length := numsL_length _ _
          have hc := fun u => containsI_call (l := transD x d) (u := u) (s := (d : Int)) (by omega)
          simp only [go_sem, simprocAttr, ltT d2, Int.toNat_natCast]
          repeat' first
            | apply And.intro <;> intro h
            | ((first
              | (refine FCallT.of (ht) ?_; rintro _ rfl)
              | (refine FCallT.of (hc _) ?_; rintro _ rfl)
              | (refine FCallT.of (bad_call) ?_; rintro _ rfl)); simp only [go_sem, simprocAttr, ScopeL.row])
          · exact err_eq (firstO_at hg (if_pos (bp_iff.1 (by assumption))) d2)
          · exact ⟨by rw [w64s (by omega)], none_succ hg (if_neg (bpF.1 (by assumption))), d2⟩
        · rw [firstO_none fun k hk => hg k (by omega)]
          simp only [go_sem, simprocAttr, ltF d2]
          rfl
    | true =>
      have hL : sigOL l x = ⟨false, l.enums.map EnumL.bare, false, l.tables.map TableL.bare, false, x.inputs.map FieldL.ty, false, x.defs.map FieldL.ty, false, (memOf l x).defs.map FieldL.ty, true⟩ := by unfold sigOL; simp [hh]
      simp only [hh, if_true] at hsg
      refine FCallT.of (hsg) ?_
      rintro _ rfl
      simp only [go_sem, simprocAttr, LawL.row]
      have hrl := hs.2.1
      have hdl : x.defs.length ≤ 12 := by omega
      refine FWT.count [] x.rules.length (fun j => [(83, .int .i64 j)]) (fun k => ∀ j, j < k → ruleO isIdB x (sigOL l x) i j = none) rfl (by simp) ?_
      intro j hj hg
      by_cases h2 : j < x.rules.length
      · obtain ⟨-, hsrc, hI1, hI2⟩ := hrs _ (List.getElem_mem h2)
        have hr := rule_call (s := sigOL l x) h2 hs hsrc hI1 hI2
        have hO : ruleO isIdB x (sigOL l x) i j = if ruleE isIdB x j (sigOL l x) = 0 then none else some (ruleE isIdB x j (sigOL l x), (3 : Int), (i : Int), IntKind.i64.wrap (300 + j)) := by unfold ruleO; rfl
        generalize ruleE isIdB x j (sigOL l x) = R at hr hO
        simp only [hL, SigL.row, ScopeL.row] at hr
        simp only [go_sem, simprocAttr, ltT h2, Int.toNat_natCast]
        repeat' first
          | apply And.intro <;> intro h
          | ((first
            | (refine FCallT.of (hr) ?_; rintro _ rfl)
            | (refine FCallT.of (bad_call) ?_; rintro _ rfl)); simp only [go_sem, simprocAttr, ScopeL.row])
        · exact err_eq (by rw [firstO_at hg (hO.trans (if_neg (by assumption))) h2]; rfl)
        · exact ⟨by rw [w64s (by omega)], none_succ hg (hO.trans (if_pos (by assumption))), h2⟩
      · rw [firstO_none fun k hk => hg k (by omega), Option.none_or]
        simp only [go_sem, simprocAttr, ltF h2]
        refine FWT.count [] x.defs.length (fun d => [(101, .int .i64 d)]) (fun k => ∀ d, d < k → cycleO x i d = none) rfl (by simp) ?_
        intro d hd hg
        by_cases d2 : d < x.defs.length
        · have ht := Transitive_call (s := x) (d := d) hs (by omega) (by omega)
          have htl : (transD x d).length ≤ x.defs.length := numsL_length _ _
          have hc := fun u => containsI_call (l := transD x d) (u := u) (s := (d : Int)) (by omega)
          simp only [go_sem, simprocAttr, ltT d2, Int.toNat_natCast]
          repeat' first
            | apply And.intro <;> intro h
            | ((first
              | (refine FCallT.of (ht) ?_; rintro _ rfl)
              | (refine FCallT.of (hc _) ?_; rintro _ rfl)
              | (refine FCallT.of (bad_call) ?_; rintro _ rfl)); simp only [go_sem, simprocAttr, ScopeL.row])
          · exact err_eq (firstO_at hg (if_pos (bp_iff.1 (by assumption))) d2)
          · exact ⟨by rw [w64s (by omega)], none_succ hg (if_neg (bpF.1 (by assumption))), d2⟩
        · rw [firstO_none fun k hk => hg k (by omega)]
          simp only [go_sem, simprocAttr, ltF d2]
          rfl
  · have hb : memBad l x i := ⟨m1, .inr (.inr (by rw [hye]; exact m3))⟩
    simp only [go_sem, simprocAttr, Int.toNat_natCast, hx, ScopeL.row, eq_false m1, e2, e3, e4, hy, eq_false m3]
    repeat' first
      | apply And.intro <;> intro h
      | ((refine FCallT.of (bad_call) ?_; rintro _ rfl); simp only [go_sem, simprocAttr])
    all_goals first
      | exact err_eq (by unfold scopeE; rw [if_pos hb])
      | (exfalso; omega)
      | trace_state
end Go.Fx.Tryz
set_option linter.unusedVariables false
set_option linter.unusedSimpArgs false
namespace Go.Fx.Tryz
open Go Go.Fm Go.Proofs
end Go.Fx.Tryz
set_option linter.unusedVariables false
set_option linter.unusedSimpArgs false
namespace Go.Fx.Tryz
open Go Go.Fm Go.Proofs
theorem first_err {f : Nat → Option ErrL} {i n : Nat} {r : Option ErrL} (hg : ∀ j, j < i → f j = none) (h : ¬ (errQ (f i)).1 = 0) (hi : i < n) : f i = (firstO f n).or r := by
  obtain ⟨e, he⟩ := errQ_ne h
  rw [firstO_at hg he hi, he]; rfl
end Go.Fx.Tryz
set_option linter.unusedVariables false
set_option linter.unusedSimpArgs false
namespace Go.Fx.Tryz
open Go Go.Fm Go.Proofs
noncomputable def scopeOO (l : LawL) (i : Nat) : Option ErrL :=
  match l.scopes[i]? with
  | none => none
  | some x => (nameE isIdB x.name (l.enums.map EnumL.name ++ l.tables.map TableL.name ++ (l.scopes.take i).map ScopeL.name) 3 i).or (scopeE isIdB l i x (sigOL l x))
noncomputable def lawOE (l : LawL) : Option ErrL :=
  if 8 < l.enums.length then some (4, 1, 8, 0) else (firstO (enumO isIdB l) l.enums.length).or (
  if 8 < l.tables.length then some (4, 2, 8, 0) else (firstO (tableO isIdB l) l.tables.length).or (
  if 4 < l.scopes.length then some (4, 3, 4, 0) else firstO (scopeOO l) l.scopes.length))
theorem lawOE_e {l : LawL} (h : 8 < l.enums.length) : lawOE l = some (4, 1, 8, 0) := by unfold lawOE; rw [if_pos h]
theorem lawOE_1 {l : LawL} (h : ¬ 8 < l.enums.length) : lawOE l = (firstO (enumO isIdB l) l.enums.length).or (
  if 8 < l.tables.length then some (4, 2, 8, 0) else (firstO (tableO isIdB l) l.tables.length).or (
  if 4 < l.scopes.length then some (4, 3, 4, 0) else firstO (scopeOO l) l.scopes.length)) := by unfold lawOE; rw [if_neg h]
theorem err2 {f : Nat → Option ErrL} {i n : Nat} {a b r : Option ErrL} (hO : f i = a.or b) (hg : ∀ j, j < i → f j = none) (h : ¬ (errQ a).1 = 0) (hi : i < n) : a = (firstO f n).or r := by
  have e : f i = a := by rw [hO, or_ne h]
  rw [← e]; exact first_err hg (by rw [e]; exact h) hi
theorem err3 {f : Nat → Option ErrL} {i n : Nat} {a b r : Option ErrL} (hO : f i = a.or b) (hk : okE a) (hg : ∀ j, j < i → f j = none) (h0 : (errQ a).1 = 0) (h : ¬ (errQ b).1 = 0) (hi : i < n) : b = (firstO f n).or r := by
  have e : f i = b := by rw [hO, errQ_zero hk h0, Option.none_or]
  rw [← e]; exact first_err hg (by rw [e]; exact h) hi
theorem none2 {f : Nat → Option ErrL} {i : Nat} {a b : Option ErrL} (hO : f i = a.or b) (hk : okE a) (hk2 : okE b) (h0 : (errQ a).1 = 0) (h : (errQ b).1 = 0) : f i = none := by
  rw [hO, errQ_zero hk h0, errQ_zero hk2 h]; rfl
theorem or_none_e (a : Option ErrL) : a.or none = a := by cases a <;> rfl
theorem map_take_succ {α β : Type} {f : α → β} {l : List α} {j : Nat} (h : j < l.length) : (l.take (j + 1)).map f = (l.take j).map f ++ [f l[j]] := by
  rw [List.take_succ_eq_append_getElem h, List.map_append]; rfl
theorem validate_call {l : LawL} (hl : l.sane) : FCall Tryz.prog n_law_Validate [.agg l.row] (· = errF (lawOE l)) := by
  refine FCall.walk u_law_Validate k_law_Validate rfl ?_
  unfold c_law_Validate
  simp only [go_sem, simprocAttr, LawL.row]
  repeat' first
    | apply And.intro <;> intro h
    | ((refine FCallT.of (bad_call) ?_; rintro _ rfl); simp only [go_sem, simprocAttr])
  · exact err_eq (lawOE_e (by omega))
  rw [lawOE_1 (by omega)]
  refine FWT.count [] l.enums.length (fun j => [(3, .arr (strs ((l.enums.take j).map EnumL.name))), (24, .int .i64 j)]) (fun k => ∀ j, j < k → enumO isIdB l j = none) rfl (by simp) ?_
  intro j hj hg
  by_cases h2 : j < l.enums.length
  · have hx := enumsV_get h2
    have hO : enumO isIdB l j = (nameE isIdB l.enums[j].name ((l.enums.take j).map EnumL.name) 1 j).or (enumE isIdB l.enums[j] j) := by unfold enumO; rw [List.getElem?_eq_getElem h2]
    have hnm := fun u => name_call (s := l.enums[j].name) (names := (l.enums.take j).map EnumL.name) (u := u) (w := 1) (i := j) (by simp; omega)
    have hen := enum_call (e := l.enums[j]) (i := j) (hl.hm _ (List.getElem_mem h2))
    simp only [go_sem, simprocAttr, ltT h2, Int.toNat_natCast, hx, EnumL.row]
    repeat' first
      | apply And.intro <;> intro h
      | ((refine FCallT.of (hnm _) ?_; rintro _ rfl); simp only [go_sem, simprocAttr, EnumL.row])
    · exact err_congr (err2 hO hg (by assumption) h2)
    refine ⟨by simp; omega, ?_⟩
    repeat' first
      | apply And.intro <;> intro h
      | ((refine FCallT.of (hen) ?_; rintro _ rfl); simp only [go_sem, simprocAttr, EnumL.row])
    · exact err_congr (err3 hO nameE_ok hg (by assumption) (by assumption) h2)
    · exact ⟨by rw [w64s (by omega), map_take_succ h2, strs_snoc], none_succ hg (none2 hO nameE_ok enumE_ok (by assumption) (by assumption)), h2⟩
  rw [firstO_none fun k hk => hg k (by omega), Option.none_or, List.take_of_length_le (by omega)]
  have he8 : l.enums.length ≤ 8 := by omega
  simp only [go_sem, simprocAttr, ltF h2]
  clear hg h2 hj
  repeat' first
    | apply And.intro <;> intro h
    | ((refine FCallT.of (bad_call) ?_; rintro _ rfl); simp only [go_sem, simprocAttr])
  · exact err_eq (by rw [if_pos (by omega)])
  rw [if_neg (by omega)]
  refine FWT.count [] l.tables.length (fun j => [(3, .arr (strs (l.enums.map EnumL.name ++ (l.tables.take j).map TableL.name))), (59, .int .i64 j)]) (fun k => ∀ j, j < k → tableO isIdB l j = none) (by simp only [List.take_zero, List.map_nil, List.append_nil]; rfl) (by simp) ?_
  intro j hj hg
  by_cases h2 : j < l.tables.length
  · have hx := tablesV_get h2
    have hO : tableO isIdB l j = (nameE isIdB l.tables[j].name (l.enums.map EnumL.name ++ (l.tables.take j).map TableL.name) 2 j).or (rowsE l.tables[j] l.enums j) := by unfold tableO; rw [List.getElem?_eq_getElem h2]
    have hnm := fun u => name_call (s := l.tables[j].name) (names := l.enums.map EnumL.name ++ (l.tables.take j).map TableL.name) (u := u) (w := 2) (i := j) (by simp; omega)
    have hen := fun u => rows_call (t := l.tables[j]) (u := u) (en := l.enums) (i := j) hl.hm
    simp only [go_sem, simprocAttr, ltT h2, Int.toNat_natCast, hx, TableL.row]
    repeat' first
      | apply And.intro <;> intro h
      | ((refine FCallT.of (hnm _) ?_; rintro _ rfl); simp only [go_sem, simprocAttr, TableL.row])
    · exact err_congr (err2 hO hg (by assumption) h2)
    refine ⟨by simp; omega, ?_⟩
    repeat' first
      | apply And.intro <;> intro h
      | ((refine FCallT.of (hen _) ?_; rintro _ rfl); simp only [go_sem, simprocAttr, TableL.row])
    · exact err_congr (err3 hO nameE_ok hg (by assumption) (by assumption) h2)
    · exact ⟨by rw [w64s (by omega), map_take_succ h2, ← List.append_assoc, strs_snoc], none_succ hg (none2 hO nameE_ok rowsE_ok (by assumption) (by assumption)), h2⟩
  rw [firstO_none fun k hk => hg k (by omega), Option.none_or, List.take_of_length_le (by omega)]
  have ht8 : l.tables.length ≤ 8 := by omega
  simp only [go_sem, simprocAttr, ltF h2]
  clear hg h2 hj
  repeat' first
    | apply And.intro <;> intro h
    | ((refine FCallT.of (bad_call) ?_; rintro _ rfl); simp only [go_sem, simprocAttr])
  · exact err_eq (by rw [if_pos (by omega)])
  rw [if_neg (by omega)]
  refine FWT.count [] l.scopes.length (fun j => [(3, .arr (strs (l.enums.map EnumL.name ++ l.tables.map TableL.name ++ (l.scopes.take j).map ScopeL.name))), (96, .int .i64 j)]) (fun k => ∀ j, j < k → scopeOO l j = none) (by simp only [List.take_zero, List.map_nil, List.append_nil]; rfl) (by simp) ?_
  intro j hj hg
  by_cases h2 : j < l.scopes.length
  · have hx := scopesV_get h2
    have hO : scopeOO l j = (nameE isIdB l.scopes[j].name (l.enums.map EnumL.name ++ l.tables.map TableL.name ++ (l.scopes.take j).map ScopeL.name) 3 j).or (scopeE isIdB l j l.scopes[j] (sigOL l l.scopes[j])) := by unfold scopeOO; rw [List.getElem?_eq_getElem h2]
    have hnm := fun u => name_call (s := l.scopes[j].name) (names := l.enums.map EnumL.name ++ l.tables.map TableL.name ++ (l.scopes.take j).map ScopeL.name) (u := u) (w := 3) (i := j) (by simp; omega)
    have hen := scope_call hl h2
    simp only [go_sem, simprocAttr, ltT h2, Int.toNat_natCast, hx, ScopeL.row]
    repeat' first
      | apply And.intro <;> intro h
      | ((refine FCallT.of (hnm _) ?_; rintro _ rfl); simp only [go_sem, simprocAttr, LawL.row])
    · exact err_congr ((err2 (r := none) hO hg (by assumption) h2).trans (or_none_e _))
    refine ⟨by simp; omega, ?_⟩
    repeat' first
      | apply And.intro <;> intro h
      | ((refine FCallT.of (hen) ?_; rintro _ rfl); simp only [go_sem, simprocAttr, LawL.row])
    · exact err_congr ((err3 (r := none) hO nameE_ok hg (by assumption) (by assumption) h2).trans (or_none_e _))
    · exact ⟨by rw [w64s (by omega), map_take_succ h2, ← List.append_assoc, strs_snoc], none_succ hg (none2 hO nameE_ok scopeE_ok (by assumption) (by assumption)), h2⟩
  rw [firstO_none fun k hk => hg k (by omega)]
  simp only [go_sem, simprocAttr, ltF h2]
  rfl
end Go.Fx.Tryz
set_option linter.unusedVariables false
set_option linter.unusedSimpArgs false
namespace Go.Fm
open Go
structure SameS (x y : SigL) : Prop where
  en : x.enums.length = y.enums.length
  mem : ∀ i, memN x.enums i = memN y.enums i
  tn : x.tables.length = y.tables.length
  tk : ∀ i, (tabAt x.tables i).kk = (tabAt y.tables i).kk ∧ (tabAt x.tables i).ke = (tabAt y.tables i).ke ∧ (tabAt x.tables i).vk = (tabAt y.tables i).vk ∧ (tabAt x.tables i).ve = (tabAt y.tables i).ve
  inp : x.inputs = y.inputs
  defs : x.defs = y.defs
  mems : x.mems = y.mems
  has : x.has = y.has
theorem SameS.found {x y : SigL} (h : SameS x y) (n : NodeL) : foundP n x ↔ foundP n y := by
  unfold foundP; rw [h.en, h.mem, h.tn, h.inp, h.defs, h.mems, h.has]
theorem SameS.leaf {x y : SigL} (h : SameS x y) (n : NodeL) : leafT n x = leafT n y := by
  unfold leafT; rw [h.inp, h.defs, h.mems]
theorem SameS.un {x y : SigL} (h : SameS x y) (n : NodeL) (a : TyL) : unT n a x = unT n a y := by
  unfold unT
  obtain ⟨a1, a2, a3, a4⟩ := h.tk n.n
  obtain ⟨b1, b2, b3, b4⟩ := h.tk (n.n / 8)
  simp only [a1, a2, a3, a4, b1, b2, b3, b4, h.en]
theorem SameS.node {x y : SigL} (h : SameS x y) (n : NodeL) (l : List TyL) : nodeT n l x = nodeT n l y := by
  have hf := h.found n
  unfold nodeT
  simp only [hf, h.leaf, h.un, h.en]
theorem SameS.go {x y : SigL} (h : SameS x y) : ∀ (e : List NodeL) (i : Nat) (st : List TyL), typeGo x i st e = typeGo y i st e
  | [], _, _ => rfl
  | n :: r, i, st => by
    unfold typeGo
    simp only [h.node, h.go r]
theorem SameS.type {x y : SigL} (h : SameS x y) (e : List NodeL) : typeL e x = typeL e y := by unfold typeL; rw [h.go]
theorem SameS.expr {x y : SigL} (h : SameS x y) (e : List NodeL) (t : TyL) : exprE e x t = exprE e y t := by unfold exprE; rw [h.type]
theorem memN_bare (l : List EnumL) (i : Int) : memN (l.map EnumL.bare) i = memN l i := by
  unfold memN; rw [List.getElem?_map]; cases l[i.toNat]? <;> rfl
end Go.Fm
set_option linter.unusedVariables false
set_option linter.unusedSimpArgs false
namespace Go.Fx.Tryz
open Go Go.Fm Go.Proofs
end Go.Fx.Tryz
set_option linter.unusedVariables false
namespace Go.Fm
open Go
theorem int_of_shape {P : Program} {w : World} {g : Nat} {t : TypeId} {zero : Array Value} {k : IntKind} (h : w.ShapedOpen P) (hg : g < P.globals.size)
    (h0 : ((begin P (fun _ _ => 0) default).world.heap[g]?).bind Obj.row? = some (zero, t)) (hz : zero.size = 1)
    (hb : P.buildable t = true) (hc : P.cellTypes P.depth t = some [t]) (hu : P.underlying t = some (.int k)) : g < w.heap.size ∧ ∃ m : Int, w.cell? ⟨g, 0, none⟩ = some (.int k m) := by
  obtain ⟨cs, hh, hs, hr⟩ := h.1 g zero t hg h0
  obtain ⟨ts, hts, _, hall⟩ := hr hb
  rw [hc] at hts
  cases hts
  have h1 : 0 < cs.size := by omega
  obtain ⟨u, hu', hok⟩ := hall 0 cs[0] (by simp [h1])
  have : u = t := by simpa using hu'.symm
  subst this
  have hcell : w.cell? ⟨g, 0, none⟩ = some cs[0] := by simp [World.cell?, hh, h1]
  refine ⟨(Array.getElem?_eq_some_iff.1 hh).1, ?_⟩
  rw [hcell]
  unfold Cell.ok at hok
  rw [hu] at hok
  cases hv : cs[0] <;> rw [hv] at hok <;> first | (simp at hok; done) | (simp at hok; exact ⟨_, by rw [hok.1]⟩) | (simp at hok; exact ⟨_, by rw [hok]⟩)
end Go.Fm
set_option linter.unusedVariables false
namespace Go.Fm
open Go
abbrev ty_Str : Ty := .str
abbrev ty_Int : Ty := .int .i64
theorem i64_wf {n : Int} (h : (Lit.int .i64 n).wf = true) : I64 n := by
  simp only [Lit.wf, Bool.and_eq_true, decide_eq_true_eq] at h
  exact h
theorem has_Str {B : Nat} : ∀ fs, ty_Str.has B fs → ∃ s : List UInt8, fs = [.str s] ∧ s.length ≤ B := fun _ h => h
theorem has_Int {B : Nat} : ∀ fs, ty_Int.has B fs → ∃ n : Int, fs = [.int .i64 n] ∧ I64 n := fun _ ⟨n, h1, h2⟩ => ⟨n, h1, i64_wf h2⟩
abbrev ty_Node : Ty := (.cons (.int .i64) (.cons (.int .i64) .nil))
def NodeL.bnd (B : Nat) (x : NodeL) : Prop := I64 x.op ∧ I64 x.n
theorem has_Node {B : Nat} : ∀ fs, ty_Node.has B fs → ∃ x : NodeL, fs = x.row ∧ x.bnd B := by
  rintro _ ⟨_, _, rfl, ⟨a0, rfl, h0⟩, ⟨_, _, rfl, ⟨a1, rfl, h1⟩, rfl⟩⟩
  exact ⟨⟨a0, a1⟩, rfl, i64_wf h0, i64_wf h1⟩
abbrev ty_Enum : Ty := (.cons .str (.cons (.sl ty_Str) .nil))
def EnumL.bnd (B : Nat) (x : EnumL) : Prop := x.name.length ≤ B ∧ x.members.length ≤ B ∧ (∀ s ∈ x.members, s.length ≤ B)
theorem has_Enum {B : Nat} : ∀ fs, ty_Enum.has B fs → ∃ x : EnumL, fs = x.row ∧ x.bnd B := by
  rintro _ ⟨_, _, rfl, ⟨a0, rfl, h0⟩, ⟨_, _, rfl, h1, rfl⟩⟩
  obtain ⟨l1, rfl, k1, p1⟩ := slHas has_Str h1
  exact ⟨⟨a0, false, l1⟩, rfl, h0, k1, p1⟩
abbrev ty_Field : Ty := (.cons .str (.cons (.cons (.int .i64) (.cons (.int .i64) .nil)) .nil))
def FieldL.bnd (B : Nat) (x : FieldL) : Prop := x.name.length ≤ B ∧ I64 x.k ∧ I64 x.e
theorem has_Field {B : Nat} : ∀ fs, ty_Field.has B fs → ∃ x : FieldL, fs = x.row ∧ x.bnd B := by
  rintro _ ⟨_, _, rfl, ⟨a0, rfl, h0⟩, ⟨_, _, rfl, ⟨_, _, rfl, ⟨a1, rfl, h1⟩, ⟨_, _, rfl, ⟨a2, rfl, h2⟩, rfl⟩⟩, rfl⟩⟩
  exact ⟨⟨a0, a1, a2⟩, rfl, h0, i64_wf h1, i64_wf h2⟩
abbrev ty_Rule : Ty := (.cons .str (.cons (.int .i64) (.cons (.int .i64) (.cons (.int .i64) (.cons (.cons (.int .i64) (.cons (.int .i64) .nil)) (.cons (.sl ty_Node) (.cons (.sl ty_Node) (.cons .str .nil))))))))
def RuleL.bnd (B : Nat) (x : RuleL) : Prop := x.name.length ≤ B ∧ I64 x.d ∧ I64 x.p ∧ I64 x.pr ∧ I64 x.f ∧ I64 x.t ∧ x.guard.length ≤ B ∧ (∀ y ∈ x.guard, y.bnd B) ∧ x.value.length ≤ B ∧ (∀ y ∈ x.value, y.bnd B) ∧ x.src.length ≤ B
theorem has_Rule {B : Nat} : ∀ fs, ty_Rule.has B fs → ∃ x : RuleL, fs = x.row ∧ x.bnd B := by
  rintro _ ⟨_, _, rfl, ⟨a0, rfl, h0⟩, ⟨_, _, rfl, ⟨a1, rfl, h1⟩, ⟨_, _, rfl, ⟨a2, rfl, h2⟩, ⟨_, _, rfl, ⟨a3, rfl, h3⟩, ⟨_, _, rfl, ⟨_, _, rfl, ⟨a4, rfl, h4⟩, ⟨_, _, rfl, ⟨a5, rfl, h5⟩, rfl⟩⟩, ⟨_, _, rfl, h6, ⟨_, _, rfl, h7, ⟨_, _, rfl, ⟨a8, rfl, h8⟩, rfl⟩⟩⟩⟩⟩⟩⟩⟩
  obtain ⟨l6, rfl, k6, p6⟩ := slHas has_Node h6
  obtain ⟨l7, rfl, k7, p7⟩ := slHas has_Node h7
  exact ⟨⟨a0, a1, a2, a3, a4, a5, false, l6, false, l7, a8⟩, rfl, h0, i64_wf h1, i64_wf h2, i64_wf h3, i64_wf h4, i64_wf h5, k6, p6, k7, p7, h8⟩
abbrev ty_Row : Ty := (.cons (.cons (.int .i64) (.cons (.int .i64) .nil)) (.cons (.int .i64) (.cons (.int .i64) (.cons (.int .i64) .nil))))
def RowL.bnd (B : Nat) (x : RowL) : Prop := I64 x.f ∧ I64 x.t ∧ I64 x.lo ∧ I64 x.hi ∧ I64 x.n
theorem has_Row {B : Nat} : ∀ fs, ty_Row.has B fs → ∃ x : RowL, fs = x.row ∧ x.bnd B := by
  rintro _ ⟨_, _, rfl, ⟨_, _, rfl, ⟨a0, rfl, h0⟩, ⟨_, _, rfl, ⟨a1, rfl, h1⟩, rfl⟩⟩, ⟨_, _, rfl, ⟨a2, rfl, h2⟩, ⟨_, _, rfl, ⟨a3, rfl, h3⟩, ⟨_, _, rfl, ⟨a4, rfl, h4⟩, rfl⟩⟩⟩⟩
  exact ⟨⟨a0, a1, a2, a3, a4⟩, rfl, i64_wf h0, i64_wf h1, i64_wf h2, i64_wf h3, i64_wf h4⟩
abbrev ty_Table : Ty := (.cons .str (.cons (.cons (.int .i64) (.cons (.int .i64) .nil)) (.cons (.cons (.int .i64) (.cons (.int .i64) .nil)) (.cons (.sl ty_Row) .nil))))
def TableL.bnd (B : Nat) (x : TableL) : Prop := x.name.length ≤ B ∧ I64 x.kk ∧ I64 x.ke ∧ I64 x.vk ∧ I64 x.ve ∧ x.rows.length ≤ B ∧ (∀ y ∈ x.rows, y.bnd B)
theorem has_Table {B : Nat} : ∀ fs, ty_Table.has B fs → ∃ x : TableL, fs = x.row ∧ x.bnd B := by
  rintro _ ⟨_, _, rfl, ⟨a0, rfl, h0⟩, ⟨_, _, rfl, ⟨_, _, rfl, ⟨a1, rfl, h1⟩, ⟨_, _, rfl, ⟨a2, rfl, h2⟩, rfl⟩⟩, ⟨_, _, rfl, ⟨_, _, rfl, ⟨a3, rfl, h3⟩, ⟨_, _, rfl, ⟨a4, rfl, h4⟩, rfl⟩⟩, ⟨_, _, rfl, h5, rfl⟩⟩⟩⟩
  obtain ⟨l5, rfl, k5, p5⟩ := slHas has_Row h5
  exact ⟨⟨a0, a1, a2, a3, a4, false, l5⟩, rfl, h0, i64_wf h1, i64_wf h2, i64_wf h3, i64_wf h4, k5, p5⟩
abbrev ty_Scope : Ty := (.cons .str (.cons (.int .i64) (.cons (.sl ty_Field) (.cons (.sl ty_Field) (.cons (.sl ty_Rule) .nil)))))
def ScopeL.bnd (B : Nat) (x : ScopeL) : Prop := x.name.length ≤ B ∧ I64 x.ms ∧ x.inputs.length ≤ B ∧ (∀ y ∈ x.inputs, y.bnd B) ∧ x.defs.length ≤ B ∧ (∀ y ∈ x.defs, y.bnd B) ∧ x.rules.length ≤ B ∧ (∀ y ∈ x.rules, y.bnd B)
theorem has_Scope {B : Nat} : ∀ fs, ty_Scope.has B fs → ∃ x : ScopeL, fs = x.row ∧ x.bnd B := by
  rintro _ ⟨_, _, rfl, ⟨a0, rfl, h0⟩, ⟨_, _, rfl, ⟨a1, rfl, h1⟩, ⟨_, _, rfl, h2, ⟨_, _, rfl, h3, ⟨_, _, rfl, h4, rfl⟩⟩⟩⟩⟩
  obtain ⟨l2, rfl, k2, p2⟩ := slHas has_Field h2
  obtain ⟨l3, rfl, k3, p3⟩ := slHas has_Field h3
  obtain ⟨l4, rfl, k4, p4⟩ := slHas has_Rule h4
  exact ⟨⟨a0, a1, false, l2, false, l3, false, l4⟩, rfl, h0, i64_wf h1, k2, p2, k3, p3, k4, p4⟩
abbrev ty_Law : Ty := (.cons (.sl ty_Enum) (.cons (.sl ty_Table) (.cons (.sl ty_Scope) .nil)))
def LawL.bnd (B : Nat) (x : LawL) : Prop := x.enums.length ≤ B ∧ (∀ y ∈ x.enums, y.bnd B) ∧ x.tables.length ≤ B ∧ (∀ y ∈ x.tables, y.bnd B) ∧ x.scopes.length ≤ B ∧ (∀ y ∈ x.scopes, y.bnd B)
theorem has_Law {B : Nat} : ∀ fs, ty_Law.has B fs → ∃ x : LawL, fs = x.row ∧ x.bnd B := by
  rintro _ ⟨_, _, rfl, h0, ⟨_, _, rfl, h1, ⟨_, _, rfl, h2, rfl⟩⟩⟩
  obtain ⟨l0, rfl, k0, p0⟩ := slHas has_Enum h0
  obtain ⟨l1, rfl, k1, p1⟩ := slHas has_Table h1
  obtain ⟨l2, rfl, k2, p2⟩ := slHas has_Scope h2
  exact ⟨⟨false, l0, false, l1, false, l2⟩, rfl, k0, p0, k1, p1, k2, p2⟩
end Go.Fm
set_option linter.unusedVariables false
set_option linter.unusedSimpArgs false
namespace Go.Fm
open Go
def toInts : List (List FV) → Option (List Int)
  | [] => some []
  | r :: es => match r with
    | [.int .i64 z] => (toInts es).map (z :: ·)
    | _ => none
theorem toInts_eq : ∀ {es : List (List FV)} {zs : List Int}, toInts es = some zs → es = ints zs
  | [], zs, h => by cases h; rfl
  | r :: es, zs, h => by
    simp only [toInts] at h
    split at h <;> try (cases h; done)
    rw [Option.map_eq_some_iff] at h
    obtain ⟨ys, h1, rfl⟩ := h
    rw [toInts_eq h1]; rfl
def sortedB : List Int → Bool
  | a :: b :: l => decide (a ≤ b) && sortedB (b :: l)
  | _ => true
theorem sortedB_pw : ∀ {l : List Int}, sortedB l = true → l.Pairwise (fun a b => decide (a ≤ b) = true)
  | [], _ => .nil
  | [a], _ => List.pairwise_singleton _ _
  | a :: b :: l, h => by
    simp only [sortedB, Bool.and_eq_true] at h
    have ih := sortedB_pw h.2
    refine List.pairwise_cons.2 ⟨fun x hx => ?_, ih⟩
    rcases List.mem_cons.1 hx with rfl | hx
    · exact h.1
    · have h1 := (List.pairwise_cons.1 ih).1 x hx
      have h2 := h.1
      simp only [decide_eq_true_eq] at h1 h2 ⊢
      omega
def primSort (n : FuncId) : Muts := fun f es => cond (Nat.beq f n) (match toInts es with
  | some zs => cond (sortedB zs && Nat.blt zs.length 1000000) (some es) none
  | none => none) none
theorem primSort_sound {P : Program} {n : FuncId} (h : ∀ {zs : List Int}, zs.length < 4611686018427387904 → FMut P n (ints zs) (· = ints (zs.mergeSort fun x y => decide (x ≤ y)))) : SoundM P (primSort n) := fun f es es' he => by
  unfold primSort at he
  cases hb : Nat.beq f n <;> rw [hb] at he <;> simp only [cond_true, cond_false] at he
  · cases he
  have := Nat.eq_of_beq_eq_true hb
  subst this
  split at he <;> try (cases he; done)
  rename_i zs hz
  cases hc : sortedB zs && Nat.blt zs.length 1000000 <;> rw [hc] at he <;> simp only [cond_true, cond_false] at he
  · cases he
  cases he
  simp only [Bool.and_eq_true, Nat.blt_eq] at hc
  have e1 := toInts_eq hz
  subst e1
  have h2 := h (zs := zs) (by omega)
  rw [List.mergeSort_of_pairwise (sortedB_pw hc.1)] at h2
  exact h2
def primStr (nc nk : FuncId) : Calls := fun f fs => cond (Nat.beq f nc) (match fs with
    | [.str a, .str b] => cond (Nat.blt a.length 1000000) (some (.bool (Lib.contains a b))) none
    | _ => none) (cond (Nat.beq f nk) (match fs with
    | [.arr es] => match toInts es with
      | some zs => cond (Nat.blt zs.length 1000000) (some (.arr (ints (Lib.compact zs)))) none
      | none => none
    | _ => none) none)
theorem primStr_sound {P : Program} {nc nk : FuncId} (h1 : ∀ {a b : List UInt8}, a.length < 4294967281 → FCall P nc [.str a, .str b] (· = .bool (Lib.contains a b)))
    (h2 : ∀ {zs : List Int}, zs.length ≤ 9223372036854775807 → FCall P nk [.arr (ints zs)] (· = .arr (ints (Lib.compact zs)))) : SoundC P (primStr nc nk) := fun f fs v he => by
  unfold primStr at he
  cases hb : Nat.beq f nc <;> rw [hb] at he <;> simp only [cond_true, cond_false] at he
  · cases hk : Nat.beq f nk <;> rw [hk] at he <;> simp only [cond_true, cond_false] at he
    · cases he
    have := Nat.eq_of_beq_eq_true hk
    subst this
    split at he <;> try (cases he; done)
    split at he <;> try (cases he; done)
    rename_i zs hz
    cases hc : Nat.blt zs.length 1000000 <;> rw [hc] at he <;> simp only [cond_true, cond_false] at he
    · cases he
    cases he
    rw [Nat.blt_eq] at hc
    rw [toInts_eq hz]
    exact h2 (by omega)
  · have := Nat.eq_of_beq_eq_true hb
    subst this
    split at he <;> try (cases he; done)
    rename_i a b
    cases hc : Nat.blt a.length 1000000 <;> rw [hc] at he <;> simp only [cond_true, cond_false] at he
    · cases he
    cases he
    rw [Nat.blt_eq] at hc
    exact h1 (by omega)
end Go.Fm
namespace Go.Fx.Tryz
open Go Go.Fm Go.Proofs
noncomputable abbrev call (k : Nat) : Fm.Calls := xCall Tryz.prog tab (primStr n_strings_Contains n_slices_Compact_int_int) (primSort n_slices_Sort_int_int) 1000 k
theorem call_sound (k : Nat) : SoundC Tryz.prog (call k) := xCall_sound tab_good (primStr_sound p_contains p_compact) (primSort_sound p_sort) k
theorem awake_x : call 20 n_law17_awake [] = some (.bool true) := by kernel_rfl
theorem awake : FCall Tryz.prog n_law17_awake [] (· = .bool true) := call_sound 20 _ _ _ awake_x
end Go.Fx.Tryz
set_option linter.unusedVariables false
set_option linter.unusedSimpArgs false
namespace Go.Fx.Tryz
open Go Go.Fm Go.Proofs Go.Proofs.YtdjbhceoodcphaaGreat
open Go.ChangeShapes Go.WideShapes Go.ChangeAt Go.RowKit
theorem own : ownKnob Tryz.prog.godebug = none := by kernel_rfl
theorem laidOut : laidOutB Tryz.prog = true := by kernel_rfl
theorem bulk_mem {H : Type} : ∀ {ds : List (DataW H)} {d : DataW H}, d ∈ ds → Rows.uptoBulk d ≤ Rows.uptoBulkAll ds
  | [], _, m => by cases m
  | x :: ds, d, m => by
    rw [Rows.uptoBulkAll]
    rcases List.mem_cons.1 m with rfl | m
    · omega
    · have := bulk_mem m; omega
theorem bulk_pos {H : Type} : ∀ (d : DataW H), 1 ≤ Rows.uptoBulk d := by
  intro d; cases d with
  | lit l => cases l <;> simp [Rows.uptoBulk]
  | _ => simp [Rows.uptoBulk]
theorem bulk_len {H : Type} : ∀ (ds : List (DataW H)), ds.length ≤ Rows.uptoBulkAll ds
  | [] => Nat.zero_le _
  | d :: ds => by have := bulk_len ds; have := bulk_pos d; simp only [Rows.uptoBulkAll, List.length_cons]; omega
theorem bnd {H : Type} : Bnd (fun d : DataW H => Rows.uptoBulk d ≤ 1048576) 1048576 where
  str h _ := by simp [Rows.uptoBulk] at h; omega
  sl {es rest} h _ := by
    simp only [Rows.uptoBulk] at h
    have := bulk_len es
    exact ⟨by omega, fun d m => by have := bulk_mem m; omega⟩
  agg {xs} h d m := by simp only [Rows.uptoBulk] at h; have := bulk_mem m; omega
theorem bulk_of {H : Type} {ds gs : List (DataW H)} (hk : Rows.uptoSmall H (ds ++ gs) = true) {d : DataW H} (m : d ∈ ds) : Rows.uptoBulk d ≤ 1048576 := by
  have h1 := bulk_mem (ds := ds ++ gs) (d := d) (by simp [m])
  simp only [Rows.uptoSmall, decide_eq_true_eq] at hk
  omega
def cellsOfTab : DataW Unit → Array Value
  | .agg xs => (xs.map fun | .lit (.int k n) => Value.int k n | _ => Value.int .i64 0).toArray
  | _ => #[]
noncomputable def layAt (x : String × DataW Unit) (w : World) : World :=
  match Tryz.prog.globalNamed x.1 with
  | some g => { w with heap := w.heap.modify g fun | .cells _ t frozen => .cells (cellsOfTab x.2) t frozen | o => o }
  | none => w
theorem maxLen_here {W : World} (hS : W.ShapedOpen Tryz.prog) : ∀ g, Tryz.prog.globalNamed "internal/bytealg.MaxLen" = some g → g < W.heap.size ∧ ∃ m : Int, W.cell? ⟨g, 0, none⟩ = some (.int .i64 m) := fun g hg => by
  obtain rfl : g = 0 := Option.some.inj (hg.symm.trans (show Tryz.prog.globalNamed "internal/bytealg.MaxLen" = some 0 by kernel_rfl))
  exact int_of_shape (t := 3) (zero := #[.int .i64 0]) (k := .i64) hS (of_decide_eq_true (by kernel_rfl)) (by kernel_rfl) rfl (by kernel_rfl) (by kernel_rfl) (by kernel_rfl)
theorem ambHere {W : World} {L : List (String × DataW Unit)} (hL : laidMet Tryz.prog L W) (hS : W.ShapedOpen Tryz.prog) : Amb Tryz.prog W (fun b => b < W.heap.size) := amb_none (by kernel_rfl) (maxLen_here hS)
end Go.Fx.Tryz
set_option linter.unusedVariables false
set_option linter.unusedSimpArgs false
namespace Go.Fm
open Go
end Go.Fm
set_option linter.unusedVariables false
set_option linter.unusedSimpArgs false
namespace Go.Fx.Tryz
open Go Go.Fm Go.Proofs
end Go.Fx.Tryz
set_option linter.unusedVariables false
set_option linter.unusedSimpArgs false
namespace Go.Fx.Tryz
open Go Go.Fm Go.Proofs
theorem firstO_no {α : Type} {f : Nat → Option α} : ∀ {n : Nat}, firstO f n = none → ∀ j, j < n → f j = none
  | n + 1, h, j, hj => by
    unfold firstO at h
    cases e : firstO f n with
    | some a => rw [e] at h; simp at h
    | none =>
      rw [e] at h
      by_cases q : j = n
      · rw [q]; exact h
      · exact firstO_no e j (by omega)
theorem or_no {α : Type} {a b : Option α} (h : a.or b = none) : a = none ∧ b = none := by
  cases a with
  | none => exact ⟨rfl, by simpa using h⟩
  | some x => simp at h
theorem scopeE_no {l : LawL} {i : Nat} {x : ScopeL} {s : SigL} (h : scopeE isIdB l i x s = none) : x.defs.length ≤ 12 ∧ (∀ j, j < x.rules.length → ruleE isIdB x j s = 0) ∧ ∀ d : Nat, d < x.defs.length → ¬ (d : Int) ∈ transD x d := by
  unfold scopeE at h
  split at h
  · simp at h
  split at h
  · simp at h
  split at h
  · simp at h
  obtain ⟨-, h⟩ := or_no h
  obtain ⟨-, h⟩ := or_no h
  obtain ⟨h1, h2⟩ := or_no h
  refine ⟨by omega, fun j hj => ?_, fun d hd => ?_⟩
  · have := firstO_no h1 j hj
    unfold ruleO at this
    split at this
    · assumption
    · simp at this
  · have := firstO_no h2 d hd
    unfold cycleO at this
    split at this
    · simp at this
    · assumption
end Go.Fx.Tryz
set_option linter.unusedVariables false
set_option linter.unusedSimpArgs false
namespace Go.Fx.Tryz
open Go Go.Fm Go.Proofs
theorem lawOE_ok {l : LawL} : okE (lawOE l) := by
  have hs : ∀ i, okE (scopeOO l i) := fun i => by
    unfold scopeOO; split
    · exact okE_none
    · exact okE_or nameE_ok scopeE_ok
  unfold lawOE; split
  · exact okE_some (by simp)
  refine okE_or (okE_first (fun _ => enumO_ok) _) ?_
  split
  · exact okE_some (by simp)
  refine okE_or (okE_first (fun _ => tableO_ok) _) ?_
  split
  · exact okE_some (by simp)
  exact okE_first hs _
end Go.Fx.Tryz
set_option linter.unusedVariables false
set_option linter.unusedSimpArgs false
namespace Go.Fx.Tryz
open Go Go.Fm Go.Proofs
def onD (d f t : Int) : Prop := validD f t ∧ f ≤ d ∧ d < t
instance (d f t : Int) : Decidable (onD d f t) := by unfold onD; infer_instance
def rowOn (r : RowL) : RowL := ⟨0, 109573, r.lo, r.hi, r.n⟩
def tableOn (d : Int) (t : TableL) : TableL := { t with rfull := false, rows := (t.rows.filter (fun r => decide (onD d r.f r.t))).map rowOn }
def keptP (x : ScopeL) (d : Int) (i : Int) : Prop := ∃ r, x.rules[i.toNat]? = some r ∧ onD d r.f r.t
noncomputable def keptL (x : ScopeL) (d : Int) : List Int := numsL (keptP x d) x.rules.length
def ancZ (x : ScopeL) (K : List Int) (i : Nat) : Int :=
  match x.rules[i]? with
  | none => -1
  | some r => if h : 0 ≤ r.p ∧ r.p.toNat < i then (if 0 ≤ idxZ (fun y => decide (r.p = y)) K then idxZ (fun y => decide (r.p = y)) K else ancZ x K r.p.toNat) else -1
termination_by i
decreasing_by exact h.2
def ruleAt (x : ScopeL) (i : Int) : RuleL := (x.rules[i.toNat]?).getD ⟨[], 0, 0, 0, 0, 0, false, [], false, [], []⟩
def ruleOn (r : RuleL) (p : Int) : RuleL := ⟨r.name, r.d, p, r.pr, 0, 109573, false, r.guard, false, r.value, r.src⟩
noncomputable def scopeOn (d : Int) (x : ScopeL) : ScopeL := ⟨x.name, x.ms, false, x.inputs, false, x.defs, false, (keptL x d).map fun i => ruleOn (ruleAt x i) (ancZ x (keptL x d) i.toNat)⟩
noncomputable def lawOn (d : Int) (l : LawL) : LawL := ⟨l.enums.isEmpty, l.enums.map EnumL.bare, l.tables.isEmpty, l.tables.map (tableOn d), l.scopes.isEmpty, l.scopes.map (scopeOn d)⟩
theorem getE_map {α β : Type} (f : α → β) (l : List α) (i : Nat) : (l.map f)[i]? = (l[i]?).map f := by simp
theorem enumO_on {l : LawL} {d : Int} (i : Nat) : enumO isIdB (lawOn d l) i = enumO isIdB l i := by
  unfold enumO
  have e1 : (lawOn d l).enums[i]? = (l.enums[i]?).map EnumL.bare := getE_map _ _ _
  have e2 : ((lawOn d l).enums.take i).map EnumL.name = (l.enums.take i).map EnumL.name := by
    show ((l.enums.map EnumL.bare).take i).map EnumL.name = _
    rw [← List.map_take, List.map_map]; rfl
  rw [e1, e2]
  cases l.enums[i]? <;> rfl
theorem pair_of_take {α : Type} {R : α → α → Prop} : ∀ {l : List α}, (∀ i (h : i < l.length), ∀ p ∈ l.take i, R p l[i]) → l.Pairwise R
  | [], _ => .nil
  | a :: l, h => by
    refine List.pairwise_cons.2 ⟨fun b hb => ?_, pair_of_take fun i hi p hp => ?_⟩
    · obtain ⟨i, hi, rfl⟩ := List.getElem_of_mem hb
      exact h (i + 1) (by simpa using hi) a (by simp)
    · exact h (i + 1) (by simpa using hi) p (by simp [hp])
theorem take_of_pair {α : Type} {R : α → α → Prop} : ∀ {l : List α}, l.Pairwise R → ∀ i (h : i < l.length), ∀ p ∈ l.take i, R p l[i]
  | a :: l, hp, 0, h, p, m => by simp at m
  | a :: l, hp, i + 1, h, p, m => by
    obtain ⟨h1, h2⟩ := List.pairwise_cons.1 hp
    simp only [List.take_succ_cons, List.mem_cons] at m
    rcases m with rfl | m
    · exact h1 _ (List.getElem_mem _)
    · exact take_of_pair h2 i (by simpa using h) p m
theorem inT_bare {x : Int} {t : TyL} {en : List EnumL} : inT x t (en.map EnumL.bare) ↔ inT x t en := by
  have e : (((en.map EnumL.bare)[t.e.toNat]?).map fun e => (e.members.length : Int)).getD 0 = ((en[t.e.toNat]?).map fun e => (e.members.length : Int)).getD 0 := by
    rw [getE_map]; cases en[t.e.toNat]? <;> rfl
  unfold inT loT hiT
  rw [List.length_map, e]
theorem tableE_zero {t : TableL} {en : List EnumL} (h : (tableE t en).2 = 0) : t.rows.length ≤ 64 ∧ validT ⟨t.kk, t.ke⟩ en.length ∧ validT ⟨t.vk, t.ve⟩ en.length ∧ (∀ r ∈ t.rows, ¬ rowBad r ⟨t.kk, t.ke⟩ ⟨t.vk, t.ve⟩ en) ∧ t.rows.Pairwise (fun a b => ¬ meetP a b) := by
  unfold tableE at h
  by_cases h1 : 64 < t.rows.length
  · rw [if_pos h1] at h; cases h
  rw [if_neg h1] at h
  by_cases h2 : ¬ validT ⟨t.kk, t.ke⟩ en.length ∨ ¬ validT ⟨t.vk, t.ve⟩ en.length
  · rw [if_pos h2] at h; cases h
  rw [if_neg h2] at h
  have hv : validT ⟨t.kk, t.ke⟩ en.length ∧ validT ⟨t.vk, t.ve⟩ en.length := ⟨Classical.byContradiction fun k => h2 (.inl k), Classical.byContradiction fun k => h2 (.inr k)⟩
  have hO : firstO (rowE t en) t.rows.length = none := by
    cases e : firstO (rowE t en) t.rows.length with
    | none => rfl
    | some a =>
      rw [e] at h
      have : ∀ {n : Nat}, firstO (rowE t en) n = some a → a.2 ≠ 0 := by
        intro n
        induction n with
        | zero => intro q; cases q
        | succ n ih =>
          intro q
          unfold firstO at q
          cases e2 : firstO (rowE t en) n with
          | some b => rw [e2] at q; cases q; exact ih e2
          | none =>
            rw [e2] at q
            simp only at q
            unfold rowE at q
            split at q
            · cases q
            · split at q
              · cases q; simp
              · split at q
                · cases q; simp
                · cases q
      exact absurd h (this e)
  have hr : ∀ i (h : i < t.rows.length), ¬ rowBad t.rows[i] ⟨t.kk, t.ke⟩ ⟨t.vk, t.ve⟩ en ∧ ∀ p ∈ t.rows.take i, ¬ meetP p t.rows[i] := fun i hi => by
    have := firstO_no hO i hi
    unfold rowE at this
    rw [List.getElem?_eq_getElem hi] at this
    simp only at this
    split at this
    · cases this
    · rename_i q
      split at this
      · cases this
      · rename_i q2
        exact ⟨q, fun p m hm => q2 ⟨p, m, hm⟩⟩
  refine ⟨by omega, hv.1, hv.2, fun r m => ?_, pair_of_take fun i hi => (hr i hi).2⟩
  obtain ⟨i, hi, rfl⟩ := List.getElem_of_mem m
  exact (hr i hi).1
theorem tableE_no {t : TableL} {en : List EnumL} (h0 : t.rows.length ≤ 64) (h1 : validT ⟨t.kk, t.ke⟩ en.length) (h2 : validT ⟨t.vk, t.ve⟩ en.length) (h3 : ∀ r ∈ t.rows, ¬ rowBad r ⟨t.kk, t.ke⟩ ⟨t.vk, t.ve⟩ en) (h4 : t.rows.Pairwise (fun a b => ¬ meetP a b)) : (tableE t en).2 = 0 := by
  unfold tableE
  rw [if_neg (by omega), if_neg (by simp [h1, h2]), firstO_none]
  · rfl
  intro i hi
  unfold rowE
  rw [List.getElem?_eq_getElem hi]
  simp only
  rw [if_neg (h3 _ (List.getElem_mem hi)), if_neg]
  rintro ⟨p, m, hm⟩
  exact take_of_pair h4 i hi p m hm
theorem tableE_on {t : TableL} {en : List EnumL} {d : Int} (h : (tableE t en).2 = 0) : (tableE (tableOn d t) (en.map EnumL.bare)).2 = 0 := by
  obtain ⟨h0, h1, h2, h3, h4⟩ := tableE_zero h
  refine tableE_no ?_ (by rw [List.length_map]; exact h1) (by rw [List.length_map]; exact h2) (fun r m => ?_) ?_
  · have := List.length_filter_le (fun r => decide (onD d r.f r.t)) t.rows
    simp only [tableOn, List.length_map]; omega
  · obtain ⟨r0, m0, rfl⟩ := List.mem_map.1 m
    have k := h3 _ (List.mem_filter.1 m0).1
    unfold rowBad at k ⊢
    simp only [inT_bare]
    show ¬ (¬ validD 0 109573 ∨ (0 : Int) = 109573 ∨ r0.hi ≤ r0.lo ∨ ¬ inT r0.lo ⟨t.kk, t.ke⟩ en ∨ ¬ inT (IntKind.i64.wrap (r0.hi - 1)) ⟨t.kk, t.ke⟩ en ∨ ¬ inT r0.n ⟨t.vk, t.ve⟩ en)
    intro q
    rcases q with q | q | q
    · exact q (by unfold validD; omega)
    · omega
    · exact k (.inr (.inr q))
  · show ((t.rows.filter (fun r => decide (onD d r.f r.t))).map rowOn).Pairwise _
    rw [List.pairwise_map]
    have hf := List.Pairwise.filter (fun r : RowL => decide (onD d r.f r.t)) h4
    refine List.Pairwise.imp_of_mem ?_ hf
    intro a b ha hb hn hm
    have ka := of_decide_eq_true (List.mem_filter.1 ha).2
    have kb := of_decide_eq_true (List.mem_filter.1 hb).2
    obtain ⟨-, -, -, hm⟩ := hm
    exact hn ⟨ka.1, kb.1, by have := ka.2; have := kb.2; omega, hm⟩
theorem tableO_on {l : LawL} {d : Int} {i : Nat} (h : tableO isIdB l i = none) : tableO isIdB (lawOn d l) i = none := by
  unfold tableO at h ⊢
  have e1 : (lawOn d l).tables[i]? = (l.tables[i]?).map (tableOn d) := getE_map _ _ _
  have e2 : (lawOn d l).enums.map EnumL.name = l.enums.map EnumL.name := by show (l.enums.map EnumL.bare).map EnumL.name = _; rw [List.map_map]; rfl
  have e3 : ((lawOn d l).tables.take i).map TableL.name = (l.tables.take i).map TableL.name := by
    show ((l.tables.map (tableOn d)).take i).map TableL.name = _
    rw [← List.map_take, List.map_map]; rfl
  rw [e1, e2, e3]
  cases e : l.tables[i]? with
  | none => rfl
  | some t =>
    rw [e] at h
    obtain ⟨h1, h2⟩ := or_no h
    have hz : (tableE t l.enums).2 = 0 := by
      unfold rowsE at h2
      split at h2
      · assumption
      · split at h2 <;> cases h2
    show (nameE isIdB t.name _ 2 i).or (rowsE (tableOn d t) (l.enums.map EnumL.bare) i) = none
    rw [h1]
    unfold rowsE
    rw [if_pos (tableE_on hz)]; rfl
end Go.Fx.Tryz
set_option linter.unusedVariables false
set_option linter.unusedSimpArgs false
namespace Go.Fx.Tryz
open Go Go.Fm Go.Proofs
theorem numsL_succ (p : Int → Prop) (n : Nat) : numsL p (n + 1) = numsL p n ++ (if bp (p n) then [(n : Int)] else []) := by
  unfold numsL
  rw [List.range_succ, List.map_append, List.filter_append]
  cases e : bp (p n) <;> simp [e]
theorem numsL_cut {p : Int → Prop} : ∀ {n k : Nat} {i : Int}, (numsL p n)[k]? = some i → (numsL p n).take k = numsL p i.toNat ∧ 0 ≤ i ∧ i < n ∧ p i
  | 0, k, i, h => by simp [numsL] at h
  | n + 1, k, i, h => by
    rw [numsL_succ] at h ⊢
    by_cases hk : k < (numsL p n).length
    · rw [List.getElem?_append_left hk] at h
      obtain ⟨h1, h2, h3, h4⟩ := numsL_cut h
      exact ⟨by rw [List.take_append_of_le_length (by omega), h1], h2, by omega, h4⟩
    · rw [List.getElem?_append_right (by omega)] at h
      cases e : bp (p n) with
      | false => rw [e] at h; simp at h
      | true =>
        rw [e] at h
        simp only [if_true] at h
        have hk2 : k = (numsL p n).length := by
          cases q : k - (numsL p n).length with
          | zero => omega
          | succ m => rw [q] at h; simp at h
        subst hk2
        simp only [Nat.sub_self, List.getElem?_cons_zero, Option.some.injEq] at h
        subst h
        exact ⟨by simp, by omega, by omega, bp_iff.1 e⟩
theorem ruleAt_get {x : ScopeL} {j : Nat} (h : j < x.rules.length) : ruleAt x j = x.rules[j] := by
  unfold ruleAt; rw [Int.toNat_natCast, List.getElem?_eq_getElem h]; rfl
theorem kept_count {x : ScopeL} {p : Int → Prop} {d : Int} : ∀ {n : Nat}, n ≤ x.rules.length → (((numsL p n).map (ruleAt x)).filter (fun q => decide (q.d = d))).length ≤ ((x.rules.take n).filter (fun q => decide (q.d = d))).length
  | 0, _ => by simp [numsL]
  | n + 1, h => by
    have ih := kept_count (x := x) (p := p) (d := d) (n := n) (by omega)
    have hr := ruleAt_get (x := x) (j := n) (by omega)
    rw [numsL_succ, List.map_append, List.filter_append, List.length_append, List.take_succ_eq_append_getElem (by omega), List.filter_append, List.length_append]
    cases e : bp (p n) with
    | false => simp only [Bool.false_eq_true, if_false, List.map_nil, List.filter_nil, List.length_nil]; omega
    | true => simp only [if_true, List.map_cons, List.map_nil, hr]; omega
theorem namedE_iff {x : ScopeL} {j : Nat} {r : RuleL} : namedE isIdB x j r = 0 ↔ ¬ isIdB r.name = false ∧ (¬ ∃ q ∈ x.rules.take j, q.name = r.name) ∧ (0 ≤ r.d ∧ r.d < x.defs.length) ∧ ¬ (r.p < -1 ∨ (j : Int) ≤ r.p ∨ (0 ≤ r.p ∧ ((x.rules[r.p.toNat]?).map RuleL.d).getD 0 ≠ r.d)) := by
  unfold namedE
  by_cases a : isIdB r.name = false
  · rw [if_pos a]; exact ⟨fun h => by omega, fun h => absurd a h.1⟩
  rw [if_neg a]
  by_cases b : ∃ q ∈ x.rules.take j, q.name = r.name
  · rw [if_pos b]; exact ⟨fun h => by omega, fun h => absurd b h.2.1⟩
  rw [if_neg b]
  by_cases c : r.d < 0 ∨ (x.defs.length : Int) ≤ r.d
  · rw [if_pos c]; exact ⟨fun h => by omega, fun h => by have := h.2.2.1; omega⟩
  rw [if_neg c]
  by_cases e : r.p < -1 ∨ (j : Int) ≤ r.p ∨ (0 ≤ r.p ∧ ((x.rules[r.p.toNat]?).map RuleL.d).getD 0 ≠ r.d)
  · rw [if_pos e]; exact ⟨fun h => by omega, fun h => absurd e h.2.2.2⟩
  · rw [if_neg e]; exact ⟨fun _ => ⟨a, b, by omega, e⟩, fun _ => rfl⟩
theorem ruleE_iff {x : ScopeL} {j : Nat} {s : SigL} {r : RuleL} (hj : x.rules[j]? = some r) : ruleE isIdB x j s = 0 ↔ namedE isIdB x j r = 0 ∧ ¬ (r.pr < 0 ∨ 9 < r.pr ∨ r.f < 0 ∨ r.t ≤ r.f ∨ 109573 < r.t) ∧ ¬ 8 ≤ ((x.rules.take j).filter (fun q => decide (q.d = r.d))).length ∧ sourceP r.src ∧ (0 < r.guard.length → exprE r.guard s ⟨1, 0⟩ = 0) ∧ exprE r.value s (fieldAt x.defs r.d).ty = 0 := by
  unfold ruleE
  simp only [hj]
  by_cases a : namedE isIdB x j r = 0
  · rw [if_neg (by simpa using a)]
    by_cases b : (r.pr < 0 ∨ 9 < r.pr ∨ r.f < 0 ∨ r.t ≤ r.f ∨ 109573 < r.t)
    · rw [if_pos b]; exact ⟨fun h => by omega, fun h => absurd b h.2.1⟩
    rw [if_neg b]
    by_cases c : 8 ≤ ((x.rules.take j).filter (fun q => decide (q.d = r.d))).length
    · rw [if_pos c]; exact ⟨fun h => by omega, fun h => absurd c h.2.2.1⟩
    rw [if_neg c]
    by_cases e : sourceP r.src
    · rw [if_neg (by simpa using e)]
      by_cases g : 0 < r.guard.length ∧ exprE r.guard s ⟨1, 0⟩ ≠ 0
      · rw [if_pos g]; exact ⟨fun h => absurd h g.2, fun h => absurd (h.2.2.2.2.1 g.1) g.2⟩
      · rw [if_neg g]; exact ⟨fun h => ⟨a, b, c, e, fun q => Classical.byContradiction fun k => g ⟨q, k⟩, h⟩, fun h => h.2.2.2.2.2⟩
    · rw [if_pos e]; exact ⟨fun h => by omega, fun h => absurd h.2.2.2.1 e⟩
  · rw [if_pos a]; exact ⟨fun h => absurd h a, fun h => absurd h.1 a⟩
theorem anc_spec {x : ScopeL} {K : List Int} (hx : ∀ j (h : j < x.rules.length), namedE isIdB x j x.rules[j] = 0) (hK : ∀ i ∈ K, 0 ≤ i) : ∀ (n i : Nat), i < n → (h : i < x.rules.length) → ancZ x K i = -1 ∨ ∃ m : Nat, ∃ hm : m < K.length, ancZ x K i = m ∧ K[m].toNat < i ∧ (ruleAt x K[m]).d = x.rules[i].d ∧ ∀ y ∈ K.take m, y ≠ K[m]
  | n + 1, i, hi, h => by
    rw [ancZ, List.getElem?_eq_getElem h]
    simp only
    split
    · rename_i hp
      obtain ⟨-, -, -, h4⟩ := namedE_iff.1 (hx i h)
      have hd : ((x.rules[x.rules[i].p.toNat]?).map RuleL.d).getD 0 = x.rules[i].d := Classical.byContradiction fun k => h4 (.inr (.inr ⟨hp.1, k⟩))
      have hl : x.rules[i].p.toNat < x.rules.length := by omega
      rw [List.getElem?_eq_getElem hl] at hd
      rcases idxZ_cases (fun y => decide (x.rules[i].p = y)) K with ⟨h1, -⟩ | ⟨m, hm, h1, h2, h3⟩
      · rw [if_neg (by omega)]
        rcases anc_spec hx hK n x.rules[i].p.toNat (by omega) hl with k | ⟨m, hm, k1, k2, k3, k4⟩
        · exact .inl k
        · exact .inr ⟨m, hm, k1, by omega, k3.trans hd, k4⟩
      · have e := of_decide_eq_true h2
        rw [if_pos (by omega)]
        refine .inr ⟨m, hm, h1, by rw [← e]; exact hp.2, ?_, fun y hy => by have := h3 y hy; rw [← e]; exact fun k => of_decide_eq_false this k.symm⟩
        rw [← e]; unfold ruleAt; rw [List.getElem?_eq_getElem hl]; exact hd
    · exact .inl rfl
end Go.Fx.Tryz
set_option linter.unusedVariables false
set_option linter.unusedSimpArgs false
namespace Go.Fx.Tryz
open Go Go.Fm Go.Proofs
theorem ruleE_on {x : ScopeL} {d : Int} {s s' : SigL} (hS : SameS s s') (h : ∀ j, j < x.rules.length → ruleE isIdB x j s = 0) : ∀ k, k < (scopeOn d x).rules.length → ruleE isIdB (scopeOn d x) k s' = 0 := by
  intro k hk
  have hkK : k < (keptL x d).length := by simpa [scopeOn] using hk
  obtain ⟨c1, c2, c3, -⟩ := numsL_cut (List.getElem?_eq_getElem hkK)
  have hK : ∀ i ∈ keptL x d, 0 ≤ i ∧ i < x.rules.length := fun i m => (mem_numsL.1 m).1
  have hR : ∀ m (hm : m < (keptL x d).length), (scopeOn d x).rules[m]? = some (ruleOn (ruleAt x (keptL x d)[m]) (ancZ x (keptL x d) (keptL x d)[m].toNat)) := fun m hm => by
    show ((keptL x d).map _)[m]? = _
    rw [getE_map, List.getElem?_eq_getElem hm]; rfl
  have hT : (scopeOn d x).rules.take k = (numsL (keptP x d) (keptL x d)[k].toNat).map fun i => ruleOn (ruleAt x i) (ancZ x (keptL x d) i.toNat) := by
    show ((keptL x d).map _).take k = _
    rw [← List.map_take]; unfold keptL at c1 ⊢; rw [c1]
  have hA := anc_spec (K := keptL x d) (fun j hj => ((ruleE_iff (List.getElem?_eq_getElem hj)).1 (h j hj)).1) (fun i m => (hK i m).1)
  have hil : (keptL x d)[k].toNat < x.rules.length := by omega
  obtain ⟨n1, n2, n3, n4, n5, n6⟩ := (ruleE_iff (List.getElem?_eq_getElem hil)).1 (h _ hil)
  obtain ⟨m1, m2, m3, m4⟩ := namedE_iff.1 n1
  have hri : ruleAt x (keptL x d)[k] = x.rules[(keptL x d)[k].toNat] := by unfold ruleAt; rw [List.getElem?_eq_getElem hil]; rfl
  have hs : SSort (keptL x d) := ssort_numsL _ _
  refine (ruleE_iff (hR k hkK)).2 ⟨namedE_iff.2 ⟨?_, ?_, ?_, ?_⟩, ?_, ?_, ?_, ?_, ?_⟩
  all_goals rw [hri]
  · exact m1
  · rw [hT]
    rintro ⟨q, hq, e⟩
    obtain ⟨y, hy, rfl⟩ := List.mem_map.1 hq
    obtain ⟨hy1, -⟩ := mem_numsL.1 hy
    have hyl : y.toNat < x.rules.length := by omega
    have e2 : ruleAt x y = x.rules[y.toNat] := by unfold ruleAt; rw [List.getElem?_eq_getElem hyl]; rfl
    refine m2 ⟨x.rules[y.toNat], ?_, by rw [← e2]; exact e⟩
    have hyt : y.toNat < (x.rules.take (keptL x d)[k].toNat).length := by rw [List.length_take]; omega
    have e3 : (x.rules.take (keptL x d)[k].toNat)[y.toNat] = x.rules[y.toNat] := List.getElem_take
    rw [← e3]
    exact List.getElem_mem _
  · exact m3
  · have hp := hA _ _ (Nat.lt_succ_self _) hil
    show ¬ (ancZ x (keptL x d) (keptL x d)[k].toNat < -1 ∨ (k : Int) ≤ ancZ x (keptL x d) (keptL x d)[k].toNat ∨ (0 ≤ ancZ x (keptL x d) (keptL x d)[k].toNat ∧ _))
    rcases hp with hp | ⟨m, hm, hp, q1, q2, -⟩
    · rw [hp]; omega
    · have hmk : m < k := by
        refine Classical.byContradiction fun hc => ?_
        by_cases e : m = k
        · subst e; omega
        · have := List.pairwise_iff_getElem.1 hs k m hkK hm (by omega)
          omega
      rw [hp, show (ruleOn x.rules[(keptL x d)[k].toNat] (m : Int)).p.toNat = m from Int.toNat_natCast m, hR m hm]
      rintro (q | q | ⟨-, q⟩)
      · omega
      · omega
      · exact q q2
  · show ¬ (x.rules[(keptL x d)[k].toNat].pr < 0 ∨ 9 < x.rules[(keptL x d)[k].toNat].pr ∨ (0 : Int) < 0 ∨ (109573 : Int) ≤ 0 ∨ (109573 : Int) < 109573)
    omega
  · have hc := kept_count (x := x) (p := keptP x d) (d := x.rules[(keptL x d)[k].toNat].d) (n := (keptL x d)[k].toNat) (by omega)
    rw [hT]
    rw [List.filter_map, List.length_map] at hc ⊢
    exact fun h8 => n3 (Nat.le_trans h8 hc)
  · exact n4
  · intro g; rw [← hS.expr]; exact n5 g
  · rw [← hS.expr]; exact n6
theorem sig_on (l : LawL) (x : ScopeL) (d : Int) : SameS (sigOL l x) (sigOL (lawOn d l) (scopeOn d x)) where
  en := by simp [sigOL, lawOn]
  mem i := by
    show memN (l.enums.map EnumL.bare) i = memN ((l.enums.map EnumL.bare).map EnumL.bare) i
    rw [memN_bare (l.enums.map EnumL.bare)]
  tn := by simp [sigOL, lawOn]
  tk i := by
    show (tabAt (l.tables.map TableL.bare) i).kk = (tabAt ((l.tables.map (tableOn d)).map TableL.bare) i).kk ∧ (tabAt (l.tables.map TableL.bare) i).ke = (tabAt ((l.tables.map (tableOn d)).map TableL.bare) i).ke ∧ (tabAt (l.tables.map TableL.bare) i).vk = (tabAt ((l.tables.map (tableOn d)).map TableL.bare) i).vk ∧ (tabAt (l.tables.map TableL.bare) i).ve = (tabAt ((l.tables.map (tableOn d)).map TableL.bare) i).ve
    unfold tabAt
    simp only [List.getElem?_map]
    cases l.tables[i.toNat]? with
    | none => exact ⟨rfl, rfl, rfl, rfl⟩
    | some t => exact ⟨rfl, rfl, rfl, rfl⟩
  inp := rfl
  defs := rfl
  mems := by
    have e1 : hasMem (lawOn d l) (scopeOn d x) = hasMem l x := by simp [hasMem, lawOn, scopeOn]
    have e2 : (memOf (lawOn d l) (scopeOn d x)).defs = (memOf l x).defs := by
      unfold memOf
      show (if x.ms < 0 then zeroScope else ((l.scopes.map (scopeOn d))[x.ms.toNat]?).getD zeroScope).defs = _
      rw [getE_map]
      split
      · rfl
      · cases l.scopes[x.ms.toNat]? <;> rfl
    show (if hasMem l x then (memOf l x).defs.map FieldL.ty else []) = (if hasMem (lawOn d l) (scopeOn d x) then (memOf (lawOn d l) (scopeOn d x)).defs.map FieldL.ty else [])
    rw [e1, e2]
  has := by simp [sigOL, hasMem, lawOn, scopeOn]
theorem scopeE_iff {l : LawL} {i : Nat} {x : ScopeL} {s : SigL} : scopeE isIdB l i x s = none ↔ ¬ memBad l x i ∧ ¬ 12 < x.inputs.length ∧ ¬ 12 < x.defs.length ∧ fieldsE isIdB x.inputs [] l.enums.length i 100 = none ∧ fieldsE isIdB x.defs (x.inputs.map FieldL.name) l.enums.length i 200 = none ∧
    (∀ j, j < x.rules.length → ruleE isIdB x j s = 0) ∧ ∀ d : Nat, d < x.defs.length → ¬ (d : Int) ∈ transD x d := by
  constructor
  · intro h
    have hz := scopeE_no h
    unfold scopeE at h
    split at h
    · cases h
    split at h
    · cases h
    split at h
    · cases h
    obtain ⟨h1, h⟩ := or_no h
    obtain ⟨h2, -⟩ := or_no h
    exact ⟨by assumption, by assumption, by assumption, h1, h2, hz.2.1, hz.2.2⟩
  · rintro ⟨h1, h2, h3, h4, h5, h6, h7⟩
    unfold scopeE
    rw [if_neg h1, if_neg h2, if_neg h3, h4, h5, firstO_none, firstO_none]
    · rfl
    · intro j hj; unfold cycleO; rw [if_neg (h7 j hj)]
    · intro j hj; unfold ruleO; rw [if_pos (h6 j hj)]
theorem direct_on {x : ScopeL} {d a y : Int} (h : y ∈ directL (scopeOn d x) a) : y ∈ directL x a := by
  obtain ⟨h1, h2, r, hr, h3⟩ := mem_directL.1 h
  obtain ⟨i, hi, rfl⟩ := List.mem_map.1 hr
  obtain ⟨hi, -⟩ := mem_numsL.1 hi
  have hil : i.toNat < x.rules.length := by omega
  have e : ruleAt x i = x.rules[i.toNat] := by unfold ruleAt; rw [List.getElem?_eq_getElem hil]; rfl
  rw [e] at h3
  exact mem_directL.2 ⟨h1, h2, x.rules[i.toNat], List.getElem_mem _, h3⟩
theorem reach_on {x : ScopeL} {d a y : Int} (h : Go.Fm.Reach (directL (scopeOn d x)) a y) : Go.Fm.Reach (directL x) a y := by
  induction h with
  | one h => exact .one (direct_on h)
  | more _ h ih => exact .more ih (direct_on h)
theorem trans_on {x : ScopeL} {d a y : Int} (h : y ∈ transD (scopeOn d x) a) : y ∈ transD x a := by
  obtain ⟨h1, h2⟩ := mem_numsL.1 h
  exact mem_numsL.2 ⟨h1, reach_on h2⟩
theorem scopeE_on {l : LawL} {i : Nat} {x : ScopeL} {d : Int} (h : scopeE isIdB l i x (sigOL l x) = none) : scopeE isIdB (lawOn d l) i (scopeOn d x) (sigOL (lawOn d l) (scopeOn d x)) = none := by
  obtain ⟨h1, h2, h3, h4, h5, h6, h7⟩ := scopeE_iff.1 h
  have el : (lawOn d l).enums.length = l.enums.length := by simp [lawOn]
  refine scopeE_iff.2 ⟨?_, h2, h3, by rw [el]; exact h4, by rw [el]; exact h5, ruleE_on (sig_on l x d) h6, fun a ha hm => h7 a ha (trans_on hm)⟩
  unfold memBad at h1 ⊢
  show ¬ (x.ms ≠ -1 ∧ (x.ms < 0 ∨ (i : Int) ≤ x.ms ∨ (((l.scopes.map (scopeOn d))[x.ms.toNat]?).map ScopeL.ms).getD 0 ≠ -1))
  rw [getE_map, Option.map_map]
  exact h1
theorem lawOE_on {l : LawL} {d : Int} (h : lawOE l = none) : lawOE (lawOn d l) = none := by
  have e1 : (lawOn d l).enums.length = l.enums.length := by simp [lawOn]
  have e2 : (lawOn d l).tables.length = l.tables.length := by simp [lawOn]
  have e3 : (lawOn d l).scopes.length = l.scopes.length := by simp [lawOn]
  unfold lawOE at h ⊢
  rw [e1, e2, e3]
  split at h
  · cases h
  rename_i q1
  obtain ⟨a1, h⟩ := or_no h
  split at h
  · cases h
  rename_i q2
  obtain ⟨a2, h⟩ := or_no h
  split at h
  · cases h
  rename_i q3
  rw [if_neg q1, if_neg q2, if_neg q3, firstO_none, firstO_none, firstO_none]
  · rfl
  · intro i hi
    have hs := firstO_no h i hi
    unfold scopeOO at hs ⊢
    have g1 : (lawOn d l).scopes[i]? = (l.scopes[i]?).map (scopeOn d) := getE_map _ _ _
    have g2 : (lawOn d l).enums.map EnumL.name = l.enums.map EnumL.name := by show (l.enums.map EnumL.bare).map EnumL.name = _; rw [List.map_map]; rfl
    have g3 : (lawOn d l).tables.map TableL.name = l.tables.map TableL.name := by show (l.tables.map (tableOn d)).map TableL.name = _; rw [List.map_map]; rfl
    have g4 : ((lawOn d l).scopes.take i).map ScopeL.name = (l.scopes.take i).map ScopeL.name := by
      show ((l.scopes.map (scopeOn d)).take i).map ScopeL.name = _
      rw [← List.map_take, List.map_map]; rfl
    rw [g1, g2, g3, g4, List.getElem?_eq_getElem hi]
    rw [List.getElem?_eq_getElem hi] at hs
    obtain ⟨k1, k2⟩ := or_no hs
    show (nameE isIdB l.scopes[i].name _ 3 i).or _ = none
    rw [k1, scopeE_on k2]; rfl
  · exact fun i hi => tableO_on (firstO_no a2 i hi)
  · exact fun i hi => by rw [enumO_on]; exact firstO_no a1 i hi
end Go.Fx.Tryz
set_option linter.unusedVariables false
set_option linter.unusedSimpArgs false
namespace Go.Fx.Tryz
open Go Go.Fm Go.Proofs
theorem containsD_call {f t d : Int} : FCall Tryz.prog n_daterange_Contains [.agg [.int .i64 f, .int .i64 t], .int .i64 d] (· = .bool (decide (onD d f t))) := by
  refine FCall.walk u_daterange_Contains k_daterange_Contains rfl ?_
  unfold c_daterange_Contains
  simp only [go_sem, simprocAttr]
  refine FCallT.of (validDate_call) ?_
  rintro _ rfl
  simp only [go_sem, simprocAttr]
  have e : decide (onD d f t) = bp (onD d f t) := dec_bp
  rw [e]
  refine ⟨fun a => ⟨fun b => ?_, fun b => fbp_false fun k => b k.2.1⟩, fun a => fbp_false fun k => by rw [bp_true k.1] at a; cases a⟩
  rw [dec_bp]
  exact congrArg FV.bool (bp_congr ⟨fun c => ⟨bp_iff.1 a, b, c⟩, fun c => c.2.2⟩)
theorem anc_eq {x : ScopeL} {K : List Int} {j : Nat} (hj : j < x.rules.length) : ancZ x K j = if 0 ≤ x.rules[j].p ∧ x.rules[j].p.toNat < j then (if 0 ≤ idxZ (fun y => decide (x.rules[j].p = y)) K then idxZ (fun y => decide (x.rules[j].p = y)) K else ancZ x K x.rules[j].p.toNat) else -1 := by
  rw [ancZ, List.getElem?_eq_getElem hj]
  simp only
  split <;> rfl
theorem ancestor_call {x : ScopeL} {i : Nat} {K : List Int} {u : Bool} (hi : i < x.rules.length) (hn : x.rules.length < 2 ^ 60) (hK : K.length < 2 ^ 60) : FCall Tryz.prog n_effective_ancestor [.agg x.row, .int .i64 i, .sl u (ints K)] (· = .int .i64 (ancZ x K i)) := by
  refine FCall.walk u_effective_ancestor k_effective_ancestor rfl ?_
  unfold c_effective_ancestor
  simp only [go_sem, simprocAttr, ScopeL.row]
  refine FWT.upd [] (fun j : Nat => [(1, .int .i64 j)]) (fun j => j) (fun j => j < x.rules.length ∧ ancZ x K i = ancZ x K j) i rfl ⟨hi, rfl⟩ ?_
  rintro j ⟨hj, he⟩
  have hx := rulesV_get hj
  rw [anc_eq hj] at he
  have hc := fun u => indexI_call (l := K) (u := u) (s := x.rules[j].p) hK
  generalize hI : idxZ (fun y => decide (x.rules[j].p = y)) K = I at he hc
  simp only [go_sem, simprocAttr, Int.toNat_natCast, hx, RuleL.row]
  repeat' first
    | apply And.intro <;> intro h
    | ((first
      | (refine FCallT.of (hc _) ?_; rintro _ rfl)
      | refine detCall_of _ (hc _) ?_
      | refine detCallB_of _ (hc _) rfl ?_); simp only [go_sem, simprocAttr, Int.toNat_natCast, hx, RuleL.row])
  · rw [he, if_neg (by omega)]
  · rw [he, if_neg (by omega)]
  · rw [he, if_pos (by omega), if_pos (by assumption)]
  rw [if_pos (by omega), if_neg (by assumption)] at he
  refine ⟨x.rules[j].p.toNat, ?_, ⟨by omega, he⟩, by omega⟩
  rw [show ((x.rules[j].p.toNat : Nat) : Int) = x.rules[j].p by omega]
def rulesO (l : List RuleL) : List (List FV) := l.map fun r => [.str r.name, .int .i64 r.d, .int .i64 r.p, .int .i64 r.pr, .int .i64 r.f, .int .i64 r.t, .arr (nodesV r.guard), .arr (nodesV r.value), .str r.src]
def ScopeL.own (x : ScopeL) : List FV := [.str x.name, .int .i64 x.ms, .arr (fieldsV x.inputs), .arr (fieldsV x.defs), .arr (rulesO x.rules)]
@[go_sem] theorem rulesO_length (l : List RuleL) : (rulesO l).length = l.length := by simp [rulesO]
@[go_sem] theorem rowsOk_rulesO (l : List RuleL) : rowsOk 9 (rulesO l) = true := rowsOk_map (fun _ => rfl) l
theorem rulesO_snoc (l : List RuleL) (r : RuleL) : rulesO (l ++ [r]) = rulesO l ++ [[.str r.name, .int .i64 r.d, .int .i64 r.p, .int .i64 r.pr, .int .i64 r.f, .int .i64 r.t, .arr (nodesV r.guard), .arr (nodesV r.value), .str r.src]] := by simp [rulesO]
theorem scopeOn_call {x : ScopeL} {d : Int} (hs : x.mid) (hi : x.inputs.length < 2 ^ 40) : FCall Tryz.prog n_effective_scopeOn [.agg x.row, .int .i64 d] (· = .agg (ScopeL.own (scopeOn d x))) := by
  have hr := hs.2.1
  refine FCall.walk u_effective_scopeOn k_effective_scopeOn rfl ?_
  unfold c_effective_scopeOn
  simp only [go_sem, simprocAttr, ScopeL.row]
  refine FWT.count [] x.rules.length (fun i => [(5, .arr (ints (numsL (keptP x d) i))), (15, .int .i64 i)]) (fun _ => True) rfl trivial ?_
  intro i hi2 _
  by_cases h : i < x.rules.length
  · have hx := rulesV_get h
    have hk : keptP x d i ↔ onD d x.rules[i].f x.rules[i].t := by
      unfold keptP
      rw [Int.toNat_natCast, List.getElem?_eq_getElem h]
      exact ⟨fun ⟨r, hr, hp⟩ => by cases hr; exact hp, fun hp => ⟨_, rfl, hp⟩⟩
    simp only [go_sem, simprocAttr, ltT h, Int.toNat_natCast, hx, RuleL.row]
    repeat' first
      | apply And.intro <;> intro h
      | ((first
        | (refine FCallT.of (containsD_call (f := x.rules[i].f) (t := x.rules[i].t) (d := d)) ?_; rintro _ rfl)
        | refine detCall_of _ (containsD_call (f := x.rules[i].f) (t := x.rules[i].t) (d := d)) ?_
        | refine detCallB_of _ (containsD_call (f := x.rules[i].f) (t := x.rules[i].t) (d := d)) rfl ?_); simp only [go_sem, simprocAttr])
    · have := numsL_length (keptP x d) i
      refine ⟨by omega, ?_, by assumption⟩
      rw [w64s (by omega), numsL_succ, bp_true (hk.2 (by assumption)), if_pos rfl, ints_snoc]
    · refine ⟨?_, by assumption⟩
      rw [w64s (by omega), numsL_succ, bp_false (fun q => absurd (hk.1 q) (by assumption)), if_neg (by simp), List.append_nil]
  obtain rfl : i = x.rules.length := by omega
  simp only [go_sem, simprocAttr, ltF h]
  have hKl : (keptL x d).length ≤ x.rules.length := numsL_length _ _
  rw [show numsL (keptP x d) x.rules.length = keptL x d from rfl]
  refine FWT.count [] (keptL x d).length (fun k => [(8, .arr (rulesO (((keptL x d).take k).map fun i => ruleOn (ruleAt x i) (ancZ x (keptL x d) i.toNat)))), (31, .int .i64 k)]) (fun _ => True) rfl trivial ?_
  intro k hk _
  by_cases h2 : k < (keptL x d).length
  · have hz := (mem_numsL.1 (List.getElem_mem h2 : (keptL x d)[k] ∈ keptL x d)).1
    have hsn := List.take_succ_eq_append_getElem h2
    have hy := ints_get h2
    obtain ⟨j, hj⟩ : ∃ j : Nat, (keptL x d)[k] = j := ⟨_, (Int.toNat_of_nonneg hz.1).symm⟩
    rw [hj] at hz hy hsn
    have hjl : j < x.rules.length := by omega
    have hx := rulesV_get hjl
    have hrm := hs.2.2 _ (List.getElem_mem hjl)
    have ha := fun u => ancestor_call (x := x) (i := j) (K := keptL x d) (u := u) hjl (by omega) (by omega)
    simp only [ScopeL.row] at ha
    simp only [go_sem, simprocAttr, ltT h2, Int.toNat_natCast, hy, hx, RuleL.row]
    repeat' first
      | apply And.intro <;> intro h
      | ((first
        | (refine FCallT.of (ha _) ?_; rintro _ rfl)
        | refine detCall_of _ (ha _) ?_
        | refine detCallB_of _ (ha _) rfl ?_
        | (refine FCallT.of (cloneNode_call (xs := x.rules[j].guard) (by omega)) ?_; rintro _ rfl)
        | refine detCall_of _ (cloneNode_call (xs := x.rules[j].guard) (by omega)) ?_
        | refine detCallB_of _ (cloneNode_call (xs := x.rules[j].guard) (by omega)) rfl ?_
        | (refine FCallT.of (cloneNode_call (xs := x.rules[j].value) (by omega)) ?_; rintro _ rfl)
        | refine detCall_of _ (cloneNode_call (xs := x.rules[j].value) (by omega)) ?_
        | refine detCallB_of _ (cloneNode_call (xs := x.rules[j].value) (by omega)) rfl ?_); simp only [go_sem, simprocAttr, Int.toNat_natCast, hx, RuleL.row])
    have hri := ruleAt_get hjl
    refine ⟨by rw [List.length_map, List.length_take]; omega, ?_, h2⟩
    rw [w64s (by omega), hsn, List.map_append, List.map_cons, List.map_nil, rulesO_snoc, hri]
    rfl
  obtain rfl : k = (keptL x d).length := by omega
  simp only [go_sem, simprocAttr, ltF h2]
  have hd := hs.1
  repeat' first
    | apply And.intro <;> intro h
    | ((first
      | (refine FCallT.of (cloneField_call (xs := x.inputs) hi) ?_; rintro _ rfl)
      | refine detCall_of _ (cloneField_call (xs := x.inputs) hi) ?_
      | refine detCallB_of _ (cloneField_call (xs := x.inputs) hi) rfl ?_
      | (refine FCallT.of (cloneField_call (xs := x.defs) (by omega)) ?_; rintro _ rfl)
      | refine detCall_of _ (cloneField_call (xs := x.defs) (by omega)) ?_
      | refine detCallB_of _ (cloneField_call (xs := x.defs) (by omega)) rfl ?_); simp only [go_sem, simprocAttr])
  rw [List.take_length]
  rfl
end Go.Fx.Tryz
set_option linter.unusedVariables false
set_option linter.unusedSimpArgs false
namespace Go.Fx.Tryz
open Go Go.Fm Go.Proofs
def accV (r : List (List FV)) : FV := if r.isEmpty then .sl true [] else .arr r
theorem accV_cases (r : List (List FV)) : (accV r = .sl true [] ∧ r = []) ∨ accV r = .arr r := by
  cases r with
  | nil => exact .inl ⟨rfl, rfl⟩
  | cons a l => exact .inr rfl
theorem accV_snoc (r : List (List FV)) (x : List FV) : accV (r ++ [x]) = .arr (r ++ [x]) := by cases r <;> rfl
def scopesO (l : List ScopeL) : List (List FV) := l.map ScopeL.own
@[go_sem] theorem scopesO_length (l : List ScopeL) : (scopesO l).length = l.length := by simp [scopesO]
@[go_sem] theorem rowsOk_scopesO (l : List ScopeL) : rowsOk 5 (scopesO l) = true := rowsOk_map (fun _ => rfl) l
theorem scopesO_snoc (l : List ScopeL) (x : ScopeL) : scopesO (l ++ [x]) = scopesO l ++ [ScopeL.own x] := by simp [scopesO]
theorem rowsV_snoc (l : List RowL) (x : RowL) : rowsV (l ++ [x]) = rowsV l ++ [x.row] := by simp [rowsV]
theorem lawOn_call {l : LawL} {d : Int} (hl : l.sane) : FCall Tryz.prog n_effective_LawOn [.agg l.row, .int .i64 d] (· = .agg [accV (enumsO l.enums), accV (tablesO (l.tables.map (tableOn d))), accV (scopesO (l.scopes.map (scopeOn d)))]) := by
  have b1 := hl.e1
  have b2 := hl.t1
  have b3 := hl.s1
  refine FCall.walk u_effective_LawOn k_effective_LawOn rfl ?_
  unfold c_effective_LawOn
  simp only [go_sem, simprocAttr, LawL.row]
  refine FWT.count [] l.enums.length (fun i => [(5, .box [accV (enumsO (l.enums.take i)), .sl true [], .sl true []]), (18, .int .i64 i)]) (fun _ => True) rfl trivial ?_
  intro i hi _
  by_cases h : i < l.enums.length
  · have hx := Go.Fm.enumsV_get h
    have hs := List.take_succ_eq_append_getElem h
    rw [hs, enumsO_snoc, accV_snoc]
    have hc := fun u => cloneStr_call (xs := l.enums[i].members) (u := u) (hl.e2 _ (List.getElem_mem h)).2.1
    have hlen : (enumsO (l.enums.take i)).length ≤ i := by rw [enumsO_length, List.length_take]; omega
    have hok := rowsOk_enumsO (l.enums.take i)
    rcases accV_cases (enumsO (l.enums.take i)) with ⟨e, e2⟩ | e
    · rw [e, e2]
      simp only [go_sem, simprocAttr, ltT h, Int.toNat_natCast, hx, EnumL.row]
      repeat' first
        | apply And.intro <;> intro h
        | ((first
          | (refine FCallT.of (hc _) ?_; rintro _ rfl)
          | refine detCall_of _ (hc _) ?_
          | refine detCallB_of _ (hc _) rfl ?_); simp only [go_sem, simprocAttr])
      exact ⟨by rw [w64s (by omega)]; rfl, h⟩
    · rw [e]
      simp only [go_sem, simprocAttr, ltT h, Int.toNat_natCast, hx, EnumL.row]
      repeat' first
        | apply And.intro <;> intro h
        | ((first
          | (refine FCallT.of (hc _) ?_; rintro _ rfl)
          | refine detCall_of _ (hc _) ?_
          | refine detCallB_of _ (hc _) rfl ?_); simp only [go_sem, simprocAttr])
      exact ⟨by rw [List.length_take]; omega, by rw [w64s (by omega)]; rfl, h⟩
  obtain rfl : i = l.enums.length := by omega
  simp only [go_sem, simprocAttr, ltF h]
  rw [List.take_length]
  refine FWT.count [] l.tables.length (fun i => [(5, .box [accV (enumsO l.enums), accV (tablesO ((l.tables.take i).map (tableOn d))), .sl true []]), (37, .int .i64 i)]) (fun _ => True) rfl trivial ?_
  intro i hi _
  by_cases h : i < l.tables.length
  · have hx := tablesV_get h
    have hs := List.take_succ_eq_append_getElem h
    have hrl := (hl.t2 _ (List.getElem_mem h)).2
    rw [hs, List.map_append, List.map_cons, List.map_nil, tablesO_snoc, accV_snoc]
    have hlen : (l.tables.take i).length ≤ i := by rw [List.length_take]; omega
    simp only [go_sem, simprocAttr, ltT h, Int.toNat_natCast, hx, TableL.row]
    refine FWT.count [] l.tables[i].rows.length (fun j => [(10, .arr (rowsV (((l.tables[i].rows.take j).filter (fun r => decide (onD d r.f r.t))).map rowOn))), (44, .int .i64 j)]) (fun _ => True) rfl trivial ?_
    intro j hj _
    by_cases h2 : j < l.tables[i].rows.length
    · have hy := rowsV_get h2
      have hf := filter_take_succ (p := fun r : RowL => decide (onD d r.f r.t)) h2
      simp only [go_sem, simprocAttr, ltT h2, Int.toNat_natCast, hy, RowL.row]
      repeat' first
        | apply And.intro <;> intro h
        | ((first
          | (refine FCallT.of (containsD_call (f := l.tables[i].rows[j].f) (t := l.tables[i].rows[j].t) (d := d)) ?_; rintro _ rfl)
          | refine detCall_of _ (containsD_call (f := l.tables[i].rows[j].f) (t := l.tables[i].rows[j].t) (d := d)) ?_
          | refine detCallB_of _ (containsD_call (f := l.tables[i].rows[j].f) (t := l.tables[i].rows[j].t) (d := d)) rfl ?_); simp only [go_sem, simprocAttr])
      · have := List.length_filter_le (fun r : RowL => decide (onD d r.f r.t)) (l.tables[i].rows.take j)
        rw [List.length_take] at this
        refine ⟨by rw [List.length_map]; omega, ?_, h2⟩
        rw [w64s (by omega), hf, if_pos (decide_eq_true (by assumption)), List.map_append, List.map_cons, List.map_nil, rowsV_snoc]
        rfl
      · refine ⟨?_, h2⟩
        rw [w64s (by omega), hf, if_neg (by simpa using ‹¬ onD d _ _›), List.append_nil]
    obtain rfl : j = l.tables[i].rows.length := by omega
    rcases accV_cases (tablesO ((l.tables.take i).map (tableOn d))) with ⟨e, e2⟩ | e
    · rw [e, e2]
      simp only [go_sem, simprocAttr, ltF h2]
      exact ⟨by rw [w64s (by omega), List.take_length]; rfl, h⟩
    · rw [e]
      simp only [go_sem, simprocAttr, ltF h2]
      exact ⟨by rw [List.length_map]; omega, by rw [w64s (by omega), List.take_length]; rfl, h⟩
  obtain rfl : i = l.tables.length := by omega
  simp only [go_sem, simprocAttr, ltF h]
  rw [List.take_length]
  refine FWT.count [] l.scopes.length (fun i => [(5, .box [accV (enumsO l.enums), accV (tablesO (l.tables.map (tableOn d))), accV (scopesO ((l.scopes.take i).map (scopeOn d)))]), (71, .int .i64 i)]) (fun _ => True) rfl trivial ?_
  intro i hi _
  by_cases h : i < l.scopes.length
  · have hx := scopesV_get h
    have hs := List.take_succ_eq_append_getElem h
    obtain ⟨-, s1, s2, -⟩ := hl.s2 _ (List.getElem_mem h)
    rw [hs, List.map_append, List.map_cons, List.map_nil, scopesO_snoc, accV_snoc]
    have hlen : (l.scopes.take i).length ≤ i := by rw [List.length_take]; omega
    have hc := scopeOn_call (d := d) s2 (by omega)
    simp only [ScopeL.row, ScopeL.own] at hc
    rcases accV_cases (scopesO ((l.scopes.take i).map (scopeOn d))) with ⟨e, e2⟩ | e
    · rw [e, e2]
      simp only [go_sem, simprocAttr, ltT h, Int.toNat_natCast, hx, ScopeL.row]
      repeat' first
        | apply And.intro <;> intro h
        | ((first
          | (refine FCallT.of (hc) ?_; rintro _ rfl)
          | refine detCall_of _ (hc) ?_
          | refine detCallB_of _ (hc) rfl ?_); simp only [go_sem, simprocAttr])
      exact ⟨by rw [w64s (by omega)]; rfl, h⟩
    · rw [e]
      simp only [go_sem, simprocAttr, ltT h, Int.toNat_natCast, hx, ScopeL.row]
      repeat' first
        | apply And.intro <;> intro h
        | ((first
          | (refine FCallT.of (hc) ?_; rintro _ rfl)
          | refine detCall_of _ (hc) ?_
          | refine detCallB_of _ (hc) rfl ?_); simp only [go_sem, simprocAttr])
      exact ⟨by rw [List.length_map]; omega, by rw [w64s (by omega)]; rfl, h⟩
  obtain rfl : i = l.scopes.length := by omega
  simp only [go_sem, simprocAttr, ltF h]
  rw [List.take_length]
  refine ⟨?_, rfl⟩
  rcases accV_cases (enumsO l.enums) with ⟨e, -⟩ | e <;> rcases accV_cases (tablesO (l.tables.map (tableOn d))) with ⟨f, -⟩ | f <;> rcases accV_cases (scopesO (l.scopes.map (scopeOn d))) with ⟨g, -⟩ | g <;> rw [e, f, g] <;> rfl
end Go.Fx.Tryz
set_option linter.unusedVariables false
set_option linter.unusedSimpArgs false
namespace Go.Fx.Tryz
open Go Go.Fm Go.Proofs
theorem sealed_acc {α : Type} {f g : α → List FV} (h : ∀ x, sealedL (f x) = g x) (l : List α) : (accV (l.map f)).sealed = .sl l.isEmpty (l.map g) := by
  cases l with
  | nil => rfl
  | cons a l =>
    show FV.sl false (sealedLL ((a :: l).map f)) = _
    rw [sealedLL_map h]; rfl
theorem sealed_rulesOn (f : Int → RuleL) (p : Int → Int) : ∀ l : List Int, sealedLL (rulesO (l.map fun i => ruleOn (f i) (p i))) = rulesV (l.map fun i => ruleOn (f i) (p i)) := fun l => by
  unfold rulesO rulesV
  rw [List.map_map, List.map_map]
  exact sealedLL_map (fun i => by simp only [Function.comp, ruleOn, RuleL.row, sealedL, FV.sealed, sealed_nodesV]) l
theorem acc_enums (l : List EnumL) : (accV (enumsO l)).sealed = .sl l.isEmpty (enumsV (l.map EnumL.bare)) := by
  unfold enumsO enumsV
  rw [List.map_map]
  exact sealed_acc (fun x => by simp only [EnumL.own, sealedL, FV.sealed, sealed_strs]; rfl) l
theorem acc_tables (d : Int) (l : List TableL) : (accV (tablesO (l.map (tableOn d)))).sealed = .sl l.isEmpty (tablesV (l.map (tableOn d))) := by
  unfold tablesO tablesV
  rw [List.map_map, List.map_map]
  exact sealed_acc (fun x => by simp only [Function.comp, TableL.own, sealedL, FV.sealed, sealed_rowsV]; rfl) l
theorem acc_scopes (d : Int) (l : List ScopeL) : (accV (scopesO (l.map (scopeOn d)))).sealed = .sl l.isEmpty (scopesV (l.map (scopeOn d))) := by
  unfold scopesO scopesV
  rw [List.map_map, List.map_map]
  exact sealed_acc (fun x => by
    have e := sealed_rulesOn (ruleAt x) (fun i => ancZ x (keptL x d) i.toNat) (keptL x d)
    simp only [Function.comp, ScopeL.own, scopeOn, ScopeL.row, sealedL, FV.sealed, sealed_fieldsV, e]) l
theorem sane_on {l : LawL} {d : Int} (h : l.sane) : (lawOn d l).sane where
  e1 := by simp only [lawOn, List.length_map]; exact h.e1
  e2 := fun e m => by
    obtain ⟨e, m2, rfl⟩ := List.mem_map.1 m
    exact h.e2 e m2
  t1 := by simp only [lawOn, List.length_map]; exact h.t1
  t2 := fun t m => by
    obtain ⟨t, m2, rfl⟩ := List.mem_map.1 m
    have h2 := h.t2 t m2
    have := List.length_filter_le (fun r : RowL => decide (onD d r.f r.t)) t.rows
    refine ⟨h2.1, ?_⟩
    simp only [tableOn, List.length_map]; omega
  s1 := by simp only [lawOn, List.length_map]; exact h.s1
  s2 := fun x m => by
    obtain ⟨x, m2, rfl⟩ := List.mem_map.1 m
    obtain ⟨s1, s2, s3, s4, s5, s6⟩ := h.s2 x m2
    have hr : ∀ r ∈ (scopeOn d x).rules, ∃ q ∈ x.rules, r.name = q.name ∧ r.src = q.src ∧ r.guard = q.guard ∧ r.value = q.value := fun r hr => by
      obtain ⟨i, hi, rfl⟩ := List.mem_map.1 hr
      obtain ⟨hi, -⟩ := mem_numsL.1 hi
      have hil : i.toNat < x.rules.length := by omega
      have e : ruleAt x i = x.rules[i.toNat] := by unfold ruleAt; rw [List.getElem?_eq_getElem hil]; rfl
      exact ⟨_, List.getElem_mem hil, by rw [← e]; exact ⟨rfl, rfl, rfl, rfl⟩⟩
    have hk : (keptL x d).length ≤ x.rules.length := numsL_length _ _
    refine ⟨s1, s2, ⟨s3.1, ?_, fun r m => ?_⟩, s4, s5, fun r m => ?_⟩
    · have := s3.2.1; simp only [scopeOn, List.length_map]; omega
    · obtain ⟨q, hq, -, -, e1, e2⟩ := hr r m
      rw [e1, e2]; exact s3.2.2 q hq
    · obtain ⟨q, hq, e1, e2, e3, e4⟩ := hr r m
      rw [e1, e2, e3, e4]; exact s6 q hq
theorem law_ondate {l : LawL} {d : Int} (hr : ∀ t ∈ l.tables, t.rows.length < 2 ^ 60) (hu : ∀ s ∈ l.scopes, s.rules.length < 2 ^ 60) (hl : l.sane)
    (ha : FCall Tryz.prog n_law17_awake [] (· = .bool true)) : FCall Tryz.prog n_law17_LawOnDateValid [.agg l.row, .int .i64 d] (· = .bool true) := by
  have f1 := validate_call hl
  have f2 := validate_call (sane_on (d := d) hl)
  have f3 := lawOn_call (d := d) hl
  refine FCall.walk u_law17_LawOnDateValid k_law17_LawOnDateValid rfl ?_
  unfold c_law17_LawOnDateValid
  simp only [go_sem, simprocAttr, LawL.row]
  refine FCallT.of (smallLaw_call (l := l) hr hu) ?_
  rintro _ rfl
  simp only [go_sem, simprocAttr]
  repeat' first
    | apply And.intro <;> intro h
    | ((first
      | (refine FCallT.of (f1) ?_; rintro _ rfl)
      | refine detCall_of _ (f1) ?_
      | refine detCallB_of _ (f1) rfl ?_
      | (refine FCallT.of (ha) ?_; rintro _ rfl)
      | refine detCall_of _ (ha) ?_
      | refine detCallB_of _ (ha) rfl ?_); simp only [go_sem, simprocAttr, LawL.row])
  have hE : lawOE l = none := errQ_zero lawOE_ok (by
    have h := ‹(_ && _) = true›
    simp only [Bool.and_eq_true, decide_eq_true_eq] at h
    exact h.1)
  rw [lawOE_on hE] at f2
  simp only [lawOn, LawL.row] at f2
  refine FCallT.of (f3) ?_
  rintro _ rfl
  simp only [go_sem, simprocAttr, acc_enums, acc_tables, acc_scopes, enumsO_length, tablesO_length, scopesO_length]
  repeat' first
    | apply And.intro <;> intro h
    | ((first
      | (refine FCallT.of (f2) ?_; rintro _ rfl)
      | refine detCall_of _ (f2) ?_
      | refine detCallB_of _ (f2) rfl ?_
      | (refine FCallT.of (ha) ?_; rintro _ rfl)
      | refine detCall_of _ (ha) ?_
      | refine detCallB_of _ (ha) rfl ?_); simp only [go_sem, simprocAttr, acc_enums, acc_tables, acc_scopes])
  simp at h
end Go.Fx.Tryz
set_option linter.unusedVariables false
set_option linter.unusedSimpArgs false
namespace Go.Fx.Tryz
open Go Go.Fm Go.Proofs
theorem hc_law17_LawOnDateValid : ∀ fs, ArgsHave 1048576 [(true, ty_Law), (false, .int .i64)] fs → FCall Tryz.prog n_law17_LawOnDateValid fs (· = .bool true) := by
  rintro _ ⟨_, _, rfl, ⟨_, rfl, h0⟩, _, _, rfl, h1, rfl⟩
  obtain ⟨l, rfl, hl⟩ := has_Law _ h0
  obtain ⟨n, h1, hn⟩ := has_Int (B := 1048576) _ h1
  obtain rfl := (List.cons.inj h1).1
  obtain ⟨b1, b2, b3, b4, b5, b6⟩ := hl
  refine law_ondate (fun t m => by have := (b4 t m).2.2.2.2.2.1; omega) (fun s m => by have := (b6 s m).2.2.2.2.2.2.1; omega) ?_ awake
  refine ⟨by omega, fun e m => ?_, by omega, fun t m => ?_, by omega, fun x m => ?_⟩
  · obtain ⟨c1, c2, c3⟩ := b2 e m
    exact ⟨by omega, by omega, fun s k => by have := c3 s k; omega⟩
  · obtain ⟨c1, -, -, -, -, c2, -⟩ := b4 t m
    exact ⟨by omega, by omega⟩
  · obtain ⟨c1, -, c3, c4, c5, c6, c7, c8⟩ := b6 x m
    refine ⟨by omega, by omega, ⟨c5, c7, fun r k => ?_⟩, fun f k => by have := (c4 f k).1; omega, fun f k => by have := (c6 f k).1; omega, fun r k => ?_⟩
    · obtain ⟨-, -, -, -, -, -, d1, -, d2, -⟩ := c8 r k
      exact ⟨d1, d2⟩
    · obtain ⟨d0, -, -, -, -, -, -, d1, -, d2, d3⟩ := c8 r k
      exact ⟨by omega, by omega, fun n q => (d1 n q).2, fun n q => (d2 n q).2⟩
end Go.Fx.Tryz
set_option linter.unusedVariables false
set_option linter.unusedSimpArgs false
namespace Go.Fx.Tryz
open Go Go.Fm Go.Proofs Go.Proofs.YtdjbhceoodcphaaGreat
open Go.ChangeShapes Go.WideShapes Go.ChangeAt Go.RowKit
theorem tys_law17_LawOnDateValid : argTys Tryz.prog 12 Go.Proofs.Tryz.f8.params.toList = some [(true, ty_Law), (false, .int .i64)] := by kernel_rfl
set_option maxRecDepth 100000 in
theorem contract_law17_LawOnDateValid (H : Type) (enc : TypeId × Value → H) (W : World) (base : Nat) (args : Array Value) (ds gs : List (DataW H)) (before : List MemPlace)
    (hval : ∀ (j : Nat) t v, Go.Proofs.Tryz.f8.params[j]? = some t → args[j]? = some v → Value.okWide Tryz.prog W .any base t v)
    (hW : DataW.Whole enc Tryz.prog Go.Proofs.Tryz.f8.params.toList Rows.lawOnDateValidSpec.vars false W args.toList ds gs before) (hk : Rows.uptoSmall H (ds ++ gs) = true)
    (hL : laidMet Tryz.prog Rows.lawOnDateValidRow.laid W) (hS : W.ShapedOpen Tryz.prog) :
    Calls Tryz.prog 8 args W fun e W' => ∃ v, e = .returned v ∧ Rows.lawOnDateValidSpec.post enc Tryz.prog Go.Proofs.Tryz.f8 false true false false W args v W' :=
  row_all (tb := 4) bnd laidOut rfl (by kernel_rfl) tys_law17_LawOnDateValid (fun ds h => by match ds, h with | [_, _], _ => rfl) (by kernel_rfl) Tryz.underlying4 hc_law17_LawOnDateValid hval hW (fun d m => bulk_of hk m) (ambHere hL hS)
noncomputable def laidWorld_law17_LawOnDateValid (os : Os) : World := Rows.lawOnDateValidRow.laid.foldr layAt (World.holding Tryz.prog os ⟨#[], #[], []⟩)
theorem laid_law17_LawOnDateValid (os : Os) : laidMet Tryz.prog Rows.lawOnDateValidRow.laid ((laidWorld_law17_LawOnDateValid os).forCall (fun _ _ => 0) ⟨#[], #[Value.agg #[.slice none 0 0, .slice none 0 0, .slice none 0 0], Value.int .i64 0], []⟩).memory :=
  laidMet_of_run' 8 (by kernel_rfl) (by kernel_rfl)
theorem reads_law17_LawOnDateValid (os : Os) {H : Type} (enc : TypeId × Value → H) : ∃ places, DataW.whole enc Tryz.prog ((laidWorld_law17_LawOnDateValid os).forCall (fun _ _ => 0) ⟨#[], #[Value.agg #[.slice none 0 0, .slice none 0 0, .slice none 0 0], Value.int .i64 0], []⟩).memory Go.Proofs.Tryz.f8.params.toList Rows.lawOnDateValidSpec.vars false (#[Value.agg #[.slice none 0 0, .slice none 0 0, .slice none 0 0], Value.int .i64 0] : Array Value).toList 8 = some ([.agg [.nil, .nil, .nil], .lit (.int .i64 0)], [], places) :=
  ⟨[], by kernel_rfl⟩
set_option maxRecDepth 100000 in
theorem lifted_law17_LawOnDateValid (os : Os) (started : os.Started) (H : Type) (enc : TypeId × Value → H) (F : Stop.Interp) :
    ReturnsInHanded {} Tryz.checked os 8 .any ((Rows.OpenSpec.upto Rows.lawOnDateValidSpec).preRow enc Tryz.prog Go.Proofs.Tryz.f8 Rows.lawOnDateValidUptoRow.domain false Rows.lawOnDateValidUptoRow.laid) (((Rows.OpenSpec.upto Rows.lawOnDateValidSpec).at F).post enc Tryz.prog Go.Proofs.Tryz.f8 false true false false) := by
  obtain ⟨places, hx⟩ := reads_law17_LawOnDateValid os enc
  refine returnsInHanded_of_row (C := Tryz.checked) (s := Rows.OpenSpec.upto Rows.lawOnDateValidSpec) own started (by kernel_rfl) Tryz.func8
    (witness_row_at (enc := enc) (C := Tryz.checked) false (laidWorld_law17_LawOnDateValid os) #[Value.agg #[.slice none 0 0, .slice none 0 0, .slice none 0 0], Value.int .i64 0] rfl (by kernel_rfl) (by kernel_rfl) (by kernel_rfl)
      (OpenSpec.preRow_of_cond 8 hx (by kernel_rfl) (fun k hk => by cases hk; kernel_rfl) (by kernel_rfl) (laid_law17_LawOnDateValid os))) ?_
  intro W base args ds gs before hval hW _ hcond _ hL hS _
  exact contract_law17_LawOnDateValid H enc W base args ds gs before hval hW (hcond _ rfl) hL hS
theorem said_law17_LawOnDateValid : Rows.LawOnDateValidUptoSaid :=
  OpenClaim.holds_of_cond 8 Go.Proofs.Tryz.f8 rfl rfl rfl rfl rfl rfl rfl ⟨rfl, rfl, rfl, rfl, rfl⟩ rfl rfl rfl rfl rfl (by kernel_rfl) Tryz.func8 (by kernel_rfl)
    (of_decide_eq_true (by kernel_rfl)) (by unfold Func.isWrapper; first | (rw [if_pos (by decide +kernel)]; kernel_rfl) | (rw [if_neg (by decide +kernel)]; exact ⟨rfl, rfl⟩))
    (fun os started H enc _ F => by rw [OpenClaim.pre_eq_preRow]; exact lifted_law17_LawOnDateValid os started H enc F)
end Go.Fx.Tryz
