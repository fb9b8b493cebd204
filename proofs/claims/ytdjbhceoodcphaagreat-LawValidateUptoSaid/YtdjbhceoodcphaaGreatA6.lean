/- Part of a proof: see the last text of the claim. -/
import Derived.Test.YtdjbhceoodcphaaGreatA5
import Derived.Test.YtdjbhceoodcphaaGreatA4
import Derived.Lib.IndexMore
import Derived.Test.YtdjbhceoodcphaaGreatRows
set_option linter.unusedVariables false
set_option linter.unusedSimpArgs false
namespace Go.Fx.Tryz
open Go Go.Fm Go.Proofs
def shV (u : Bool) (l : List (List FV)) : FV := if u then .sl false l else .arr l
structure InR (n : Nat) (l : List Int) : Prop where
  so : SSort l
  lt : ∀ x ∈ l, 0 ≤ x ∧ x < n
theorem InR.len {n : Nat} {l : List Int} (h : InR n l) : l.length ≤ n := ssort_bound (lo := 0) h.so fun x hx => by have := h.lt x hx; omega
theorem InR.ins {n : Nat} {l : List Int} {x : Int} (h : InR n l) (hx : 0 ≤ x ∧ x < n) : InR n (insZ x l) := ⟨ssort_insZ h.so, fun y hy => by
  rcases mem_insZ.1 hy with rfl | hy
  · exact hx
  · exact h.lt y hy⟩
theorem InR.insl {n : Nat} : ∀ {d l : List Int}, InR n l → (∀ x ∈ d, 0 ≤ x ∧ x < n) → InR n (d.foldl (fun o y => insZ y o) l)
  | [], _, h, _ => h
  | x :: d, _, h, hd => InR.insl (d := d) (h.ins (hd x (by simp))) fun y hy => hd y (by simp [hy])
theorem foldl_take_succ {α β : Type} {f : β → α → β} {b : β} {l : List α} {i : Nat} (h : i < l.length) : (l.take (i + 1)).foldl f b = f ((l.take i).foldl f b) l[i] := by
  rw [List.take_succ_eq_append_getElem h, List.foldl_append]; rfl
theorem InR.fold {n : Nat} {D : Int → List Int} (hD : ∀ x, ∀ y ∈ D x, 0 ≤ y ∧ y < n) : ∀ {l o : List Int}, InR n o → InR n (l.foldl (fun o x => (D x).foldl (fun o y => insZ y o) o) o)
  | [], _, h => h
  | x :: l, _, h => InR.fold (l := l) hD (h.insl (hD x))
theorem TransitiveR_call {s : ScopeL} {d : Int} (hs : s.mid) (hn : s.defs.length ≤ 1000000) : FCall Tryz.prog n_ref16_Transitive [.agg s.row, .int .i64 d] (fun v => ∃ u, v = shV u (ints (transD s d))) := by
  have hD : ∀ x, ∀ y ∈ directL s x, 0 ≤ y ∧ y < s.defs.length := fun x y h => directL_lt h
  have hR : ∀ r, InR s.defs.length (roundsS (directL s) d r) := by
    intro r
    induction r with
    | zero => exact ⟨ssort_directL s d, hD d⟩
    | succ r ih => exact InR.fold hD ih
  refine FCall.walk u_ref16_Transitive k_ref16_Transitive rfl ?_
  unfold c_ref16_Transitive
  simp only [go_sem, simprocAttr, ScopeL.row]
  refine FCallT.of (DirectR_call hs (d := d)) ?_
  rintro _ rfl
  simp only [go_sem, simprocAttr, ScopeL.row]
  refine FWT.upd [] (fun x : Nat × Bool => [(5, shV x.2 (ints (roundsS (directL s) d x.1))), (6, .int .i64 x.1)]) (fun x => s.defs.length - x.1) (fun x => x.1 ≤ s.defs.length) (0, false) rfl (Nat.zero_le _) ?_
  rintro ⟨r, u⟩ hr
  simp only at hr
  by_cases h2 : r < s.defs.length
  · have hL := (hR r).len
    generalize hLe : roundsS (directL s) d r = L at hL
    have hrow : shV u (ints L) = .arr (ints L) ∨ shV u (ints L) = .sl false (ints L) := by cases u; exact .inl rfl; exact .inr rfl
    have hin : InR s.defs.length L := hLe ▸ hR r
    simp only [hLe]
    rcases hrow with hrow | hrow
    all_goals
      rw [hrow]
      simp only [go_sem, simprocAttr, ltT h2]
      refine FWT.upd [] (fun x : Nat × Bool => [(5, shV x.2 (ints ((L.take x.1).foldl (fun o x => (directL s x).foldl (fun o y => insZ y o) o) L))), (8, .int .i64 x.1)]) (fun x => L.length - x.1) (fun x => x.1 ≤ L.length) (0, true) rfl (Nat.zero_le _) ?_
      rintro ⟨i, u⟩ hi
      simp only at hi
      by_cases i2 : i < L.length
      · have hy := ints_get i2
        have hA : InR s.defs.length ((L.take i).foldl (fun o x => (directL s x).foldl (fun o y => insZ y o) o) L) := InR.fold hD hin
        have hsc := foldl_take_succ (f := fun o x => (directL s x).foldl (fun o y => insZ y o) o) (b := L) i2
        generalize (L.take i).foldl (fun o x => (directL s x).foldl (fun o y => insZ y o) o) L = A at hA hsc
        simp only [go_sem, simprocAttr, ltT i2, Int.toNat_natCast, hy]
        refine ⟨by cases u <;> rfl, ?_⟩
        refine detCall_of _ (DirectR_call hs (d := L[i])) ?_
        simp only [go_sem, simprocAttr, ScopeL.row]
        have hur : unroot 33 (shV u (ints A)) = shV u (ints A) := by cases u <;> rfl
        rw [hur]
        have hDx := hD L[i]
        have hDl := directL_length s L[i]
        generalize directL s L[i] = D at hDx hDl hsc
        refine FWT.upd [] (fun x : Nat × Bool => [(5, shV x.2 (ints ((D.take x.1).foldl (fun o y => insZ y o) A))), (10, .int .i64 x.1)]) (fun x => D.length - x.1) (fun x => x.1 ≤ D.length) (0, u) rfl (Nat.zero_le _) ?_
        rintro ⟨j, w⟩ hj
        simp only at hj
        by_cases j2 : j < D.length
        · have hz := ints_get j2
          have hB : InR s.defs.length ((D.take j).foldl (fun o y => insZ y o) A) := hA.insl fun y hy => hDx y (List.mem_of_mem_take hy)
          have hBl := hB.len
          have hsj := foldl_take_succ (f := fun o y => insZ y o) (b := A) j2
          generalize (D.take j).foldl (fun o y => insZ y o) A = B at hB hBl hsj
          have hrowB : shV w (ints B) = .arr (ints B) ∨ shV w (ints B) = .sl false (ints B) := by cases w; exact .inl rfl; exact .inr rfl
          simp only
          rcases hrowB with hrowB | hrowB
          all_goals
            rw [hrowB]
            simp only [go_sem, simprocAttr, ltT j2, Int.toNat_natCast, hz]
            refine FCallT.of (insert_call (l := B) (n := D[j]) (by omega)) ?_
            rintro _ rfl
            simp only [go_sem, simprocAttr]
            exact ⟨free_ints _, (j + 1, false), by rw [w64s (by omega)]; simp only [hsj, shV, Bool.false_eq_true, if_false], by simp only; omega, by simp only; omega⟩
        · have ej : j = D.length := by omega
          subst ej
          rw [List.take_length]
          simp only
          simp only [go_sem, simprocAttr, ltF j2]
          exact ⟨(i + 1, w), by rw [w64s (by omega)]; simp only [hsc]; cases w <;> rfl, by simp only; omega, by simp only; omega⟩
      · have ei : i = L.length := by omega
        subst ei
        rw [List.take_length]
        simp only
        simp only [go_sem, simprocAttr, ltF i2]
        exact ⟨(r + 1, u), by rw [w64s (by omega)]; simp only [roundsS, roundS, hLe], by simp only; omega, by simp only; omega⟩
  · have er : r = s.defs.length := by omega
    subst er
    have hfin : roundsS (directL s) d s.defs.length = transD s d := rounds_eq hD (ssort_directL s d)
    simp only [hfin]
    cases u
    · simp only [go_sem, simprocAttr, ltF h2, shV]
      exact ⟨false, by simp⟩
    · simp only [go_sem, simprocAttr, ltF h2, shV]
      exact ⟨true, by simp⟩
end Go.Fx.Tryz
set_option linter.unusedVariables false
set_option linter.unusedSimpArgs false
namespace Go.Fm
open Go
def firstO {α : Type} (f : Nat → Option α) : Nat → Option α
  | 0 => none
  | n + 1 => match firstO f n with
    | some a => some a
    | none => f n
theorem firstO_none {α : Type} {f : Nat → Option α} : ∀ {n : Nat}, (∀ j, j < n → f j = none) → firstO f n = none
  | 0, _ => rfl
  | n + 1, h => by
    unfold firstO
    rw [firstO_none fun j hj => h j (by omega)]; exact h n (by omega)
theorem firstO_at {α : Type} {f : Nat → Option α} {i : Nat} {a : α} (h : ∀ j, j < i → f j = none) (ha : f i = some a) : ∀ {n : Nat}, i < n → firstO f n = some a
  | 0, hn => by omega
  | n + 1, hn => by
    unfold firstO
    by_cases e : i = n
    · subst e; rw [firstO_none h]; exact ha
    · rw [firstO_at h ha (n := n) (by omega)]
theorem none_succ {α : Type} {f : Nat → Option α} {i : Nat} (h : ∀ j, j < i → f j = none) (h2 : f i = none) : ∀ j, j < i + 1 → f j = none := fun j hj => by
  by_cases e : j = i
  · subst e; exact h2
  · exact h j (by omega)
def validD (f t : Int) : Prop := 0 ≤ f ∧ f ≤ t ∧ t ≤ 109573
instance (f t : Int) : Decidable (validD f t) := by unfold validD; infer_instance
def inT (x : Int) (t : TyL) (en : List EnumL) : Prop := loT t en ≤ x ∧ x ≤ hiT t en
instance (x : Int) (t : TyL) (en : List EnumL) : Decidable (inT x t en) := by unfold inT; infer_instance
def rowBad (r : RowL) (k v : TyL) (en : List EnumL) : Prop := ¬ validD r.f r.t ∨ r.f = r.t ∨ r.hi ≤ r.lo ∨ ¬ inT r.lo k en ∨ ¬ inT (IntKind.i64.wrap (r.hi - 1)) k en ∨ ¬ inT r.n v en
instance (r : RowL) (k v : TyL) (en : List EnumL) : Decidable (rowBad r k v en) := by unfold rowBad; infer_instance
def meetP (a b : RowL) : Prop := validD a.f a.t ∧ validD b.f b.t ∧ max a.f b.f < min a.t b.t ∧ max a.lo b.lo < min a.hi b.hi
instance (a b : RowL) : Decidable (meetP a b) := by unfold meetP; infer_instance
def rowE (t : TableL) (en : List EnumL) (i : Nat) : Option (Int × Int) :=
  match t.rows[i]? with
  | none => none
  | some r => if rowBad r ⟨t.kk, t.ke⟩ ⟨t.vk, t.ve⟩ en then some (i, 3) else if ∃ p ∈ t.rows.take i, meetP p r then some (i, 11) else none
def tableE (t : TableL) (en : List EnumL) : Int × Int :=
  if 64 < t.rows.length then (64, 4) else if ¬ validT ⟨t.kk, t.ke⟩ en.length ∨ ¬ validT ⟨t.vk, t.ve⟩ en.length then (-1, 8) else (firstO (rowE t en) t.rows.length).getD (0, 0)
end Go.Fm
set_option linter.unusedVariables false
set_option linter.unusedSimpArgs false
namespace Go.Fx.Tryz
open Go Go.Fm Go.Proofs
theorem indexS_call {l : List (List UInt8)} {u : Bool} {s : List UInt8} (hl : l.length < 2 ^ 60) : FCall Tryz.prog n_slices_Index_string_string [.sl u (strs l), .str s] (· = .int .i64 (idxZ (fun x => decide (s = x)) l)) := by
  refine FCall.walk u_slices_Index_string_string k_slices_Index_string_string rfl ?_
  unfold c_slices_Index_string_string
  simp only [go_sem, simprocAttr]
  refine FWT.count [5] l.length (fun i => [(8, .int .i64 i)]) (fun i => ∀ x ∈ l.take i, ¬ s = x) rfl (by simp) ?_
  intro i hi hg
  by_cases h : i < l.length
  · have hx := strs_get h
    simp only [go_sem, simprocAttr, ltT h, Int.toNat_natCast, hx]
    refine ⟨fun e => ?_, fun e => ⟨by rw [w64s (by omega)], (all_take_succ h).2 ⟨hg, e⟩, h⟩⟩
    rw [idxZ_at h (fun f m => decide_eq_false (hg f m)) (decide_eq_true e)]
  simp only [go_sem, simprocAttr, ltF h]
  rw [List.take_of_length_le (by omega)] at hg
  rw [idxZ_none fun f m => decide_eq_false (hg f m)]
theorem idx_nonneg {α : Type} [DecidableEq α] {l : List α} {s : α} : (0 ≤ idxZ (fun x => decide (s = x)) l) ↔ s ∈ l := by
  rcases idxZ_cases (fun x => decide (s = x)) l with ⟨h1, h2⟩ | ⟨i, h, h1, h2, h3⟩
  · rw [h1]
    exact ⟨fun h => by omega, fun h => absurd (h2 s h) (by simp)⟩
  · rw [h1]
    have e : s = l[i] := of_decide_eq_true h2
    exact ⟨fun _ => by rw [e]; exact List.getElem_mem h, fun _ => by omega⟩
theorem containsS_call {l : List (List UInt8)} {u : Bool} {s : List UInt8} (hl : l.length < 2 ^ 60) : FCall Tryz.prog n_slices_Contains_string_string [.sl u (strs l), .str s] (· = .bool (bp (s ∈ l))) := by
  refine FCall.walk u_slices_Contains_string_string k_slices_Contains_string_string rfl ?_
  unfold c_slices_Contains_string_string
  simp only [go_sem, simprocAttr]
  refine FCallT.of (indexS_call (l := l) (s := s) hl) ?_
  rintro _ rfl
  simp only [go_sem, simprocAttr]
  rw [dec_bp]; exact congrArg FV.bool (bp_congr idx_nonneg)
theorem indexI_call {l : List Int} {u : Bool} {s : Int} (hl : l.length < 2 ^ 60) : FCall Tryz.prog n_slices_Index_int_int [.sl u (ints l), .int .i64 s] (· = .int .i64 (idxZ (fun x => decide (s = x)) l)) := by
  refine FCall.walk u_slices_Index_int_int k_slices_Index_int_int rfl ?_
  unfold c_slices_Index_int_int
  simp only [go_sem, simprocAttr]
  refine FWT.count [5] l.length (fun i => [(8, .int .i64 i)]) (fun i => ∀ x ∈ l.take i, ¬ s = x) rfl (by simp) ?_
  intro i hi hg
  by_cases h : i < l.length
  · have hx := ints_get h
    simp only [go_sem, simprocAttr, ltT h, Int.toNat_natCast, hx]
    refine ⟨fun e => ?_, fun e => ⟨by rw [w64s (by omega)], (all_take_succ h).2 ⟨hg, e⟩, h⟩⟩
    rw [idxZ_at h (fun f m => decide_eq_false (hg f m)) (decide_eq_true e)]
  simp only [go_sem, simprocAttr, ltF h]
  rw [List.take_of_length_le (by omega)] at hg
  rw [idxZ_none fun f m => decide_eq_false (hg f m)]
theorem containsI_call {l : List Int} {u : Bool} {s : Int} (hl : l.length < 2 ^ 60) : FCall Tryz.prog n_slices_Contains_int_int [.sl u (ints l), .int .i64 s] (· = .bool (bp (s ∈ l))) := by
  refine FCall.walk u_slices_Contains_int_int k_slices_Contains_int_int rfl ?_
  unfold c_slices_Contains_int_int
  simp only [go_sem, simprocAttr]
  refine FCallT.of (indexI_call (l := l) (s := s) hl) ?_
  rintro _ rfl
  simp only [go_sem, simprocAttr]
  rw [dec_bp]; exact congrArg FV.bool (bp_congr idx_nonneg)
theorem validDate_call {f t : Int} : FCall Tryz.prog n_daterange_Valid [.agg [.int .i64 f, .int .i64 t]] (· = .bool (bp (validD f t))) := by
  refine FCall.walk u_daterange_Valid k_daterange_Valid rfl ?_
  unfold c_daterange_Valid
  simp only [go_sem, simprocAttr]
  repeat' first
    | apply And.intro <;> intro h
  all_goals first | (exfalso; omega) | exact fbp_true (by simp only [validD]; omega) | exact fbp_false (by simp only [validD]; omega) | (rw [dec_bp]; exact congrArg FV.bool (bp_congr (by simp only [validD]; omega)))
theorem proper_call {f t : Int} : FCall Tryz.prog n_daterange_proper [.agg [.int .i64 f, .int .i64 t]] (· = .bool (bp (validD f t ∧ f < t))) := by
  refine FCall.walk u_daterange_proper k_daterange_proper rfl ?_
  unfold c_daterange_proper
  simp only [go_sem, simprocAttr]
  repeat' first
    | apply And.intro <;> intro h
    | ((refine FCallT.of (validDate_call (f := f) (t := t)) ?_; rintro _ rfl); simp only [go_sem, simprocAttr])
  all_goals simp only [bp_iff, bpF] at *
  all_goals first | (exfalso; omega) | exact fbp_true (by simp only [validD] at *; omega) | exact fbp_false (by simp only [validD] at *; omega) | (rw [dec_bp]; exact congrArg FV.bool (bp_congr (by simp only [validD] at *; omega)))
theorem validDateR_call {f t : Int} : FCall Tryz.prog n_ref05_Valid [.agg [.int .i64 f, .int .i64 t]] (· = .bool (bp (validD f t))) := by
  refine FCall.walk u_ref05_Valid k_ref05_Valid rfl ?_
  unfold c_ref05_Valid
  simp only [go_sem, simprocAttr]
  repeat' first
    | apply And.intro <;> intro h
  all_goals first | (exfalso; omega) | exact fbp_true (by simp only [validD]; omega) | exact fbp_false (by simp only [validD]; omega) | (rw [dec_bp]; exact congrArg FV.bool (bp_congr (by simp only [validD]; omega)))
def cutD (f t f' t' : Int) : FV := if validD f t ∧ validD f' t' ∧ max f f' < min t t' then .tup [.agg [.int .i64 (max f f'), .int .i64 (min t t')], .bool true] else .tup [.agg [.int .i64 0, .int .i64 0], .bool false]
theorem intersect_call {f t f' t' : Int} : FCall Tryz.prog n_daterange_Intersect [.agg [.int .i64 f, .int .i64 t], .agg [.int .i64 f', .int .i64 t']] (· = cutD f t f' t') := by
  refine FCall.walk u_daterange_Intersect k_daterange_Intersect rfl ?_
  unfold c_daterange_Intersect
  simp only [go_sem, simprocAttr]
  repeat' first
    | apply And.intro <;> intro h
    | ((first
      | (refine FCallT.of (proper_call (f := f) (t := t)) ?_; rintro _ rfl)
      | (refine FCallT.of (proper_call (f := f') (t := t')) ?_; rintro _ rfl)); simp only [go_sem, simprocAttr])
  all_goals simp only [bp_iff, bpF, validD] at *
  all_goals unfold cutD
  all_goals first | (rw [if_neg (by simp only [validD]; omega)]; done) | (rw [if_pos (by simp only [validD]; omega)]; done)
theorem intersectR_call {f t f' t' : Int} : FCall Tryz.prog n_ref05_Intersect [.agg [.int .i64 f, .int .i64 t], .agg [.int .i64 f', .int .i64 t']] (· = cutD f t f' t') := by
  refine FCall.walk u_ref05_Intersect k_ref05_Intersect rfl ?_
  unfold c_ref05_Intersect
  simp only [go_sem, simprocAttr]
  repeat' first
    | apply And.intro <;> intro h
    | ((first
      | (refine FCallT.of (validDateR_call (f := f) (t := t)) ?_; rintro _ rfl)
      | (refine FCallT.of (validDateR_call (f := f') (t := t')) ?_; rintro _ rfl)); simp only [go_sem, simprocAttr])
  all_goals simp only [bp_iff, bpF, validD] at *
  all_goals unfold cutD
  all_goals first | (rw [if_neg (by simp only [validD]; omega)]; done) | (rw [if_pos (by simp only [validD]; omega)]; done)
theorem conflict_call {a b : RowL} : FCall Tryz.prog n_table_conflict [.agg a.row, .agg b.row] (· = .bool (bp (meetP a b))) := by
  by_cases h : validD a.f a.t ∧ validD b.f b.t ∧ max a.f b.f < min a.t b.t
  · have hc := intersect_call (f := a.f) (t := a.t) (f' := b.f) (t' := b.t)
    rw [cutD, if_pos h] at hc
    refine FCall.walk u_table_conflict k_table_conflict rfl ?_
    unfold c_table_conflict
    simp only [go_sem, simprocAttr, RowL.row]
    refine FCallT.of (hc) ?_
    rintro _ rfl
    simp only [go_sem, simprocAttr]
    rw [dec_bp]; exact congrArg FV.bool (bp_congr (by simp only [meetP, validD] at *; omega))
  · have hc := intersect_call (f := a.f) (t := a.t) (f' := b.f) (t' := b.t)
    rw [cutD, if_neg h] at hc
    refine FCall.walk u_table_conflict k_table_conflict rfl ?_
    unfold c_table_conflict
    simp only [go_sem, simprocAttr, RowL.row]
    refine FCallT.of (hc) ?_
    rintro _ rfl
    simp only [go_sem, simprocAttr]
    exact fbp_false fun k => h ⟨k.1, k.2.1, k.2.2.1⟩
theorem conflictR_call {a b : RowL} : FCall Tryz.prog n_ref12_conflict [.agg a.row, .agg b.row] (· = .bool (bp (meetP a b))) := by
  by_cases h : validD a.f a.t ∧ validD b.f b.t ∧ max a.f b.f < min a.t b.t
  · have hc := intersectR_call (f := a.f) (t := a.t) (f' := b.f) (t' := b.t)
    rw [cutD, if_pos h] at hc
    refine FCall.walk u_ref12_conflict k_ref12_conflict rfl ?_
    unfold c_ref12_conflict
    simp only [go_sem, simprocAttr, RowL.row]
    refine FCallT.of (hc) ?_
    rintro _ rfl
    simp only [go_sem, simprocAttr]
    rw [dec_bp]; exact congrArg FV.bool (bp_congr (by simp only [meetP, validD] at *; omega))
  · have hc := intersectR_call (f := a.f) (t := a.t) (f' := b.f) (t' := b.t)
    rw [cutD, if_neg h] at hc
    refine FCall.walk u_ref12_conflict k_ref12_conflict rfl ?_
    unfold c_ref12_conflict
    simp only [go_sem, simprocAttr, RowL.row]
    refine FCallT.of (hc) ?_
    rintro _ rfl
    simp only [go_sem, simprocAttr]
    exact fbp_false fun k => h ⟨k.1, k.2.1, k.2.2.1⟩
theorem check_call {r : RowL} {t : TableL} {u : Bool} {en : List EnumL} (hm : ∀ e ∈ en, e.members.length < 2 ^ 60) : FCall Tryz.prog n_table_check [.agg r.row, .agg t.row, .sl u (enumsV en)] (· = .int .i64 (if rowBad r ⟨t.kk, t.ke⟩ ⟨t.vk, t.ve⟩ en then 3 else 0)) := by
  refine FCall.walk u_table_check k_table_check rfl ?_
  unfold c_table_check
  simp only [go_sem, simprocAttr, RowL.row, TableL.row]
  have hk := bounds_call (t := ⟨t.kk, t.ke⟩) (u := u) hm
  have hv := bounds_call (t := ⟨t.vk, t.ve⟩) (u := u) hm
  repeat' first
    | apply And.intro <;> intro h
    | ((first
      | (refine FCallT.of (hk) ?_; rintro _ rfl)
      | (refine FCallT.of (hv) ?_; rintro _ rfl)
      | (refine FCallT.of (validDate_call (f := r.f) (t := r.t)) ?_; rintro _ rfl)); simp only [go_sem, simprocAttr])
  all_goals simp only [bp_iff, bpF, validD] at *
  all_goals first | (rw [if_neg (by simp only [rowBad, inT, validD]; omega)]; done) | (rw [if_pos (by simp only [rowBad, inT, validD]; omega)]; done) | trace_state
theorem bp_neg {p : Prop} : (!bp p) = bp (¬ p) := by
  by_cases h : p
  · rw [bp_true h, bp_false (by simpa using h)]; rfl
  · rw [bp_false h, bp_true h]; rfl
theorem wrong_call {r : RowL} {t : TableL} {u : Bool} {en : List EnumL} (hm : ∀ e ∈ en, e.members.length < 2 ^ 60) : FCall Tryz.prog n_ref12_wrong [.agg r.row, .agg t.row, .sl u (enumsV en)] (· = .bool (bp (rowBad r ⟨t.kk, t.ke⟩ ⟨t.vk, t.ve⟩ en))) := by
  refine FCall.walk u_ref12_wrong k_ref12_wrong rfl ?_
  unfold c_ref12_wrong
  simp only [go_sem, simprocAttr, RowL.row, TableL.row]
  have h1 := inR_call (n := r.lo) (t := ⟨t.kk, t.ke⟩) (u := u) hm
  have h2 := inR_call (n := IntKind.i64.wrap (r.hi - 1)) (t := ⟨t.kk, t.ke⟩) (u := u) hm
  have h3 := inR_call (n := r.n) (t := ⟨t.vk, t.ve⟩) (u := u) hm
  repeat' first
    | apply And.intro <;> intro h
    | ((first
      | (refine FCallT.of (h1) ?_; rintro _ rfl)
      | (refine FCallT.of (h2) ?_; rintro _ rfl)
      | (refine FCallT.of (h3) ?_; rintro _ rfl)
      | (refine FCallT.of (validDateR_call (f := r.f) (t := r.t)) ?_; rintro _ rfl)); simp only [go_sem, simprocAttr])
  all_goals simp only [bp_iff, bpF, validD] at *
  all_goals first | (exfalso; omega) | exact fbp_true (by simp only [rowBad, inT, validD]; omega) | exact fbp_false (by simp only [rowBad, inT, validD]; omega) | (rw [dec_bp]; exact congrArg FV.bool (bp_congr (by simp only [rowBad, inT, validD]; omega))) | (rw [bp_neg]; exact congrArg FV.bool (bp_congr (by simp only [rowBad, inT, validD]; omega)))
end Go.Fx.Tryz
set_option linter.unusedVariables false
set_option linter.unusedSimpArgs false
namespace Go.Fx.Tryz
open Go Go.Fm Go.Proofs
theorem tableE_long {t : TableL} {en : List EnumL} (h : 64 < t.rows.length) : tableE t en = (64, 4) := by unfold tableE; rw [if_pos h]
theorem tableE_ty {t : TableL} {en : List EnumL} (h : ¬ 64 < t.rows.length) (h2 : ¬ validT ⟨t.kk, t.ke⟩ en.length ∨ ¬ validT ⟨t.vk, t.ve⟩ en.length) : tableE t en = (-1, 8) := by unfold tableE; rw [if_neg h, if_pos h2]
theorem tableE_rows {t : TableL} {en : List EnumL} (h : ¬ 64 < t.rows.length) (h2 : validT ⟨t.kk, t.ke⟩ en.length) (h3 : validT ⟨t.vk, t.ve⟩ en.length) : tableE t en = (firstO (rowE t en) t.rows.length).getD (0, 0) := by unfold tableE; rw [if_neg h, if_neg (by simp [h2, h3])]
theorem rowE_at {t : TableL} {en : List EnumL} {i : Nat} (h : i < t.rows.length) : rowE t en i = if rowBad t.rows[i] ⟨t.kk, t.ke⟩ ⟨t.vk, t.ve⟩ en then some ((i : Int), 3) else if ∃ p ∈ t.rows.take i, meetP p t.rows[i] then some ((i : Int), 11) else none := by
  unfold rowE; rw [List.getElem?_eq_getElem h]
theorem rowsV_take (l : List RowL) (i : Nat) : (rowsV l).take i = rowsV (l.take i) := by simp [rowsV, List.map_take]
theorem all_len_map {α : Type} {f : α → List FV} {n : Nat} (h : ∀ x, ((f x).length == n) = true) (l : List α) : ((l.map f).all fun r => r.length == n) = true := by
  simp only [List.all_map, List.all_eq_true]; exact fun x _ => h x
theorem tableV_call {t : TableL} {u : Bool} {en : List EnumL} (hm : ∀ e ∈ en, e.members.length < 2 ^ 60) : FCall Tryz.prog n_table_Validate [.agg t.row, .sl u (enumsV en)] (· = .tup [.int .i64 (tableE t en).1, .int .i64 (tableE t en).2]) := by
  refine FCall.walk u_table_Validate k_table_Validate rfl ?_
  unfold c_table_Validate
  simp only [go_sem, simprocAttr, TableL.row]
  have hk := validT_call (t := ⟨t.kk, t.ke⟩) (u := u) (en := en)
  have hv := validT_call (t := ⟨t.vk, t.ve⟩) (u := u) (en := en)
  repeat' first
    | apply And.intro <;> intro h
    | ((first
      | (refine FCallT.of (hk) ?_; rintro _ rfl)
      | (refine FCallT.of (hv) ?_; rintro _ rfl)); simp only [go_sem, simprocAttr])
  all_goals try simp only [bp_iff, bpF] at *
  · rw [tableE_long (by omega)]
  · rw [tableE_ty (by omega) (.inl (by assumption))]
  · rw [tableE_ty (by omega) (.inr (by assumption))]
  rw [tableE_rows (by omega) (by assumption) (by assumption)]
  have hlen : t.rows.length ≤ 64 := by omega
  refine FWT.count [] t.rows.length (fun i => [(30, .int .i64 i)]) (fun i => ∀ j, j < i → rowE t en j = none) rfl (by simp) ?_
  intro i hi hg
  by_cases h2 : i < t.rows.length
  · have hx := rowsV_get h2
    have he := rowE_at (en := en) h2
    have hc := check_call (r := t.rows[i]) (t := t) (u := u) hm
    simp only [go_sem, simprocAttr, ltT h2, Int.toNat_natCast, hx, RowL.row]
    by_cases hb : rowBad t.rows[i] ⟨t.kk, t.ke⟩ ⟨t.vk, t.ve⟩ en
    · rw [if_pos hb] at hc he
      refine FCallT.of (hc) ?_
      rintro _ rfl
      simp only [go_sem, simprocAttr, TableL.row, RowL.row]
      rw [firstO_at hg he h2]; rfl
    · rw [if_neg hb] at hc he
      refine FCallT.of (hc) ?_
      rintro _ rfl
      simp only [go_sem, simprocAttr, TableL.row, RowL.row]
      refine ⟨all_len_map (fun _ => rfl) _, by omega, ?_⟩
      have e0 : ((i : Int)).toNat - 0 = i := by omega
      rw [e0, rowsV_take, rowsV_length, List.length_take, Nat.min_eq_left (by omega)]
      refine FWT.count [] i (fun j => [(48, .int .i64 j)]) (fun j => ∀ p ∈ t.rows.take j, ¬ meetP p t.rows[i]) rfl (by simp) ?_
      intro j hj hn
      by_cases j2 : j < i
      · have hy : (rowsV (t.rows.take i))[j]? = some t.rows[j].row := by rw [rowsV_get (by simp; omega), List.getElem_take]
        have hf := conflict_call (a := t.rows[j]) (b := t.rows[i])
        simp only [go_sem, simprocAttr, ltT j2, Int.toNat_natCast, hy, RowL.row]
        refine FCallT.of (hf) ?_
        rintro _ rfl
        simp only [go_sem, simprocAttr, RowL.row]
        refine ⟨fun hq => ?_, fun hq => ⟨by rw [w64s (by omega)], (all_take_succ (by omega)).2 ⟨hn, bpF.1 hq⟩, j2⟩⟩
        have hq' := bp_iff.1 hq
        rw [if_pos ⟨t.rows[j], List.mem_take_iff_getElem.2 ⟨j, by omega, rfl⟩, hq'⟩] at he
        rw [firstO_at hg he h2]; rfl
      · have ej : j = i := by omega
        subst ej
        rw [if_neg (fun ⟨p, m, q⟩ => hn p m q)] at he
        simp only [go_sem, simprocAttr, ltF j2]
        exact ⟨by rw [w64s (by omega)], none_succ hg he, h2⟩
  · rw [firstO_none fun j hj => hg j (by omega)]
    simp only [go_sem, simprocAttr, ltF h2]
    first | rfl | trace_state
theorem tableVR_call {t : TableL} {u : Bool} {en : List EnumL} (hm : ∀ e ∈ en, e.members.length < 2 ^ 60) : FCall Tryz.prog n_ref12_Validate [.agg t.row, .sl u (enumsV en)] (· = .tup [.int .i64 (tableE t en).1, .int .i64 (tableE t en).2]) := by
  refine FCall.walk u_ref12_Validate k_ref12_Validate rfl ?_
  unfold c_ref12_Validate
  simp only [go_sem, simprocAttr, TableL.row]
  have hk := validTR_call (t := ⟨t.kk, t.ke⟩) (u := u) (en := en)
  have hv := validTR_call (t := ⟨t.vk, t.ve⟩) (u := u) (en := en)
  repeat' first
    | apply And.intro <;> intro h
    | ((first
      | (refine FCallT.of (hk) ?_; rintro _ rfl)
      | (refine FCallT.of (hv) ?_; rintro _ rfl)); simp only [go_sem, simprocAttr])
  all_goals try simp only [bp_iff, bpF] at *
  · rw [tableE_long (by omega)]
  · rw [tableE_ty (by omega) (.inl (by assumption))]
  · rw [tableE_ty (by omega) (.inr (by assumption))]
  rw [tableE_rows (by omega) (by assumption) (by assumption)]
  have hlen : t.rows.length ≤ 64 := by omega
  refine FWT.count [] t.rows.length (fun i => [(6, .int .i64 i)]) (fun i => ∀ j, j < i → rowE t en j = none) rfl (by simp) ?_
  intro i hi hg
  by_cases h2 : i < t.rows.length
  · have hx := rowsV_get h2
    have he := rowE_at (en := en) h2
    have hc := wrong_call (r := t.rows[i]) (t := t) (u := u) hm
    simp only [go_sem, simprocAttr, ltT h2, Int.toNat_natCast, hx, RowL.row]
    by_cases hb : rowBad t.rows[i] ⟨t.kk, t.ke⟩ ⟨t.vk, t.ve⟩ en
    · rw [if_pos hb] at he
      rw [bp_true hb] at hc
      refine detCall_of _ (hc) ?_
      simp only [go_sem, simprocAttr, TableL.row, RowL.row]
      rw [firstO_at hg he h2]; rfl
    · rw [if_neg hb] at he
      rw [bp_false hb] at hc
      refine detCall_of _ (hc) ?_
      simp only [go_sem, simprocAttr, TableL.row, RowL.row]
      refine FWT.count [] i (fun j => [(7, .int .i64 j)]) (fun j => ∀ p ∈ t.rows.take j, ¬ meetP p t.rows[i]) rfl (by simp) ?_
      intro j hj hn
      by_cases j2 : j < i
      · have hy := rowsV_get (show j < t.rows.length by omega)
        have hf := conflictR_call (a := t.rows[j]) (b := t.rows[i])
        simp only [go_sem, simprocAttr, ltT j2, Int.toNat_natCast, hy, hx, RowL.row]
        refine detCall_of _ (hf) ?_
        simp only [go_sem, simprocAttr, RowL.row]
        refine ⟨fun hq => ?_, fun hq => ⟨by rw [w64s (by omega)], (all_take_succ (by omega)).2 ⟨hn, bpF.1 hq⟩, j2⟩⟩
        have hq' := bp_iff.1 hq
        rw [if_pos ⟨t.rows[j], List.mem_take_iff_getElem.2 ⟨j, by omega, rfl⟩, hq'⟩] at he
        rw [firstO_at hg he h2]; rfl
      · have ej : j = i := by omega
        subst ej
        rw [if_neg (fun ⟨p, m, q⟩ => hn p m q)] at he
        simp only [go_sem, simprocAttr, ltF j2]
        exact ⟨by rw [w64s (by omega)], none_succ hg he, h2⟩
  · rw [firstO_none fun j hj => hg j (by omega)]
    simp only [go_sem, simprocAttr, ltF h2]
    first | rfl | trace_state
end Go.Fx.Tryz
set_option linter.unusedVariables false
set_option linter.unusedSimpArgs false
namespace Go.Fm
open Go
abbrev ErrL := Int × Int × Int × Int
def errQ (o : Option ErrL) : ErrL := o.getD (0, 0, 0, 0)
@[simp] theorem errQ_none : errQ none = (0, 0, 0, 0) := rfl
@[simp] theorem errQ_some (e : ErrL) : errQ (some e) = e := rfl
abbrev errF (o : Option ErrL) : FV := FV.agg [FV.int IntKind.i64 (errQ o).1, FV.int IntKind.i64 (errQ o).2.1, FV.int IntKind.i64 (errQ o).2.2.1, FV.int IntKind.i64 (errQ o).2.2.2]
@[go_sem] theorem errF_eq (o : Option ErrL) : errF o = FV.agg [FV.int IntKind.i64 (errQ o).1, FV.int IntKind.i64 (errQ o).2.1, FV.int IntKind.i64 (errQ o).2.2.1, FV.int IntKind.i64 (errQ o).2.2.2] := rfl
theorem err_eq {o : Option ErrL} {a b c d : Int} (h : o = some (a, b, c, d)) : FV.agg [.int .i64 a, .int .i64 b, .int .i64 c, .int .i64 d] = errF (o) := by subst h; rfl
theorem err_no {o : Option ErrL} (h : o = none) : FV.agg [.int .i64 0, .int .i64 0, .int .i64 0, .int .i64 0] = errF (o) := by subst h; rfl
theorem err_congr {o p : Option ErrL} (h : o = p) : errF (o) = errF (p) := by rw [h]
theorem errQ_ne {o : Option ErrL} (h : ¬ (errQ o).1 = 0) : ∃ e, o = some e := by
  cases o with
  | none => exact absurd rfl h
  | some e => exact ⟨e, rfl⟩
def okE (o : Option ErrL) : Prop := ∀ e, o = some e → e.1 ≠ 0
theorem errQ_zero {o : Option ErrL} (hk : okE o) (h : (errQ o).1 = 0) : o = none := by
  cases o with
  | none => rfl
  | some e => exact absurd h (hk e rfl)
theorem or_ne {a b : Option ErrL} (h : ¬ (errQ a).1 = 0) : a.or b = a := by
  obtain ⟨e, rfl⟩ := errQ_ne h; rfl
theorem okE_none : okE none := fun _ h => by cases h
theorem okE_some {e : ErrL} (h : e.1 ≠ 0) : okE (some e) := fun _ k => by cases k; exact h
theorem okE_or {a b : Option ErrL} (ha : okE a) (hb : okE b) : okE (a.or b) := by
  cases a with
  | none => simpa using hb
  | some x => simpa using ha
theorem okE_first {f : Nat → Option ErrL} (h : ∀ i, okE (f i)) : ∀ n, okE (firstO f n)
  | 0 => okE_none
  | n + 1 => by
    have ih := okE_first h n
    unfold firstO
    cases e : firstO f n with
    | none => exact h n
    | some a => rw [e] at ih; exact ih
section
variable (idB : List UInt8 → Bool)
def nameE (s : List UInt8) (names : List (List UInt8)) (w i : Int) : Option ErrL := if idB s = false then some (2, w, i, 0) else if s ∈ names then some (7, w, i, 0) else none
def memberE (e : EnumL) (i : Int) (j : Nat) : Option ErrL :=
  match e.members[j]? with
  | none => none
  | some s => if idB s = false then some (2, 1, i, IntKind.i64.wrap (100 + j)) else if s ∈ e.members.take j then some (7, 1, i, IntKind.i64.wrap (100 + j)) else none
def enumE (e : EnumL) (i : Int) : Option ErrL := if e.members.length = 0 then some (5, 1, i, 0) else if 16 < e.members.length then some (4, 1, i, 116) else firstO (memberE idB e i) e.members.length
def rowsE (t : TableL) (en : List EnumL) (i : Int) : Option ErrL :=
  if (tableE t en).2 = 0 then none else if (tableE t en).1 < 0 then some ((tableE t en).2, 2, i, 0) else some ((tableE t en).2, 2, i, IntKind.i64.wrap (100 + (tableE t en).1))
def fieldE (l : List FieldL) (extra : List (List UInt8)) (ne : Nat) (i base : Int) (j : Nat) : Option ErrL :=
  match l[j]? with
  | none => none
  | some f => if idB f.name = false then some (2, 3, i, IntKind.i64.wrap (base + j)) else if f.name ∈ extra ∨ f.name ∈ (l.take j).map FieldL.name then some (7, 3, i, IntKind.i64.wrap (base + j)) else if ¬ validT f.ty ne then some (8, 3, i, IntKind.i64.wrap (base + j)) else none
def fieldsE (l : List FieldL) (extra : List (List UInt8)) (ne : Nat) (i base : Int) : Option ErrL := firstO (fieldE idB l extra ne i base) l.length
def sourceP (s : List UInt8) : Prop := (∀ b ∈ s, 32 ≤ b.toNat ∧ b.toNat ≤ 126 ∧ b.toNat ≠ 34) ∧ s.length ≤ 64
def exprE (e : List NodeL) (s : SigL) (t : TyL) : Int := if (typeL e s).2.2 = 0 ∧ (typeL e s).1 ≠ t then 8 else (typeL e s).2.2
def fieldAt (l : List FieldL) (d : Int) : FieldL := (l[d.toNat]?).getD ⟨[], 0, 0⟩
def namedE (x : ScopeL) (j : Nat) (r : RuleL) : Int :=
  if idB r.name = false then 2 else if ∃ q ∈ x.rules.take j, q.name = r.name then 7 else if r.d < 0 ∨ (x.defs.length : Int) ≤ r.d then 6 else
  if r.p < -1 ∨ (j : Int) ≤ r.p ∨ (0 ≤ r.p ∧ ((x.rules[r.p.toNat]?).map RuleL.d).getD 0 ≠ r.d) then 9 else 0
open Classical in
noncomputable def ruleE (x : ScopeL) (j : Nat) (s : SigL) : Int :=
  match x.rules[j]? with
  | none => 0
  | some r => if namedE idB x j r ≠ 0 then namedE idB x j r else if r.pr < 0 ∨ 9 < r.pr ∨ r.f < 0 ∨ r.t ≤ r.f ∨ 109573 < r.t then 3 else
    if 8 ≤ ((x.rules.take j).filter (fun q => decide (q.d = r.d))).length then 4 else if ¬ sourceP r.src then 2 else
    if 0 < r.guard.length ∧ exprE r.guard s ⟨1, 0⟩ ≠ 0 then exprE r.guard s ⟨1, 0⟩ else exprE r.value s (fieldAt x.defs r.d).ty
noncomputable def ruleO (x : ScopeL) (s : SigL) (i : Int) (j : Nat) : Option ErrL := if ruleE idB x j s = 0 then none else some (ruleE idB x j s, 3, i, IntKind.i64.wrap (300 + j))
open Classical in
noncomputable def cycleO (x : ScopeL) (i : Int) (d : Nat) : Option ErrL := if (d : Int) ∈ transD x d then some (9, 3, i, IntKind.i64.wrap (200 + d)) else none
def memBad (l : LawL) (x : ScopeL) (i : Nat) : Prop := x.ms ≠ -1 ∧ (x.ms < 0 ∨ (i : Int) ≤ x.ms ∨ ((l.scopes[x.ms.toNat]?).map ScopeL.ms).getD 0 ≠ -1)
open Classical in
noncomputable def scopeE (l : LawL) (i : Nat) (x : ScopeL) (s : SigL) : Option ErrL :=
  if memBad l x i then some (6, 3, i, 0) else if 12 < x.inputs.length then some (4, 3, i, 112) else if 12 < x.defs.length then some (4, 3, i, 212) else
  (fieldsE idB x.inputs [] l.enums.length i 100).or ((fieldsE idB x.defs (x.inputs.map FieldL.name) l.enums.length i 200).or ((firstO (ruleO idB x s i) x.rules.length).or (firstO (cycleO x i) x.defs.length)))
def enumO (l : LawL) (i : Nat) : Option ErrL :=
  match l.enums[i]? with
  | none => none
  | some e => (nameE idB e.name ((l.enums.take i).map EnumL.name) 1 i).or (enumE idB e i)
def tableO (l : LawL) (i : Nat) : Option ErrL :=
  match l.tables[i]? with
  | none => none
  | some t => (nameE idB t.name (l.enums.map EnumL.name ++ (l.tables.take i).map TableL.name) 2 i).or (rowsE t l.enums i)
variable {idB}
theorem nameE_id {s : List UInt8} {n : List (List UInt8)} {w i : Int} (h : idB s = false) : nameE idB s n w i = some (2, w, i, 0) := by unfold nameE; rw [if_pos h]
theorem nameE_in {s : List UInt8} {n : List (List UInt8)} {w i : Int} (h : idB s = true) (h2 : s ∈ n) : nameE idB s n w i = some (7, w, i, 0) := by unfold nameE; rw [if_neg (by simp [h]), if_pos h2]
theorem nameE_no {s : List UInt8} {n : List (List UInt8)} {w i : Int} (h : idB s = true) (h2 : ¬ s ∈ n) : nameE idB s n w i = none := by unfold nameE; rw [if_neg (by simp [h]), if_neg h2]
theorem memberE_id {e : EnumL} {i : Int} {j : Nat} (h : j < e.members.length) (h1 : idB e.members[j] = false) : memberE idB e i j = some (2, 1, i, IntKind.i64.wrap (100 + j)) := by unfold memberE; rw [List.getElem?_eq_getElem h]; simp only [h1, if_true]
theorem memberE_in {e : EnumL} {i : Int} {j : Nat} (h : j < e.members.length) (h1 : idB e.members[j] = true) (h2 : e.members[j] ∈ e.members.take j) : memberE idB e i j = some (7, 1, i, IntKind.i64.wrap (100 + j)) := by unfold memberE; rw [List.getElem?_eq_getElem h]; simp [h1, h2]
theorem memberE_no {e : EnumL} {i : Int} {j : Nat} (h : j < e.members.length) (h1 : idB e.members[j] = true) (h2 : ¬ e.members[j] ∈ e.members.take j) : memberE idB e i j = none := by unfold memberE; rw [List.getElem?_eq_getElem h]; simp [h1, h2]
theorem nameE_ok {s : List UInt8} {n : List (List UInt8)} {w i : Int} : okE (nameE idB s n w i) := by
  unfold nameE; split
  · exact okE_some (by simp)
  · split
    · exact okE_some (by simp)
    · exact okE_none
theorem memberE_ok {e : EnumL} {i : Int} {j : Nat} : okE (memberE idB e i j) := by
  unfold memberE; split
  · exact okE_none
  · split
    · exact okE_some (by simp)
    · split
      · exact okE_some (by simp)
      · exact okE_none
theorem enumE_ok {e : EnumL} {i : Int} : okE (enumE idB e i) := by
  unfold enumE; split
  · exact okE_some (by simp)
  · split
    · exact okE_some (by simp)
    · exact okE_first (fun _ => memberE_ok) _
theorem rowsE_ok {t : TableL} {en : List EnumL} {i : Int} : okE (rowsE t en i) := by
  unfold rowsE; split
  · exact okE_none
  · split
    · exact okE_some (by assumption)
    · exact okE_some (by assumption)
theorem fieldE_ok {l : List FieldL} {x : List (List UInt8)} {ne : Nat} {i b : Int} {j : Nat} : okE (fieldE idB l x ne i b j) := by
  unfold fieldE; split
  · exact okE_none
  · split
    · exact okE_some (by simp)
    · split
      · exact okE_some (by simp)
      · split
        · exact okE_some (by simp)
        · exact okE_none
theorem fieldsE_ok {l : List FieldL} {x : List (List UInt8)} {ne : Nat} {i b : Int} : okE (fieldsE idB l x ne i b) := okE_first (fun _ => fieldE_ok) _
theorem ruleO_ok {x : ScopeL} {s : SigL} {i : Int} {j : Nat} : okE (ruleO idB x s i j) := by
  unfold ruleO; split
  · exact okE_none
  · exact okE_some (by assumption)
theorem cycleO_ok {x : ScopeL} {i : Int} {j : Nat} : okE (cycleO x i j) := by
  unfold cycleO; split
  · exact okE_some (by simp)
  · exact okE_none
theorem scopeE_ok {l : LawL} {i : Nat} {x : ScopeL} {s : SigL} : okE (scopeE idB l i x s) := by
  unfold scopeE; split
  · exact okE_some (by simp)
  · split
    · exact okE_some (by simp)
    · split
      · exact okE_some (by simp)
      · exact okE_or fieldsE_ok (okE_or fieldsE_ok (okE_or (okE_first (fun _ => ruleO_ok) _) (okE_first (fun _ => cycleO_ok) _)))
theorem enumO_ok {l : LawL} {i : Nat} : okE (enumO idB l i) := by
  unfold enumO; split
  · exact okE_none
  · exact okE_or nameE_ok enumE_ok
theorem tableO_ok {l : LawL} {i : Nat} : okE (tableO idB l i) := by
  unfold tableO; split
  · exact okE_none
  · exact okE_or nameE_ok rowsE_ok
end
structure LawL.sane (l : LawL) : Prop where
  e1 : l.enums.length < 2 ^ 40
  e2 : ∀ e ∈ l.enums, e.name.length < 2 ^ 60 ∧ e.members.length < 2 ^ 40 ∧ ∀ m ∈ e.members, m.length < 2 ^ 60
  t1 : l.tables.length < 2 ^ 40
  t2 : ∀ t ∈ l.tables, t.name.length < 2 ^ 60 ∧ t.rows.length < 2 ^ 40
  s1 : l.scopes.length < 2 ^ 40
  s2 : ∀ x ∈ l.scopes, x.name.length < 2 ^ 60 ∧ x.inputs.length < 2 ^ 30 ∧ x.mid ∧ (∀ f ∈ x.inputs, f.name.length < 2 ^ 60) ∧ (∀ f ∈ x.defs, f.name.length < 2 ^ 60) ∧ ∀ r ∈ x.rules, r.name.length < 2 ^ 60 ∧ r.src.length < 2 ^ 60 ∧ (∀ n ∈ r.guard, I64 n.n) ∧ ∀ n ∈ r.value, I64 n.n
theorem LawL.sane.mid {l : LawL} (h : l.sane) : l.mid := ⟨h.e1, fun x m => (h.e2 x m).2.1, h.t1, fun x m => (h.t2 x m).2, h.s1, fun x m => by
  have h1 := (h.s2 x m).2.1; have h2 := (h.s2 x m).2.2.1.1; omega⟩
theorem LawL.sane.hm {l : LawL} (h : l.sane) : ∀ e ∈ l.enums, e.members.length < 2 ^ 60 := fun x m => by have := (h.e2 x m).2.1; omega
def subZ : Nat → Int
  | 0 => 0
  | j + 1 => IntKind.i64.wrap (100 + j)
end Go.Fm
set_option linter.unusedVariables false
set_option linter.unusedSimpArgs false
namespace Go.Fx.Tryz
open Go Go.Fm Go.Proofs
theorem strs_take (l : List (List UInt8)) (i : Nat) : (strs l).take i = strs (l.take i) := by simp [strs, List.map_take]
theorem bad_call {a b c d : Int} : FCall Tryz.prog n_law_bad [.int .i64 a, .int .i64 b, .int .i64 c, .int .i64 d] (· = .agg [.int .i64 a, .int .i64 b, .int .i64 c, .int .i64 d]) := by
  refine FCall.walk u_law_bad k_law_bad rfl ?_
  unfold c_law_bad
  simp only [go_sem, simprocAttr]
theorem name_call {s : List UInt8} {names : List (List UInt8)} {u : Bool} {w i : Int} (hl : names.length < 2 ^ 60) : FCall Tryz.prog n_law_name [.str s, .sl u (strs names), .int .i64 w, .int .i64 i] (· = errF (nameE isIdB s names w i)) := by
  refine FCall.walk u_law_name k_law_name rfl ?_
  unfold c_law_name
  simp only [go_sem, simprocAttr]
  repeat' first
    | apply And.intro <;> intro h
    | ((first
      | (refine FCallT.of (isId_call (s := s)) ?_; rintro _ rfl)
      | (refine FCallT.of (containsS_call (l := names) (s := s) hl) ?_; rintro _ rfl)
      | (refine FCallT.of (bad_call) ?_; rintro _ rfl)); simp only [go_sem, simprocAttr])
  · exact err_eq (nameE_id (by assumption))
  · exact err_eq (nameE_in (by assumption) (bp_iff.1 (by assumption)))
  · exact err_no (nameE_no (by assumption) (bpF.1 (by assumption)))
theorem enum_call {e : EnumL} {i : Int} (hm : e.members.length < 2 ^ 60) : FCall Tryz.prog n_law_enum [.agg e.row, .int .i64 i] (· = errF (enumE isIdB e i)) := by
  refine FCall.walk u_law_enum k_law_enum rfl ?_
  unfold c_law_enum
  simp only [go_sem, simprocAttr, EnumL.row]
  repeat' first
    | apply And.intro <;> intro h
    | ((refine FCallT.of (bad_call) ?_; rintro _ rfl); simp only [go_sem, simprocAttr])
  · exact err_eq (by unfold enumE; rw [if_pos (by omega)])
  · exact err_eq (by unfold enumE; rw [if_neg (by omega), if_pos (by omega)])
  have hE : enumE isIdB e i = firstO (memberE isIdB e i) e.members.length := by unfold enumE; rw [if_neg (by omega), if_neg (by omega)]
  rw [hE]
  refine FWT.count [] e.members.length (fun j => [(22, .int .i64 j)]) (fun k => ∀ j, j < k → memberE isIdB e i j = none) rfl (by simp) ?_
  intro j hj hg
  by_cases h2 : j < e.members.length
  · have hx := strs_get h2
    have htl : (e.members.take j).length < 2 ^ 60 := by simp; omega
    have hc := fun u => containsS_call (l := e.members.take j) (u := u) (s := e.members[j]) htl
    simp only [go_sem, simprocAttr, ltT h2, Int.toNat_natCast, hx]
    repeat' first
      | apply And.intro <;> intro h
      | ((first
        | (refine FCallT.of (isId_call (s := e.members[j])) ?_; rintro _ rfl)
        | (refine FCallT.of (bad_call) ?_; rintro _ rfl)); simp only [go_sem, simprocAttr])
    · rw [firstO_at hg (memberE_id h2 (by assumption)) h2]; rfl
    refine ⟨all_len_map (fun _ => rfl) _, by omega, ?_⟩
    have e0 : ((j : Int)).toNat - 0 = j := by omega
    rw [e0, strs_take]
    repeat' first
      | apply And.intro <;> intro h
      | ((first
        | (refine FCallT.of (hc _) ?_; rintro _ rfl)
        | (refine FCallT.of (bad_call) ?_; rintro _ rfl)); simp only [go_sem, simprocAttr])
    · rw [firstO_at hg (memberE_in h2 (by assumption) (bp_iff.1 (by assumption))) h2]; rfl
    · exact ⟨by rw [w64s (by omega)], none_succ hg (memberE_no h2 (by assumption) (bpF.1 (by assumption))), h2⟩
  · rw [firstO_none fun k hk => hg k (by omega)]
    simp only [go_sem, simprocAttr, ltF h2]
    first | rfl | trace_state
theorem rows_call {t : TableL} {u : Bool} {en : List EnumL} {i : Int} (hm : ∀ e ∈ en, e.members.length < 2 ^ 60) : FCall Tryz.prog n_law_rows [.agg t.row, .int .i64 i, .sl u (enumsV en)] (· = errF (rowsE t en i)) := by
  refine FCall.walk u_law_rows k_law_rows rfl ?_
  unfold c_law_rows
  simp only [go_sem, simprocAttr, TableL.row]
  repeat' first
    | apply And.intro <;> intro h
    | ((first
      | (refine FCallT.of (tableV_call (t := t) (u := u) hm) ?_; rintro _ rfl)
      | (refine FCallT.of (bad_call) ?_; rintro _ rfl)); simp only [go_sem, simprocAttr, TableL.row])
  · exact err_no (by unfold rowsE; rw [if_pos (by assumption)])
  · exact err_eq (by unfold rowsE; rw [if_neg (by assumption), if_pos (by assumption)])
  · exact err_eq (by unfold rowsE; rw [if_neg (by assumption), if_neg (by assumption)])
end Go.Fx.Tryz
set_option linter.unusedVariables false
set_option linter.unusedSimpArgs false
namespace Go.Fx.Tryz
open Go Go.Fm Go.Proofs
theorem source_call {s : List UInt8} (h : s.length < 2 ^ 60) : FCall Tryz.prog n_law_source [.str s] (· = .bool (bp (sourceP s))) := by
  refine FCall.walk u_law_source k_law_source rfl ?_
  unfold c_law_source
  simp only [go_sem, simprocAttr]
  refine FWT.count [] s.length (fun j => [(6, .int .i64 j)]) (fun j => ∀ b ∈ s.take j, 32 ≤ b.toNat ∧ b.toNat ≤ 126 ∧ b.toNat ≠ 34) rfl (by simp) ?_
  intro j hj hg
  by_cases h2 : j < s.length
  · have hx : s[j]? = some s[j] := List.getElem?_eq_getElem h2
    simp only [go_sem, simprocAttr, ltT h2, Int.toNat_natCast, hx]
    repeat' first
      | apply And.intro <;> intro h
    all_goals first
      | exact fbp_false (fun k => by have := k.1 s[j] (List.getElem_mem h2); omega)
      | exact ⟨by rw [w64s (by omega)], (all_take_succ h2).2 ⟨hg, by omega⟩, h2⟩
      | trace_state
  · rw [List.take_of_length_le (by omega)] at hg
    simp only [go_sem, simprocAttr, ltF h2]
    rw [dec_bp]; exact congrArg FV.bool (bp_congr ⟨fun k => ⟨hg, by omega⟩, fun k => by have := k.2; omega⟩)
theorem plainText_call {s : List UInt8} (h : s.length < 2 ^ 60) : FCall Tryz.prog n_ref17_plainText [.str s] (· = .bool (bp (sourceP s))) := by
  refine FCall.walk u_ref17_plainText k_ref17_plainText rfl ?_
  unfold c_ref17_plainText
  simp only [go_sem, simprocAttr]
  refine FWT.count [] s.length (fun j => [(3, .int .i64 j)]) (fun j => ∀ b ∈ s.take j, 32 ≤ b.toNat ∧ b.toNat ≤ 126 ∧ b.toNat ≠ 34) rfl (by simp) ?_
  intro j hj hg
  by_cases h2 : j < s.length
  · have hx : s[j]? = some s[j] := List.getElem?_eq_getElem h2
    simp only [go_sem, simprocAttr, ltT h2, Int.toNat_natCast, hx]
    repeat' first
      | apply And.intro <;> intro h
    all_goals first
      | exact fbp_false (fun k => by have := k.1 s[j] (List.getElem_mem h2); omega)
      | exact ⟨by rw [w64s (by omega)], (all_take_succ h2).2 ⟨hg, by omega⟩, h2⟩
      | trace_state
  · rw [List.take_of_length_le (by omega)] at hg
    simp only [go_sem, simprocAttr, ltF h2]
    rw [dec_bp]; exact congrArg FV.bool (bp_congr ⟨fun k => ⟨hg, by omega⟩, fun k => by have := k.2; omega⟩)
theorem expr_ne {a : Int} {x t : TyL} (h : ¬ a = 0) : a = if a = 0 ∧ x ≠ t then 8 else a := by rw [if_neg fun k => h k.1]
theorem ty_ext {x t : TyL} (h : x.k = t.k ∧ x.e = t.e) : x = t := by cases x; cases t; simp_all
theorem expr_eq {a : Int} {x t : TyL} (h : a = 0) (h2 : x.k = t.k ∧ x.e = t.e) : a = if a = 0 ∧ x ≠ t then 8 else a := by rw [if_neg fun k => k.2 (ty_ext h2)]
theorem expr_eq0 {a : Int} {x t : TyL} (h : a = 0) (h2 : x.k = t.k ∧ x.e = t.e) : 0 = if a = 0 ∧ x ≠ t then 8 else a := by rw [if_neg fun k => k.2 (ty_ext h2)]; exact h.symm
theorem expr_8 {a : Int} {x t : TyL} (h : a = 0) (h2 : ¬ x.k = t.k ∨ ¬ x.e = t.e) : 8 = if a = 0 ∧ x ≠ t then 8 else a := by
  rw [if_pos ⟨h, fun k => by subst k; rcases h2 with h2 | h2 <;> exact h2 rfl⟩]
theorem expression_call {e : List NodeL} {s : SigL} {u : Bool} {t : TyL} (hI : ∀ n ∈ e, I64 n.n) : FCall Tryz.prog n_law_expression [.sl u (nodesV e), .agg s.row, .agg t.row] (· = .int .i64 (exprE e s t)) := by
  have hT := TypeOf_call (s := s) (u := u) hI
  generalize hr : typeL e s = r at hT
  obtain ⟨r1, r2, r3⟩ := r
  refine FCall.walk u_law_expression k_law_expression rfl ?_
  unfold c_law_expression
  simp only [go_sem, simprocAttr, SigL.row, TyL.row]
  repeat' first
    | apply And.intro <;> intro h
    | ((refine FCallT.of (hT) ?_; rintro _ rfl); simp only [go_sem, simprocAttr, SigL.row, TyL.row])
  all_goals (refine congrArg (FV.int .i64) ?_; unfold exprE; rw [hr])
  all_goals simp only [Bool.and_eq_true, Bool.and_eq_false_iff, decide_eq_true_eq, decide_eq_false_iff_not] at *
  all_goals first
    | exact expr_ne (by assumption)
    | exact expr_eq (by assumption) (by assumption)
    | exact expr_eq0 (by assumption) (by assumption)
    | exact expr_8 (by assumption) (by assumption)
theorem exprError_call {e : List NodeL} {s : SigL} {u : Bool} {t : TyL} (hI : ∀ n ∈ e, I64 n.n) (hm : ∀ e ∈ s.enums, e.members.length < 2 ^ 60) : FCall Tryz.prog n_ref17_exprError [.sl u (nodesV e), .agg s.row, .agg t.row] (· = .int .i64 (exprE e s t)) := by
  have hT := TypeOfR_call (s := s) (u := u) hI hm
  generalize hr : typeL e s = r at hT
  obtain ⟨r1, r2, r3⟩ := r
  refine FCall.walk u_ref17_exprError k_ref17_exprError rfl ?_
  unfold c_ref17_exprError
  simp only [go_sem, simprocAttr, SigL.row, TyL.row]
  repeat' first
    | apply And.intro <;> intro h
    | ((refine FCallT.of (hT) ?_; rintro _ rfl); simp only [go_sem, simprocAttr, SigL.row, TyL.row])
  all_goals (refine congrArg (FV.int .i64) ?_; unfold exprE; rw [hr])
  all_goals simp only [Bool.and_eq_true, Bool.and_eq_false_iff, decide_eq_true_eq, decide_eq_false_iff_not] at *
  all_goals first
    | exact expr_ne (by assumption)
    | exact expr_eq (by assumption) (by assumption)
    | exact expr_eq0 (by assumption) (by assumption)
    | exact expr_8 (by assumption) (by assumption)
end Go.Fx.Tryz
set_option linter.unusedVariables false
set_option linter.unusedSimpArgs false
namespace Go.Fx.Tryz
open Go Go.Fm Go.Proofs
theorem fieldE_id {l : List FieldL} {x : List (List UInt8)} {ne : Nat} {i b : Int} {j : Nat} (h : j < l.length) (h1 : isIdB l[j].name = false) : fieldE isIdB l x ne i b j = some (2, 3, i, IntKind.i64.wrap (b + j)) := by
  unfold fieldE; rw [List.getElem?_eq_getElem h]; simp [h1]
theorem fieldE_in {l : List FieldL} {x : List (List UInt8)} {ne : Nat} {i b : Int} {j : Nat} (h : j < l.length) (h1 : isIdB l[j].name = true) (h2 : l[j].name ∈ x ∨ l[j].name ∈ (l.take j).map FieldL.name) : fieldE isIdB l x ne i b j = some (7, 3, i, IntKind.i64.wrap (b + j)) := by
  unfold fieldE; rw [List.getElem?_eq_getElem h]; simp only [h1, Bool.true_eq_false, if_false]; rw [if_pos h2]
theorem fieldE_ty {l : List FieldL} {x : List (List UInt8)} {ne : Nat} {i b : Int} {j : Nat} (h : j < l.length) (h1 : isIdB l[j].name = true) (h2 : ¬ (l[j].name ∈ x ∨ l[j].name ∈ (l.take j).map FieldL.name)) (h3 : ¬ validT l[j].ty ne) : fieldE isIdB l x ne i b j = some (8, 3, i, IntKind.i64.wrap (b + j)) := by
  unfold fieldE; rw [List.getElem?_eq_getElem h]; simp only [h1, Bool.true_eq_false, if_false]; rw [if_neg h2, if_pos h3]
theorem fieldE_no {l : List FieldL} {x : List (List UInt8)} {ne : Nat} {i b : Int} {j : Nat} (h : j < l.length) (h1 : isIdB l[j].name = true) (h2 : ¬ (l[j].name ∈ x ∨ l[j].name ∈ (l.take j).map FieldL.name)) (h3 : validT l[j].ty ne) : fieldE isIdB l x ne i b j = none := by
  unfold fieldE; rw [List.getElem?_eq_getElem h]; simp only [h1, Bool.true_eq_false, if_false]; rw [if_neg h2, if_neg (by simpa using h3)]
theorem fieldsV_take (l : List FieldL) (i : Nat) : (fieldsV l).take i = fieldsV (l.take i) := by simp [fieldsV, List.map_take]
theorem fields_call {l : List FieldL} {x : List (List UInt8)} {en : List EnumL} {u v w : Bool} {i b : Int} (hl : l.length < 2 ^ 30) (hx : x.length < 2 ^ 60) : FCall Tryz.prog n_law_fields [.sl u (fieldsV l), .sl v (strs x), .sl w (enumsV en), .int .i64 i, .int .i64 b] (· = errF (fieldsE isIdB l x en.length i b)) := by
  refine FCall.walk u_law_fields k_law_fields rfl ?_
  unfold c_law_fields
  simp only [go_sem, simprocAttr]
  unfold fieldsE
  refine FWT.count [] l.length (fun j => [(15, .int .i64 j)]) (fun k => ∀ j, j < k → fieldE isIdB l x en.length i b j = none) rfl (by simp) ?_
  intro j hj hg
  by_cases h2 : j < l.length
  · have hf := fieldsV_get h2
    have hty := validT_call (t := l[j].ty) (u := w) (en := en)
    simp only [go_sem, simprocAttr, ltT h2, Int.toNat_natCast, hf, FieldL.row]
    repeat' first
      | apply And.intro <;> intro h
      | ((first
        | (refine FCallT.of (isId_call (s := l[j].name)) ?_; rintro _ rfl)
        | (refine FCallT.of (bad_call) ?_; rintro _ rfl)); simp only [go_sem, simprocAttr])
    · rw [firstO_at hg (fieldE_id h2 (by assumption)) h2]; rfl
    have hid : isIdB l[j].name = true := by assumption
    by_cases hin : l[j].name ∈ x
    · have hc := containsS_call (l := x) (u := v) (s := l[j].name) hx
      rw [bp_true hin] at hc
      refine detCall_of _ (hc) ?_
      simp only [go_sem, simprocAttr]
      repeat' first
        | apply And.intro <;> intro h
        | ((refine FCallT.of (bad_call) ?_; rintro _ rfl); simp only [go_sem, simprocAttr])
      rw [firstO_at hg (fieldE_in h2 hid (.inl hin)) h2]; rfl
    · have hc := containsS_call (l := x) (u := v) (s := l[j].name) hx
      rw [bp_false hin] at hc
      refine detCall_of _ (hc) ?_
      simp only [go_sem, simprocAttr]
      refine ⟨all_len_map (fun _ => rfl) _, by omega, ?_⟩
      have e0 : ((j : Int)).toNat - 0 = j := by omega
      rw [e0, fieldsV_take]
      have hn := fun u => names_call (l := l.take j) (u := u) (by simp; omega)
      have hc2 := fun u => containsS_call (l := (l.take j).map FieldL.name) (u := u) (s := l[j].name) (by simp; omega)
      refine detCall_of _ (hn _) ?_
      simp only [go_sem, simprocAttr]
      repeat' first
        | apply And.intro <;> intro h
        | ((first
          | refine detCallB_of _ (hc2 _) rfl ?_
          | (refine FCallT.of (bad_call) ?_; rintro _ rfl)
          | (refine FCallT.of (hty) ?_; rintro _ rfl)); simp only [go_sem, simprocAttr])
      · rw [firstO_at hg (fieldE_in h2 hid (.inr (bp_iff.1 (by assumption)))) h2]; rfl
      · rw [firstO_at hg (fieldE_ty h2 hid (fun k => k.elim hin (bpF.1 (by assumption))) (bpF.1 (by assumption))) h2]; rfl
      · exact ⟨by rw [w64s (by omega)], none_succ hg (fieldE_no h2 hid (fun k => k.elim hin (bpF.1 (by assumption))) (bp_iff.1 (by assumption))), h2⟩
  · rw [firstO_none fun k hk => hg k (by omega)]
    simp only [go_sem, simprocAttr, ltF h2]
    first | rfl | trace_state
theorem hasField_call {l : List FieldL} {u : Bool} {n : Int} {s : List UInt8} (hl : l.length < 2 ^ 30) (hn : 0 ≤ n) : FCall Tryz.prog n_ref17_hasField [.sl u (fieldsV l), .int .i64 n, .str s] (· = .bool (bp (s ∈ (l.take n.toNat).map FieldL.name))) := by
  refine FCall.walk u_ref17_hasField k_ref17_hasField rfl ?_
  unfold c_ref17_hasField
  simp only [go_sem, simprocAttr]
  refine FWT.count [] (min n.toNat l.length) (fun j => [(7, .int .i64 j)]) (fun k => ∀ f ∈ l.take k, ¬ f.name = s) rfl (by simp) ?_
  intro j hj hg
  by_cases h2 : j < n.toNat ∧ j < l.length
  · have hf := fieldsV_get h2.2
    have h3 : ((j : Int) < n) = True := eq_true (by omega)
    simp only [go_sem, simprocAttr, ltT h2.2, Int.toNat_natCast, hf, FieldL.row, h3]
    refine ⟨fun e => ?_, fun e => ⟨by rw [w64s (by omega)], (all_take_succ h2.2).2 ⟨hg, e⟩, by omega⟩⟩
    refine fbp_true ?_
    rw [← e]
    exact List.mem_map_of_mem (List.mem_take_iff_getElem.2 ⟨j, by omega, rfl⟩)
  · have ht : l.take j = l.take n.toNat := by
      by_cases k : n.toNat ≤ l.length
      · have : j = n.toNat := by omega
        rw [this]
      · rw [List.take_of_length_le (by omega), List.take_of_length_le (by omega)]
    rw [ht] at hg
    have hno : ¬ s ∈ (l.take n.toNat).map FieldL.name := fun k => by
      obtain ⟨f, hf, e⟩ := List.mem_map.1 k
      exact hg f hf e
    simp only [go_sem, simprocAttr]
    exact ⟨fun a => ⟨fun b => absurd ⟨by omega, by omega⟩ h2, fun _ => fbp_false hno⟩, fun _ => fbp_false hno⟩
end Go.Fx.Tryz
set_option linter.unusedVariables false
set_option linter.unusedSimpArgs false
namespace Go.Fx.Tryz
open Go Go.Fm Go.Proofs
theorem fieldError_call {l : LawL} {i : Nat} (h : i < l.scopes.length) (hl1 : l.scopes[i].inputs.length < 2 ^ 30) (hl2 : l.scopes[i].defs.length < 2 ^ 30) (hn1 : ∀ f ∈ l.scopes[i].inputs, f.name.length < 2 ^ 60) (hn2 : ∀ f ∈ l.scopes[i].defs, f.name.length < 2 ^ 60) :
    FCall Tryz.prog n_ref17_fieldError [.agg l.row, .int .i64 i] (· = errF ((fieldsE isIdB l.scopes[i].inputs [] l.enums.length i 100).or (fieldsE isIdB l.scopes[i].defs (l.scopes[i].inputs.map FieldL.name) l.enums.length i 200))) := by
  have hx := scopesV_get h
  generalize l.scopes[i] = x at *
  refine FCall.walk u_ref17_fieldError k_ref17_fieldError rfl ?_
  unfold c_ref17_fieldError
  simp only [go_sem, simprocAttr, LawL.row]
  simp only [go_sem, simprocAttr, Int.toNat_natCast, hx, ScopeL.row]
  refine FWT.count [] x.inputs.length (fun j => [(6, .int .i64 j)]) (fun k => ∀ j, j < k → fieldE isIdB x.inputs [] l.enums.length i 100 j = none) rfl (by simp) ?_
  intro j hj hg
  by_cases h2 : j < x.inputs.length
  · have hf := fieldsV_get h2
    have hid := isIdR_call (s := x.inputs[j].name) (hn1 _ (List.getElem_mem h2))
    have hty := validTR_call (t := x.inputs[j].ty) (u := l.efull) (en := l.enums)
    have hh := hasField_call (l := x.inputs) (u := x.ifull) (n := j) (s := x.inputs[j].name) hl1 (by omega)
    rw [Int.toNat_natCast] at hh
    simp only [go_sem, simprocAttr, ltT h2, Int.toNat_natCast, hf, FieldL.row]
    repeat' first
      | apply And.intro <;> intro h
      | ((first
        | (refine FCallT.of (hid) ?_; rintro _ rfl)
        | refine detCall_of _ (hh) ?_
        | refine detCall_of _ (hty) ?_); simp only [go_sem, simprocAttr, hf, Int.toNat_natCast, FieldL.row])
    · exact err_eq (by rw [show fieldsE isIdB x.inputs [] l.enums.length i 100 = _ from firstO_at hg (fieldE_id h2 (by assumption)) h2]; rfl)
    · exact err_eq (by rw [show fieldsE isIdB x.inputs [] l.enums.length i 100 = _ from firstO_at hg (fieldE_in h2 (by assumption) (.inr (bp_iff.1 (by assumption)))) h2]; rfl)
    · exact err_eq (by rw [show fieldsE isIdB x.inputs [] l.enums.length i 100 = _ from firstO_at hg (fieldE_ty h2 (by assumption) (fun k => k.elim (by simp) (bpF.1 (by assumption))) (bpF.1 (by assumption))) h2]; rfl)
    · exact ⟨by rw [w64s (by omega)], none_succ hg (fieldE_no h2 (by assumption) (fun k => k.elim (by simp) (bpF.1 (by assumption))) (bp_iff.1 (by assumption))), h2⟩
  · have hfn : fieldsE isIdB x.inputs [] l.enums.length i 100 = none := firstO_none fun k hk => hg k (by omega)
    rw [hfn, Option.none_or]
    simp only [go_sem, simprocAttr, ltF h2]
    refine FWT.count [] x.defs.length (fun j => [(8, .int .i64 j)]) (fun k => ∀ j, j < k → fieldE isIdB x.defs (x.inputs.map FieldL.name) l.enums.length i 200 j = none) rfl (by simp) ?_
    intro j hj hg
    by_cases h2 : j < x.defs.length
    · have hf := fieldsV_get h2
      have hid := isIdR_call (s := x.defs[j].name) (hn2 _ (List.getElem_mem h2))
      have hty := validTR_call (t := x.defs[j].ty) (u := l.efull) (en := l.enums)
      have hh := hasField_call (l := x.defs) (u := x.dfull) (n := j) (s := x.defs[j].name) hl2 (by omega)
      have hh2 := hasField_call (l := x.inputs) (u := x.ifull) (n := x.inputs.length) (s := x.defs[j].name) hl1 (by omega)
      rw [Int.toNat_natCast] at hh hh2
      rw [List.take_length] at hh2
      simp only [go_sem, simprocAttr, ltT h2, Int.toNat_natCast, hf, FieldL.row]
      repeat' first
        | apply And.intro <;> intro h
        | ((first
          | (refine FCallT.of (hid) ?_; rintro _ rfl)
          | refine detCall_of _ (hh) ?_
          | refine detCall_of _ (hh2) ?_
          | refine detCall_of _ (hty) ?_); simp only [go_sem, simprocAttr, hf, Int.toNat_natCast, FieldL.row])
      · exact err_eq (firstO_at hg (fieldE_id h2 (by assumption)) h2)
      · exact err_eq (firstO_at hg (fieldE_in h2 (by assumption) (.inl (bp_iff.1 (by assumption)))) h2)
      · exact err_eq (firstO_at hg (fieldE_in h2 (by assumption) (.inr (bp_iff.1 (by assumption)))) h2)
      · exact err_eq (firstO_at hg (fieldE_ty h2 (by assumption) (fun k => k.elim (bpF.1 (by assumption)) (bpF.1 (by assumption))) (bpF.1 (by assumption))) h2)
      · exact ⟨by rw [w64s (by omega)], none_succ hg (fieldE_no h2 (by assumption) (fun k => k.elim (bpF.1 (by assumption)) (bpF.1 (by assumption))) (bp_iff.1 (by assumption))), h2⟩
    · have hfn : fieldsE isIdB x.defs (x.inputs.map FieldL.name) l.enums.length i 200 = none := firstO_none fun k hk => hg k (by omega)
      rw [hfn]
      simp only [go_sem, simprocAttr, ltF h2]
      first | rfl | trace_state
end Go.Fx.Tryz
set_option linter.unusedVariables false
set_option linter.unusedSimpArgs false
namespace Go.Fx.Tryz
open Go Go.Fm Go.Proofs
def nmAt {α : Type} (f : α → List UInt8) (l : List α) (s : List UInt8) (c : Int → Prop) (j : Nat) : Prop := c j ∧ ∃ e, l[j]? = some e ∧ f e = s
theorem nmAt_iff {α : Type} {f : α → List UInt8} {l : List α} {s : List UInt8} {c : Int → Prop} {j : Nat} (h : j < l.length) : nmAt f l s c j ↔ c j ∧ f l[j] = s := by
  unfold nmAt; rw [List.getElem?_eq_getElem h]
  exact ⟨fun ⟨a, e, h, b⟩ => by cases h; exact ⟨a, b⟩, fun ⟨a, b⟩ => ⟨a, _, rfl, b⟩⟩
theorem not_succ {p : Nat → Prop} {i : Nat} (h : ∀ j, j < i → ¬ p j) (h2 : ¬ p i) : ∀ j, j < i + 1 → ¬ p j := fun j hj => by
  by_cases e : j = i
  · subst e; exact h2
  · exact h j (by omega)
def takenP (l : LawL) (k i : Int) (s : List UInt8) : Prop :=
  (∃ j, nmAt EnumL.name l.enums s (fun j => 1 < k ∨ j < i) j) ∨ (∃ j, nmAt TableL.name l.tables s (fun j => 2 < k ∨ (k = 2 ∧ j < i)) j) ∨ ∃ j, nmAt ScopeL.name l.scopes s (fun j => k = 3 ∧ j < i) j
theorem nmAt_none {α : Type} {f : α → List UInt8} {l : List α} {s : List UInt8} {c : Int → Prop} (h : ∀ j, j < l.length → ¬ nmAt f l s c j) : ¬ ∃ j, nmAt f l s c j := fun ⟨j, k⟩ => by
  obtain ⟨a, e, h1, h2⟩ := k
  obtain ⟨hj, -⟩ := List.getElem?_eq_some_iff.1 h1
  exact h j hj ⟨a, e, h1, h2⟩
theorem nameTaken_call {l : LawL} {k i : Int} {s : List UInt8} (h1 : l.enums.length < 2 ^ 60) (h2 : l.tables.length < 2 ^ 60) (h3 : l.scopes.length < 2 ^ 60) : FCall Tryz.prog n_ref17_nameTaken [.agg l.row, .int .i64 k, .int .i64 i, .str s] (· = .bool (bp (takenP l k i s))) := by
  refine FCall.walk u_ref17_nameTaken k_ref17_nameTaken rfl ?_
  unfold c_ref17_nameTaken
  simp only [go_sem, simprocAttr, LawL.row]
  refine FWT.count [] l.enums.length (fun j => [(9, .int .i64 j)]) (fun j => ∀ j', j' < j → ¬ nmAt EnumL.name l.enums s (fun j => 1 < k ∨ j < i) j') rfl (by simp) ?_
  intro j hj hg
  by_cases j2 : j < l.enums.length
  · have hx := enumsV_get j2
    have hq := nmAt_iff (f := EnumL.name) (s := s) (c := fun j => 1 < k ∨ j < i) j2
    simp only [go_sem, simprocAttr, ltT j2, Int.toNat_natCast, hx, EnumL.row]
    repeat' first
      | apply And.intro <;> intro h
      | ((first
        | (refine FCallT.of () ?_; rintro _ rfl)
        | refine detCall_of _ () ?_
        | refine detCallB_of _ () rfl ?_); simp only [go_sem, simprocAttr])
    all_goals first
      | exact fbp_true (.inl ⟨j, hq.2 ⟨by omega, by assumption⟩⟩)
      | exact ⟨by rw [w64s (by omega)], not_succ hg (fun q => by obtain ⟨a, b⟩ := hq.1 q; first | contradiction | omega), j2⟩
  have e1 := nmAt_none (fun j' q => hg j' (by omega))
  simp only [go_sem, simprocAttr, ltF j2]
  clear hg j2 hj j
  refine FWT.count [] l.tables.length (fun j => [(10, .int .i64 j)]) (fun j => ∀ j', j' < j → ¬ nmAt TableL.name l.tables s (fun j => 2 < k ∨ (k = 2 ∧ j < i)) j') rfl (by simp) ?_
  intro j hj hg
  by_cases j2 : j < l.tables.length
  · have hx := tablesV_get j2
    have hq := nmAt_iff (f := TableL.name) (s := s) (c := fun j => 2 < k ∨ (k = 2 ∧ j < i)) j2
    simp only [go_sem, simprocAttr, ltT j2, Int.toNat_natCast, hx, TableL.row]
    repeat' first
      | apply And.intro <;> intro h
      | ((first
        | (refine FCallT.of () ?_; rintro _ rfl)
        | refine detCall_of _ () ?_
        | refine detCallB_of _ () rfl ?_); simp only [go_sem, simprocAttr])
    all_goals first
      | exact fbp_true (.inr (.inl ⟨j, hq.2 ⟨by omega, by assumption⟩⟩))
      | exact ⟨by rw [w64s (by omega)], not_succ hg (fun q => by obtain ⟨a, b⟩ := hq.1 q; first | contradiction | omega), j2⟩
  have e2 := nmAt_none (fun j' q => hg j' (by omega))
  simp only [go_sem, simprocAttr, ltF j2]
  clear hg j2 hj j
  refine FWT.count [] l.scopes.length (fun j => [(11, .int .i64 j)]) (fun j => ∀ j', j' < j → ¬ nmAt ScopeL.name l.scopes s (fun j => k = 3 ∧ j < i) j') rfl (by simp) ?_
  intro j hj hg
  by_cases j2 : j < l.scopes.length
  · have hx := scopesV_get j2
    have hq := nmAt_iff (f := ScopeL.name) (s := s) (c := fun j => k = 3 ∧ j < i) j2
    simp only [go_sem, simprocAttr, ltT j2, Int.toNat_natCast, hx, ScopeL.row]
    repeat' first
      | apply And.intro <;> intro h
      | ((first
        | (refine FCallT.of () ?_; rintro _ rfl)
        | refine detCall_of _ () ?_
        | refine detCallB_of _ () rfl ?_); simp only [go_sem, simprocAttr])
    all_goals first
      | exact fbp_true (.inr (.inr ⟨j, hq.2 ⟨by omega, by assumption⟩⟩))
      | exact ⟨by rw [w64s (by omega)], not_succ hg (fun q => by obtain ⟨a, b⟩ := hq.1 q; first | contradiction | omega), j2⟩
  have e3 := nmAt_none (fun j' q => hg j' (by omega))
  simp only [go_sem, simprocAttr, ltF j2]
  exact fbp_false fun q => q.elim e1 fun q => q.elim e2 e3
theorem nmAt_take {α : Type} {f : α → List UInt8} {l : List α} {s : List UInt8} {c : Int → Prop} {i : Nat} (h : ∀ j : Nat, j < l.length → (c j ↔ j < i)) : (∃ j, nmAt f l s c j) ↔ s ∈ (l.take i).map f := by
  constructor
  · rintro ⟨j, a, e, h1, h2⟩
    obtain ⟨hj, rfl⟩ := List.getElem?_eq_some_iff.1 h1
    rw [← h2]
    exact List.mem_map_of_mem (List.mem_take_iff_getElem.2 ⟨j, by have := (h j hj).1 a; omega, rfl⟩)
  · intro k
    obtain ⟨e, he, e2⟩ := List.mem_map.1 k
    obtain ⟨j, hj, rfl⟩ := List.mem_take_iff_getElem.1 he
    have hj2 : j < l.length := by omega
    exact ⟨j, (h j hj2).2 (by omega), _, List.getElem?_eq_getElem hj2, e2⟩
theorem nmAt_no {α : Type} {f : α → List UInt8} {l : List α} {s : List UInt8} {c : Int → Prop} (h : ∀ j, ¬ c j) : ¬ ∃ j, nmAt f l s c j := fun ⟨j, a, _⟩ => h _ a
theorem nmAt_all {α : Type} {f : α → List UInt8} {l : List α} {s : List UInt8} {c : Int → Prop} (h : ∀ j, c j) : (∃ j, nmAt f l s c j) ↔ s ∈ l.map f := by
  have := nmAt_take (f := f) (l := l) (s := s) (c := c) (i := l.length) (fun j hj => ⟨fun _ => hj, fun _ => h _⟩)
  rwa [List.take_length] at this
theorem taken1 {l : LawL} {i : Nat} {s : List UInt8} : takenP l 1 i s ↔ s ∈ (l.enums.take i).map EnumL.name := by
  unfold takenP
  rw [nmAt_take (i := i) (fun j hj => by omega)]
  have a := nmAt_no (f := TableL.name) (l := l.tables) (s := s) (c := fun j => 2 < (1 : Int) ∨ ((1 : Int) = 2 ∧ j < i)) (fun j => by omega)
  have b := nmAt_no (f := ScopeL.name) (l := l.scopes) (s := s) (c := fun j => (1 : Int) = 3 ∧ j < i) (fun j => by omega)
  exact ⟨fun h => h.elim id fun h => h.elim (absurd · a) (absurd · b), .inl⟩
theorem taken2 {l : LawL} {i : Nat} {s : List UInt8} : takenP l 2 i s ↔ s ∈ l.enums.map EnumL.name ++ (l.tables.take i).map TableL.name := by
  unfold takenP
  rw [nmAt_all (fun j => by omega), nmAt_take (i := i) (fun j hj => by omega), List.mem_append]
  have b := nmAt_no (f := ScopeL.name) (l := l.scopes) (s := s) (c := fun j => (2 : Int) = 3 ∧ j < i) (fun j => by omega)
  exact ⟨fun h => h.elim .inl fun h => h.elim .inr (absurd · b), fun h => h.elim .inl fun h => .inr (.inl h)⟩
theorem taken3 {l : LawL} {i : Nat} {s : List UInt8} : takenP l 3 i s ↔ s ∈ l.enums.map EnumL.name ++ l.tables.map TableL.name ++ (l.scopes.take i).map ScopeL.name := by
  unfold takenP
  rw [nmAt_all (fun j => by omega), nmAt_all (fun j => by omega), nmAt_take (i := i) (fun j hj => by omega), List.mem_append, List.mem_append, or_assoc]
end Go.Fx.Tryz
set_option linter.unusedVariables false
set_option linter.unusedSimpArgs false
namespace Go.Fx.Tryz
open Go Go.Fm Go.Proofs
theorem enumError_call {l : LawL} {i : Nat} (hl : l.sane) (h : i < l.enums.length) : FCall Tryz.prog n_ref17_enumError [.agg l.row, .int .i64 i] (· = errF (enumO isIdB l i)) := by
  have hx := enumsV_get h
  have hO : enumO isIdB l i = (nameE isIdB l.enums[i].name ((l.enums.take i).map EnumL.name) 1 i).or (enumE isIdB l.enums[i] i) := by unfold enumO; rw [List.getElem?_eq_getElem h]
  obtain ⟨hs1, hs2, hs3⟩ := hl.e2 _ (List.getElem_mem h)
  rw [hO]
  generalize l.enums[i] = x at *
  have hid := isIdR_call (s := x.name) hs1
  have ht := nameTaken_call (l := l) (k := 1) (i := i) (s := x.name) (by have := hl.e1; omega) (by have := hl.t1; omega) (by have := hl.s1; omega)
  rw [bp_congr taken1] at ht
  refine FCall.walk u_ref17_enumError k_ref17_enumError rfl ?_
  unfold c_ref17_enumError
  simp only [go_sem, simprocAttr, LawL.row]
  simp only [go_sem, simprocAttr, Int.toNat_natCast, hx, EnumL.row]
  repeat' first
    | apply And.intro <;> intro h
    | ((first
      | (refine FCallT.of (hid) ?_; rintro _ rfl)
      | (refine FCallT.of (ht) ?_; rintro _ rfl)); simp only [go_sem, simprocAttr])
  · exact err_eq (by rw [nameE_id (by assumption)]; rfl)
  · exact err_eq (by rw [nameE_in (by assumption) (bp_iff.1 (by assumption))]; rfl)
  · exact err_eq (by rw [nameE_no (by assumption) (bpF.1 (by assumption)), Option.none_or]; unfold enumE; rw [if_pos (by omega)])
  · exact err_eq (by rw [nameE_no (by assumption) (bpF.1 (by assumption)), Option.none_or]; unfold enumE; rw [if_neg (by omega), if_pos (by omega)])
  have hE : (nameE isIdB x.name ((l.enums.take i).map EnumL.name) 1 i).or (enumE isIdB x i) = firstO (memberE isIdB x i) x.members.length := by
    rw [nameE_no (by assumption) (bpF.1 (by assumption)), Option.none_or]; unfold enumE; rw [if_neg (by omega), if_neg (by omega)]
  rw [hE]
  refine FWT.count [] x.members.length (fun j => [(6, .box [.int .i64 0, .int .i64 1, .int .i64 i, .int .i64 (subZ j)]), (7, .int .i64 j)]) (fun k => ∀ j, j < k → memberE isIdB x i j = none) rfl (by simp) ?_
  intro j hj hg
  by_cases h2 : j < x.members.length
  · have hy := strs_get h2
    have hid2 := isIdR_call (s := x.members[j]) (hs3 _ (List.getElem_mem h2))
    simp only [go_sem, simprocAttr, ltT h2, Int.toNat_natCast, hy]
    repeat' first
      | apply And.intro <;> intro h
      | ((refine FCallT.of (hid2) ?_; rintro _ rfl); simp only [go_sem, simprocAttr, hy, Int.toNat_natCast])
    · rw [firstO_at hg (memberE_id h2 (by assumption)) h2]; rfl
    have hidj : isIdB x.members[j] = true := by assumption
    refine FWT.count [] j (fun k => [(8, .int .i64 k)]) (fun k => ∀ m ∈ x.members.take k, ¬ m = x.members[j]) rfl (by simp) ?_
    intro k hk hn
    by_cases k2 : k < j
    · have hz := strs_get (show k < x.members.length by omega)
      simp only [go_sem, simprocAttr, ltT k2, Int.toNat_natCast, hy, hz]
      refine ⟨fun q => ?_, fun q => ⟨by rw [w64s (by omega)], (all_take_succ (by omega)).2 ⟨hn, q⟩, k2⟩⟩
      rw [firstO_at hg (memberE_in h2 hidj (List.mem_take_iff_getElem.2 ⟨k, by omega, q⟩)) h2]; rfl
    · have ek : k = j := by omega
      subst ek
      simp only [go_sem, simprocAttr, ltF k2]
      exact ⟨by rw [w64s (by omega)]; rfl, none_succ hg (memberE_no h2 hidj (fun m => hn _ m rfl)), h2⟩
  · rw [firstO_none fun k hk => hg k (by omega)]
    simp only [go_sem, simprocAttr, ltF h2]
    first | rfl | trace_state
theorem tableError_call {l : LawL} {i : Nat} (hl : l.sane) (h : i < l.tables.length) : FCall Tryz.prog n_ref17_tableError [.agg l.row, .int .i64 i] (· = errF (tableO isIdB l i)) := by
  have hx := tablesV_get h
  have hO : tableO isIdB l i = (nameE isIdB l.tables[i].name (l.enums.map EnumL.name ++ (l.tables.take i).map TableL.name) 2 i).or (rowsE l.tables[i] l.enums i) := by unfold tableO; rw [List.getElem?_eq_getElem h]
  obtain ⟨hs1, hs2⟩ := hl.t2 _ (List.getElem_mem h)
  rw [hO]
  generalize l.tables[i] = x at *
  have hid := isIdR_call (s := x.name) hs1
  have ht := nameTaken_call (l := l) (k := 2) (i := i) (s := x.name) (by have := hl.e1; omega) (by have := hl.t1; omega) (by have := hl.s1; omega)
  rw [bp_congr taken2] at ht
  have hv := tableVR_call (t := x) (u := l.efull) hl.hm
  refine FCall.walk u_ref17_tableError k_ref17_tableError rfl ?_
  unfold c_ref17_tableError
  simp only [go_sem, simprocAttr, LawL.row]
  simp only [go_sem, simprocAttr, Int.toNat_natCast, hx, TableL.row]
  repeat' first
    | apply And.intro <;> intro h
    | ((first
      | (refine FCallT.of (hid) ?_; rintro _ rfl)
      | (refine FCallT.of (ht) ?_; rintro _ rfl)
      | (refine FCallT.of (hv) ?_; rintro _ rfl)); simp only [go_sem, simprocAttr])
  · exact err_eq (by rw [nameE_id (by assumption)]; rfl)
  · exact err_eq (by rw [nameE_in (by assumption) (bp_iff.1 (by assumption))]; rfl)
  all_goals rw [nameE_no (by assumption) (bpF.1 (by assumption)), Option.none_or]
  all_goals unfold rowsE
  all_goals first
    | exact err_no (by rw [if_pos (by assumption)])
    | exact err_eq (by rw [if_neg (by assumption), if_pos (by omega)])
    | exact err_eq (by rw [if_neg (by assumption), if_neg (by omega)])
    | trace_state
end Go.Fx.Tryz
set_option linter.unusedVariables false
set_option linter.unusedSimpArgs false
namespace Go.Fx.Tryz
open Go Go.Fm Go.Proofs
theorem rulesV_take (l : List RuleL) (i : Nat) : (rulesV l).take i = rulesV (l.take i) := by simp [rulesV, List.map_take]
theorem named_call {x : ScopeL} {j : Nat} (h : j < x.rules.length) (hs : x.mid) : FCall Tryz.prog n_law_named [.agg x.row, .int .i64 j] (· = .int .i64 (namedE isIdB x j x.rules[j])) := by
  have hx := rulesV_get h
  have hr := hs.2.1
  have hid := isId_call (s := x.rules[j].name)
  generalize hq : x.rules[j] = r at *
  refine FCall.walk u_law_named k_law_named rfl ?_
  unfold c_law_named
  simp only [go_sem, simprocAttr, ScopeL.row]
  simp only [go_sem, simprocAttr, Int.toNat_natCast, hx, RuleL.row]
  repeat' first
    | apply And.intro <;> intro h
    | ((refine FCallT.of (hid) ?_; rintro _ rfl); simp only [go_sem, simprocAttr])
  · unfold namedE; rw [if_pos (by assumption)]
  have hidj : isIdB r.name = true := by assumption
  refine ⟨all_len_map (fun _ => rfl) _, by omega, ?_⟩
  have e0 : ((j : Int)).toNat - 0 = j := by omega
  rw [e0, rulesV_take, rulesV_length, List.length_take, Nat.min_eq_left (by omega)]
  refine FWT.count [] j (fun k => [(22, .int .i64 k)]) (fun k => ∀ q ∈ x.rules.take k, ¬ q.name = r.name) rfl (by simp) ?_
  intro k hk hn
  by_cases k2 : k < j
  · have hy : (rulesV (x.rules.take j))[k]? = some x.rules[k].row := by rw [rulesV_get (by simp; omega), List.getElem_take]
    simp only [go_sem, simprocAttr, ltT k2, Int.toNat_natCast, hy, RuleL.row]
    refine ⟨fun e => ?_, fun e => ⟨by rw [w64s (by omega)], (all_take_succ (by omega)).2 ⟨hn, e⟩, k2⟩⟩
    unfold namedE
    rw [if_neg (by simp [hidj]), if_pos ⟨x.rules[k], List.mem_take_iff_getElem.2 ⟨k, by omega, rfl⟩, e⟩]
  · have ek : k = j := by omega
    subst ek
    have hN : namedE isIdB x k r = if r.d < 0 ∨ (x.defs.length : Int) ≤ r.d then 6 else
        if r.p < -1 ∨ (k : Int) ≤ r.p ∨ (0 ≤ r.p ∧ ((x.rules[r.p.toNat]?).map RuleL.d).getD 0 ≠ r.d) then 9 else 0 := by
      unfold namedE; rw [if_neg (by simp [hidj]), if_neg (fun ⟨q, m, e⟩ => hn q m e)]
    rw [hN]
    simp only [go_sem, simprocAttr, ltF k2]
    repeat' first
      | apply And.intro <;> intro h
    · rw [if_pos (by omega)]
    · rw [if_pos (by omega)]
    · rw [if_neg (by omega), if_pos (by omega)]
    · rw [if_neg (by omega), if_pos (by omega)]
    · have hpl : r.p.toNat < x.rules.length := by omega
      have hp := rulesV_get hpl
      have hp0 : (0 ≤ r.p) = True := eq_true (by assumption)
      have hpe : ((x.rules[r.p.toNat]?).map RuleL.d).getD 0 = x.rules[r.p.toNat].d := by rw [List.getElem?_eq_getElem hpl]; rfl
      rw [hpe, if_neg (show ¬ (r.d < 0 ∨ (x.defs.length : Int) ≤ r.d) by omega)]
      simp only [go_sem, simprocAttr, hp, hp0, RuleL.row]
      refine ⟨fun e => ?_, fun e => ?_⟩
      · first | rw [if_neg (by omega)] | rw [if_pos (by omega)]
      · first | rw [if_neg (by omega)] | rw [if_pos (by omega)]
    · rw [if_neg (by omega), if_neg (by omega)]
end Go.Fx.Tryz
set_option linter.unusedVariables false
set_option linter.unusedSimpArgs false
namespace Go.Fx.Tryz
open Go Go.Fm Go.Proofs
theorem ruleE_at {x : ScopeL} {j : Nat} {s : SigL} (h : j < x.rules.length) {r : RuleL} (hr : x.rules[j] = r) :
    (namedE isIdB x j r ≠ 0 → ruleE isIdB x j s = namedE isIdB x j r) ∧ (namedE isIdB x j r = 0 →
    ((r.pr < 0 ∨ 9 < r.pr ∨ r.f < 0 ∨ r.t ≤ r.f ∨ 109573 < r.t) → ruleE isIdB x j s = 3) ∧ (¬ (r.pr < 0 ∨ 9 < r.pr ∨ r.f < 0 ∨ r.t ≤ r.f ∨ 109573 < r.t) →
    (8 ≤ ((x.rules.take j).filter (fun q => decide (q.d = r.d))).length → ruleE isIdB x j s = 4) ∧ (¬ 8 ≤ ((x.rules.take j).filter (fun q => decide (q.d = r.d))).length →
    (¬ sourceP r.src → ruleE isIdB x j s = 2) ∧ (sourceP r.src →
    (0 < r.guard.length → exprE r.guard s ⟨1, 0⟩ ≠ 0 → ruleE isIdB x j s = exprE r.guard s ⟨1, 0⟩) ∧ (¬ (0 < r.guard.length ∧ exprE r.guard s ⟨1, 0⟩ ≠ 0) → ruleE isIdB x j s = exprE r.value s (fieldAt x.defs r.d).ty))))) := by
  have e : x.rules[j]? = some r := by rw [List.getElem?_eq_getElem h, hr]
  unfold ruleE
  simp only [e]
  refine ⟨fun a => by rw [if_pos a], fun a => ⟨fun b => by rw [if_neg (by simpa using a), if_pos b], fun b => ⟨fun c => by rw [if_neg (by simpa using a), if_neg b, if_pos c], fun c => ⟨fun d => by rw [if_neg (by simpa using a), if_neg b, if_neg c, if_pos d], fun d => ⟨fun p q => ?_, fun p => ?_⟩⟩⟩⟩⟩
  · rw [if_neg (by simpa using a), if_neg b, if_neg c, if_neg (by simpa using d), if_pos ⟨p, q⟩]
  · rw [if_neg (by simpa using a), if_neg b, if_neg c, if_neg (by simpa using d), if_neg p]
theorem namedE_d {x : ScopeL} {j : Nat} {r : RuleL} (h : namedE isIdB x j r = 0) : 0 ≤ r.d ∧ r.d < x.defs.length := by
  unfold namedE at h
  by_cases a : isIdB r.name = false
  · rw [if_pos a] at h; omega
  · rw [if_neg a] at h
    split at h
    · omega
    · split at h
      · omega
      · omega
theorem rule_call {x : ScopeL} {j : Nat} {s : SigL} (h : j < x.rules.length) (hs : x.mid) (hsrc : x.rules[j].src.length < 2 ^ 60) (hI1 : ∀ n ∈ x.rules[j].guard, I64 n.n) (hI2 : ∀ n ∈ x.rules[j].value, I64 n.n) : FCall Tryz.prog n_law_rule [.agg x.row, .int .i64 j, .agg s.row] (· = .int .i64 (ruleE isIdB x j s)) := by
  have hx := rulesV_get h
  have hr := hs.2.1
  have hnm := named_call h hs
  generalize hq : x.rules[j] = r at *
  obtain ⟨c1, c2⟩ := ruleE_at (s := s) h hq
  have hrd := namedE_d (x := x) (j := j) (r := r)
  have hfl : ∀ k, ((x.rules.take k).filter (fun q => decide (q.d = r.d))).length ≤ k := fun k => Nat.le_trans (List.length_filter_le _ _) (by simp; omega)
  generalize hN : namedE isIdB x j r = N at *
  refine FCall.walk u_law_rule k_law_rule rfl ?_
  unfold c_law_rule
  simp only [go_sem, simprocAttr, ScopeL.row, SigL.row]
  refine FCallT.of (hnm) ?_
  rintro _ rfl
  simp only [go_sem, simprocAttr, ScopeL.row, SigL.row]
  refine ⟨fun a => ?_, fun a => ?_⟩
  · rw [c1 a]
  replace c2 := c2 (by omega)
  replace hrd := hrd (by omega)
  simp only [go_sem, simprocAttr, Int.toNat_natCast, hx, RuleL.row]
  refine ⟨all_len_map (fun _ => rfl) _, by omega, ?_⟩
  rw [Nat.sub_zero, rulesV_take, rulesV_length, List.length_take, Nat.min_eq_left (by omega)]
  refine FWT.count [] j (fun k => [(9, .int .i64 ((x.rules.take k).filter (fun q => decide (q.d = r.d))).length), (29, .int .i64 k)]) (fun _ => True) rfl trivial ?_
  intro k hk _
  by_cases k2 : k < j
  · have hy : (rulesV (x.rules.take j))[k]? = some x.rules[k].row := by rw [rulesV_get (by simp; omega), List.getElem_take]
    have hfs := filter_take_succ (p := fun q => decide (q.d = r.d)) (show k < x.rules.length by omega)
    have := hfl k
    simp only [go_sem, simprocAttr, ltT k2, Int.toNat_natCast, hy, RuleL.row]
    refine ⟨fun e => ⟨?_, k2⟩, fun e => ⟨?_, k2⟩⟩
    · rw [hfs, if_pos (by simpa using e), List.length_append, w64s (by omega), w64s (by omega)]; rfl
    · rw [hfs, if_neg (by simpa using e), List.append_nil, w64s (by omega)]
  · have ek : k = j := by omega
    subst ek
    obtain ⟨c3, c4⟩ := c2
    have hdl : r.d.toNat < x.defs.length := by omega
    have hdx := fieldsV_get hdl
    have hd0 : (0 ≤ r.d) = True := eq_true hrd.1
    have hfa : fieldAt x.defs r.d = x.defs[r.d.toNat] := by unfold fieldAt; rw [List.getElem?_eq_getElem hdl]; rfl
    rw [hfa] at c4
    have hg := fun u => expression_call (e := r.guard) (s := s) (u := u) (t := ⟨1, 0⟩) hI1
    have hv := fun u => expression_call (e := r.value) (s := s) (u := u) (t := x.defs[r.d.toNat].ty) hI2
    generalize exprE r.guard s ⟨1, 0⟩ = G at *
    generalize exprE r.value s x.defs[r.d.toNat].ty = V at *
    simp only [go_sem, simprocAttr, ltF k2]
    repeat' first
      | apply And.intro <;> intro h
      | ((first
        | (refine FCallT.of (source_call (s := r.src) hsrc) ?_; rintro _ rfl)
        | (refine FCallT.of (hg _) ?_; rintro _ rfl)
        | refine detCall_of _ (hv _) ?_); simp only [go_sem, simprocAttr, SigL.row, hdx, hd0, FieldL.row])
    · rw [c3 (by omega)]
    · rw [c3 (by omega)]
    · rw [c3 (by omega)]
    · rw [c3 (by omega)]
    · rw [c3 (by omega)]
    · rw [(c4 (by omega)).1 (by omega)]
    all_goals replace c4 := (c4 (by omega)).2 (by omega)
    · rw [c4.1 (bpF.1 (by assumption))]
    all_goals replace c4 := c4.2 (bp_iff.1 (by assumption))
    · rw [c4.1 (by omega) (by assumption)]
    · rw [c4.2 (by omega)]
    · rw [c4.2 (by omega)]
end Go.Fx.Tryz
set_option linter.unusedVariables false
set_option linter.unusedSimpArgs false
namespace Go.Fx.Tryz
open Go Go.Fm Go.Proofs
def sigRL (l : LawL) (x : ScopeL) : SigL := ⟨l.efull, l.enums, l.tfull, l.tables, false, x.inputs.map FieldL.ty, false, x.defs.map FieldL.ty, !hasMem l x, if hasMem l x then (memOf l x).defs.map FieldL.ty else [], hasMem l x⟩
def sigOL (l : LawL) (x : ScopeL) : SigL := ⟨false, l.enums.map EnumL.bare, false, l.tables.map TableL.bare, false, x.inputs.map FieldL.ty, false, x.defs.map FieldL.ty, !hasMem l x, if hasMem l x then (memOf l x).defs.map FieldL.ty else [], hasMem l x⟩
theorem sigR_at {l : LawL} {i : Nat} {x : ScopeL} (h : l.scopes[i]? = some x) : sigR l i = .agg [.sl l.efull (enumsV l.enums), .sl l.tfull (tablesV l.tables), .arr (tysV (x.inputs.map FieldL.ty)), .arr (tysV (x.defs.map FieldL.ty)), if hasMem l x then .arr (tysV ((memOf l x).defs.map FieldL.ty)) else .sl true [], .bool (hasMem l x)] := by
  unfold sigR; rw [if_neg (by omega), Int.toNat_natCast, h]
theorem sigO_at {l : LawL} {i : Nat} {x : ScopeL} (h : l.scopes[i]? = some x) : sigO l i = .agg [.arr (enumsO l.enums), .arr (tablesO l.tables), .arr (tysV (x.inputs.map FieldL.ty)), .arr (tysV (x.defs.map FieldL.ty)), if hasMem l x then .arr (tysV ((memOf l x).defs.map FieldL.ty)) else .sl true [], .bool (hasMem l x)] := by
  unfold sigO; rw [if_neg (by omega), Int.toNat_natCast, h]
theorem ruleError_call {l : LawL} {i j : Nat} (hl : l.sane) (hi : i < l.scopes.length) (h : j < l.scopes[i].rules.length) : FCall Tryz.prog n_ref17_ruleError [.agg l.row, .int .i64 i, .int .i64 j] (· = .int .i64 (ruleE isIdB l.scopes[i] j (sigRL l l.scopes[i]))) := by
  have hx := scopesV_get hi
  have hsg := signatureR_call (l := l) (i := i) hl.mid
  rw [sigR_at (List.getElem?_eq_getElem hi)] at hsg
  obtain ⟨-, -, hs, -, -, hrs⟩ := hl.s2 _ (List.getElem_mem hi)
  generalize l.scopes[i] = x at *
  have hy := rulesV_get h
  have hr := hs.2.1
  obtain ⟨hnm, hsrc, hI1, hI2⟩ := hrs _ (List.getElem_mem h)
  generalize hq : x.rules[j] = r at *
  obtain ⟨c1, c2⟩ := ruleE_at (s := sigRL l x) h hq
  have hrd := namedE_d (x := x) (j := j) (r := r)
  have hfl : ∀ k, ((x.rules.take k).filter (fun q => decide (q.d = r.d))).length ≤ k := fun k => Nat.le_trans (List.length_filter_le _ _) (by simp; omega)
  have hid := isIdR_call (s := r.name) hnm
  refine FCall.walk u_ref17_ruleError k_ref17_ruleError rfl ?_
  unfold c_ref17_ruleError
  simp only [go_sem, simprocAttr, LawL.row]
  simp only [go_sem, simprocAttr, Int.toNat_natCast, hx, ScopeL.row, hy, RuleL.row]
  repeat' first
    | apply And.intro <;> intro h
    | ((refine FCallT.of (hid) ?_; rintro _ rfl); simp only [go_sem, simprocAttr])
  · have hN : namedE isIdB x j r = 2 := by unfold namedE; rw [if_pos (by assumption)]
    rw [c1 (by omega), hN]
  have hidr : isIdB r.name = true := by assumption
  refine FWT.count [] j (fun k => [(9, .int .i64 ((x.rules.take k).filter (fun q => decide (q.d = r.d))).length), (10, .int .i64 k)]) (fun k => ∀ q ∈ x.rules.take k, ¬ q.name = r.name) rfl (by simp) ?_
  intro k hk hn
  by_cases k2 : k < j
  · have hz := rulesV_get (show k < x.rules.length by omega)
    have hfs := filter_take_succ (p := fun q => decide (q.d = r.d)) (show k < x.rules.length by omega)
    have := hfl k
    simp only [go_sem, simprocAttr, ltT k2, Int.toNat_natCast, hz, RuleL.row]
    refine ⟨fun e => ?_, fun e => ⟨fun e2 => ⟨?_, (all_take_succ (by omega)).2 ⟨hn, e⟩, k2⟩, fun e2 => ⟨?_, (all_take_succ (by omega)).2 ⟨hn, e⟩, k2⟩⟩⟩
    · have hN : namedE isIdB x j r = 7 := by unfold namedE; rw [if_neg (by simp [hidr]), if_pos ⟨x.rules[k], List.mem_take_iff_getElem.2 ⟨k, by omega, rfl⟩, e⟩]
      rw [c1 (by omega), hN]
    · rw [hfs, if_pos (by simpa using e2), List.length_append, w64s (by omega), w64s (by omega)]; rfl
    · rw [hfs, if_neg (by simpa using e2), List.append_nil, w64s (by omega)]
  · have ek : k = j := by omega
    subst ek
    have hN : namedE isIdB x k r = if r.d < 0 ∨ (x.defs.length : Int) ≤ r.d then 6 else
        if r.p < -1 ∨ (k : Int) ≤ r.p ∨ (0 ≤ r.p ∧ ((x.rules[r.p.toNat]?).map RuleL.d).getD 0 ≠ r.d) then 9 else 0 := by
      unfold namedE; rw [if_neg (by simp [hidr]), if_neg (fun ⟨q, m, e⟩ => hn q m e)]
    have hdate := validDateR_call (f := r.f) (t := r.t)
    have htxt := plainText_call (s := r.src) hsrc
    simp only [go_sem, simprocAttr, ltF k2]
    refine ⟨fun a => ?_, fun a => ⟨fun b => ?_, fun b => ⟨fun c => ⟨fun e => ?_, fun e => ⟨fun f => ?_, fun f => ?_⟩⟩, fun c => ?_⟩⟩⟩
    · rw [if_pos (by omega)] at hN; rw [c1 (by omega), hN]
    · rw [if_pos (by omega)] at hN; rw [c1 (by omega), hN]
    · rw [if_neg (by omega), if_pos (by omega)] at hN; rw [c1 (by omega), hN]
    · rw [if_neg (by omega), if_pos (by omega)] at hN; rw [c1 (by omega), hN]
    rotate_left
    · rw [if_neg (by omega), if_neg (by omega)] at hN
      obtain ⟨c3, c4⟩ := c2 hN
      replace hrd := hrd hN
      have hdl : r.d.toNat < x.defs.length := by omega
      have hdx := fieldsV_get hdl
      have hd0 : (0 ≤ r.d) = True := eq_true hrd.1
      have hfa : fieldAt x.defs r.d = x.defs[r.d.toNat] := by unfold fieldAt; rw [List.getElem?_eq_getElem hdl]; rfl
      rw [hfa] at c4
      have hg := fun u => exprError_call (e := r.guard) (s := sigRL l x) (u := u) (t := ⟨1, 0⟩) hI1 hl.hm
      have hv := fun u => exprError_call (e := r.value) (s := sigRL l x) (u := u) (t := x.defs[r.d.toNat].ty) hI2 hl.hm
      generalize exprE r.guard (sigRL l x) ⟨1, 0⟩ = G at *
      generalize exprE r.value (sigRL l x) x.defs[r.d.toNat].ty = V at *
      repeat' first
        | apply And.intro <;> intro h
        | ((first
          | (refine FCallT.of (hdate) ?_; rintro _ rfl)
          | (refine FCallT.of (htxt) ?_; rintro _ rfl)); simp only [go_sem, simprocAttr, LawL.row])
      · rw [c3 (by omega)]
      · rw [c3 (by omega)]
      · have hb := bpF.1 (by assumption); unfold validD at hb; rw [c3 (by omega)]
      · rw [c3 (by omega)]
      · have hb := bp_iff.1 (by assumption); unfold validD at hb; rw [(c4 (by omega)).1 (by omega)]
      · have hb := bp_iff.1 (by assumption); unfold validD at hb; rw [((c4 (by omega)).2 (by omega)).1 (bpF.1 (by assumption))]
      have hb := bp_iff.1 (show bp (validD r.f r.t) = true by assumption)
      unfold validD at hb
      replace c4 := ((c4 (by omega)).2 (by omega)).2 (bp_iff.1 (by assumption))
      cases hh : hasMem l x with
      | false =>
        have hL : sigRL l x = ⟨l.efull, l.enums, l.tfull, l.tables, false, x.inputs.map FieldL.ty, false, x.defs.map FieldL.ty, true, [], false⟩ := by unfold sigRL; simp [hh]
        simp only [hL, SigL.row] at hg hv
        simp only [hh, Bool.false_eq_true, if_false] at hsg
        refine FCallT.of (hsg) ?_
        rintro _ rfl
        simp only [go_sem, simprocAttr, LawL.row, hdx, hd0, FieldL.row]
        repeat' first
          | apply And.intro <;> intro h
          | ((first
            | (refine FCallT.of (hg _) ?_; rintro _ rfl)
            | refine detCall_of _ (hv _) ?_); simp only [go_sem, simprocAttr, hdx, hd0, FieldL.row])
        · rw [c4.1 (by omega) (by assumption)]
        · rw [c4.2 (by omega)]
        · rw [c4.2 (by omega)]
      | true =>
        have hL : sigRL l x = ⟨l.efull, l.enums, l.tfull, l.tables, false, x.inputs.map FieldL.ty, false, x.defs.map FieldL.ty, false, (memOf l x).defs.map FieldL.ty, true⟩ := by unfold sigRL; simp [hh]
        simp only [hL, SigL.row] at hg hv
        simp only [hh, if_true] at hsg
        refine FCallT.of (hsg) ?_
        rintro _ rfl
        simp only [go_sem, simprocAttr, LawL.row, hdx, hd0, FieldL.row]
        repeat' first
          | apply And.intro <;> intro h
          | ((first
            | (refine FCallT.of (hg _) ?_; rintro _ rfl)
            | refine detCall_of _ (hv _) ?_); simp only [go_sem, simprocAttr, hdx, hd0, FieldL.row])
        · rw [c4.1 (by omega) (by assumption)]
        · rw [c4.2 (by omega)]
        · rw [c4.2 (by omega)]
    · have hpl : r.p.toNat < x.rules.length := by omega
      have hp := rulesV_get hpl
      have hp0 : (0 ≤ r.p) = True := eq_true (by omega)
      have hpe : ((x.rules[r.p.toNat]?).map RuleL.d).getD 0 = x.rules[r.p.toNat].d := by rw [List.getElem?_eq_getElem hpl]; rfl
      rw [hpe, if_neg (show ¬ (r.d < 0 ∨ (x.defs.length : Int) ≤ r.d) by omega)] at hN
      simp only [go_sem, simprocAttr, hp, hp0, RuleL.row]
      refine ⟨fun e2 => ?_, fun e2 => ?_⟩
      · rw [if_pos (by omega)] at hN; rw [c1 (by omega), hN]
      · rw [if_neg (by omega)] at hN
        obtain ⟨c3, c4⟩ := c2 hN
        replace hrd := hrd hN
        have hdl : r.d.toNat < x.defs.length := by omega
        have hdx := fieldsV_get hdl
        have hd0 : (0 ≤ r.d) = True := eq_true hrd.1
        have hfa : fieldAt x.defs r.d = x.defs[r.d.toNat] := by unfold fieldAt; rw [List.getElem?_eq_getElem hdl]; rfl
        rw [hfa] at c4
        have hg := fun u => exprError_call (e := r.guard) (s := sigRL l x) (u := u) (t := ⟨1, 0⟩) hI1 hl.hm
        have hv := fun u => exprError_call (e := r.value) (s := sigRL l x) (u := u) (t := x.defs[r.d.toNat].ty) hI2 hl.hm
        generalize exprE r.guard (sigRL l x) ⟨1, 0⟩ = G at *
        generalize exprE r.value (sigRL l x) x.defs[r.d.toNat].ty = V at *
        repeat' first
          | apply And.intro <;> intro h
          | ((first
            | (refine FCallT.of (hdate) ?_; rintro _ rfl)
            | (refine FCallT.of (htxt) ?_; rintro _ rfl)); simp only [go_sem, simprocAttr, LawL.row])
        · rw [c3 (by omega)]
        · rw [c3 (by omega)]
        · have hb := bpF.1 (by assumption); unfold validD at hb; rw [c3 (by omega)]
        · rw [c3 (by omega)]
        · have hb := bp_iff.1 (by assumption); unfold validD at hb; rw [(c4 (by omega)).1 (by omega)]
        · have hb := bp_iff.1 (by assumption); unfold validD at hb; rw [((c4 (by omega)).2 (by omega)).1 (bpF.1 (by assumption))]
        have hb := bp_iff.1 (show bp (validD r.f r.t) = true by assumption)
        unfold validD at hb
        replace c4 := ((c4 (by omega)).2 (by omega)).2 (bp_iff.1 (by assumption))
        cases hh : hasMem l x with
        | false =>
          have hL : sigRL l x = ⟨l.efull, l.enums, l.tfull, l.tables, false, x.inputs.map FieldL.ty, false, x.defs.map FieldL.ty, true, [], false⟩ := by unfold sigRL; simp [hh]
          simp only [hL, SigL.row] at hg hv
          simp only [hh, Bool.false_eq_true, if_false] at hsg
          refine FCallT.of (hsg) ?_
          rintro _ rfl
          simp only [go_sem, simprocAttr, LawL.row, hdx, hd0, FieldL.row]
          repeat' first
            | apply And.intro <;> intro h
            | ((first
              | (refine FCallT.of (hg _) ?_; rintro _ rfl)
              | refine detCall_of _ (hv _) ?_); simp only [go_sem, simprocAttr, hdx, hd0, FieldL.row])
          · rw [c4.1 (by omega) (by assumption)]
          · rw [c4.2 (by omega)]
          · rw [c4.2 (by omega)]
        | true =>
          have hL : sigRL l x = ⟨l.efull, l.enums, l.tfull, l.tables, false, x.inputs.map FieldL.ty, false, x.defs.map FieldL.ty, false, (memOf l x).defs.map FieldL.ty, true⟩ := by unfold sigRL; simp [hh]
          simp only [hL, SigL.row] at hg hv
          simp only [hh, if_true] at hsg
          refine FCallT.of (hsg) ?_
          rintro _ rfl
          simp only [go_sem, simprocAttr, LawL.row, hdx, hd0, FieldL.row]
          repeat' first
            | apply And.intro <;> intro h
            | ((first
              | (refine FCallT.of (hg _) ?_; rintro _ rfl)
              | refine detCall_of _ (hv _) ?_); simp only [go_sem, simprocAttr, hdx, hd0, FieldL.row])
          · rw [c4.1 (by omega) (by assumption)]
          · rw [c4.2 (by omega)]
          · rw [c4.2 (by omega)]
end Go.Fx.Tryz
set_option linter.unusedVariables false
set_option linter.unusedSimpArgs false
namespace Go.Fx.Tryz
open Go Go.Fm Go.Proofs
theorem scope_call {l : LawL} {i : Nat} (hl : l.sane) (hi : i < l.scopes.length) : FCall Tryz.prog n_law_scope [.agg l.row, .int .i64 i] (· = errF (scopeE isIdB l i l.scopes[i] (sigOL l l.scopes[i]))) := by
  have hx := scopesV_get hi
  have hsg := signature_call (l := l) (i := i) hl.mid
  rw [sigO_at (List.getElem?_eq_getElem hi)] at hsg
  obtain ⟨-, hin, hs, -, -, hrs⟩ := hl.s2 _ (List.getElem_mem hi)
  have hsc := hl.s1
  generalize l.scopes[i] = x at *
  refine FCall.walk u_law_scope k_law_scope rfl ?_
  unfold c_law_scope
  simp only [go_sem, simprocAttr, LawL.row]
  by_cases m1 : x.ms = -1
  · have e1 : (x.ms = -1) = True := eq_true m1
    have hnb : ¬ memBad l x i := fun k => k.1 m1
    simp only [go_sem, simprocAttr, Int.toNat_natCast, hx, ScopeL.row, e1]
    have hfe := fun v w => fields_call (l := x.inputs) (x := []) (en := l.enums) (u := x.ifull) (v := v) (w := w) (i := i) (b := 100) hin (by simp)
    have hfd := fun v w => fields_call (l := x.defs) (x := x.inputs.map FieldL.name) (en := l.enums) (u := x.dfull) (v := v) (w := w) (i := i) (b := 200) (by have := hs.1; omega) (by simp; omega)
    have hna := fun u => names_call (l := x.inputs) (u := u) (by omega)
    repeat' first
      | apply And.intro <;> intro h
      | ((first
        | (refine FCallT.of (bad_call) ?_; rintro _ rfl)
        | (refine FCallT.of (hfe _ _) ?_; rintro _ rfl)
        | refine detCall_of _ (hna _) ?_
        | refine detCallB_of _ (hfd _ _) rfl ?_); simp only [go_sem, simprocAttr])
    · exact err_eq (by unfold scopeE; rw [if_neg hnb, if_pos (by omega)])
    · exact err_eq (by unfold scopeE; rw [if_neg hnb, if_neg (by omega), if_pos (by omega)])
    all_goals have hS : scopeE isIdB l i x (sigOL l x) = (fieldsE isIdB x.inputs [] l.enums.length i 100).or ((fieldsE isIdB x.defs (x.inputs.map FieldL.name) l.enums.length i 200).or ((firstO (ruleO isIdB x (sigOL l x) i) x.rules.length).or (firstO (cycleO x i) x.defs.length))) := by unfold scopeE; rw [if_neg hnb, if_neg (by omega), if_neg (by omega)]
    all_goals rw [hS]
    · exact err_congr (or_ne (by assumption)).symm
    all_goals rw [errQ_zero fieldsE_ok (show (errQ (fieldsE isIdB x.inputs [] l.enums.length i 100)).1 = 0 by assumption), Option.none_or]
    · exact err_congr (or_ne (by assumption)).symm
    rw [errQ_zero fieldsE_ok (show (errQ (fieldsE isIdB x.defs (x.inputs.map FieldL.name) l.enums.length i 200)).1 = 0 by assumption), Option.none_or]
    cases hh : hasMem l x with
    | false =>
      have hL : sigOL l x = ⟨false, l.enums.map EnumL.bare, false, l.tables.map TableL.bare, false, x.inputs.map FieldL.ty, false, x.defs.map FieldL.ty, true, [], false⟩ := by unfold sigOL; simp [hh]
      simp only [hh, Bool.false_eq_true, if_false] at hsg
      refine FCallT.of (hsg) ?_
      rintro _ rfl
      simp only [go_sem, simprocAttr, LawL.row]
      have hrl := hs.2.1
      have hdl : x.defs.length ≤ 12 := by omega
      refine FWT.count [] x.rules.length (fun j => [(83, .int .i64 j)]) (fun k => ∀ j, j < k → ruleO isIdB x (sigOL l x) i j = none) rfl (by simp) ?_
      intro j hj hg
      by_cases h2 : j < x.rules.length
      · obtain ⟨-, hsrc, hI1, hI2⟩ := hrs _ (List.getElem_mem h2)
        have hr := rule_call (s := sigOL l x) h2 hs hsrc hI1 hI2
        have hO : ruleO isIdB x (sigOL l x) i j = if ruleE isIdB x j (sigOL l x) = 0 then none else some (ruleE isIdB x j (sigOL l x), (3 : Int), (i : Int), IntKind.i64.wrap (300 + j)) := by unfold ruleO; rfl
        generalize ruleE isIdB x j (sigOL l x) = R at hr hO
        simp only [hL, SigL.row, ScopeL.row] at hr
        simp only [go_sem, simprocAttr, ltT h2, Int.toNat_natCast]
        repeat' first
          | apply And.intro <;> intro h
          | ((first
            | (refine FCallT.of (hr) ?_; rintro _ rfl)
            | (refine FCallT.of (bad_call) ?_; rintro _ rfl)); simp only [go_sem, simprocAttr, ScopeL.row])
        · exact err_eq (by rw [firstO_at hg (hO.trans (if_neg (by assumption))) h2]; rfl)
        · exact ⟨by rw [w64s (by omega)], none_succ hg (hO.trans (if_pos (by assumption))), h2⟩
      · rw [firstO_none fun k hk => hg k (by omega), Option.none_or]
        simp only [go_sem, simprocAttr, ltF h2]
        refine FWT.count [] x.defs.length (fun d => [(101, .int .i64 d)]) (fun k => ∀ d, d < k → cycleO x i d = none) rfl (by simp) ?_
        intro d hd hg
        by_cases d2 : d < x.defs.length
        · have ht := Transitive_call (s := x) (d := d) hs (by omega) (by omega)
          have htl : (transD x d).length ≤ x.defs.length := numsL_length _ _
          have hc := fun u => containsI_call (l := transD x d) (u := u) (s := (d : Int)) (by omega)
          simp only [go_sem, simprocAttr, ltT d2, Int.toNat_natCast]
          repeat' first
            | apply And.intro <;> intro h
            | ((first
              | (refine FCallT.of (ht) ?_; rintro _ rfl)
              | (refine FCallT.of (hc _) ?_; rintro _ rfl)
              | (refine FCallT.of (bad_call) ?_; rintro _ rfl)); simp only [go_sem, simprocAttr, ScopeL.row])
          · exact err_eq (firstO_at hg (if_pos (bp_iff.1 (by assumption))) d2)
          · exact ⟨by rw [w64s (by omega)], none_succ hg (if_neg (bpF.1 (by assumption))), d2⟩
        · rw [firstO_none fun k hk => hg k (by omega)]
          simp only [go_sem, simprocAttr, ltF d2]
          rfl
    | true =>
      have hL : sigOL l x = ⟨false, l.enums.map EnumL.bare, false, l.tables.map TableL.bare, false, x.inputs.map FieldL.ty, false, x.defs.map FieldL.ty, false, (memOf l x).defs.map FieldL.ty, true⟩ := by unfold sigOL; simp [hh]
      simp only [hh, if_true] at hsg
      refine FCallT.of (hsg) ?_
      rintro _ rfl
      simp only [go_sem, simprocAttr, LawL.row]
      have hrl := hs.2.1
      have hdl : x.defs.length ≤ 12 := by omega
      refine FWT.count [] x.rules.length (fun j => [(83, .int .i64 j)]) (fun k => ∀ j, j < k → ruleO isIdB x (sigOL l x) i j = none) rfl (by simp) ?_
      intro j hj hg
      by_cases h2 : j < x.rules.length
      · obtain ⟨-, hsrc, hI1, hI2⟩ := hrs _ (List.getElem_mem h2)
        have hr := rule_call (s := sigOL l x) h2 hs hsrc hI1 hI2
        have hO : ruleO isIdB x (sigOL l x) i j = if ruleE isIdB x j (sigOL l x) = 0 then none else some (ruleE isIdB x j (sigOL l x), (3 : Int), (i : Int), IntKind.i64.wrap (300 + j)) := by unfold ruleO; rfl
        generalize ruleE isIdB x j (sigOL l x) = R at hr hO
        simp only [hL, SigL.row, ScopeL.row] at hr
        simp only [go_sem, simprocAttr, ltT h2, Int.toNat_natCast]
        repeat' first
          | apply And.intro <;> intro h
          | ((first
            | (refine FCallT.of (hr) ?_; rintro _ rfl)
            | (refine FCallT.of (bad_call) ?_; rintro _ rfl)); simp only [go_sem, simprocAttr, ScopeL.row])
        · exact err_eq (by rw [firstO_at hg (hO.trans (if_neg (by assumption))) h2]; rfl)
        · exact ⟨by rw [w64s (by omega)], none_succ hg (hO.trans (if_pos (by assumption))), h2⟩
      · rw [firstO_none fun k hk => hg k (by omega), Option.none_or]
        simp only [go_sem, simprocAttr, ltF h2]
        refine FWT.count [] x.defs.length (fun d => [(101, .int .i64 d)]) (fun k => ∀ d, d < k → cycleO x i d = none) rfl (by simp) ?_
        intro d hd hg
        by_cases d2 : d < x.defs.length
        · have ht := Transitive_call (s := x) (d := d) hs (by omega) (by omega)
          have htl : (transD x d).length ≤ x.defs.length := numsL_length _ _
          have hc := fun u => containsI_call (l := transD x d) (u := u) (s := (d : Int)) (by omega)
          simp only [go_sem, simprocAttr, ltT d2, Int.toNat_natCast]
          repeat' first
            | apply And.intro <;> intro h
            | ((first
              | (refine FCallT.of (ht) ?_; rintro _ rfl)
              | (refine FCallT.of (hc _) ?_; rintro _ rfl)
              | (refine FCallT.of (bad_call) ?_; rintro _ rfl)); simp only [go_sem, simprocAttr, ScopeL.row])
          · exact err_eq (firstO_at hg (if_pos (bp_iff.1 (by assumption))) d2)
          · exact ⟨by rw [w64s (by omega)], none_succ hg (if_neg (bpF.1 (by assumption))), d2⟩
        · rw [firstO_none fun k hk => hg k (by omega)]
          simp only [go_sem, simprocAttr, ltF d2]
          rfl
  by_cases m2 : x.ms < 0 ∨ (i : Int) ≤ x.ms
  · have hb : memBad l x i := ⟨m1, m2.elim .inl fun k => .inr (.inl k)⟩
    simp only [go_sem, simprocAttr, Int.toNat_natCast, hx, ScopeL.row, eq_false m1]
    repeat' first
      | apply And.intro <;> intro h
      | ((refine FCallT.of (bad_call) ?_; rintro _ rfl); simp only [go_sem, simprocAttr])
    all_goals first
      | exact err_eq (by unfold scopeE; rw [if_pos hb])
      | (exfalso; omega)
      | trace_state
  have e2 : (x.ms < 0) = False := eq_false (by omega)
  have e3 : ((i : Int) ≤ x.ms) = False := eq_false (by omega)
  have e4 : (0 ≤ x.ms) = True := eq_true (by omega)
  have hyl : x.ms.toNat < l.scopes.length := by omega
  have hy := scopesV_get hyl
  have hye : ((l.scopes[x.ms.toNat]?).map ScopeL.ms).getD 0 = l.scopes[x.ms.toNat].ms := by rw [List.getElem?_eq_getElem hyl]; rfl
  by_cases m3 : l.scopes[x.ms.toNat].ms = -1
  · have hnb : ¬ memBad l x i := fun k => by
      rcases k.2 with k | k | k
      · omega
      · omega
      · rw [hye] at k; exact k m3
    simp only [go_sem, simprocAttr, Int.toNat_natCast, hx, ScopeL.row, eq_false m1, e2, e3, e4, hy, eq_true m3]
    have hfe := fun v w => fields_call (l := x.inputs) (x := []) (en := l.enums) (u := x.ifull) (v := v) (w := w) (i := i) (b := 100) hin (by simp)
    have hfd := fun v w => fields_call (l := x.defs) (x := x.inputs.map FieldL.name) (en := l.enums) (u := x.dfull) (v := v) (w := w) (i := i) (b := 200) (by have := hs.1; omega) (by simp; omega)
    have hna := fun u => names_call (l := x.inputs) (u := u) (by omega)
    repeat' first
      | apply And.intro <;> intro h
      | ((first
        | (refine FCallT.of (bad_call) ?_; rintro _ rfl)
        | (refine FCallT.of (hfe _ _) ?_; rintro _ rfl)
        | refine detCall_of _ (hna _) ?_
        | refine detCallB_of _ (hfd _ _) rfl ?_); simp only [go_sem, simprocAttr])
    · exact err_eq (by unfold scopeE; rw [if_neg hnb, if_pos (by omega)])
    · exact err_eq (by unfold scopeE; rw [if_neg hnb, if_neg (by omega), if_pos (by omega)])
    all_goals have hS : scopeE isIdB l i x (sigOL l x) = (fieldsE isIdB x.inputs [] l.enums.length i 100).or ((fieldsE isIdB x.defs (x.inputs.map FieldL.name) l.enums.length i 200).or ((firstO (ruleO isIdB x (sigOL l x) i) x.rules.length).or (firstO (cycleO x i) x.defs.length))) := by unfold scopeE; rw [if_neg hnb, if_neg (by omega), if_neg (by omega)]
    all_goals rw [hS]
    · exact err_congr (or_ne (by assumption)).symm
    all_goals rw [errQ_zero fieldsE_ok (show (errQ (fieldsE isIdB x.inputs [] l.enums.length i 100)).1 = 0 by assumption), Option.none_or]
    · exact err_congr (or_ne (by assumption)).symm
    rw [errQ_zero fieldsE_ok (show (errQ (fieldsE isIdB x.defs (x.inputs.map FieldL.name) l.enums.length i 200)).1 = 0 by assumption), Option.none_or]
    cases hh : hasMem l x with
    | false =>
      have hL : sigOL l x = ⟨false, l.enums.map EnumL.bare, false, l.tables.map TableL.bare, false, x.inputs.map FieldL.ty, false, x.defs.map FieldL.ty, true, [], false⟩ := by unfold sigOL; simp [hh]
      simp only [hh, Bool.false_eq_true, if_false] at hsg
      refine FCallT.of (hsg) ?_
      rintro _ rfl
      simp only [go_sem, simprocAttr, LawL.row]
      have hrl := hs.2.1
      have hdl : x.defs.length ≤ 12 := by omega
      refine FWT.count [] x.rules.length (fun j => [(83, .int .i64 j)]) (fun k => ∀ j, j < k → ruleO isIdB x (sigOL l x) i j = none) rfl (by simp) ?_
      intro j hj hg
      by_cases h2 : j < x.rules.length
      · obtain ⟨-, hsrc, hI1, hI2⟩ := hrs _ (List.getElem_mem h2)
        have hr := rule_call (s := sigOL l x) h2 hs hsrc hI1 hI2
        have hO : ruleO isIdB x (sigOL l x) i j = if ruleE isIdB x j (sigOL l x) = 0 then none else some (ruleE isIdB x j (sigOL l x), (3 : Int), (i : Int), IntKind.i64.wrap (300 + j)) := by unfold ruleO; rfl
        generalize ruleE isIdB x j (sigOL l x) = R at hr hO
        simp only [hL, SigL.row, ScopeL.row] at hr
        simp only [go_sem, simprocAttr, ltT h2, Int.toNat_natCast]
        repeat' first
          | apply And.intro <;> intro h
          | ((first
            | (refine FCallT.of (hr) ?_; rintro _ rfl)
            | (refine FCallT.of (bad_call) ?_; rintro _ rfl)); simp only [go_sem, simprocAttr, ScopeL.row])
        · exact err_eq (by rw [firstO_at hg (hO.trans (if_neg (by assumption))) h2]; rfl)
        · exact ⟨by rw [w64s (by omega)], none_succ hg (hO.trans (if_pos (by assumption))), h2⟩
      · rw [firstO_none fun k hk => hg k (by omega), Option.none_or]
        simp only [go_sem, simprocAttr, ltF h2]
        refine FWT.count [] x.defs.length (fun d => [(101, .int .i64 d)]) (fun k => ∀ d, d < k → cycleO x i d = none) rfl (by simp) ?_
        intro d hd hg
        by_cases d2 : d < x.defs.length
        · have ht := Transitive_call (s := x) (d := d) hs (by omega) (by omega)
          have htl : (transD x d).length ≤ x.defs.length := numsL_length _ _
          have hc := fun u => containsI_call (l := transD x d) (u := u) (s := (d : Int)) (by omega)
          simp only [go_sem, simprocAttr, ltT d2, Int.toNat_natCast]
          repeat' first
            | apply And.intro <;> intro h
            | ((first
              | (refine FCallT.of (ht) ?_; rintro _ rfl)
              | (refine FCallT.of (hc _) ?_; rintro _ rfl)
              | (refine FCallT.of (bad_call) ?_; rintro _ rfl)); simp only [go_sem, simprocAttr, ScopeL.row])
          · exact err_eq (firstO_at hg (if_pos (bp_iff.1 (by assumption))) d2)
          · exact ⟨by rw [w64s (by omega)], none_succ hg (if_neg (bpF.1 (by assumption))), d2⟩
        · rw [firstO_none fun k hk => hg k (by omega)]
          simp only [go_sem, simprocAttr, ltF d2]
          rfl
    | true =>
      have hL : sigOL l x = ⟨false, l.enums.map EnumL.bare, false, l.tables.map TableL.bare, false, x.inputs.map FieldL.ty, false, x.defs.map FieldL.ty, false, (memOf l x).defs.map FieldL.ty, true⟩ := by unfold sigOL; simp [hh]
      simp only [hh, if_true] at hsg
      refine FCallT.of (hsg) ?_
      rintro _ rfl
      simp only [go_sem, simprocAttr, LawL.row]
      have hrl := hs.2.1
      have hdl : x.defs.length ≤ 12 := by omega
      refine FWT.count [] x.rules.length (fun j => [(83, .int .i64 j)]) (fun k => ∀ j, j < k → ruleO isIdB x (sigOL l x) i j = none) rfl (by simp) ?_
      intro j hj hg
      by_cases h2 : j < x.rules.length
      · obtain ⟨-, hsrc, hI1, hI2⟩ := hrs _ (List.getElem_mem h2)
        have hr := rule_call (s := sigOL l x) h2 hs hsrc hI1 hI2
        have hO : ruleO isIdB x (sigOL l x) i j = if ruleE isIdB x j (sigOL l x) = 0 then none else some (ruleE isIdB x j (sigOL l x), (3 : Int), (i : Int), IntKind.i64.wrap (300 + j)) := by unfold ruleO; rfl
        generalize ruleE isIdB x j (sigOL l x) = R at hr hO
        simp only [hL, SigL.row, ScopeL.row] at hr
        simp only [go_sem, simprocAttr, ltT h2, Int.toNat_natCast]
        repeat' first
          | apply And.intro <;> intro h
          | ((first
            | (refine FCallT.of (hr) ?_; rintro _ rfl)
            | (refine FCallT.of (bad_call) ?_; rintro _ rfl)); simp only [go_sem, simprocAttr, ScopeL.row])
        · exact err_eq (by rw [firstO_at hg (hO.trans (if_neg (by assumption))) h2]; rfl)
        · exact ⟨by rw [w64s (by omega)], none_succ hg (hO.trans (if_pos (by assumption))), h2⟩
      · rw [firstO_none fun k hk => hg k (by omega), Option.none_or]
        simp only [go_sem, simprocAttr, ltF h2]
        refine FWT.count [] x.defs.length (fun d => [(101, .int .i64 d)]) (fun k => ∀ d, d < k → cycleO x i d = none) rfl (by simp) ?_
        intro d hd hg
        by_cases d2 : d < x.defs.length
        · have ht := Transitive_call (s := x) (d := d) hs (by omega) (by omega)
          have htl : (transD x d).length ≤ x.defs.length := numsL_length _ _
          have hc := fun u => containsI_call (l := transD x d) (u := u) (s := (d : Int)) (by omega)
          simp only [go_sem, simprocAttr, ltT d2, Int.toNat_natCast]
          repeat' first
            | apply And.intro <;> intro h
            | ((first
              | (refine FCallT.of (ht) ?_; rintro _ rfl)
              | (refine FCallT.of (hc _) ?_; rintro _ rfl)
              | (refine FCallT.of (bad_call) ?_; rintro _ rfl)); simp only [go_sem, simprocAttr, ScopeL.row])
          · exact err_eq (firstO_at hg (if_pos (bp_iff.1 (by assumption))) d2)
          · exact ⟨by rw [w64s (by omega)], none_succ hg (if_neg (bpF.1 (by assumption))), d2⟩
        · rw [firstO_none fun k hk => hg k (by omega)]
          simp only [go_sem, simprocAttr, ltF d2]
          rfl
  · have hb : memBad l x i := ⟨m1, .inr (.inr (by rw [hye]; exact m3))⟩
    simp only [go_sem, simprocAttr, Int.toNat_natCast, hx, ScopeL.row, eq_false m1, e2, e3, e4, hy, eq_false m3]
    repeat' first
      | apply And.intro <;> intro h
      | ((refine FCallT.of (bad_call) ?_; rintro _ rfl); simp only [go_sem, simprocAttr])
    all_goals first
      | exact err_eq (by unfold scopeE; rw [if_pos hb])
      | (exfalso; omega)
      | trace_state
end Go.Fx.Tryz
set_option linter.unusedVariables false
set_option linter.unusedSimpArgs false
namespace Go.Fx.Tryz
open Go Go.Fm Go.Proofs
theorem scopeError_call {l : LawL} {i : Nat} (hl : l.sane) (hi : i < l.scopes.length) : FCall Tryz.prog n_ref17_scopeError [.agg l.row, .int .i64 i] (· = errF ((nameE isIdB l.scopes[i].name (l.enums.map EnumL.name ++ l.tables.map TableL.name ++ (l.scopes.take i).map ScopeL.name) 3 i).or (scopeE isIdB l i l.scopes[i] (sigRL l l.scopes[i])))) := by
  have hx := scopesV_get hi
  obtain ⟨hnl, hin, hs, hn1, hn2, hrs⟩ := hl.s2 _ (List.getElem_mem hi)
  have hsc := hl.s1
  generalize hq : l.scopes[i] = x at *
  have hid := isIdR_call (s := x.name) hnl
  have ht := nameTaken_call (l := l) (k := 3) (i := i) (s := x.name) (by have := hl.e1; omega) (by have := hl.t1; omega) (by have := hl.s1; omega)
  rw [bp_congr taken3] at ht
  refine FCall.walk u_ref17_scopeError k_ref17_scopeError rfl ?_
  unfold c_ref17_scopeError
  simp only [go_sem, simprocAttr, LawL.row]
  have hfe := fieldError_call (l := l) (i := i) hi (by rw [hq]; exact hin) (by rw [hq]; have := hs.1; omega) (by rw [hq]; exact hn1) (by rw [hq]; exact hn2)
  rw [hq] at hfe
  by_cases m1 : x.ms = -1
  · have e1 : (x.ms = -1) = True := eq_true m1
    have hnb : ¬ memBad l x i := fun k => k.1 m1
    simp only [go_sem, simprocAttr, Int.toNat_natCast, hx, ScopeL.row, e1]
    repeat' first
      | apply And.intro <;> intro h
      | ((first
        | (refine FCallT.of (hid) ?_; rintro _ rfl)
        | (refine FCallT.of (ht) ?_; rintro _ rfl)
        | (refine FCallT.of (hfe) ?_; rintro _ rfl)); simp only [go_sem, simprocAttr, e1, LawL.row])
    · exact err_eq (by rw [nameE_id (by assumption)]; rfl)
    · exact err_eq (by rw [nameE_in (by assumption) (bp_iff.1 (by assumption))]; rfl)
    · exact err_eq (by rw [nameE_no (by assumption) (bpF.1 (by assumption)), Option.none_or]; unfold scopeE; rw [if_neg hnb, if_pos (by omega)])
    · exact err_eq (by rw [nameE_no (by assumption) (bpF.1 (by assumption)), Option.none_or]; unfold scopeE; rw [if_neg hnb, if_neg (by omega), if_pos (by omega)])
    all_goals have hS : (nameE isIdB x.name (l.enums.map EnumL.name ++ l.tables.map TableL.name ++ (l.scopes.take i).map ScopeL.name) 3 i).or (scopeE isIdB l i x (sigRL l x)) = ((fieldsE isIdB x.inputs [] l.enums.length i 100).or (fieldsE isIdB x.defs (x.inputs.map FieldL.name) l.enums.length i 200)).or ((firstO (ruleO isIdB x (sigRL l x) i) x.rules.length).or (firstO (cycleO x i) x.defs.length)) := by rw [nameE_no (by assumption) (bpF.1 (by assumption)), Option.none_or, Option.or_assoc]; unfold scopeE; rw [if_neg hnb, if_neg (by omega), if_neg (by omega)]
    all_goals rw [hS]
    · exact err_congr (or_ne (by assumption)).symm
    rw [errQ_zero (okE_or fieldsE_ok fieldsE_ok) (by assumption), Option.none_or]
    have hrl := hs.2.1
    have hdl : x.defs.length ≤ 12 := by omega
    refine FWT.count [] x.rules.length (fun j => [(8, .int .i64 j)]) (fun k => ∀ j, j < k → ruleO isIdB x (sigRL l x) i j = none) rfl (by simp) ?_
    intro j hj hg
    by_cases h2 : j < x.rules.length
    · have hr := ruleError_call (l := l) (i := i) (j := j) hl hi (by rw [hq]; exact h2)
      rw [hq] at hr
      have hO : ruleO isIdB x (sigRL l x) i j = if ruleE isIdB x j (sigRL l x) = 0 then none else some (ruleE isIdB x j (sigRL l x), (3 : Int), (i : Int), IntKind.i64.wrap (300 + j)) := by unfold ruleO; rfl
      generalize ruleE isIdB x j (sigRL l x) = R at hr hO
      simp only [go_sem, simprocAttr, ltT h2, Int.toNat_natCast]
      repeat' first
        | apply And.intro <;> intro h
        | ((refine FCallT.of (hr) ?_; rintro _ rfl); simp only [go_sem, simprocAttr, LawL.row])
      · exact err_eq (by rw [firstO_at hg (hO.trans (if_neg (by assumption))) h2]; rfl)
      · exact ⟨by rw [w64s (by omega)], none_succ hg (hO.trans (if_pos (by assumption))), h2⟩
    · rw [firstO_none fun k hk => hg k (by omega), Option.none_or]
      simp only [go_sem, simprocAttr, ltF h2]
      refine FWT.count [] x.defs.length (fun d => [(10, .int .i64 d)]) (fun k => ∀ d, d < k → cycleO x i d = none) rfl (by simp) ?_
      intro d hd hg
      by_cases d2 : d < x.defs.length
      · have htl : (transD x d).length ≤ x.defs.length := numsL_length _ _
        simp only [go_sem, simprocAttr, ltT d2, Int.toNat_natCast]
        refine FCallT.of (TransitiveR_call (s := x) (d := d) hs (by omega)) ?_
        rintro v ⟨u, rfl⟩
        have hu : shV u (ints (transD x d)) = .arr (ints (transD x d)) ∨ shV u (ints (transD x d)) = .sl false (ints (transD x d)) := by cases u; exact .inl rfl; exact .inr rfl
        rcases hu with hu | hu
        all_goals
          rw [hu]
          simp only [go_sem, simprocAttr]
          generalize hT : transD x d = L at htl
          refine FWT.count [] L.length (fun k => [(12, .int .i64 k)]) (fun k => ∀ y ∈ L.take k, ¬ y = (d : Int)) rfl (by simp) ?_
          intro k hk hn
          by_cases k2 : k < L.length
          · have hy := ints_get k2
            simp only [go_sem, simprocAttr, ltT k2, Int.toNat_natCast, hy]
            refine ⟨fun e => ?_, fun e => ⟨by rw [w64s (by omega)], (all_take_succ k2).2 ⟨hn, e⟩, k2⟩⟩
            exact err_eq (firstO_at hg (if_pos (by rw [hT, ← e]; exact List.getElem_mem k2)) d2)
          · rw [List.take_of_length_le (by omega)] at hn
            simp only [go_sem, simprocAttr, ltF k2]
            exact ⟨by rw [w64s (by omega)], none_succ hg (if_neg (by rw [hT]; exact fun m => hn _ m rfl)), d2⟩
      · rw [firstO_none fun k hk => hg k (by omega)]
        simp only [go_sem, simprocAttr, ltF d2]
        rfl
  by_cases m2 : x.ms < 0 ∨ (i : Int) ≤ x.ms
  · have hb : memBad l x i := ⟨m1, m2.elim .inl fun k => .inr (.inl k)⟩
    simp only [go_sem, simprocAttr, Int.toNat_natCast, hx, ScopeL.row, eq_false m1]
    repeat' first
      | apply And.intro <;> intro h
      | ((first
        | (refine FCallT.of (hid) ?_; rintro _ rfl)
        | (refine FCallT.of (ht) ?_; rintro _ rfl)); simp only [go_sem, simprocAttr, eq_false m1, LawL.row])
    all_goals first
      | exact err_eq (by rw [nameE_id (by assumption)]; rfl)
      | exact err_eq (by rw [nameE_in (by assumption) (bp_iff.1 (by assumption))]; rfl)
      | exact err_eq (by rw [nameE_no (by assumption) (bpF.1 (by assumption)), Option.none_or]; unfold scopeE; rw [if_pos hb])
      | (exfalso; omega)
      | trace_state
  have e2 : (x.ms < 0) = False := eq_false (by omega)
  have e3 : ((i : Int) ≤ x.ms) = False := eq_false (by omega)
  have e4 : (0 ≤ x.ms) = True := eq_true (by omega)
  have hyl : x.ms.toNat < l.scopes.length := by omega
  have hy := scopesV_get hyl
  have hye : ((l.scopes[x.ms.toNat]?).map ScopeL.ms).getD 0 = l.scopes[x.ms.toNat].ms := by rw [List.getElem?_eq_getElem hyl]; rfl
  by_cases m3 : l.scopes[x.ms.toNat].ms = -1
  · have hnb : ¬ memBad l x i := fun k => by
      rcases k.2 with k | k | k
      · omega
      · omega
      · rw [hye] at k; exact k m3
    simp only [go_sem, simprocAttr, Int.toNat_natCast, hx, ScopeL.row, eq_false m1, e2, e3, e4, hy, eq_true m3]
    repeat' first
      | apply And.intro <;> intro h
      | ((first
        | (refine FCallT.of (hid) ?_; rintro _ rfl)
        | (refine FCallT.of (ht) ?_; rintro _ rfl)
        | (refine FCallT.of (hfe) ?_; rintro _ rfl)); simp only [go_sem, simprocAttr, ScopeL.row, eq_false m1, e2, e3, e4, hy, eq_true m3, LawL.row])
    · exact err_eq (by rw [nameE_id (by assumption)]; rfl)
    · exact err_eq (by rw [nameE_in (by assumption) (bp_iff.1 (by assumption))]; rfl)
    · exact err_eq (by rw [nameE_no (by assumption) (bpF.1 (by assumption)), Option.none_or]; unfold scopeE; rw [if_neg hnb, if_pos (by omega)])
    · exact err_eq (by rw [nameE_no (by assumption) (bpF.1 (by assumption)), Option.none_or]; unfold scopeE; rw [if_neg hnb, if_neg (by omega), if_pos (by omega)])
    all_goals have hS : (nameE isIdB x.name (l.enums.map EnumL.name ++ l.tables.map TableL.name ++ (l.scopes.take i).map ScopeL.name) 3 i).or (scopeE isIdB l i x (sigRL l x)) = ((fieldsE isIdB x.inputs [] l.enums.length i 100).or (fieldsE isIdB x.defs (x.inputs.map FieldL.name) l.enums.length i 200)).or ((firstO (ruleO isIdB x (sigRL l x) i) x.rules.length).or (firstO (cycleO x i) x.defs.length)) := by rw [nameE_no (by assumption) (bpF.1 (by assumption)), Option.none_or, Option.or_assoc]; unfold scopeE; rw [if_neg hnb, if_neg (by omega), if_neg (by omega)]
    all_goals rw [hS]
    · exact err_congr (or_ne (by assumption)).symm
    rw [errQ_zero (okE_or fieldsE_ok fieldsE_ok) (by assumption), Option.none_or]
    have hrl := hs.2.1
    have hdl : x.defs.length ≤ 12 := by omega
    refine FWT.count [] x.rules.length (fun j => [(8, .int .i64 j)]) (fun k => ∀ j, j < k → ruleO isIdB x (sigRL l x) i j = none) rfl (by simp) ?_
    intro j hj hg
    by_cases h2 : j < x.rules.length
    · have hr := ruleError_call (l := l) (i := i) (j := j) hl hi (by rw [hq]; exact h2)
      rw [hq] at hr
      have hO : ruleO isIdB x (sigRL l x) i j = if ruleE isIdB x j (sigRL l x) = 0 then none else some (ruleE isIdB x j (sigRL l x), (3 : Int), (i : Int), IntKind.i64.wrap (300 + j)) := by unfold ruleO; rfl
      generalize ruleE isIdB x j (sigRL l x) = R at hr hO
      simp only [go_sem, simprocAttr, ltT h2, Int.toNat_natCast]
      repeat' first
        | apply And.intro <;> intro h
        | ((refine FCallT.of (hr) ?_; rintro _ rfl); simp only [go_sem, simprocAttr, LawL.row])
      · exact err_eq (by rw [firstO_at hg (hO.trans (if_neg (by assumption))) h2]; rfl)
      · exact ⟨by rw [w64s (by omega)], none_succ hg (hO.trans (if_pos (by assumption))), h2⟩
    · rw [firstO_none fun k hk => hg k (by omega), Option.none_or]
      simp only [go_sem, simprocAttr, ltF h2]
      refine FWT.count [] x.defs.length (fun d => [(10, .int .i64 d)]) (fun k => ∀ d, d < k → cycleO x i d = none) rfl (by simp) ?_
      intro d hd hg
      by_cases d2 : d < x.defs.length
      · have htl : (transD x d).length ≤ x.defs.length := numsL_length _ _
        simp only [go_sem, simprocAttr, ltT d2, Int.toNat_natCast]
        refine FCallT.of (TransitiveR_call (s := x) (d := d) hs (by omega)) ?_
        rintro v ⟨u, rfl⟩
        have hu : shV u (ints (transD x d)) = .arr (ints (transD x d)) ∨ shV u (ints (transD x d)) = .sl false (ints (transD x d)) := by cases u; exact .inl rfl; exact .inr rfl
        rcases hu with hu | hu
        all_goals
          rw [hu]
          simp only [go_sem, simprocAttr]
          generalize hT : transD x d = L at htl
          refine FWT.count [] L.length (fun k => [(12, .int .i64 k)]) (fun k => ∀ y ∈ L.take k, ¬ y = (d : Int)) rfl (by simp) ?_
          intro k hk hn
          by_cases k2 : k < L.length
          · have hy := ints_get k2
            simp only [go_sem, simprocAttr, ltT k2, Int.toNat_natCast, hy]
            refine ⟨fun e => ?_, fun e => ⟨by rw [w64s (by omega)], (all_take_succ k2).2 ⟨hn, e⟩, k2⟩⟩
            exact err_eq (firstO_at hg (if_pos (by rw [hT, ← e]; exact List.getElem_mem k2)) d2)
          · rw [List.take_of_length_le (by omega)] at hn
            simp only [go_sem, simprocAttr, ltF k2]
            exact ⟨by rw [w64s (by omega)], none_succ hg (if_neg (by rw [hT]; exact fun m => hn _ m rfl)), d2⟩
      · rw [firstO_none fun k hk => hg k (by omega)]
        simp only [go_sem, simprocAttr, ltF d2]
        rfl
  · have hb : memBad l x i := ⟨m1, .inr (.inr (by rw [hye]; exact m3))⟩
    simp only [go_sem, simprocAttr, Int.toNat_natCast, hx, ScopeL.row, eq_false m1, e2, e3, e4, hy, eq_false m3]
    repeat' first
      | apply And.intro <;> intro h
      | ((first
        | (refine FCallT.of (hid) ?_; rintro _ rfl)
        | (refine FCallT.of (ht) ?_; rintro _ rfl)); simp only [go_sem, simprocAttr, ScopeL.row, eq_false m1, e2, e3, e4, hy, eq_false m3, LawL.row])
    all_goals first
      | exact err_eq (by rw [nameE_id (by assumption)]; rfl)
      | exact err_eq (by rw [nameE_in (by assumption) (bp_iff.1 (by assumption))]; rfl)
      | exact err_eq (by rw [nameE_no (by assumption) (bpF.1 (by assumption)), Option.none_or]; unfold scopeE; rw [if_pos hb])
      | (exfalso; omega)
      | trace_state
end Go.Fx.Tryz
set_option linter.unusedVariables false
set_option linter.unusedSimpArgs false
namespace Go.Fx.Tryz
open Go Go.Fm Go.Proofs
noncomputable def scopeRO (l : LawL) (i : Nat) : Option ErrL :=
  match l.scopes[i]? with
  | none => none
  | some x => (nameE isIdB x.name (l.enums.map EnumL.name ++ l.tables.map TableL.name ++ (l.scopes.take i).map ScopeL.name) 3 i).or (scopeE isIdB l i x (sigRL l x))
noncomputable def lawRE (l : LawL) : Option ErrL :=
  if 8 < l.enums.length then some (4, 1, 8, 0) else (firstO (enumO isIdB l) l.enums.length).or (
  if 8 < l.tables.length then some (4, 2, 8, 0) else (firstO (tableO isIdB l) l.tables.length).or (
  if 4 < l.scopes.length then some (4, 3, 4, 0) else firstO (scopeRO l) l.scopes.length))
theorem lawRE_e {l : LawL} (h : 8 < l.enums.length) : lawRE l = some (4, 1, 8, 0) := by unfold lawRE; rw [if_pos h]
theorem lawRE_1 {l : LawL} (h : ¬ 8 < l.enums.length) : lawRE l = (firstO (enumO isIdB l) l.enums.length).or (
  if 8 < l.tables.length then some (4, 2, 8, 0) else (firstO (tableO isIdB l) l.tables.length).or (
  if 4 < l.scopes.length then some (4, 3, 4, 0) else firstO (scopeRO l) l.scopes.length)) := by unfold lawRE; rw [if_neg h]
theorem first_err {f : Nat → Option ErrL} {i n : Nat} {r : Option ErrL} (hg : ∀ j, j < i → f j = none) (h : ¬ (errQ (f i)).1 = 0) (hi : i < n) : f i = (firstO f n).or r := by
  obtain ⟨e, he⟩ := errQ_ne h
  rw [firstO_at hg he hi, he]; rfl
theorem first_err' {f : Nat → Option ErrL} {i n : Nat} (hg : ∀ j, j < i → f j = none) (h : ¬ (errQ (f i)).1 = 0) (hi : i < n) : f i = firstO f n := by
  obtain ⟨e, he⟩ := errQ_ne h
  rw [firstO_at hg he hi, he]
theorem scopeRO_ok {l : LawL} {i : Nat} : okE (scopeRO l i) := by
  unfold scopeRO; split
  · exact okE_none
  · exact okE_or nameE_ok scopeE_ok
theorem validateR_call {l : LawL} (hl : l.sane) : FCall Tryz.prog n_ref17_Validate [.agg l.row] (· = errF (lawRE l)) := by
  refine FCall.walk u_ref17_Validate k_ref17_Validate rfl ?_
  unfold c_ref17_Validate
  simp only [go_sem, simprocAttr, LawL.row]
  refine ⟨fun a => ?_, fun a => ?_⟩
  · exact err_eq (lawRE_e (by omega))
  rw [lawRE_1 (by omega)]
  refine FWT.count [] l.enums.length (fun j => [(3, .int .i64 j)]) (fun k => ∀ j, j < k → enumO isIdB l j = none) rfl (by simp) ?_
  intro j hj hg
  by_cases h2 : j < l.enums.length
  · have hc := enumError_call hl h2
    simp only [go_sem, simprocAttr, ltT h2, Int.toNat_natCast]
    repeat' first
      | apply And.intro <;> intro h
      | ((refine FCallT.of (hc) ?_; rintro _ rfl); simp only [go_sem, simprocAttr, LawL.row])
    · exact err_congr (first_err hg (by assumption) h2)
    · exact ⟨by rw [w64s (by omega)], none_succ hg (errQ_zero enumO_ok (by assumption)), h2⟩
  rw [firstO_none fun k hk => hg k (by omega), Option.none_or]
  simp only [go_sem, simprocAttr, ltF h2]
  clear hg h2 hj j
  refine ⟨fun a => ?_, fun a => ?_⟩
  · exact err_eq (by rw [if_pos (by omega)])
  rw [if_neg (by omega)]
  refine FWT.count [] l.tables.length (fun j => [(5, .int .i64 j)]) (fun k => ∀ j, j < k → tableO isIdB l j = none) rfl (by simp) ?_
  intro j hj hg
  by_cases h2 : j < l.tables.length
  · have hc := tableError_call hl h2
    simp only [go_sem, simprocAttr, ltT h2, Int.toNat_natCast]
    repeat' first
      | apply And.intro <;> intro h
      | ((refine FCallT.of (hc) ?_; rintro _ rfl); simp only [go_sem, simprocAttr, LawL.row])
    · exact err_congr (first_err hg (by assumption) h2)
    · exact ⟨by rw [w64s (by omega)], none_succ hg (errQ_zero tableO_ok (by assumption)), h2⟩
  rw [firstO_none fun k hk => hg k (by omega), Option.none_or]
  simp only [go_sem, simprocAttr, ltF h2]
  clear hg h2 hj j
  refine ⟨fun a => ?_, fun a => ?_⟩
  · exact err_eq (by rw [if_pos (by omega)])
  rw [if_neg (by omega)]
  refine FWT.count [] l.scopes.length (fun j => [(7, .int .i64 j)]) (fun k => ∀ j, j < k → scopeRO l j = none) rfl (by simp) ?_
  intro j hj hg
  by_cases h2 : j < l.scopes.length
  · have hc := scopeError_call hl h2
    rw [show (nameE isIdB l.scopes[j].name (l.enums.map EnumL.name ++ l.tables.map TableL.name ++ (l.scopes.take j).map ScopeL.name) 3 j).or (scopeE isIdB l j l.scopes[j] (sigRL l l.scopes[j])) = scopeRO l j from by unfold scopeRO; rw [List.getElem?_eq_getElem h2]] at hc
    simp only [go_sem, simprocAttr, ltT h2, Int.toNat_natCast]
    repeat' first
      | apply And.intro <;> intro h
      | ((refine FCallT.of (hc) ?_; rintro _ rfl); simp only [go_sem, simprocAttr, LawL.row])
    · exact err_congr (first_err' hg (by assumption) h2)
    · exact ⟨by rw [w64s (by omega)], none_succ hg (errQ_zero scopeRO_ok (by assumption)), h2⟩
  rw [firstO_none fun k hk => hg k (by omega)]
  simp only [go_sem, simprocAttr, ltF h2]
  rfl
end Go.Fx.Tryz
set_option linter.unusedVariables false
set_option linter.unusedSimpArgs false
namespace Go.Fx.Tryz
open Go Go.Fm Go.Proofs
noncomputable def scopeOO (l : LawL) (i : Nat) : Option ErrL :=
  match l.scopes[i]? with
  | none => none
  | some x => (nameE isIdB x.name (l.enums.map EnumL.name ++ l.tables.map TableL.name ++ (l.scopes.take i).map ScopeL.name) 3 i).or (scopeE isIdB l i x (sigOL l x))
noncomputable def lawOE (l : LawL) : Option ErrL :=
  if 8 < l.enums.length then some (4, 1, 8, 0) else (firstO (enumO isIdB l) l.enums.length).or (
  if 8 < l.tables.length then some (4, 2, 8, 0) else (firstO (tableO isIdB l) l.tables.length).or (
  if 4 < l.scopes.length then some (4, 3, 4, 0) else firstO (scopeOO l) l.scopes.length))
theorem lawOE_e {l : LawL} (h : 8 < l.enums.length) : lawOE l = some (4, 1, 8, 0) := by unfold lawOE; rw [if_pos h]
theorem lawOE_1 {l : LawL} (h : ¬ 8 < l.enums.length) : lawOE l = (firstO (enumO isIdB l) l.enums.length).or (
  if 8 < l.tables.length then some (4, 2, 8, 0) else (firstO (tableO isIdB l) l.tables.length).or (
  if 4 < l.scopes.length then some (4, 3, 4, 0) else firstO (scopeOO l) l.scopes.length)) := by unfold lawOE; rw [if_neg h]
theorem err2 {f : Nat → Option ErrL} {i n : Nat} {a b r : Option ErrL} (hO : f i = a.or b) (hg : ∀ j, j < i → f j = none) (h : ¬ (errQ a).1 = 0) (hi : i < n) : a = (firstO f n).or r := by
  have e : f i = a := by rw [hO, or_ne h]
  rw [← e]; exact first_err hg (by rw [e]; exact h) hi
theorem err3 {f : Nat → Option ErrL} {i n : Nat} {a b r : Option ErrL} (hO : f i = a.or b) (hk : okE a) (hg : ∀ j, j < i → f j = none) (h0 : (errQ a).1 = 0) (h : ¬ (errQ b).1 = 0) (hi : i < n) : b = (firstO f n).or r := by
  have e : f i = b := by rw [hO, errQ_zero hk h0, Option.none_or]
  rw [← e]; exact first_err hg (by rw [e]; exact h) hi
theorem none2 {f : Nat → Option ErrL} {i : Nat} {a b : Option ErrL} (hO : f i = a.or b) (hk : okE a) (hk2 : okE b) (h0 : (errQ a).1 = 0) (h : (errQ b).1 = 0) : f i = none := by
  rw [hO, errQ_zero hk h0, errQ_zero hk2 h]; rfl
theorem or_none_e (a : Option ErrL) : a.or none = a := by cases a <;> rfl
theorem map_take_succ {α β : Type} {f : α → β} {l : List α} {j : Nat} (h : j < l.length) : (l.take (j + 1)).map f = (l.take j).map f ++ [f l[j]] := by
  rw [List.take_succ_eq_append_getElem h, List.map_append]; rfl
theorem validate_call {l : LawL} (hl : l.sane) : FCall Tryz.prog n_law_Validate [.agg l.row] (· = errF (lawOE l)) := by
  refine FCall.walk u_law_Validate k_law_Validate rfl ?_
  unfold c_law_Validate
  simp only [go_sem, simprocAttr, LawL.row]
  repeat' first
    | apply And.intro <;> intro h
    | ((refine FCallT.of (bad_call) ?_; rintro _ rfl); simp only [go_sem, simprocAttr])
  · exact err_eq (lawOE_e (by omega))
  rw [lawOE_1 (by omega)]
  refine FWT.count [] l.enums.length (fun j => [(3, .arr (strs ((l.enums.take j).map EnumL.name))), (24, .int .i64 j)]) (fun k => ∀ j, j < k → enumO isIdB l j = none) rfl (by simp) ?_
  intro j hj hg
  by_cases h2 : j < l.enums.length
  · have hx := enumsV_get h2
    have hO : enumO isIdB l j = (nameE isIdB l.enums[j].name ((l.enums.take j).map EnumL.name) 1 j).or (enumE isIdB l.enums[j] j) := by unfold enumO; rw [List.getElem?_eq_getElem h2]
    have hnm := fun u => name_call (s := l.enums[j].name) (names := (l.enums.take j).map EnumL.name) (u := u) (w := 1) (i := j) (by simp; omega)
    have hen := enum_call (e := l.enums[j]) (i := j) (hl.hm _ (List.getElem_mem h2))
    simp only [go_sem, simprocAttr, ltT h2, Int.toNat_natCast, hx, EnumL.row]
    repeat' first
      | apply And.intro <;> intro h
      | ((refine FCallT.of (hnm _) ?_; rintro _ rfl); simp only [go_sem, simprocAttr, EnumL.row])
    · exact err_congr (err2 hO hg (by assumption) h2)
    refine ⟨by simp; omega, ?_⟩
    repeat' first
      | apply And.intro <;> intro h
      | ((refine FCallT.of (hen) ?_; rintro _ rfl); simp only [go_sem, simprocAttr, EnumL.row])
    · exact err_congr (err3 hO nameE_ok hg (by assumption) (by assumption) h2)
    · exact ⟨by rw [w64s (by omega), map_take_succ h2, strs_snoc], none_succ hg (none2 hO nameE_ok enumE_ok (by assumption) (by assumption)), h2⟩
  rw [firstO_none fun k hk => hg k (by omega), Option.none_or, List.take_of_length_le (by omega)]
  have he8 : l.enums.length ≤ 8 := by omega
  simp only [go_sem, simprocAttr, ltF h2]
  clear hg h2 hj
  repeat' first
    | apply And.intro <;> intro h
    | ((refine FCallT.of (bad_call) ?_; rintro _ rfl); simp only [go_sem, simprocAttr])
  · exact err_eq (by rw [if_pos (by omega)])
  rw [if_neg (by omega)]
  refine FWT.count [] l.tables.length (fun j => [(3, .arr (strs (l.enums.map EnumL.name ++ (l.tables.take j).map TableL.name))), (59, .int .i64 j)]) (fun k => ∀ j, j < k → tableO isIdB l j = none) (by simp only [List.take_zero, List.map_nil, List.append_nil]; rfl) (by simp) ?_
  intro j hj hg
  by_cases h2 : j < l.tables.length
  · have hx := tablesV_get h2
    have hO : tableO isIdB l j = (nameE isIdB l.tables[j].name (l.enums.map EnumL.name ++ (l.tables.take j).map TableL.name) 2 j).or (rowsE l.tables[j] l.enums j) := by unfold tableO; rw [List.getElem?_eq_getElem h2]
    have hnm := fun u => name_call (s := l.tables[j].name) (names := l.enums.map EnumL.name ++ (l.tables.take j).map TableL.name) (u := u) (w := 2) (i := j) (by simp; omega)
    have hen := fun u => rows_call (t := l.tables[j]) (u := u) (en := l.enums) (i := j) hl.hm
    simp only [go_sem, simprocAttr, ltT h2, Int.toNat_natCast, hx, TableL.row]
    repeat' first
      | apply And.intro <;> intro h
      | ((refine FCallT.of (hnm _) ?_; rintro _ rfl); simp only [go_sem, simprocAttr, TableL.row])
    · exact err_congr (err2 hO hg (by assumption) h2)
    refine ⟨by simp; omega, ?_⟩
    repeat' first
      | apply And.intro <;> intro h
      | ((refine FCallT.of (hen _) ?_; rintro _ rfl); simp only [go_sem, simprocAttr, TableL.row])
    · exact err_congr (err3 hO nameE_ok hg (by assumption) (by assumption) h2)
    · exact ⟨by rw [w64s (by omega), map_take_succ h2, ← List.append_assoc, strs_snoc], none_succ hg (none2 hO nameE_ok rowsE_ok (by assumption) (by assumption)), h2⟩
  rw [firstO_none fun k hk => hg k (by omega), Option.none_or, List.take_of_length_le (by omega)]
  have ht8 : l.tables.length ≤ 8 := by omega
  simp only [go_sem, simprocAttr, ltF h2]
  clear hg h2 hj
  repeat' first
    | apply And.intro <;> intro h
    | ((refine FCallT.of (bad_call) ?_; rintro _ rfl); simp only [go_sem, simprocAttr])
  · exact err_eq (by rw [if_pos (by omega)])
  rw [if_neg (by omega)]
  refine FWT.count [] l.scopes.length (fun j => [(3, .arr (strs (l.enums.map EnumL.name ++ l.tables.map TableL.name ++ (l.scopes.take j).map ScopeL.name))), (96, .int .i64 j)]) (fun k => ∀ j, j < k → scopeOO l j = none) (by simp only [List.take_zero, List.map_nil, List.append_nil]; rfl) (by simp) ?_
  intro j hj hg
  by_cases h2 : j < l.scopes.length
  · have hx := scopesV_get h2
    have hO : scopeOO l j = (nameE isIdB l.scopes[j].name (l.enums.map EnumL.name ++ l.tables.map TableL.name ++ (l.scopes.take j).map ScopeL.name) 3 j).or (scopeE isIdB l j l.scopes[j] (sigOL l l.scopes[j])) := by unfold scopeOO; rw [List.getElem?_eq_getElem h2]
    have hnm := fun u => name_call (s := l.scopes[j].name) (names := l.enums.map EnumL.name ++ l.tables.map TableL.name ++ (l.scopes.take j).map ScopeL.name) (u := u) (w := 3) (i := j) (by simp; omega)
    have hen := scope_call hl h2
    simp only [go_sem, simprocAttr, ltT h2, Int.toNat_natCast, hx, ScopeL.row]
    repeat' first
      | apply And.intro <;> intro h
      | ((refine FCallT.of (hnm _) ?_; rintro _ rfl); simp only [go_sem, simprocAttr, LawL.row])
    · exact err_congr ((err2 (r := none) hO hg (by assumption) h2).trans (or_none_e _))
    refine ⟨by simp; omega, ?_⟩
    repeat' first
      | apply And.intro <;> intro h
      | ((refine FCallT.of (hen) ?_; rintro _ rfl); simp only [go_sem, simprocAttr, LawL.row])
    · exact err_congr ((err3 (r := none) hO nameE_ok hg (by assumption) (by assumption) h2).trans (or_none_e _))
    · exact ⟨by rw [w64s (by omega), map_take_succ h2, ← List.append_assoc, strs_snoc], none_succ hg (none2 hO nameE_ok scopeE_ok (by assumption) (by assumption)), h2⟩
  rw [firstO_none fun k hk => hg k (by omega)]
  simp only [go_sem, simprocAttr, ltF h2]
  rfl
end Go.Fx.Tryz
set_option linter.unusedVariables false
set_option linter.unusedSimpArgs false
namespace Go.Fm
open Go
structure SameS (x y : SigL) : Prop where
  en : x.enums.length = y.enums.length
  mem : ∀ i, memN x.enums i = memN y.enums i
  tn : x.tables.length = y.tables.length
  tk : ∀ i, (tabAt x.tables i).kk = (tabAt y.tables i).kk ∧ (tabAt x.tables i).ke = (tabAt y.tables i).ke ∧ (tabAt x.tables i).vk = (tabAt y.tables i).vk ∧ (tabAt x.tables i).ve = (tabAt y.tables i).ve
  inp : x.inputs = y.inputs
  defs : x.defs = y.defs
  mems : x.mems = y.mems
  has : x.has = y.has
theorem SameS.found {x y : SigL} (h : SameS x y) (n : NodeL) : foundP n x ↔ foundP n y := by
  unfold foundP; rw [h.en, h.mem, h.tn, h.inp, h.defs, h.mems, h.has]
theorem SameS.leaf {x y : SigL} (h : SameS x y) (n : NodeL) : leafT n x = leafT n y := by
  unfold leafT; rw [h.inp, h.defs, h.mems]
theorem SameS.un {x y : SigL} (h : SameS x y) (n : NodeL) (a : TyL) : unT n a x = unT n a y := by
  unfold unT
  obtain ⟨a1, a2, a3, a4⟩ := h.tk n.n
  obtain ⟨b1, b2, b3, b4⟩ := h.tk (n.n / 8)
  simp only [a1, a2, a3, a4, b1, b2, b3, b4, h.en]
theorem SameS.node {x y : SigL} (h : SameS x y) (n : NodeL) (l : List TyL) : nodeT n l x = nodeT n l y := by
  have hf := h.found n
  unfold nodeT
  simp only [hf, h.leaf, h.un, h.en]
theorem SameS.go {x y : SigL} (h : SameS x y) : ∀ (e : List NodeL) (i : Nat) (st : List TyL), typeGo x i st e = typeGo y i st e
  | [], _, _ => rfl
  | n :: r, i, st => by
    unfold typeGo
    simp only [h.node, h.go r]
theorem SameS.type {x y : SigL} (h : SameS x y) (e : List NodeL) : typeL e x = typeL e y := by unfold typeL; rw [h.go]
theorem SameS.expr {x y : SigL} (h : SameS x y) (e : List NodeL) (t : TyL) : exprE e x t = exprE e y t := by unfold exprE; rw [h.type]
theorem SameS.rule {idB : List UInt8 → Bool} {x y : SigL} (h : SameS x y) (z : ScopeL) (j : Nat) : ruleE idB z j x = ruleE idB z j y := by
  unfold ruleE; simp only [h.expr]
theorem SameS.ruleO {idB : List UInt8 → Bool} {x y : SigL} (h : SameS x y) (z : ScopeL) (i : Int) (j : Nat) : Go.Fm.ruleO idB z x i j = Go.Fm.ruleO idB z y i j := by
  unfold Go.Fm.ruleO; rw [h.rule]
theorem SameS.scope {idB : List UInt8 → Bool} {x y : SigL} (h : SameS x y) (l : LawL) (i : Nat) (z : ScopeL) : scopeE idB l i z x = scopeE idB l i z y := by
  have e : Go.Fm.ruleO idB z x i = Go.Fm.ruleO idB z y i := funext fun j => h.ruleO z i j
  unfold scopeE; rw [e]
theorem memN_bare (l : List EnumL) (i : Int) : memN (l.map EnumL.bare) i = memN l i := by
  unfold memN; rw [List.getElem?_map]; cases l[i.toNat]? <;> rfl
theorem tabAt_bare (l : List TableL) (i : Int) : tabAt (l.map TableL.bare) i = (tabAt l i).bare ∨ tabAt (l.map TableL.bare) i = tabAt l i := by
  unfold tabAt; rw [List.getElem?_map]; cases l[i.toNat]? with
  | none => exact .inr rfl
  | some x => exact .inl rfl
end Go.Fm
set_option linter.unusedVariables false
set_option linter.unusedSimpArgs false
namespace Go.Fx.Tryz
open Go Go.Fm Go.Proofs
theorem sig_same (l : LawL) (x : ScopeL) : SameS (sigOL l x) (sigRL l x) where
  en := by simp [sigOL, sigRL]
  mem i := memN_bare _ _
  tn := by simp [sigOL, sigRL]
  tk i := by
    have h := tabAt_bare l.tables i
    show (tabAt (l.tables.map TableL.bare) i).kk = (tabAt l.tables i).kk ∧ _
    rcases h with h | h
    · exact ⟨by rw [h]; rfl, by show (tabAt (l.tables.map TableL.bare) i).ke = _; rw [h]; rfl, by show (tabAt (l.tables.map TableL.bare) i).vk = _; rw [h]; rfl, by show (tabAt (l.tables.map TableL.bare) i).ve = _; rw [h]; rfl⟩
    · exact ⟨by rw [h], by show (tabAt (l.tables.map TableL.bare) i).ke = _; rw [h]; rfl, by show (tabAt (l.tables.map TableL.bare) i).vk = _; rw [h]; rfl, by show (tabAt (l.tables.map TableL.bare) i).ve = _; rw [h]; rfl⟩
  inp := rfl
  defs := rfl
  mems := rfl
  has := rfl
theorem law_same (l : LawL) : lawOE l = lawRE l := by
  have e : scopeOO l = scopeRO l := funext fun i => by
    unfold scopeOO scopeRO
    cases l.scopes[i]? with
    | none => rfl
    | some x => simp only [(sig_same l x).scope]
  unfold lawOE lawRE; rw [e]
theorem law_validate {l : LawL} (hr : ∀ t ∈ l.tables, t.rows.length < 2 ^ 60) (hu : ∀ s ∈ l.scopes, s.rules.length < 2 ^ 60) (hl : l.sane)
    (ha : FCall Tryz.prog n_law17_awake [] (· = .bool true)) : FCall Tryz.prog n_law17_LawValidate [.agg l.row] (· = .bool true) := by
  refine FCall.walk u_law17_LawValidate k_law17_LawValidate rfl ?_
  unfold c_law17_LawValidate
  simp only [go_sem, simprocAttr, LawL.row]
  refine FCallT.of (smallLaw_call (l := l) hr hu) ?_
  rintro _ rfl
  simp only [go_sem, simprocAttr]
  refine ⟨fun hsm => ?_, fun hsm => ?_⟩
  · refine FCallT.of (ha) ?_
    rintro _ rfl
    simp only [go_sem, simprocAttr]
  have f1 := validate_call hl
  have f2 := validateR_call hl
  rw [law_same] at f1
  generalize lawRE l = E at f1 f2
  refine detCall_of _ (f1) ?_
  simp only [go_sem, simprocAttr, LawL.row]
  refine detCall_of _ (f2) ?_
  simp only [go_sem, simprocAttr, LawL.row]
  refine detCall_of _ (ha) ?_
  simp only [go_sem, simprocAttr]
end Go.Fx.Tryz
set_option linter.unusedVariables false
namespace Go.Fm
open Go
theorem int_of_shape {P : Program} {w : World} {g : Nat} {t : TypeId} {zero : Array Value} {k : IntKind} (h : w.ShapedOpen P) (hg : g < P.globals.size)
    (h0 : ((begin P (fun _ _ => 0) default).world.heap[g]?).bind Obj.row? = some (zero, t)) (hz : zero.size = 1)
    (hb : P.buildable t = true) (hc : P.cellTypes P.depth t = some [t]) (hu : P.underlying t = some (.int k)) : g < w.heap.size ∧ ∃ m : Int, w.cell? ⟨g, 0, none⟩ = some (.int k m) := by
  obtain ⟨cs, hh, hs, hr⟩ := h.1 g zero t hg h0
  obtain ⟨ts, hts, _, hall⟩ := hr hb
  rw [hc] at hts
  cases hts
  have h1 : 0 < cs.size := by omega
  obtain ⟨u, hu', hok⟩ := hall 0 cs[0] (by simp [h1])
  have : u = t := by simpa using hu'.symm
  subst this
  have hcell : w.cell? ⟨g, 0, none⟩ = some cs[0] := by simp [World.cell?, hh, h1]
  refine ⟨(Array.getElem?_eq_some_iff.1 hh).1, ?_⟩
  rw [hcell]
  unfold Cell.ok at hok
  rw [hu] at hok
  cases hv : cs[0] <;> rw [hv] at hok <;> first | (simp at hok; done) | (simp at hok; exact ⟨_, by rw [hok.1]⟩) | (simp at hok; exact ⟨_, by rw [hok]⟩)
end Go.Fm
set_option linter.unusedVariables false
namespace Go.Fm
open Go
abbrev ty_Str : Ty := .str
theorem i64_wf {n : Int} (h : (Lit.int .i64 n).wf = true) : I64 n := by
  simp only [Lit.wf, Bool.and_eq_true, decide_eq_true_eq] at h
  exact h
theorem has_Str {B : Nat} : ∀ fs, ty_Str.has B fs → ∃ s : List UInt8, fs = [.str s] ∧ s.length ≤ B := fun _ h => h
abbrev ty_Node : Ty := (.cons (.int .i64) (.cons (.int .i64) .nil))
def NodeL.bnd (B : Nat) (x : NodeL) : Prop := I64 x.op ∧ I64 x.n
theorem has_Node {B : Nat} : ∀ fs, ty_Node.has B fs → ∃ x : NodeL, fs = x.row ∧ x.bnd B := by
  rintro _ ⟨_, _, rfl, ⟨a0, rfl, h0⟩, ⟨_, _, rfl, ⟨a1, rfl, h1⟩, rfl⟩⟩
  exact ⟨⟨a0, a1⟩, rfl, i64_wf h0, i64_wf h1⟩
abbrev ty_Enum : Ty := (.cons .str (.cons (.sl ty_Str) .nil))
def EnumL.bnd (B : Nat) (x : EnumL) : Prop := x.name.length ≤ B ∧ x.members.length ≤ B ∧ (∀ s ∈ x.members, s.length ≤ B)
theorem has_Enum {B : Nat} : ∀ fs, ty_Enum.has B fs → ∃ x : EnumL, fs = x.row ∧ x.bnd B := by
  rintro _ ⟨_, _, rfl, ⟨a0, rfl, h0⟩, ⟨_, _, rfl, h1, rfl⟩⟩
  obtain ⟨l1, rfl, k1, p1⟩ := slHas has_Str h1
  exact ⟨⟨a0, false, l1⟩, rfl, h0, k1, p1⟩
abbrev ty_Field : Ty := (.cons .str (.cons (.cons (.int .i64) (.cons (.int .i64) .nil)) .nil))
def FieldL.bnd (B : Nat) (x : FieldL) : Prop := x.name.length ≤ B ∧ I64 x.k ∧ I64 x.e
theorem has_Field {B : Nat} : ∀ fs, ty_Field.has B fs → ∃ x : FieldL, fs = x.row ∧ x.bnd B := by
  rintro _ ⟨_, _, rfl, ⟨a0, rfl, h0⟩, ⟨_, _, rfl, ⟨_, _, rfl, ⟨a1, rfl, h1⟩, ⟨_, _, rfl, ⟨a2, rfl, h2⟩, rfl⟩⟩, rfl⟩⟩
  exact ⟨⟨a0, a1, a2⟩, rfl, h0, i64_wf h1, i64_wf h2⟩
abbrev ty_Rule : Ty := (.cons .str (.cons (.int .i64) (.cons (.int .i64) (.cons (.int .i64) (.cons (.cons (.int .i64) (.cons (.int .i64) .nil)) (.cons (.sl ty_Node) (.cons (.sl ty_Node) (.cons .str .nil))))))))
def RuleL.bnd (B : Nat) (x : RuleL) : Prop := x.name.length ≤ B ∧ I64 x.d ∧ I64 x.p ∧ I64 x.pr ∧ I64 x.f ∧ I64 x.t ∧ x.guard.length ≤ B ∧ (∀ y ∈ x.guard, y.bnd B) ∧ x.value.length ≤ B ∧ (∀ y ∈ x.value, y.bnd B) ∧ x.src.length ≤ B
theorem has_Rule {B : Nat} : ∀ fs, ty_Rule.has B fs → ∃ x : RuleL, fs = x.row ∧ x.bnd B := by
  rintro _ ⟨_, _, rfl, ⟨a0, rfl, h0⟩, ⟨_, _, rfl, ⟨a1, rfl, h1⟩, ⟨_, _, rfl, ⟨a2, rfl, h2⟩, ⟨_, _, rfl, ⟨a3, rfl, h3⟩, ⟨_, _, rfl, ⟨_, _, rfl, ⟨a4, rfl, h4⟩, ⟨_, _, rfl, ⟨a5, rfl, h5⟩, rfl⟩⟩, ⟨_, _, rfl, h6, ⟨_, _, rfl, h7, ⟨_, _, rfl, ⟨a8, rfl, h8⟩, rfl⟩⟩⟩⟩⟩⟩⟩⟩
  obtain ⟨l6, rfl, k6, p6⟩ := slHas has_Node h6
  obtain ⟨l7, rfl, k7, p7⟩ := slHas has_Node h7
  exact ⟨⟨a0, a1, a2, a3, a4, a5, false, l6, false, l7, a8⟩, rfl, h0, i64_wf h1, i64_wf h2, i64_wf h3, i64_wf h4, i64_wf h5, k6, p6, k7, p7, h8⟩
abbrev ty_Row : Ty := (.cons (.cons (.int .i64) (.cons (.int .i64) .nil)) (.cons (.int .i64) (.cons (.int .i64) (.cons (.int .i64) .nil))))
def RowL.bnd (B : Nat) (x : RowL) : Prop := I64 x.f ∧ I64 x.t ∧ I64 x.lo ∧ I64 x.hi ∧ I64 x.n
theorem has_Row {B : Nat} : ∀ fs, ty_Row.has B fs → ∃ x : RowL, fs = x.row ∧ x.bnd B := by
  rintro _ ⟨_, _, rfl, ⟨_, _, rfl, ⟨a0, rfl, h0⟩, ⟨_, _, rfl, ⟨a1, rfl, h1⟩, rfl⟩⟩, ⟨_, _, rfl, ⟨a2, rfl, h2⟩, ⟨_, _, rfl, ⟨a3, rfl, h3⟩, ⟨_, _, rfl, ⟨a4, rfl, h4⟩, rfl⟩⟩⟩⟩
  exact ⟨⟨a0, a1, a2, a3, a4⟩, rfl, i64_wf h0, i64_wf h1, i64_wf h2, i64_wf h3, i64_wf h4⟩
abbrev ty_Table : Ty := (.cons .str (.cons (.cons (.int .i64) (.cons (.int .i64) .nil)) (.cons (.cons (.int .i64) (.cons (.int .i64) .nil)) (.cons (.sl ty_Row) .nil))))
def TableL.bnd (B : Nat) (x : TableL) : Prop := x.name.length ≤ B ∧ I64 x.kk ∧ I64 x.ke ∧ I64 x.vk ∧ I64 x.ve ∧ x.rows.length ≤ B ∧ (∀ y ∈ x.rows, y.bnd B)
theorem has_Table {B : Nat} : ∀ fs, ty_Table.has B fs → ∃ x : TableL, fs = x.row ∧ x.bnd B := by
  rintro _ ⟨_, _, rfl, ⟨a0, rfl, h0⟩, ⟨_, _, rfl, ⟨_, _, rfl, ⟨a1, rfl, h1⟩, ⟨_, _, rfl, ⟨a2, rfl, h2⟩, rfl⟩⟩, ⟨_, _, rfl, ⟨_, _, rfl, ⟨a3, rfl, h3⟩, ⟨_, _, rfl, ⟨a4, rfl, h4⟩, rfl⟩⟩, ⟨_, _, rfl, h5, rfl⟩⟩⟩⟩
  obtain ⟨l5, rfl, k5, p5⟩ := slHas has_Row h5
  exact ⟨⟨a0, a1, a2, a3, a4, false, l5⟩, rfl, h0, i64_wf h1, i64_wf h2, i64_wf h3, i64_wf h4, k5, p5⟩
abbrev ty_Scope : Ty := (.cons .str (.cons (.int .i64) (.cons (.sl ty_Field) (.cons (.sl ty_Field) (.cons (.sl ty_Rule) .nil)))))
def ScopeL.bnd (B : Nat) (x : ScopeL) : Prop := x.name.length ≤ B ∧ I64 x.ms ∧ x.inputs.length ≤ B ∧ (∀ y ∈ x.inputs, y.bnd B) ∧ x.defs.length ≤ B ∧ (∀ y ∈ x.defs, y.bnd B) ∧ x.rules.length ≤ B ∧ (∀ y ∈ x.rules, y.bnd B)
theorem has_Scope {B : Nat} : ∀ fs, ty_Scope.has B fs → ∃ x : ScopeL, fs = x.row ∧ x.bnd B := by
  rintro _ ⟨_, _, rfl, ⟨a0, rfl, h0⟩, ⟨_, _, rfl, ⟨a1, rfl, h1⟩, ⟨_, _, rfl, h2, ⟨_, _, rfl, h3, ⟨_, _, rfl, h4, rfl⟩⟩⟩⟩⟩
  obtain ⟨l2, rfl, k2, p2⟩ := slHas has_Field h2
  obtain ⟨l3, rfl, k3, p3⟩ := slHas has_Field h3
  obtain ⟨l4, rfl, k4, p4⟩ := slHas has_Rule h4
  exact ⟨⟨a0, a1, false, l2, false, l3, false, l4⟩, rfl, h0, i64_wf h1, k2, p2, k3, p3, k4, p4⟩
abbrev ty_Law : Ty := (.cons (.sl ty_Enum) (.cons (.sl ty_Table) (.cons (.sl ty_Scope) .nil)))
def LawL.bnd (B : Nat) (x : LawL) : Prop := x.enums.length ≤ B ∧ (∀ y ∈ x.enums, y.bnd B) ∧ x.tables.length ≤ B ∧ (∀ y ∈ x.tables, y.bnd B) ∧ x.scopes.length ≤ B ∧ (∀ y ∈ x.scopes, y.bnd B)
theorem has_Law {B : Nat} : ∀ fs, ty_Law.has B fs → ∃ x : LawL, fs = x.row ∧ x.bnd B := by
  rintro _ ⟨_, _, rfl, h0, ⟨_, _, rfl, h1, ⟨_, _, rfl, h2, rfl⟩⟩⟩
  obtain ⟨l0, rfl, k0, p0⟩ := slHas has_Enum h0
  obtain ⟨l1, rfl, k1, p1⟩ := slHas has_Table h1
  obtain ⟨l2, rfl, k2, p2⟩ := slHas has_Scope h2
  exact ⟨⟨false, l0, false, l1, false, l2⟩, rfl, k0, p0, k1, p1, k2, p2⟩
end Go.Fm
set_option linter.unusedVariables false
set_option linter.unusedSimpArgs false
namespace Go.Fm
open Go
def toInts : List (List FV) → Option (List Int)
  | [] => some []
  | r :: es => match r with
    | [.int .i64 z] => (toInts es).map (z :: ·)
    | _ => none
theorem toInts_eq : ∀ {es : List (List FV)} {zs : List Int}, toInts es = some zs → es = ints zs
  | [], zs, h => by cases h; rfl
  | r :: es, zs, h => by
    simp only [toInts] at h
    split at h <;> try (cases h; done)
    rw [Option.map_eq_some_iff] at h
    obtain ⟨ys, h1, rfl⟩ := h
    rw [toInts_eq h1]; rfl
def sortedB : List Int → Bool
  | a :: b :: l => decide (a ≤ b) && sortedB (b :: l)
  | _ => true
theorem sortedB_pw : ∀ {l : List Int}, sortedB l = true → l.Pairwise (fun a b => decide (a ≤ b) = true)
  | [], _ => .nil
  | [a], _ => List.pairwise_singleton _ _
  | a :: b :: l, h => by
    simp only [sortedB, Bool.and_eq_true] at h
    have ih := sortedB_pw h.2
    refine List.pairwise_cons.2 ⟨fun x hx => ?_, ih⟩
    rcases List.mem_cons.1 hx with rfl | hx
    · exact h.1
    · have h1 := (List.pairwise_cons.1 ih).1 x hx
      have h2 := h.1
      simp only [decide_eq_true_eq] at h1 h2 ⊢
      omega
def primSort (n : FuncId) : Muts := fun f es => cond (Nat.beq f n) (match toInts es with
  | some zs => cond (sortedB zs && Nat.blt zs.length 1000000) (some es) none
  | none => none) none
theorem primSort_sound {P : Program} {n : FuncId} (h : ∀ {zs : List Int}, zs.length < 4611686018427387904 → FMut P n (ints zs) (· = ints (zs.mergeSort fun x y => decide (x ≤ y)))) : SoundM P (primSort n) := fun f es es' he => by
  unfold primSort at he
  cases hb : Nat.beq f n <;> rw [hb] at he <;> simp only [cond_true, cond_false] at he
  · cases he
  have := Nat.eq_of_beq_eq_true hb
  subst this
  split at he <;> try (cases he; done)
  rename_i zs hz
  cases hc : sortedB zs && Nat.blt zs.length 1000000 <;> rw [hc] at he <;> simp only [cond_true, cond_false] at he
  · cases he
  cases he
  simp only [Bool.and_eq_true, Nat.blt_eq] at hc
  have e1 := toInts_eq hz
  subst e1
  have h2 := h (zs := zs) (by omega)
  rw [List.mergeSort_of_pairwise (sortedB_pw hc.1)] at h2
  exact h2
def primStr (nc nk : FuncId) : Calls := fun f fs => cond (Nat.beq f nc) (match fs with
    | [.str a, .str b] => cond (Nat.blt a.length 1000000) (some (.bool (Lib.contains a b))) none
    | _ => none) (cond (Nat.beq f nk) (match fs with
    | [.arr es] => match toInts es with
      | some zs => cond (Nat.blt zs.length 1000000) (some (.arr (ints (Lib.compact zs)))) none
      | none => none
    | _ => none) none)
theorem primStr_sound {P : Program} {nc nk : FuncId} (h1 : ∀ {a b : List UInt8}, a.length < 4294967281 → FCall P nc [.str a, .str b] (· = .bool (Lib.contains a b)))
    (h2 : ∀ {zs : List Int}, zs.length ≤ 9223372036854775807 → FCall P nk [.arr (ints zs)] (· = .arr (ints (Lib.compact zs)))) : SoundC P (primStr nc nk) := fun f fs v he => by
  unfold primStr at he
  cases hb : Nat.beq f nc <;> rw [hb] at he <;> simp only [cond_true, cond_false] at he
  · cases hk : Nat.beq f nk <;> rw [hk] at he <;> simp only [cond_true, cond_false] at he
    · cases he
    have := Nat.eq_of_beq_eq_true hk
    subst this
    split at he <;> try (cases he; done)
    split at he <;> try (cases he; done)
    rename_i zs hz
    cases hc : Nat.blt zs.length 1000000 <;> rw [hc] at he <;> simp only [cond_true, cond_false] at he
    · cases he
    cases he
    rw [Nat.blt_eq] at hc
    rw [toInts_eq hz]
    exact h2 (by omega)
  · have := Nat.eq_of_beq_eq_true hb
    subst this
    split at he <;> try (cases he; done)
    rename_i a b
    cases hc : Nat.blt a.length 1000000 <;> rw [hc] at he <;> simp only [cond_true, cond_false] at he
    · cases he
    cases he
    rw [Nat.blt_eq] at hc
    exact h1 (by omega)
end Go.Fm
namespace Go.Fx.Tryz
open Go Go.Fm Go.Proofs
noncomputable abbrev call (k : Nat) : Fm.Calls := xCall Tryz.prog tab (primStr n_strings_Contains n_slices_Compact_int_int) (primSort n_slices_Sort_int_int) 1000 k
theorem call_sound (k : Nat) : SoundC Tryz.prog (call k) := xCall_sound tab_good (primStr_sound p_contains p_compact) (primSort_sound p_sort) k
theorem awake_x : call 20 n_law17_awake [] = some (.bool true) := by kernel_rfl
theorem awake : FCall Tryz.prog n_law17_awake [] (· = .bool true) := call_sound 20 _ _ _ awake_x
end Go.Fx.Tryz
set_option linter.unusedVariables false
set_option linter.unusedSimpArgs false
namespace Go.Fx.Tryz
open Go Go.Fm Go.Proofs Go.Proofs.YtdjbhceoodcphaaGreat
open Go.ChangeShapes Go.WideShapes Go.ChangeAt Go.RowKit
theorem own : ownKnob Tryz.prog.godebug = none := by kernel_rfl
theorem laidOut : laidOutB Tryz.prog = true := by kernel_rfl
theorem bulk_mem {H : Type} : ∀ {ds : List (DataW H)} {d : DataW H}, d ∈ ds → Rows.uptoBulk d ≤ Rows.uptoBulkAll ds
  | [], _, m => by cases m
  | x :: ds, d, m => by
    rw [Rows.uptoBulkAll]
    rcases List.mem_cons.1 m with rfl | m
    · omega
    · have := bulk_mem m; omega
theorem bulk_pos {H : Type} : ∀ (d : DataW H), 1 ≤ Rows.uptoBulk d := by
  intro d; cases d with
  | lit l => cases l <;> simp [Rows.uptoBulk]
  | _ => simp [Rows.uptoBulk]
theorem bulk_len {H : Type} : ∀ (ds : List (DataW H)), ds.length ≤ Rows.uptoBulkAll ds
  | [] => Nat.zero_le _
  | d :: ds => by have := bulk_len ds; have := bulk_pos d; simp only [Rows.uptoBulkAll, List.length_cons]; omega
theorem bnd {H : Type} : Bnd (fun d : DataW H => Rows.uptoBulk d ≤ 1048576) 1048576 where
  str h _ := by simp [Rows.uptoBulk] at h; omega
  sl {es rest} h _ := by
    simp only [Rows.uptoBulk] at h
    have := bulk_len es
    exact ⟨by omega, fun d m => by have := bulk_mem m; omega⟩
  agg {xs} h d m := by simp only [Rows.uptoBulk] at h; have := bulk_mem m; omega
theorem bulk_of {H : Type} {ds gs : List (DataW H)} (hk : Rows.uptoSmall H (ds ++ gs) = true) {d : DataW H} (m : d ∈ ds) : Rows.uptoBulk d ≤ 1048576 := by
  have h1 := bulk_mem (ds := ds ++ gs) (d := d) (by simp [m])
  simp only [Rows.uptoSmall, decide_eq_true_eq] at hk
  omega
def cellsOfTab : DataW Unit → Array Value
  | .agg xs => (xs.map fun | .lit (.int k n) => Value.int k n | _ => Value.int .i64 0).toArray
  | _ => #[]
noncomputable def layAt (x : String × DataW Unit) (w : World) : World :=
  match Tryz.prog.globalNamed x.1 with
  | some g => { w with heap := w.heap.modify g fun | .cells _ t frozen => .cells (cellsOfTab x.2) t frozen | o => o }
  | none => w
theorem maxLen_here {W : World} (hS : W.ShapedOpen Tryz.prog) : ∀ g, Tryz.prog.globalNamed "internal/bytealg.MaxLen" = some g → g < W.heap.size ∧ ∃ m : Int, W.cell? ⟨g, 0, none⟩ = some (.int .i64 m) := fun g hg => by
  obtain rfl : g = 0 := Option.some.inj (hg.symm.trans (show Tryz.prog.globalNamed "internal/bytealg.MaxLen" = some 0 by kernel_rfl))
  exact int_of_shape (t := 3) (zero := #[.int .i64 0]) (k := .i64) hS (of_decide_eq_true (by kernel_rfl)) (by kernel_rfl) rfl (by kernel_rfl) (by kernel_rfl) (by kernel_rfl)
theorem ambHere {W : World} {L : List (String × DataW Unit)} (hL : laidMet Tryz.prog L W) (hS : W.ShapedOpen Tryz.prog) : Amb Tryz.prog W (fun b => b < W.heap.size) := amb_none (by kernel_rfl) (maxLen_here hS)
end Go.Fx.Tryz
set_option linter.unusedVariables false
set_option linter.unusedSimpArgs false
namespace Go.Fx.Tryz
open Go Go.Fm Go.Proofs
theorem hc_law17_LawValidate : ∀ fs, ArgsHave 1048576 [(true, ty_Law)] fs → FCall Tryz.prog n_law17_LawValidate fs (· = .bool true) := by
  rintro _ ⟨_, _, rfl, ⟨_, rfl, h0⟩, rfl⟩
  obtain ⟨l, rfl, hl⟩ := has_Law _ h0
  obtain ⟨b1, b2, b3, b4, b5, b6⟩ := hl
  refine law_validate (fun t m => by have := (b4 t m).2.2.2.2.2.1; omega) (fun s m => by have := (b6 s m).2.2.2.2.2.2.1; omega) ?_ awake
  refine ⟨by omega, fun e m => ?_, by omega, fun t m => ?_, by omega, fun x m => ?_⟩
  · obtain ⟨c1, c2, c3⟩ := b2 e m
    exact ⟨by omega, by omega, fun s k => by have := c3 s k; omega⟩
  · obtain ⟨c1, -, -, -, -, c2, -⟩ := b4 t m
    exact ⟨by omega, by omega⟩
  · obtain ⟨c1, -, c3, c4, c5, c6, c7, c8⟩ := b6 x m
    refine ⟨by omega, by omega, ⟨c5, c7, fun r k => ?_⟩, fun f k => by have := (c4 f k).1; omega, fun f k => by have := (c6 f k).1; omega, fun r k => ?_⟩
    · obtain ⟨-, -, -, -, -, -, d1, -, d2, -⟩ := c8 r k
      exact ⟨d1, d2⟩
    · obtain ⟨d0, -, -, -, -, -, -, d1, -, d2, d3⟩ := c8 r k
      exact ⟨by omega, by omega, fun n q => (d1 n q).2, fun n q => (d2 n q).2⟩
end Go.Fx.Tryz
set_option linter.unusedVariables false
set_option linter.unusedSimpArgs false
namespace Go.Fx.Tryz
open Go Go.Fm Go.Proofs Go.Proofs.YtdjbhceoodcphaaGreat
open Go.ChangeShapes Go.WideShapes Go.ChangeAt Go.RowKit
theorem tys_law17_LawValidate : argTys Tryz.prog 12 Go.Proofs.Tryz.f3.params.toList = some [(true, ty_Law)] := by kernel_rfl
set_option maxRecDepth 100000 in
theorem contract_law17_LawValidate (H : Type) (enc : TypeId × Value → H) (W : World) (base : Nat) (args : Array Value) (ds gs : List (DataW H)) (before : List MemPlace)
    (hval : ∀ (j : Nat) t v, Go.Proofs.Tryz.f3.params[j]? = some t → args[j]? = some v → Value.okWide Tryz.prog W .any base t v)
    (hW : DataW.Whole enc Tryz.prog Go.Proofs.Tryz.f3.params.toList Rows.lawValidateSpec.vars false W args.toList ds gs before) (hk : Rows.uptoSmall H (ds ++ gs) = true)
    (hL : laidMet Tryz.prog Rows.lawValidateRow.laid W) (hS : W.ShapedOpen Tryz.prog) :
    Calls Tryz.prog 3 args W fun e W' => ∃ v, e = .returned v ∧ Rows.lawValidateSpec.post enc Tryz.prog Go.Proofs.Tryz.f3 false true false false W args v W' :=
  row_all (tb := 4) bnd laidOut rfl (by kernel_rfl) tys_law17_LawValidate (fun ds h => by match ds, h with | [_], _ => rfl) (by kernel_rfl) Tryz.underlying4 hc_law17_LawValidate hval hW (fun d m => bulk_of hk m) (ambHere hL hS)
noncomputable def laidWorld_law17_LawValidate (os : Os) : World := Rows.lawValidateRow.laid.foldr layAt (World.holding Tryz.prog os ⟨#[], #[], []⟩)
theorem laid_law17_LawValidate (os : Os) : laidMet Tryz.prog Rows.lawValidateRow.laid ((laidWorld_law17_LawValidate os).forCall (fun _ _ => 0) ⟨#[], #[Value.agg #[.slice none 0 0, .slice none 0 0, .slice none 0 0]], []⟩).memory :=
  laidMet_of_run' 8 (by kernel_rfl) (by kernel_rfl)
theorem reads_law17_LawValidate (os : Os) {H : Type} (enc : TypeId × Value → H) : ∃ places, DataW.whole enc Tryz.prog ((laidWorld_law17_LawValidate os).forCall (fun _ _ => 0) ⟨#[], #[Value.agg #[.slice none 0 0, .slice none 0 0, .slice none 0 0]], []⟩).memory Go.Proofs.Tryz.f3.params.toList Rows.lawValidateSpec.vars false (#[Value.agg #[.slice none 0 0, .slice none 0 0, .slice none 0 0]] : Array Value).toList 8 = some ([.agg [.nil, .nil, .nil]], [], places) :=
  ⟨[], by kernel_rfl⟩
set_option maxRecDepth 100000 in
theorem lifted_law17_LawValidate (os : Os) (started : os.Started) (H : Type) (enc : TypeId × Value → H) (F : Stop.Interp) :
    ReturnsInHanded {} Tryz.checked os 3 .any ((Rows.OpenSpec.upto Rows.lawValidateSpec).preRow enc Tryz.prog Go.Proofs.Tryz.f3 Rows.lawValidateUptoRow.domain false Rows.lawValidateUptoRow.laid) (((Rows.OpenSpec.upto Rows.lawValidateSpec).at F).post enc Tryz.prog Go.Proofs.Tryz.f3 false true false false) := by
  obtain ⟨places, hx⟩ := reads_law17_LawValidate os enc
  refine returnsInHanded_of_row (C := Tryz.checked) (s := Rows.OpenSpec.upto Rows.lawValidateSpec) own started (by kernel_rfl) Tryz.func3
    (witness_row_at (enc := enc) (C := Tryz.checked) false (laidWorld_law17_LawValidate os) #[Value.agg #[.slice none 0 0, .slice none 0 0, .slice none 0 0]] rfl (by kernel_rfl) (by kernel_rfl) (by kernel_rfl)
      (OpenSpec.preRow_of_cond 8 hx (by kernel_rfl) (fun k hk => by cases hk; kernel_rfl) (by kernel_rfl) (laid_law17_LawValidate os))) ?_
  intro W base args ds gs before hval hW _ hcond _ hL hS _
  exact contract_law17_LawValidate H enc W base args ds gs before hval hW (hcond _ rfl) hL hS
theorem said_law17_LawValidate : Rows.LawValidateUptoSaid :=
  OpenClaim.holds_of_cond 3 Go.Proofs.Tryz.f3 rfl rfl rfl rfl rfl rfl rfl ⟨rfl, rfl, rfl, rfl, rfl⟩ rfl rfl rfl rfl rfl (by kernel_rfl) Tryz.func3 (by kernel_rfl)
    (of_decide_eq_true (by kernel_rfl)) (by unfold Func.isWrapper; first | (rw [if_pos (by decide +kernel)]; kernel_rfl) | (rw [if_neg (by decide +kernel)]; exact ⟨rfl, rfl⟩))
    (fun os started H enc _ F => by rw [OpenClaim.pre_eq_preRow]; exact lifted_law17_LawValidate os started H enc F)
end Go.Fx.Tryz
