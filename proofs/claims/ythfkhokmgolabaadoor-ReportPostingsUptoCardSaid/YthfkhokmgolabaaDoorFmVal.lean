/- The abstract values 'FV' (slices and boxes by content) and their relation to the model's memory. -/
import Derived.Calls
import Derived.Tactics
import Derived.RowKit3
set_option linter.unusedVariables false
set_option linter.unusedSimpArgs false
namespace Go.Fm
open Go

/-- abstract values -/
inductive FV where
  | undef
  | int (k : IntKind) (n : Int)
  | bool (b : Bool)
  | str (s : List UInt8)
  | sl (full : Bool) (es : List (List FV))
  | arr (es : List (List FV))
  | buf (st : Nat)
  | box (cs : List FV)
  | ref (cs : List FV)
  | ptr (r : Nat) (p : List (Nat × Nat))
  | al (r : Nat) (p : List (Nat × Nat))
  | agg (cs : List FV)
  | tup (vs : List FV)
  | fn (f : FuncId) (cap : List FV)
  | iter (s : List UInt8) (pos : Nat)
  | nilp | nilf | nili
  | iface (t : TypeId) (v : FV)
  deriving Inhabited

abbrev Path := List (Nat × Nat)

/-- the cells of one block -/
def cellAt (h : Array Obj) (b o : Nat) : Option Value :=
  match h[b]? with
  | some (.cells c _ _) => c[o]?
  | _ => none

theorem cell?_eq (w : World) (b o : Nat) : w.cell? ⟨b, o, none⟩ = cellAt w.heap b o := by
  unfold World.cell? cellAt
  cases h : w.heap[b]? with
  | none => rfl
  | some x => cases x <;> rfl

theorem cellAt_congr {h h' : Array Obj} {b : Nat} (e : h'[b]? = h[b]?) (o : Nat) : cellAt h' b o = cellAt h b o := by
  unfold cellAt; rw [e]

/-- 'rows of cells read as': a list of the model's values against a list of abstract ones, with the blocks that they own -/
inductive Rep (h : Array Obj) (S : Nat → Prop) : List Value → List FV → List Nat → Prop
  | nil : Rep h S [] [] []
  | undef {v vs fs R} : Rep h S vs fs R → Rep h S (v :: vs) (.undef :: fs) R
  | int {k n vs fs R} : Rep h S vs fs R → Rep h S (.int k n :: vs) (.int k n :: fs) R
  | bool {b vs fs R} : Rep h S vs fs R → Rep h S (.bool b :: vs) (.bool b :: fs) R
  | str {s vs fs R} : Rep h S vs fs R → Rep h S (.string ⟨List.toArray s⟩ :: vs) (.str s :: fs) R
  | nilp {vs fs R} : Rep h S vs fs R → Rep h S (.pointer none :: vs) (.nilp :: fs) R
  | nilf {vs fs R} : Rep h S vs fs R → Rep h S (.nilFunc :: vs) (.nilf :: fs) R
  | nili {vs fs R} : Rep h S vs fs R → Rep h S (.nilIface :: vs) (.nili :: fs) R
  | iface {t v f vs fs R1 R} : Rep h S [v] [f] R1 → Rep h S vs fs R → Rep h S (.iface t v :: vs) (.iface t f :: fs) (R1 ++ R)
  | agg {cs gs vs fs R1 R} : Rep h S cs gs R1 → Rep h S vs fs R → Rep h S (.agg (List.toArray cs) :: vs) (.agg gs :: fs) (R1 ++ R)
  | tup {cs gs vs fs R1 R} : Rep h S cs gs R1 → Rep h S vs fs R → Rep h S (.tuple (List.toArray cs) :: vs) (.tup gs :: fs) (R1 ++ R)
  | fn {f cs gs vs fs R1 R} : Rep h S cs gs R1 → Rep h S vs fs R → Rep h S (.func (.func f) #[] (List.toArray cs) :: vs) (.fn f gs :: fs) (R1 ++ R)
  | slNil {full z vs fs R} : Rep h S vs fs R → Rep h S (.slice z 0 0 :: vs) (.sl full [] :: fs) R
  | sl {full : Bool} {es : List (List FV)} {b o n cap st : Nat} {cs : List Value} {vs fs R} (hn : es.length = n) (hst : ∀ e ∈ es, e.length = st) (hS : S b) (hlt : b < h.size)
      (hcs : cs.length = n * st) (hc : ∀ k, k < n * st → cellAt h b (o + k) = cs[k]?) (hcap : n ≤ cap) (hfull : full = true → cap = n) (hpos : 0 < cap)
      (hr : Rep h S cs es.flatten []) (ht : Rep h S vs fs R) : Rep h S (.slice (some ⟨b, o, none⟩) n cap :: vs) (.sl full es :: fs) R
  | ref {b o : Nat} {cs : List Value} {gs vs fs R} (hS : S b) (hlt : b < h.size) (hc : ∀ k, k < cs.length → cellAt h b (o + k) = cs[k]?) (hr : Rep h S cs gs [])
      (ht : Rep h S vs fs R) : Rep h S (.pointer (some ⟨b, o, none⟩) :: vs) (.ref gs :: fs) R
  | arrNil {z vs fs R} : Rep h S vs fs R → Rep h S (.slice z 0 0 :: vs) (.arr [] :: fs) R
  | arr {es : List (List FV)} {b n cap st : Nat} {c : Array Value} {T : TypeId} {vs fs R1 R} (hn : es.length = n) (hst : ∀ e ∈ es, e.length = st)
      (hb : h[b]? = some (.cells c T (0, 0))) (hsz : c.size = cap * st) (hcap : n ≤ cap) (hpos : 0 < n) (hr : Rep h S (c.toList.take (n * st)) es.flatten R1)
      (ht : Rep h S vs fs R) : Rep h S (.slice (some ⟨b, 0, none⟩) n cap :: vs) (.arr es :: fs) (b :: R1 ++ R)
  | buf {b cap st : Nat} {c : Array Value} {T : TypeId} {vs fs R} (hb : h[b]? = some (.cells c T (0, 0))) (hsz : c.size = cap * st)
      (ht : Rep h S vs fs R) : Rep h S (.slice (some ⟨b, 0, none⟩) 0 cap :: vs) (.buf st :: fs) (b :: R)
  | box {b : Nat} {c : Array Value} {T : TypeId} {gs vs fs R1 R} (hb : h[b]? = some (.cells c T (0, 0))) (hr : Rep h S c.toList gs R1)
      (ht : Rep h S vs fs R) : Rep h S (.pointer (some ⟨b, 0, none⟩) :: vs) (.box gs :: fs) (b :: R1 ++ R)
  | iter {b : Nat} {s : List UInt8} {pos : Nat} {vs fs R} (hb : h[b]? = some (.stringIter ⟨List.toArray s⟩ pos))
      (ht : Rep h S vs fs R) : Rep h S (.pointer (some ⟨b, 0, none⟩) :: vs) (.iter s pos :: fs) (b :: R)

theorem Rep.length {h S vs fs R} (r : Rep h S vs fs R) : vs.length = fs.length := by
  induction r <;> simp_all

/-- what a later world keeps of it -/
theorem Rep.mono {h h' : Array Obj} {S S' : Nat → Prop} {vs fs R} (r : Rep h S vs fs R) (hS : ∀ b, S b → S' b) (hsz : h.size ≤ h'.size)
    (hs : ∀ b, S b → b < h.size → h'[b]? = h[b]?) (hR : ∀ b ∈ R, h'[b]? = h[b]?) : Rep h' S' vs fs R := by
  induction r with
  | nil => exact .nil
  | undef _ ih => exact .undef (ih hR)
  | int _ ih => exact .int (ih hR)
  | bool _ ih => exact .bool (ih hR)
  | str _ ih => exact .str (ih hR)
  | nilp _ ih => exact .nilp (ih hR)
  | nilf _ ih => exact .nilf (ih hR)
  | nili _ ih => exact .nili (ih hR)
  | iface _ _ i1 i2 => exact .iface (i1 fun b m => hR b (by simp [m])) (i2 fun b m => hR b (by simp [m]))
  | agg _ _ i1 i2 => exact .agg (i1 fun b m => hR b (by simp [m])) (i2 fun b m => hR b (by simp [m]))
  | tup _ _ i1 i2 => exact .tup (i1 fun b m => hR b (by simp [m])) (i2 fun b m => hR b (by simp [m]))
  | fn _ _ i1 i2 => exact .fn (i1 fun b m => hR b (by simp [m])) (i2 fun b m => hR b (by simp [m]))
  | slNil _ ih => exact .slNil (ih hR)
  | sl hn hst hSb hlt hcs hc hcap hfull hpos _ _ i1 i2 =>
    exact .sl hn hst (hS _ hSb) (by omega) hcs (fun k hk => by rw [cellAt_congr (hs _ hSb hlt)]; exact hc k hk) hcap hfull hpos (i1 (by simp)) (i2 hR)
  | ref hSb hlt hc _ _ i1 i2 => exact .ref (hS _ hSb) (by omega) (fun k hk => by rw [cellAt_congr (hs _ hSb hlt)]; exact hc k hk) (i1 (by simp)) (i2 hR)
  | arrNil _ ih => exact .arrNil (ih hR)
  | arr hn hst hb hsz hcap hpos _ _ i1 i2 =>
    exact .arr hn hst (by rw [hR _ (by simp)]; exact hb) hsz hcap hpos (i1 fun b m => hR b (by simp [m])) (i2 fun b m => hR b (by simp [m]))
  | buf hb hsz _ ih => exact .buf (by rw [hR _ (by simp)]; exact hb) hsz (ih fun b m => hR b (by simp [m]))
  | box hb _ _ i1 i2 => exact .box (by rw [hR _ (by simp)]; exact hb) (i1 fun b m => hR b (by simp [m])) (i2 fun b m => hR b (by simp [m]))
  | iter hb _ ih => exact .iter (by rw [hR _ (by simp)]; exact hb) (ih fun b m => hR b (by simp [m]))

theorem Rep.lt {h S vs fs R} (r : Rep h S vs fs R) : ∀ b ∈ R, b < h.size := by
  have key : ∀ {b : Nat} {o : Obj}, h[b]? = some o → b < h.size := fun e => by
    have := (Array.getElem?_eq_some_iff.1 e).1; exact this
  induction r with
  | nil => simp
  | undef _ ih | int _ ih | bool _ ih | str _ ih | nilp _ ih | nilf _ ih | nili _ ih | slNil _ ih | arrNil _ ih => exact ih
  | iface _ _ i1 i2 | agg _ _ i1 i2 | tup _ _ i1 i2 | fn _ _ i1 i2 => intro b m; rcases List.mem_append.1 m with m | m; exact i1 b m; exact i2 b m
  | sl _ _ _ _ _ _ _ _ _ _ _ _ i2 => exact i2
  | ref _ _ _ _ _ _ i2 => exact i2
  | arr _ _ hb _ _ _ _ _ i1 i2 => intro b m; simp at m; rcases m with rfl | m | m; exact key hb; exact i1 b m; exact i2 b m
  | box hb _ _ i1 i2 => intro b m; simp at m; rcases m with rfl | m | m; exact key hb; exact i1 b m; exact i2 b m
  | iter hb _ ih => intro b m; simp at m; rcases m with rfl | m; exact key hb; exact ih b m
  | buf hb _ _ ih => intro b m; simp at m; rcases m with rfl | m; exact key hb; exact ih b m

theorem Rep.append {h S vs fs R} (r : Rep h S vs fs R) : ∀ {vs' fs' R'}, Rep h S vs' fs' R' → Rep h S (vs ++ vs') (fs ++ fs') (R ++ R') := by
  induction r with
  | nil => intro _ _ _ r'; simpa using r'
  | undef _ ih => intro _ _ _ r'; exact .undef (ih r')
  | int _ ih => intro _ _ _ r'; exact .int (ih r')
  | bool _ ih => intro _ _ _ r'; exact .bool (ih r')
  | str _ ih => intro _ _ _ r'; exact .str (ih r')
  | nilp _ ih => intro _ _ _ r'; exact .nilp (ih r')
  | nilf _ ih => intro _ _ _ r'; exact .nilf (ih r')
  | nili _ ih => intro _ _ _ r'; exact .nili (ih r')
  | iface r1 _ _ i2 => intro _ _ _ r'; rw [List.append_assoc]; exact .iface r1 (i2 r')
  | agg r1 _ _ i2 => intro _ _ _ r'; rw [List.append_assoc]; exact .agg r1 (i2 r')
  | tup r1 _ _ i2 => intro _ _ _ r'; rw [List.append_assoc]; exact .tup r1 (i2 r')
  | fn r1 _ _ i2 => intro _ _ _ r'; rw [List.append_assoc]; exact .fn r1 (i2 r')
  | slNil _ ih => intro _ _ _ r'; exact .slNil (ih r')
  | sl hn hst hSb hlt hcs hc hcap hfull hpos r1 _ _ i2 => intro _ _ _ r'; exact .sl hn hst hSb hlt hcs hc hcap hfull hpos r1 (i2 r')
  | ref hSb hlt hc r1 _ _ i2 => intro _ _ _ r'; exact .ref hSb hlt hc r1 (i2 r')
  | arrNil _ ih => intro _ _ _ r'; exact .arrNil (ih r')
  | arr hn hst hb hsz hcap hpos r1 _ _ i2 =>
    intro _ _ _ r'
    have := Rep.arr hn hst hb hsz hcap hpos r1 (i2 r')
    simpa [List.append_assoc] using this
  | box hb r1 _ _ i2 =>
    intro _ _ _ r'
    have := Rep.box hb r1 (i2 r')
    simpa [List.append_assoc] using this
  | iter hb _ ih => intro _ _ _ r'; exact .iter hb (ih r')
  | buf hb hsz _ ih => intro _ _ _ r'; exact .buf hb hsz (ih r')

/-- the first of them, and the others -/
theorem Rep.cons_inv {h S v vs f fs R} (r : Rep h S (v :: vs) (f :: fs) R) : ∃ R1 R2, Rep h S [v] [f] R1 ∧ Rep h S vs fs R2 ∧ R = R1 ++ R2 := by
  cases r with
  | undef r => exact ⟨[], _, .undef .nil, r, rfl⟩
  | int r => exact ⟨[], _, .int .nil, r, rfl⟩
  | bool r => exact ⟨[], _, .bool .nil, r, rfl⟩
  | str r => exact ⟨[], _, .str .nil, r, rfl⟩
  | nilp r => exact ⟨[], _, .nilp .nil, r, rfl⟩
  | nilf r => exact ⟨[], _, .nilf .nil, r, rfl⟩
  | nili r => exact ⟨[], _, .nili .nil, r, rfl⟩
  | iface r1 r => exact ⟨_, _, .iface r1 .nil, r, by simp⟩
  | agg r1 r => exact ⟨_, _, .agg r1 .nil, r, by simp⟩
  | tup r1 r => exact ⟨_, _, .tup r1 .nil, r, by simp⟩
  | fn r1 r => exact ⟨_, _, .fn r1 .nil, r, by simp⟩
  | slNil r => exact ⟨[], _, .slNil .nil, r, rfl⟩
  | sl hn hst hSb hlt hcs hc hcap hfull hpos r1 r => exact ⟨[], _, .sl hn hst hSb hlt hcs hc hcap hfull hpos r1 .nil, r, rfl⟩
  | ref hSb hlt hc r1 r => exact ⟨[], _, .ref hSb hlt hc r1 .nil, r, rfl⟩
  | arrNil r => exact ⟨[], _, .arrNil .nil, r, rfl⟩
  | arr hn hst hb hsz hcap hpos r1 r => exact ⟨_, _, .arr hn hst hb hsz hcap hpos r1 .nil, r, by simp⟩
  | box hb r1 r => exact ⟨_, _, .box hb r1 .nil, r, by simp⟩
  | iter hb r => exact ⟨_, _, .iter hb .nil, r, by simp⟩
  | buf hb hsz r => exact ⟨_, _, .buf hb hsz .nil, r, by simp⟩

theorem Rep.cons {h S v vs f fs R1 R2} (r1 : Rep h S [v] [f] R1) (r2 : Rep h S vs fs R2) : Rep h S (v :: vs) (f :: fs) (R1 ++ R2) := r1.append r2

theorem Rep.append_inv {h S} : ∀ {fs vs fs' R}, Rep h S vs (fs ++ fs') R →
    ∃ v1 v2 R1 R2, vs = v1 ++ v2 ∧ Rep h S v1 fs R1 ∧ Rep h S v2 fs' R2 ∧ R = R1 ++ R2
  | [], vs, fs', R, r => ⟨[], vs, [], R, rfl, .nil, r, rfl⟩
  | f :: fs, vs, fs', R, r => by
    have hl := r.length
    cases vs with
    | nil => simp at hl
    | cons v vs =>
      obtain ⟨R1, R2, h1, h2, rfl⟩ := r.cons_inv
      obtain ⟨v1, v2, R3, R4, rfl, h3, h4, rfl⟩ := Rep.append_inv h2
      exact ⟨v :: v1, v2, R1 ++ R3, R4, rfl, h1.append h3, h4, by simp⟩

/-- taken at a length -/
theorem Rep.split {h S vs fs R} (r : Rep h S vs fs R) (k : Nat) :
    ∃ R1 R2, Rep h S (vs.take k) (fs.take k) R1 ∧ Rep h S (vs.drop k) (fs.drop k) R2 ∧ R = R1 ++ R2 := by
  have hl := r.length
  have e : fs = fs.take k ++ fs.drop k := (List.take_append_drop k fs).symm
  rw [e] at r
  obtain ⟨v1, v2, R1, R2, rfl, h1, h2, rfl⟩ := Rep.append_inv r
  have l1 := h1.length
  refine ⟨R1, R2, ?_, ?_, rfl⟩
  · have : (v1 ++ v2).take k = v1 := by
      by_cases hk : k ≤ fs.length
      · rw [List.take_left' (by rw [l1, List.length_take]; omega)]
      · have h2' := h2.length
        have : v2 = [] := by
          apply List.eq_nil_of_length_eq_zero; rw [h2', List.length_drop]; omega
        subst this
        rw [List.append_nil, List.take_of_length_le]
        rw [l1, List.length_take]; omega
    rw [this]; exact h1
  · have : (v1 ++ v2).drop k = v2 := by
      by_cases hk : k ≤ fs.length
      · rw [List.drop_left' (by rw [l1, List.length_take]; omega)]
      · have h2' := h2.length
        have : v2 = [] := by
          apply List.eq_nil_of_length_eq_zero; rw [h2', List.length_drop]; omega
        subst this
        rw [List.append_nil, List.drop_of_length_le]
        rw [l1, List.length_take]; omega
    rw [this]; exact h2

/-! ### sealing: what is owned becomes what is only read -/
mutual
def FV.sealed : FV → FV
  | .arr es => .sl false (sealedLL es)
  | .box cs => .ref (sealedL cs)
  | .buf _ => .sl false []
  | .agg cs => .agg (sealedL cs)
  | .tup vs => .tup (sealedL vs)
  | .fn f cap => .fn f (sealedL cap)
  | .iface t v => .iface t v.sealed
  | .iter _ _ => .undef
  | v => v
def sealedL : List FV → List FV
  | [] => []
  | f :: fs => f.sealed :: sealedL fs
def sealedLL : List (List FV) → List (List FV)
  | [] => []
  | e :: es => sealedL e :: sealedLL es
end
theorem sealedL_eq (l : List FV) : sealedL l = l.map FV.sealed := by induction l <;> simp_all [sealedL]
theorem sealedLL_eq (l : List (List FV)) : sealedLL l = l.map (·.map FV.sealed) := by induction l <;> simp_all [sealedLL, sealedL_eq]
theorem sealedLL_flatten (es : List (List FV)) : (sealedLL es).flatten = sealedL es.flatten := by
  rw [sealedLL_eq, sealedL_eq, List.map_flatten]

theorem Rep.seal {h : Array Obj} {S : Nat → Prop} {vs fs R} (r : Rep h S vs fs R) : ∀ {S' : Nat → Prop}, (∀ b, S b → S' b) → (∀ b ∈ R, S' b) → Rep h S' vs (sealedL fs) [] := by
  induction r with
  | nil => intro _ _ _; exact .nil
  | undef _ ih => intro _ hS hR; exact .undef (ih hS hR)
  | int _ ih => intro _ hS hR; exact .int (ih hS hR)
  | bool _ ih => intro _ hS hR; exact .bool (ih hS hR)
  | str _ ih => intro _ hS hR; exact .str (ih hS hR)
  | nilp _ ih => intro _ hS hR; exact .nilp (ih hS hR)
  | nilf _ ih => intro _ hS hR; exact .nilf (ih hS hR)
  | nili _ ih => intro _ hS hR; exact .nili (ih hS hR)
  | iface _ _ i1 i2 =>
    intro _ hS hR
    have := Rep.iface (t := ‹_›) (i1 hS fun b m => hR b (by simp [m])) (i2 hS fun b m => hR b (by simp [m]))
    simpa [sealedL, FV.sealed] using this
  | agg _ _ i1 i2 => intro _ hS hR; exact .agg (R1 := []) (i1 hS fun b m => hR b (by simp [m])) (i2 hS fun b m => hR b (by simp [m]))
  | tup _ _ i1 i2 => intro _ hS hR; exact .tup (R1 := []) (i1 hS fun b m => hR b (by simp [m])) (i2 hS fun b m => hR b (by simp [m]))
  | fn _ _ i1 i2 => intro _ hS hR; exact .fn (R1 := []) (i1 hS fun b m => hR b (by simp [m])) (i2 hS fun b m => hR b (by simp [m]))
  | slNil _ ih => intro _ hS hR; exact .slNil (ih hS hR)
  | sl hn hst hSb hlt hcs hc hcap hfull hpos r1 _ i1 i2 =>
    intro _ hS hR
    exact .sl hn hst (hS _ hSb) hlt hcs hc hcap hfull hpos (r1.mono hS (Nat.le_refl _) (fun _ _ _ => rfl) (by simp)) (i2 hS hR)
  | ref hSb hlt hc r1 _ i1 i2 =>
    intro _ hS hR
    exact .ref (hS _ hSb) hlt hc (r1.mono hS (Nat.le_refl _) (fun _ _ _ => rfl) (by simp)) (i2 hS hR)
  | arrNil _ ih => intro _ hS hR; exact .slNil (ih hS hR)
  | @arr es b n cap st c T vs fs R1 R hn hst hb hsz hcap hpos _ _ i1 i2 =>
    intro S' hS hR
    have hlt : b < h.size := (Array.getElem?_eq_some_iff.1 hb).1
    have hnc : n * st ≤ c.size := by rw [hsz]; exact Nat.mul_le_mul_right _ hcap
    refine .sl (st := st) (cs := c.toList.take (n * st)) (by rw [sealedLL_eq]; simpa using hn) ?_ (hR b (by simp)) hlt (by simp; omega) ?_ hcap (by simp) (by omega) ?_ (i2 hS fun b m => hR b (by simp [m]))
    · intro e he
      rw [sealedLL_eq] at he
      obtain ⟨e0, he0, rfl⟩ := List.mem_map.1 he
      simpa using hst e0 he0
    · intro k hk
      rw [Nat.zero_add]
      unfold cellAt
      rw [hb]
      simp [List.getElem?_take, hk]
    · rw [sealedLL_flatten]
      exact i1 hS fun b m => hR b (by simp [m])
  | @box b c T gs vs fs R1 R hb _ _ i1 i2 =>
    intro S' hS hR
    have hlt : b < h.size := (Array.getElem?_eq_some_iff.1 hb).1
    refine .ref (cs := c.toList) (hR b (by simp)) hlt ?_ (i1 hS fun b m => hR b (by simp [m])) (i2 hS fun b m => hR b (by simp [m]))
    intro k hk
    rw [Nat.zero_add]
    unfold cellAt
    rw [hb]
    simp
  | iter hb _ ih => intro _ hS hR; exact .undef (ih hS fun b m => hR b (by simp [m]))
  | @buf b cap st c T vs fs R hb hsz _ ih =>
    intro S' hS hR
    have hlt : b < h.size := (Array.getElem?_eq_some_iff.1 hb).1
    by_cases hc : cap = 0
    · subst hc; exact .slNil (ih hS fun b m => hR b (by simp [m]))
    · exact .sl (st := st) (cs := []) rfl (by simp) (hR b (by simp)) hlt (by simp) (by simp) (by omega) (by simp) (by omega) .nil (ih hS fun b m => hR b (by simp [m]))

end Go.Fm
