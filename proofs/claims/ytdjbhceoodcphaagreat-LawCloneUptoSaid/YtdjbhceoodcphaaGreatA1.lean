/- Part of a proof: see the last text of the claim. -/
import Derived.Calls
import Derived.Tactics
import Derived.RowKit3
import Derived.Laws.Cells
import Derived.Laws.AppendOwn
set_option linter.unusedVariables false
set_option linter.unusedSimpArgs false
namespace Go.Fm
open Go
inductive AK where
  | agg (n : Nat)
  | sub (lo n sz : Nat)
inductive FV where
  | undef
  | int (k : IntKind) (n : Int)
  | bool (b : Bool)
  | str (s : List UInt8)
  | sl (full : Bool) (es : List (List FV))
  | arr (es : List (List FV))
  | buf (st : Nat)
  | box (cs : List FV)
  | ref (cs : List FV)
  | ptr (r : Nat) (p : List (Nat × Nat))
  | al (r : Nat) (p : List (Nat × Nat))
  | clo (f : FuncId) (rs : List Nat)
  | als (q lo n size : Nat)
  | alg (q : Nat) (p : List (Nat × Nat)) (n : AK)
  | agg (cs : List FV)
  | tup (vs : List FV)
  | fn (f : FuncId) (cap : List FV)
  | iter (s : List UInt8) (pos : Nat)
  | nilp | nilf | nili
  | iface (t : TypeId) (v : FV)
  deriving Inhabited
abbrev Path := List (Nat × Nat)
def cellAt (h : Array Obj) (b o : Nat) : Option Value :=
  match h[b]? with
  | some (.cells c _ _) => c[o]?
  | _ => none
theorem cell?_eq (w : World) (b o : Nat) : w.cell? ⟨b, o, none⟩ = cellAt w.heap b o := by
  unfold World.cell? cellAt
  cases h : w.heap[b]? with
  | none => rfl
  | some x => cases x <;> rfl
theorem cellAt_congr {h h' : Array Obj} {b : Nat} (e : h'[b]? = h[b]?) (o : Nat) : cellAt h' b o = cellAt h b o := by
  unfold cellAt; rw [e]
inductive Rep (h : Array Obj) (S : Nat → Prop) : List Value → List FV → List Nat → Prop
  | nil : Rep h S [] [] []
  | undef {v vs fs R} : Rep h S vs fs R → Rep h S (v :: vs) (.undef :: fs) R
  | int {k n vs fs R} : Rep h S vs fs R → Rep h S (.int k n :: vs) (.int k n :: fs) R
  | bool {b vs fs R} : Rep h S vs fs R → Rep h S (.bool b :: vs) (.bool b :: fs) R
  | str {s vs fs R} : Rep h S vs fs R → Rep h S (.string ⟨List.toArray s⟩ :: vs) (.str s :: fs) R
  | nilp {vs fs R} : Rep h S vs fs R → Rep h S (.pointer none :: vs) (.nilp :: fs) R
  | nilf {vs fs R} : Rep h S vs fs R → Rep h S (.nilFunc :: vs) (.nilf :: fs) R
  | nili {vs fs R} : Rep h S vs fs R → Rep h S (.nilIface :: vs) (.nili :: fs) R
  | iface {t v f vs fs R1 R} : Rep h S [v] [f] R1 → Rep h S vs fs R → Rep h S (.iface t v :: vs) (.iface t f :: fs) (R1 ++ R)
  | agg {cs gs vs fs R1 R} : Rep h S cs gs R1 → Rep h S vs fs R → Rep h S (.agg (List.toArray cs) :: vs) (.agg gs :: fs) (R1 ++ R)
  | tup {cs gs vs fs R1 R} : Rep h S cs gs R1 → Rep h S vs fs R → Rep h S (.tuple (List.toArray cs) :: vs) (.tup gs :: fs) (R1 ++ R)
  | fn {f cs gs vs fs R1 R} : Rep h S cs gs R1 → Rep h S vs fs R → Rep h S (.func (.func f) #[] (List.toArray cs) :: vs) (.fn f gs :: fs) (R1 ++ R)
  | slNil {full z vs fs R} : Rep h S vs fs R → Rep h S (.slice z 0 0 :: vs) (.sl full [] :: fs) R
  | sl {full : Bool} {es : List (List FV)} {b o n cap st : Nat} {cs : List Value} {vs fs R} (hn : es.length = n) (hst : ∀ e ∈ es, e.length = st) (hS : S b) (hlt : b < h.size)
      (hcs : cs.length = n * st) (hc : ∀ k, k < n * st → cellAt h b (o + k) = cs[k]?) (hcap : n ≤ cap) (hfull : full = true → cap = n) (hpos : 0 < cap)
      (hr : Rep h S cs es.flatten []) (ht : Rep h S vs fs R) : Rep h S (.slice (some ⟨b, o, none⟩) n cap :: vs) (.sl full es :: fs) R
  | ref {b o : Nat} {cs : List Value} {gs vs fs R} (hS : S b) (hlt : b < h.size) (hc : ∀ k, k < cs.length → cellAt h b (o + k) = cs[k]?) (hr : Rep h S cs gs [])
      (ht : Rep h S vs fs R) : Rep h S (.pointer (some ⟨b, o, none⟩) :: vs) (.ref gs :: fs) R
  | arrNil {z vs fs R} : Rep h S vs fs R → Rep h S (.slice z 0 0 :: vs) (.arr [] :: fs) R
  | arr {es : List (List FV)} {b o n cap st : Nat} {c : Array Value} {T : TypeId} {vs fs R1 R} (hn : es.length = n) (hst : ∀ e ∈ es, e.length = st)
      (hb : h[b]? = some (.cells c T (0, 0))) (hsz : c.size = o + cap * st) (hcap : n ≤ cap) (hpos : 0 < n) (hr : Rep h S ((c.toList.drop o).take (n * st)) es.flatten R1)
      (ht : Rep h S vs fs R) : Rep h S (.slice (some ⟨b, o, none⟩) n cap :: vs) (.arr es :: fs) (b :: R1 ++ R)
  | buf {b o cap st : Nat} {c : Array Value} {T : TypeId} {vs fs R} (hb : h[b]? = some (.cells c T (0, 0))) (hsz : c.size = o + cap * st) (hpos : 0 < cap)
      (ht : Rep h S vs fs R) : Rep h S (.slice (some ⟨b, o, none⟩) 0 cap :: vs) (.buf st :: fs) (b :: R)
  | bufNil {z st vs fs R} : Rep h S vs fs R → Rep h S (.slice z 0 0 :: vs) (.buf st :: fs) R
  | box {b : Nat} {c : Array Value} {T : TypeId} {gs vs fs R1 R} (hb : h[b]? = some (.cells c T (0, 0))) (hr : Rep h S c.toList gs R1)
      (ht : Rep h S vs fs R) : Rep h S (.pointer (some ⟨b, 0, none⟩) :: vs) (.box gs :: fs) (b :: R1 ++ R)
  | iter {b : Nat} {s : List UInt8} {pos : Nat} {vs fs R} (hb : h[b]? = some (.stringIter ⟨List.toArray s⟩ pos))
      (ht : Rep h S vs fs R) : Rep h S (.pointer (some ⟨b, 0, none⟩) :: vs) (.iter s pos :: fs) (b :: R)
theorem Rep.length {h S vs fs R} (r : Rep h S vs fs R) : vs.length = fs.length := by
  induction r <;> simp_all
theorem Rep.mono {h h' : Array Obj} {S S' : Nat → Prop} {vs fs R} (r : Rep h S vs fs R) (hS : ∀ b, S b → S' b) (hsz : h.size ≤ h'.size)
    (hs : ∀ b, S b → b < h.size → h'[b]? = h[b]?) (hR : ∀ b ∈ R, h'[b]? = h[b]?) : Rep h' S' vs fs R := by
  induction r with
  | nil => exact .nil
  | undef _ ih => exact .undef (ih hR)
  | int _ ih => exact .int (ih hR)
  | bool _ ih => exact .bool (ih hR)
  | str _ ih => exact .str (ih hR)
  | nilp _ ih => exact .nilp (ih hR)
  | nilf _ ih => exact .nilf (ih hR)
  | nili _ ih => exact .nili (ih hR)
  | iface _ _ i1 i2 => exact .iface (i1 fun b m => hR b (by simp [m])) (i2 fun b m => hR b (by simp [m]))
  | agg _ _ i1 i2 => exact .agg (i1 fun b m => hR b (by simp [m])) (i2 fun b m => hR b (by simp [m]))
  | tup _ _ i1 i2 => exact .tup (i1 fun b m => hR b (by simp [m])) (i2 fun b m => hR b (by simp [m]))
  | fn _ _ i1 i2 => exact .fn (i1 fun b m => hR b (by simp [m])) (i2 fun b m => hR b (by simp [m]))
  | slNil _ ih => exact .slNil (ih hR)
  | sl hn hst hSb hlt hcs hc hcap hfull hpos _ _ i1 i2 =>
    exact .sl hn hst (hS _ hSb) (by omega) hcs (fun k hk => by rw [cellAt_congr (hs _ hSb hlt)]; exact hc k hk) hcap hfull hpos (i1 (by simp)) (i2 hR)
  | ref hSb hlt hc _ _ i1 i2 => exact .ref (hS _ hSb) (by omega) (fun k hk => by rw [cellAt_congr (hs _ hSb hlt)]; exact hc k hk) (i1 (by simp)) (i2 hR)
  | arrNil _ ih => exact .arrNil (ih hR)
  | bufNil _ ih => exact .bufNil (ih hR)
  | arr hn hst hb hsz hcap hpos _ _ i1 i2 =>
    exact .arr hn hst (by rw [hR _ (by simp)]; exact hb) hsz hcap hpos (i1 fun b m => hR b (by simp [m])) (i2 fun b m => hR b (by simp [m]))
  | buf hb hsz hpos _ ih => exact .buf (by rw [hR _ (by simp)]; exact hb) hsz hpos (ih fun b m => hR b (by simp [m]))
  | box hb _ _ i1 i2 => exact .box (by rw [hR _ (by simp)]; exact hb) (i1 fun b m => hR b (by simp [m])) (i2 fun b m => hR b (by simp [m]))
  | iter hb _ ih => exact .iter (by rw [hR _ (by simp)]; exact hb) (ih fun b m => hR b (by simp [m]))
theorem Rep.lt {h S vs fs R} (r : Rep h S vs fs R) : ∀ b ∈ R, b < h.size := by
  have key : ∀ {b : Nat} {o : Obj}, h[b]? = some o → b < h.size := fun e => by
    have := (Array.getElem?_eq_some_iff.1 e).1; exact this
  induction r with
  | nil => simp
  | undef _ ih | int _ ih | bool _ ih | str _ ih | nilp _ ih | nilf _ ih | nili _ ih | slNil _ ih | arrNil _ ih | bufNil _ ih => exact ih
  | iface _ _ i1 i2 | agg _ _ i1 i2 | tup _ _ i1 i2 | fn _ _ i1 i2 => intro b m; rcases List.mem_append.1 m with m | m; exact i1 b m; exact i2 b m
  | sl _ _ _ _ _ _ _ _ _ _ _ _ i2 => exact i2
  | ref _ _ _ _ _ _ i2 => exact i2
  | arr _ _ hb _ _ _ _ _ i1 i2 => intro b m; simp at m; rcases m with rfl | m | m; exact key hb; exact i1 b m; exact i2 b m
  | box hb _ _ i1 i2 => intro b m; simp at m; rcases m with rfl | m | m; exact key hb; exact i1 b m; exact i2 b m
  | iter hb _ ih => intro b m; simp at m; rcases m with rfl | m; exact key hb; exact ih b m
  | buf hb _ _ _ ih => intro b m; simp at m; rcases m with rfl | m; exact key hb; exact ih b m
theorem Rep.append {h S vs fs R} (r : Rep h S vs fs R) : ∀ {vs' fs' R'}, Rep h S vs' fs' R' → Rep h S (vs ++ vs') (fs ++ fs') (R ++ R') := by
  induction r with
  | nil => intro _ _ _ r'; simpa using r'
  | undef _ ih => intro _ _ _ r'; exact .undef (ih r')
  | int _ ih => intro _ _ _ r'; exact .int (ih r')
  | bool _ ih => intro _ _ _ r'; exact .bool (ih r')
  | str _ ih => intro _ _ _ r'; exact .str (ih r')
  | nilp _ ih => intro _ _ _ r'; exact .nilp (ih r')
  | nilf _ ih => intro _ _ _ r'; exact .nilf (ih r')
  | nili _ ih => intro _ _ _ r'; exact .nili (ih r')
  | iface r1 _ _ i2 => intro _ _ _ r'; rw [List.append_assoc]; exact .iface r1 (i2 r')
  | agg r1 _ _ i2 => intro _ _ _ r'; rw [List.append_assoc]; exact .agg r1 (i2 r')
  | tup r1 _ _ i2 => intro _ _ _ r'; rw [List.append_assoc]; exact .tup r1 (i2 r')
  | fn r1 _ _ i2 => intro _ _ _ r'; rw [List.append_assoc]; exact .fn r1 (i2 r')
  | slNil _ ih => intro _ _ _ r'; exact .slNil (ih r')
  | sl hn hst hSb hlt hcs hc hcap hfull hpos r1 _ _ i2 => intro _ _ _ r'; exact .sl hn hst hSb hlt hcs hc hcap hfull hpos r1 (i2 r')
  | ref hSb hlt hc r1 _ _ i2 => intro _ _ _ r'; exact .ref hSb hlt hc r1 (i2 r')
  | arrNil _ ih => intro _ _ _ r'; exact .arrNil (ih r')
  | bufNil _ ih => intro _ _ _ r'; exact .bufNil (ih r')
  | arr hn hst hb hsz hcap hpos r1 _ _ i2 =>
    intro _ _ _ r'
    have := Rep.arr hn hst hb hsz hcap hpos r1 (i2 r')
    simpa [List.append_assoc] using this
  | box hb r1 _ _ i2 =>
    intro _ _ _ r'
    have := Rep.box hb r1 (i2 r')
    simpa [List.append_assoc] using this
  | iter hb _ ih => intro _ _ _ r'; exact .iter hb (ih r')
  | buf hb hsz hpos _ ih => intro _ _ _ r'; exact .buf hb hsz hpos (ih r')
theorem Rep.cons_inv {h S v vs f fs R} (r : Rep h S (v :: vs) (f :: fs) R) : ∃ R1 R2, Rep h S [v] [f] R1 ∧ Rep h S vs fs R2 ∧ R = R1 ++ R2 := by
  cases r with
  | undef r => exact ⟨[], _, .undef .nil, r, rfl⟩
  | int r => exact ⟨[], _, .int .nil, r, rfl⟩
  | bool r => exact ⟨[], _, .bool .nil, r, rfl⟩
  | str r => exact ⟨[], _, .str .nil, r, rfl⟩
  | nilp r => exact ⟨[], _, .nilp .nil, r, rfl⟩
  | nilf r => exact ⟨[], _, .nilf .nil, r, rfl⟩
  | nili r => exact ⟨[], _, .nili .nil, r, rfl⟩
  | iface r1 r => exact ⟨_, _, .iface r1 .nil, r, by simp⟩
  | agg r1 r => exact ⟨_, _, .agg r1 .nil, r, by simp⟩
  | tup r1 r => exact ⟨_, _, .tup r1 .nil, r, by simp⟩
  | fn r1 r => exact ⟨_, _, .fn r1 .nil, r, by simp⟩
  | slNil r => exact ⟨[], _, .slNil .nil, r, rfl⟩
  | sl hn hst hSb hlt hcs hc hcap hfull hpos r1 r => exact ⟨[], _, .sl hn hst hSb hlt hcs hc hcap hfull hpos r1 .nil, r, rfl⟩
  | ref hSb hlt hc r1 r => exact ⟨[], _, .ref hSb hlt hc r1 .nil, r, rfl⟩
  | arrNil r => exact ⟨[], _, .arrNil .nil, r, rfl⟩
  | bufNil r => exact ⟨[], _, .bufNil .nil, r, rfl⟩
  | arr hn hst hb hsz hcap hpos r1 r => exact ⟨_, _, .arr hn hst hb hsz hcap hpos r1 .nil, r, by simp⟩
  | box hb r1 r => exact ⟨_, _, .box hb r1 .nil, r, by simp⟩
  | iter hb r => exact ⟨_, _, .iter hb .nil, r, by simp⟩
  | buf hb hsz hpos r => exact ⟨_, _, .buf hb hsz hpos .nil, r, by simp⟩
theorem Rep.cons {h S v vs f fs R1 R2} (r1 : Rep h S [v] [f] R1) (r2 : Rep h S vs fs R2) : Rep h S (v :: vs) (f :: fs) (R1 ++ R2) := r1.append r2
theorem Rep.append_inv {h S} : ∀ {fs vs fs' R}, Rep h S vs (fs ++ fs') R →
    ∃ v1 v2 R1 R2, vs = v1 ++ v2 ∧ Rep h S v1 fs R1 ∧ Rep h S v2 fs' R2 ∧ R = R1 ++ R2
  | [], vs, fs', R, r => ⟨[], vs, [], R, rfl, .nil, r, rfl⟩
  | f :: fs, vs, fs', R, r => by
    have hl := r.length
    cases vs with
    | nil => simp at hl
    | cons v vs =>
      obtain ⟨R1, R2, h1, h2, rfl⟩ := r.cons_inv
      obtain ⟨v1, v2, R3, R4, rfl, h3, h4, rfl⟩ := Rep.append_inv h2
      exact ⟨v :: v1, v2, R1 ++ R3, R4, rfl, h1.append h3, h4, by simp⟩
theorem Rep.split {h S vs fs R} (r : Rep h S vs fs R) (k : Nat) :
    ∃ R1 R2, Rep h S (vs.take k) (fs.take k) R1 ∧ Rep h S (vs.drop k) (fs.drop k) R2 ∧ R = R1 ++ R2 := by
  have hl := r.length
  have e : fs = fs.take k ++ fs.drop k := (List.take_append_drop k fs).symm
  rw [e] at r
  obtain ⟨v1, v2, R1, R2, rfl, h1, h2, rfl⟩ := Rep.append_inv r
  have l1 := h1.length
  refine ⟨R1, R2, ?_, ?_, rfl⟩
  · have : (v1 ++ v2).take k = v1 := by
      by_cases hk : k ≤ fs.length
      · rw [List.take_left' (by rw [l1, List.length_take]; omega)]
      · have h2' := h2.length
        have : v2 = [] := by
          apply List.eq_nil_of_length_eq_zero; rw [h2', List.length_drop]; omega
        subst this
        rw [List.append_nil, List.take_of_length_le]
        rw [l1, List.length_take]; omega
    rw [this]; exact h1
  · have : (v1 ++ v2).drop k = v2 := by
      by_cases hk : k ≤ fs.length
      · rw [List.drop_left' (by rw [l1, List.length_take]; omega)]
      · have h2' := h2.length
        have : v2 = [] := by
          apply List.eq_nil_of_length_eq_zero; rw [h2', List.length_drop]; omega
        subst this
        rw [List.append_nil, List.drop_of_length_le]
        rw [l1, List.length_take]; omega
    rw [this]; exact h2
mutual
def FV.sealed : FV → FV
  | .arr es => .sl false (sealedLL es)
  | .box cs => .ref (sealedL cs)
  | .buf _ => .sl false []
  | .agg cs => .agg (sealedL cs)
  | .tup vs => .tup (sealedL vs)
  | .fn f cap => .fn f (sealedL cap)
  | .iface t v => .iface t v.sealed
  | .iter _ _ => .undef
  | v => v
def sealedL : List FV → List FV
  | [] => []
  | f :: fs => f.sealed :: sealedL fs
def sealedLL : List (List FV) → List (List FV)
  | [] => []
  | e :: es => sealedL e :: sealedLL es
end
theorem sealedL_eq (l : List FV) : sealedL l = l.map FV.sealed := by induction l <;> simp_all [sealedL]
theorem sealedLL_eq (l : List (List FV)) : sealedLL l = l.map (·.map FV.sealed) := by induction l <;> simp_all [sealedLL, sealedL_eq]
theorem sealedLL_flatten (es : List (List FV)) : (sealedLL es).flatten = sealedL es.flatten := by
  rw [sealedLL_eq, sealedL_eq, List.map_flatten]
theorem Rep.seal {h : Array Obj} {S : Nat → Prop} {vs fs R} (r : Rep h S vs fs R) : ∀ {S' : Nat → Prop}, (∀ b, S b → S' b) → (∀ b ∈ R, S' b) → Rep h S' vs (sealedL fs) [] := by
  induction r with
  | nil => intro _ _ _; exact .nil
  | undef _ ih => intro _ hS hR; exact .undef (ih hS hR)
  | int _ ih => intro _ hS hR; exact .int (ih hS hR)
  | bool _ ih => intro _ hS hR; exact .bool (ih hS hR)
  | str _ ih => intro _ hS hR; exact .str (ih hS hR)
  | nilp _ ih => intro _ hS hR; exact .nilp (ih hS hR)
  | nilf _ ih => intro _ hS hR; exact .nilf (ih hS hR)
  | nili _ ih => intro _ hS hR; exact .nili (ih hS hR)
  | iface _ _ i1 i2 =>
    intro _ hS hR
    have := Rep.iface (t := ‹_›) (i1 hS fun b m => hR b (by simp [m])) (i2 hS fun b m => hR b (by simp [m]))
    simpa [sealedL, FV.sealed] using this
  | agg _ _ i1 i2 => intro _ hS hR; exact .agg (R1 := []) (i1 hS fun b m => hR b (by simp [m])) (i2 hS fun b m => hR b (by simp [m]))
  | tup _ _ i1 i2 => intro _ hS hR; exact .tup (R1 := []) (i1 hS fun b m => hR b (by simp [m])) (i2 hS fun b m => hR b (by simp [m]))
  | fn _ _ i1 i2 => intro _ hS hR; exact .fn (R1 := []) (i1 hS fun b m => hR b (by simp [m])) (i2 hS fun b m => hR b (by simp [m]))
  | slNil _ ih => intro _ hS hR; exact .slNil (ih hS hR)
  | sl hn hst hSb hlt hcs hc hcap hfull hpos r1 _ i1 i2 =>
    intro _ hS hR
    exact .sl hn hst (hS _ hSb) hlt hcs hc hcap hfull hpos (r1.mono hS (Nat.le_refl _) (fun _ _ _ => rfl) (by simp)) (i2 hS hR)
  | ref hSb hlt hc r1 _ i1 i2 =>
    intro _ hS hR
    exact .ref (hS _ hSb) hlt hc (r1.mono hS (Nat.le_refl _) (fun _ _ _ => rfl) (by simp)) (i2 hS hR)
  | arrNil _ ih => intro _ hS hR; exact .slNil (ih hS hR)
  | bufNil _ ih => intro _ hS hR; exact .slNil (ih hS hR)
  | @arr es b o n cap st c T vs fs R1 R hn hst hb hsz hcap hpos _ _ i1 i2 =>
    intro S' hS hR
    have hlt : b < h.size := (Array.getElem?_eq_some_iff.1 hb).1
    have hnc : n * st ≤ cap * st := Nat.mul_le_mul_right _ hcap
    refine .sl (st := st) (cs := (c.toList.drop o).take (n * st)) (by rw [sealedLL_eq]; simpa using hn) ?_ (hR b (by simp)) hlt (by simp; omega) ?_ hcap (by simp) (by omega) ?_ (i2 hS fun b m => hR b (by simp [m]))
    · intro e he
      rw [sealedLL_eq] at he
      obtain ⟨e0, he0, rfl⟩ := List.mem_map.1 he
      simpa using hst e0 he0
    · intro k hk
      unfold cellAt
      rw [hb]
      simp [List.getElem?_take, hk]
    · rw [sealedLL_flatten]
      exact i1 hS fun b m => hR b (by simp [m])
  | @box b c T gs vs fs R1 R hb _ _ i1 i2 =>
    intro S' hS hR
    have hlt : b < h.size := (Array.getElem?_eq_some_iff.1 hb).1
    refine .ref (cs := c.toList) (hR b (by simp)) hlt ?_ (i1 hS fun b m => hR b (by simp [m])) (i2 hS fun b m => hR b (by simp [m]))
    intro k hk
    rw [Nat.zero_add]
    unfold cellAt
    rw [hb]
    simp
  | iter hb _ ih => intro _ hS hR; exact .undef (ih hS fun b m => hR b (by simp [m]))
  | @buf b o cap st c T vs fs R hb hsz hpos _ ih =>
    intro S' hS hR
    have hlt : b < h.size := (Array.getElem?_eq_some_iff.1 hb).1
    · exact .sl (st := st) (cs := []) rfl (by simp) (hR b (by simp)) hlt (by simp) (by simp) (by omega) (by simp) (by omega) .nil (ih hS fun b m => hR b (by simp [m]))
end Go.Fm
set_option linter.unusedVariables false
set_option linter.unusedSimpArgs false
namespace Go.Fm
open Go
def FV.kids : FV → List (List FV)
  | .box cs => [cs]
  | .arr es => es
  | _ => []
def FV.setKids : FV → List (List FV) → FV
  | .box cs, k => .box (k.headD cs)
  | .arr _, k => .arr k
  | f, _ => f
def getN : FV → Path → Nat → Option (List FV)
  | _, [], _ => none
  | f, (i, o) :: p, n =>
    match f.kids[i]? with
    | none => none
    | some row =>
      match p with
      | [] => if o + n ≤ row.length then some ((row.drop o).take n) else none
      | q :: p' => match row[o]? with
        | none => none
        | some x => getN x (q :: p') n
def setN : FV → Path → List FV → FV
  | f, [], _ => f
  | f, (i, o) :: p, xs =>
    match f.kids[i]? with
    | none => f
    | some row =>
      match p with
      | [] => f.setKids (f.kids.set i (row.take o ++ xs ++ row.drop (o + xs.length)))
      | q :: p' => match row[o]? with
        | none => f
        | some x => f.setKids (f.kids.set i (row.set o (setN x (q :: p') xs)))
def blockOf : Value → Option Nat
  | .pointer (some a) => some a.block
  | .slice (some a) _ _ => some a.block
  | _ => none
def offOf : Value → Nat
  | .pointer (some a) => a.off
  | .slice (some a) _ _ => a.off
  | _ => 0
def locate (h : Array Obj) : Value → FV → Path → Option (Nat × Nat)
  | _, _, [] => none
  | v, f, (i, o) :: p =>
    match blockOf v, f.kids[i]? with
    | some b, some row =>
      match p with
      | [] => some (b, offOf v + (i * row.length + o))
      | q :: p' => match cellAt h b (offOf v + (i * row.length + o)), row[o]? with
        | some vc, some fc => locate h vc fc (q :: p')
        | _, _ => none
    | _, _ => none
theorem Rep.at {h S} : ∀ {k : Nat} {vs fs R x}, Rep h S vs fs R → fs[k]? = some x →
    ∃ vx R1 Rx R2, vs[k]? = some vx ∧ Rep h S [vx] [x] Rx ∧ R = R1 ++ Rx ++ R2 ∧
      ∀ {h' : Array Obj} {S' : Nat → Prop}, (∀ b, S b → S' b) → h.size ≤ h'.size → (∀ b, S b → b < h.size → h'[b]? = h[b]?) →
        (∀ b ∈ R1, h'[b]? = h[b]?) → (∀ b ∈ R2, h'[b]? = h[b]?) →
        ∀ {vx' x' Rx'}, Rep h' S' [vx'] [x'] Rx' → Rep h' S' (vs.set k vx') (fs.set k x') (R1 ++ Rx' ++ R2)
  | k, vs, [], R, x, r, hx => by simp at hx
  | k, [], f :: fs, R, x, r, hx => by have := r.length; simp at this
  | 0, v :: vs, f :: fs, R, x, r, hx => by
    obtain ⟨R1, R2, h1, h2, rfl⟩ := r.cons_inv
    simp only [List.getElem?_cons_zero, Option.some.injEq] at hx
    subst hx
    refine ⟨v, [], R1, R2, by simp, h1, by simp, ?_⟩
    intro h' S' hS hsz hs _ hR2 vx' x' Rx' r'
    simp only [List.set_cons_zero, List.nil_append]
    exact r'.cons (h2.mono hS hsz hs hR2)
  | k + 1, v :: vs, f :: fs, R, x, r, hx => by
    obtain ⟨Ra, Rb, h1, h2, rfl⟩ := r.cons_inv
    simp only [List.getElem?_cons_succ] at hx
    obtain ⟨vx, R1, Rx, R2, hv, hrx, rfl, back⟩ := Rep.at h2 hx
    refine ⟨vx, Ra ++ R1, Rx, R2, by simpa using hv, hrx, by simp, ?_⟩
    intro h' S' hS hsz hs hR1 hR2 vx' x' Rx' r'
    simp only [List.set_cons_succ]
    have := (h1.mono hS hsz hs (fun b m => hR1 b (by simp [m]))).cons (back hS hsz hs (fun b m => hR1 b (by simp [m])) hR2 r')
    simpa [List.append_assoc] using this
theorem Rep.range {h S vs fs R} (r : Rep h S vs fs R) {o n : Nat} (hn : o + n ≤ fs.length) :
    ∃ R1 Rx R2, Rep h S ((vs.drop o).take n) ((fs.drop o).take n) Rx ∧ R = R1 ++ Rx ++ R2 ∧
      ∀ {h' : Array Obj} {S' : Nat → Prop}, (∀ b, S b → S' b) → h.size ≤ h'.size → (∀ b, S b → b < h.size → h'[b]? = h[b]?) →
        (∀ b ∈ R1, h'[b]? = h[b]?) → (∀ b ∈ R2, h'[b]? = h[b]?) →
        ∀ {cs' xs' Rx'}, Rep h' S' cs' xs' Rx' → cs'.length = n → Rep h' S' (vs.take o ++ cs' ++ vs.drop (o + n)) (fs.take o ++ xs' ++ fs.drop (o + n)) (R1 ++ Rx' ++ R2) := by
  obtain ⟨R1, R', h1, h2, rfl⟩ := r.split o
  obtain ⟨Rx, R2, h3, h4, rfl⟩ := h2.split n
  refine ⟨R1, Rx, R2, h3, by simp, ?_⟩
  intro h' S' hS hsz hs hR1 hR2 cs' xs' Rx' r' hl
  have e4 := h4.mono hS hsz hs hR2
  rw [List.drop_drop, List.drop_drop] at e4
  have := ((h1.mono hS hsz hs hR1).append r').append e4
  simpa [List.append_assoc] using this
theorem length_flatten_of {st : Nat} : ∀ {es : List (List FV)}, (∀ e ∈ es, e.length = st) → es.flatten.length = es.length * st
  | [], _ => by simp
  | e :: es, h => by
    have h1 := h e (by simp)
    have h2 := length_flatten_of (es := es) fun x m => h x (by simp [m])
    simp [h1, h2, Nat.add_mul, Nat.add_comm]
theorem flatten_row {st : Nat} : ∀ {es : List (List FV)} {i : Nat} {row : List FV}, (∀ e ∈ es, e.length = st) → es[i]? = some row →
    ∀ (o : Nat), o + 0 ≤ st → es.flatten.drop (i * st + o) = row.drop o ++ (es.drop (i + 1)).flatten
  | [], i, row, _, h, _, _ => by simp at h
  | e :: es, 0, row, h, hi, o, ho => by
    simp only [List.getElem?_cons_zero, Option.some.injEq] at hi
    subst hi
    have h1 := h e (by simp)
    simp only [List.flatten_cons, Nat.zero_mul, Nat.zero_add, List.drop_succ_cons, List.drop_zero]
    rw [List.drop_append_of_le_length (by omega)]
  | e :: es, i + 1, row, h, hi, o, ho => by
    simp only [List.getElem?_cons_succ] at hi
    have h1 := h e (by simp)
    have ih := flatten_row (es := es) (fun x m => h x (by simp [m])) hi o ho
    simp only [List.flatten_cons, List.drop_succ_cons]
    rw [show (i + 1) * st + o = e.length + (i * st + o) by rw [h1, Nat.add_mul]; omega, ← ih]
    rw [List.drop_append]
    simp
theorem flatten_take {st : Nat} : ∀ {es : List (List FV)} {i : Nat} {row : List FV}, (∀ e ∈ es, e.length = st) → es[i]? = some row →
    ∀ (o : Nat), o ≤ st → es.flatten.take (i * st + o) = (es.take i).flatten ++ row.take o
  | [], i, row, _, h, _, _ => by simp at h
  | e :: es, 0, row, h, hi, o, ho => by
    simp only [List.getElem?_cons_zero, Option.some.injEq] at hi
    subst hi
    have h1 := h e (by simp)
    simp only [List.flatten_cons, Nat.zero_mul, Nat.zero_add, List.take_zero, List.flatten_nil, List.nil_append]
    rw [List.take_append_of_le_length (by omega)]
  | e :: es, i + 1, row, h, hi, o, ho => by
    simp only [List.getElem?_cons_succ] at hi
    have h1 := h e (by simp)
    have ih := flatten_take (es := es) (fun x m => h x (by simp [m])) hi o ho
    simp only [List.flatten_cons, List.take_succ_cons]
    rw [show (i + 1) * st + o = e.length + (i * st + o) by rw [h1, Nat.add_mul]; omega]
    rw [List.take_append, List.take_of_length_le (by omega), show e.length + (i * st + o) - e.length = i * st + o by omega, ih]
    simp
theorem set_row_flatten {st : Nat} {es : List (List FV)} {i o : Nat} {row xs : List FV} (h : ∀ e ∈ es, e.length = st) (hi : es[i]? = some row) (ho : o + xs.length ≤ row.length) :
    (es.set i (row.take o ++ xs ++ row.drop (o + xs.length))).flatten =
      es.flatten.take (i * st + o) ++ xs ++ es.flatten.drop (i * st + o + xs.length) := by
  have hrow : row.length = st := h row (List.mem_of_getElem? hi)
  have hlt : i < es.length := by
    rcases Nat.lt_or_ge i es.length with h1 | h1
    · exact h1
    · rw [List.getElem?_eq_none h1] at hi; cases hi
  rw [flatten_take h hi o (by omega), Nat.add_assoc, flatten_row h hi (o + xs.length) (by omega)]
  rw [List.set_eq_take_append_cons_drop, if_pos hlt]
  simp [List.append_assoc]
structure Focus (h : Array Obj) (S : Nat → Prop) (v : Value) (f : FV) (p : Path) (n : Nat) (R : List Nat) (xs : List FV) (b o : Nat) (c : Array Value) (T : TypeId) (Rx R' : List Nat) : Prop where
  loc : locate h v f p = some (b, o)
  blk : h[b]? = some (.cells c T (0, 0))
  fits : o + n ≤ c.size
  rep : Rep h S ((c.toList.drop o).take n) xs Rx
  mem : b ∈ R'
  perm : R.Perm (Rx ++ R')
  back : ∀ {h' : Array Obj} {S' : Nat → Prop} {c' : Array Value} {cs' : List Value} {xs' : List FV} {Rx' : List Nat}, cs'.length = n → xs'.length = n →
    h'[b]? = some (.cells c' T (0, 0)) → c'.toList = c.toList.take o ++ cs' ++ c.toList.drop (o + n) →
    (∀ b' ∈ R', b' ≠ b → h'[b']? = h[b']?) → (∀ b, S b → S' b) → h.size ≤ h'.size → (∀ b, S b → b < h.size → h'[b]? = h[b]?) →
    Rep h' S' cs' xs' Rx' → ∃ R'', Rep h' S' [v] [setN f p xs'] R'' ∧ R''.Perm (Rx' ++ R')
theorem getN_len : ∀ {p : Path} {f : FV} {n : Nat} {xs : List FV}, getN f p n = some xs → xs.length = n
  | [], f, n, xs, h => by simp [getN] at h
  | [(i, o)], f, n, xs, h => by
    simp only [getN] at h
    split at h
    · cases h
    · split at h
      · simp only [Option.some.injEq] at h; subst h; simp; omega
      · cases h
  | (i, o) :: q :: p, f, n, xs, h => by
    simp only [getN] at h
    split at h
    · cases h
    · split at h
      · cases h
      · exact getN_len h
theorem focus {h : Array Obj} {S : Nat → Prop} : ∀ {p : Path} {v : Value} {f : FV} {R : List Nat} {n : Nat} {xs : List FV}, Rep h S [v] [f] R → R.Nodup → getN f p n = some xs →
    ∃ b o c T Rx R', Focus h S v f p n R xs b o c T Rx R'
  | [], v, f, R, n, xs, r, nd, hg => by simp [getN] at hg
  | [(i, o)], v, f, R, n, xs, r, nd, hg => by
    simp only [getN] at hg
    cases hk : f.kids[i]? with
    | none => rw [hk] at hg; cases hg
    | some row =>
    rw [hk] at hg
    simp only at hg
    split at hg
    case isFalse => cases hg
    rename_i hlen
    simp only [Option.some.injEq] at hg
    subst hg
    cases r with
    | @box b c T gs _ _ R1 R2 hb hr ht =>
      cases ht
      have hi : i = 0 ∧ row = gs := by
        simp only [FV.kids] at hk
        cases i with
        | zero => simp at hk; exact ⟨rfl, hk.symm⟩
        | succ i => simp at hk
      obtain ⟨rfl, rfl⟩ := hi
      have hl := hr.length
      obtain ⟨Ra, Rx, Rb, hx, rfl, back⟩ := hr.range hlen
      have hsz : c.size = row.length := by rw [← hl]; simp
      refine ⟨b, o, c, T, Rx, b :: (Ra ++ Rb), ⟨by simp [locate, FV.kids, blockOf, offOf], hb, by omega, hx, by simp, ?_, ?_⟩⟩
      · simp only [List.append_nil]
        have : (b :: (Ra ++ Rx ++ Rb)).Perm (b :: (Rx ++ (Ra ++ Rb))) := by
          refine List.Perm.cons _ ?_
          rw [← List.append_assoc]
          exact List.Perm.append_right _ List.perm_append_comm
        exact this.trans List.perm_middle.symm
      · intro h' S' c' cs' xs' Rx' hcl hxl hb' hc' hR' hS' hsz' hs' r'
        simp only [List.append_nil] at nd
        have nd' := List.nodup_cons.1 nd
        refine ⟨b :: (Ra ++ Rx' ++ Rb) ++ [], ?_, ?_⟩
        · simp only [setN, FV.kids, List.getElem?_cons_zero, FV.setKids, List.set_cons_zero, List.headD_cons]
          refine Rep.box hb' ?_ .nil
          rw [hc', hxl]
          refine back hS' hsz' hs' ?_ ?_ r' hcl
          · intro b' m; exact hR' b' (by simp [m]) fun e => nd'.1 (by simp [← e, m])
          · intro b' m; exact hR' b' (by simp [m]) fun e => nd'.1 (by simp [← e, m])
        · simp only [List.append_nil]
          have : (b :: (Ra ++ Rx' ++ Rb)).Perm (b :: (Rx' ++ (Ra ++ Rb))) := by
            refine List.Perm.cons _ ?_
            rw [← List.append_assoc]
            exact List.Perm.append_right _ List.perm_append_comm
          exact this.trans List.perm_middle.symm
    | @arr es b o0 n' cap st c T _ _ R1 R2 hn hst hb hsz hcap hpos hr ht =>
      cases ht
      simp only [FV.kids] at hk
      have hrow : row.length = st := hst row (List.mem_of_getElem? hk)
      have hlt : i < es.length := by
        rcases Nat.lt_or_ge i es.length with h1 | h1
        · exact h1
        · rw [List.getElem?_eq_none h1] at hk; cases hk
      have hfl := length_flatten_of hst
      have hmul : (i + 1) * st ≤ n' * st := Nat.mul_le_mul_right _ (by omega)
      have hmul2 : n' * st ≤ cap * st := Nat.mul_le_mul_right _ hcap
      rw [Nat.add_mul, Nat.one_mul] at hmul
      have hrange : (i * st + o) + n ≤ es.flatten.length := by rw [hfl, hn]; omega
      obtain ⟨Ra, Rx, Rb, hx, rfl, back⟩ := hr.range hrange
      have exs : (es.flatten.drop (i * st + o)).take n = (row.drop o).take n := by
        rw [flatten_row hst hk o (by omega), List.take_append_of_le_length (by simp; omega)]
      have ecs : (((c.toList.drop o0).take (n' * st)).drop (i * st + o)).take n = (c.toList.drop (o0 + (i * st + o))).take n := by
        rw [List.drop_take, List.take_take, List.drop_drop]
        congr 1
        omega
      rw [exs, ecs] at hx
      refine ⟨b, o0 + (i * st + o), c, T, Rx, b :: (Ra ++ Rb), ⟨by simp [locate, FV.kids, blockOf, offOf, hk, hrow], hb, by omega, hx, by simp, ?_, ?_⟩⟩
      · simp only [List.append_nil]
        have : (b :: (Ra ++ Rx ++ Rb)).Perm (b :: (Rx ++ (Ra ++ Rb))) := by
          refine List.Perm.cons _ ?_
          rw [← List.append_assoc]
          exact List.Perm.append_right _ List.perm_append_comm
        exact this.trans List.perm_middle.symm
      · intro h' S' c' cs' xs' Rx' hcl hxl hb' hc' hR' hS' hsz' hs' r'
        simp only [List.append_nil] at nd
        have nd' := List.nodup_cons.1 nd
        refine ⟨b :: (Ra ++ Rx' ++ Rb) ++ [], ?_, ?_⟩
        · simp only [setN, FV.kids, hk, FV.setKids]
          have hlc' : c'.size = o0 + cap * st := by
            have := congrArg List.length hc'
            simp at this
            omega
          refine Rep.arr (st := st) (by simpa using hn) ?_ hb' hlc' hcap hpos ?_ .nil
          · intro e he
            rcases List.mem_or_eq_of_mem_set he with he | rfl
            · exact hst e he
            · simp; omega
          · rw [set_row_flatten hst hk (by omega), hxl]
            have := back hS' hsz' hs' (fun b' m => hR' b' (by simp [m]) fun e => nd'.1 (by simp [← e, m])) (fun b' m => hR' b' (by simp [m]) fun e => nd'.1 (by simp [← e, m])) r' hcl
            have e3 : c'.toList.drop o0 = (c.toList.drop o0).take (i * st + o) ++ cs' ++ (c.toList.drop o0).drop (i * st + o + n) := by
              rw [hc', List.append_assoc, List.drop_append_of_le_length (by simp; omega), ← List.append_assoc, List.drop_take, List.drop_drop]
              congr 2
              · congr 1; omega
              · omega
            have e2 : (c'.toList.drop o0).take (n' * st) = ((c.toList.drop o0).take (n' * st)).take (i * st + o) ++ cs' ++ ((c.toList.drop o0).take (n' * st)).drop (i * st + o + n) := by
              rw [e3, List.take_take, List.drop_take, show min (i * st + o) (n' * st) = i * st + o by omega]
              rw [List.append_assoc, List.take_append, List.take_of_length_le (by simp; omega)]
              rw [List.append_assoc]
              congr 1
              rw [List.take_append, List.take_of_length_le (by simp; omega)]
              congr 1
              congr 1
              simp
              omega
            rw [e2]; exact this
        · simp only [List.append_nil]
          have : (b :: (Ra ++ Rx' ++ Rb)).Perm (b :: (Rx' ++ (Ra ++ Rb))) := by
            refine List.Perm.cons _ ?_
            rw [← List.append_assoc]
            exact List.Perm.append_right _ List.perm_append_comm
          exact this.trans List.perm_middle.symm
    | _ => simp [FV.kids] at hk
  | (i, o) :: q :: p, v, f, R, n, xs, r, nd, hg => by
    simp only [getN] at hg
    cases hk : f.kids[i]? with
    | none => rw [hk] at hg; cases hg
    | some row =>
    rw [hk] at hg
    simp only at hg
    cases hro : row[o]? with
    | none => rw [hro] at hg; cases hg
    | some x =>
    rw [hro] at hg
    simp only at hg
    have holt : o < row.length := by
      rcases Nat.lt_or_ge o row.length with h1 | h1
      · exact h1
      · rw [List.getElem?_eq_none h1] at hro; cases hro
    cases r with
    | @box b0 c T gs _ _ R1 R2 hb hr ht =>
      cases ht
      have hi : i = 0 ∧ row = gs := by
        simp only [FV.kids] at hk
        cases i with
        | zero => simp at hk; exact ⟨rfl, hk.symm⟩
        | succ i => simp at hk
      obtain ⟨rfl, rfl⟩ := hi
      simp only [List.append_nil] at nd
      have nd' := List.nodup_cons.1 nd
      obtain ⟨vx, Ra, Ry, Rb, hvx, hy, rfl, back⟩ := hr.at hro
      have ndy : Ry.Nodup := by
        have := nd'.2
        rw [List.append_assoc] at this
        exact (List.nodup_append.1 (List.nodup_append.1 this).2.1).1
      obtain ⟨b, o', c1, T1, Rx, R', F⟩ := focus hy ndy hg
      refine ⟨b, o', c1, T1, Rx, b0 :: (Ra ++ R' ++ Rb), ⟨?_, F.blk, F.fits, F.rep, by simp [F.mem], ?_, ?_⟩⟩
      · have hcell : cellAt h b0 (0 + (0 * row.length + o)) = some vx := by
          unfold cellAt; rw [hb]; simp [← hvx]
        simp only [locate, FV.kids, blockOf, offOf, List.getElem?_cons_zero, hcell, hro]
        exact F.loc
      · simp only [List.append_nil]
        have p1 : (Ra ++ Ry ++ Rb).Perm (Ra ++ (Rx ++ R') ++ Rb) := List.Perm.append_right _ (List.Perm.append_left _ F.perm)
        have p2 : (Ra ++ (Rx ++ R') ++ Rb).Perm (Rx ++ (Ra ++ R' ++ Rb)) := by
          have : (Ra ++ (Rx ++ R')).Perm (Rx ++ (Ra ++ R')) := by
            rw [← List.append_assoc, ← List.append_assoc]
            exact List.Perm.append_right _ List.perm_append_comm
          have := List.Perm.append_right Rb this
          simpa [List.append_assoc] using this
        exact (List.Perm.cons b0 (p1.trans p2)).trans List.perm_middle.symm
      · intro h' S' c' cs' xs' Rx' hcl hxl hb' hc' hR' hS' hsz' hs' r'
        have hbR : ∀ b', b' ∈ Ry → b' ∈ Rx ∨ b' ∈ R' := fun b' m => List.mem_append.1 (F.perm.mem_iff.1 m)
        have hbm : b ∈ Ry := F.perm.mem_iff.2 (List.mem_append.2 (.inr F.mem))
        obtain ⟨R'', hrr, hperm⟩ := F.back hcl hxl hb' hc' (fun b' m e => hR' b' (by simp [m]) e) hS' hsz' hs' r'
        have nda : ∀ b' ∈ Ra, b' ≠ b := fun b' m e => by
          subst e
          have := nd'.2
          rw [List.append_assoc] at this
          exact (List.nodup_append.1 this).2.2 _ m _ (List.mem_append.2 (.inl hbm)) rfl
        have ndb : ∀ b' ∈ Rb, b' ≠ b := fun b' m e => by
          subst e
          exact (List.nodup_append.1 nd'.2).2.2 _ (List.mem_append.2 (.inr hbm)) _ m rfl
        have hb0 : b0 ≠ b := fun e => nd'.1 (by rw [e]; simp [hbm])
        have back' := back hS' hsz' hs' (fun b' m => hR' b' (by simp [m]) (nda b' m)) (fun b' m => hR' b' (by simp [m]) (ndb b' m)) hrr
        refine ⟨b0 :: (Ra ++ R'' ++ Rb) ++ [], ?_, ?_⟩
        · simp only [setN, FV.kids, List.getElem?_cons_zero, hro, FV.setKids, List.set_cons_zero, List.headD_cons]
          refine Rep.box (by rw [hR' b0 (by simp) hb0]; exact hb) ?_ .nil
          have : c.toList.set o vx = c.toList := List.ext_getElem? fun k => by
            by_cases hk' : k = o
            · subst hk'; rw [List.getElem?_set_self (by have := hr.length; omega), hvx]
            · rw [List.getElem?_set_ne (fun e => hk' e.symm)]
          rw [this] at back'
          exact back'
        · simp only [List.append_nil]
          have p1 : (Ra ++ R'' ++ Rb).Perm (Ra ++ (Rx' ++ R') ++ Rb) := List.Perm.append_right _ (List.Perm.append_left _ hperm)
          have p2 : (Ra ++ (Rx' ++ R') ++ Rb).Perm (Rx' ++ (Ra ++ R' ++ Rb)) := by
            have : (Ra ++ (Rx' ++ R')).Perm (Rx' ++ (Ra ++ R')) := by
              rw [← List.append_assoc, ← List.append_assoc]
              exact List.Perm.append_right _ List.perm_append_comm
            have := List.Perm.append_right Rb this
            simpa [List.append_assoc] using this
          exact (List.Perm.cons b0 (p1.trans p2)).trans List.perm_middle.symm
    | @arr es b0 o0 n' cap st c T _ _ R1 R2 hn hst hb hsz hcap hpos hr ht =>
      cases ht
      simp only [FV.kids] at hk
      have hrow : row.length = st := hst row (List.mem_of_getElem? hk)
      have hlt : i < es.length := by
        rcases Nat.lt_or_ge i es.length with h1 | h1
        · exact h1
        · rw [List.getElem?_eq_none h1] at hk; cases hk
      have hfl := length_flatten_of hst
      have hmul : (i + 1) * st ≤ n' * st := Nat.mul_le_mul_right _ (by omega)
      have hmul2 : n' * st ≤ cap * st := Nat.mul_le_mul_right _ hcap
      rw [Nat.add_mul, Nat.one_mul] at hmul
      simp only [List.append_nil] at nd
      have nd' := List.nodup_cons.1 nd
      have hfx : es.flatten[i * st + o]? = some x := by
        have := flatten_row hst hk o (by omega)
        have h2 : (es.flatten.drop (i * st + o))[0]? = some x := by
          rw [this, List.getElem?_append_left (by simp; omega)]
          simpa using hro
        simpa using h2
      obtain ⟨vx, Ra, Ry, Rb, hvx, hy, rfl, back⟩ := hr.at hfx
      have ndy : Ry.Nodup := by
        have := nd'.2
        rw [List.append_assoc] at this
        exact (List.nodup_append.1 (List.nodup_append.1 this).2.1).1
      obtain ⟨b, o', c1, T1, Rx, R', F⟩ := focus hy ndy hg
      refine ⟨b, o', c1, T1, Rx, b0 :: (Ra ++ R' ++ Rb), ⟨?_, F.blk, F.fits, F.rep, by simp [F.mem], ?_, ?_⟩⟩
      · have hcell : cellAt h b0 (o0 + (i * row.length + o)) = some vx := by
          unfold cellAt; rw [hb, hrow]
          rw [List.getElem?_take_of_lt (by omega)] at hvx
          simpa using hvx
        simp only [locate, FV.kids, blockOf, offOf, hk, hcell, hro]
        exact F.loc
      · simp only [List.append_nil]
        have p1 : (Ra ++ Ry ++ Rb).Perm (Ra ++ (Rx ++ R') ++ Rb) := List.Perm.append_right _ (List.Perm.append_left _ F.perm)
        have p2 : (Ra ++ (Rx ++ R') ++ Rb).Perm (Rx ++ (Ra ++ R' ++ Rb)) := by
          have : (Ra ++ (Rx ++ R')).Perm (Rx ++ (Ra ++ R')) := by
            rw [← List.append_assoc, ← List.append_assoc]
            exact List.Perm.append_right _ List.perm_append_comm
          have := List.Perm.append_right Rb this
          simpa [List.append_assoc] using this
        exact (List.Perm.cons b0 (p1.trans p2)).trans List.perm_middle.symm
      · intro h' S' c' cs' xs' Rx' hcl hxl hb' hc' hR' hS' hsz' hs' r'
        have hbm : b ∈ Ry := F.perm.mem_iff.2 (List.mem_append.2 (.inr F.mem))
        obtain ⟨R'', hrr, hperm⟩ := F.back hcl hxl hb' hc' (fun b' m e => hR' b' (by simp [m]) e) hS' hsz' hs' r'
        have nda : ∀ b' ∈ Ra, b' ≠ b := fun b' m e => by
          subst e
          have := nd'.2
          rw [List.append_assoc] at this
          exact (List.nodup_append.1 this).2.2 _ m _ (List.mem_append.2 (.inl hbm)) rfl
        have ndb : ∀ b' ∈ Rb, b' ≠ b := fun b' m e => by
          subst e
          exact (List.nodup_append.1 nd'.2).2.2 _ (List.mem_append.2 (.inr hbm)) _ m rfl
        have hb0 : b0 ≠ b := fun e => nd'.1 (by rw [e]; simp [hbm])
        have back' := back hS' hsz' hs' (fun b' m => hR' b' (by simp [m]) (nda b' m)) (fun b' m => hR' b' (by simp [m]) (ndb b' m)) hrr
        refine ⟨b0 :: (Ra ++ R'' ++ Rb) ++ [], ?_, ?_⟩
        · simp only [setN, FV.kids, hk, hro, FV.setKids]
          refine Rep.arr (st := st) (by simpa using hn) ?_ (by rw [hR' b0 (by simp) hb0]; exact hb) hsz hcap hpos ?_ .nil
          · intro e he
            rcases List.mem_or_eq_of_mem_set he with he | rfl
            · exact hst e he
            · simpa using hrow
          · have e1 : ((c.toList.drop o0).take (n' * st)).set (i * st + o) vx = (c.toList.drop o0).take (n' * st) := List.ext_getElem? fun k => by
              by_cases hk' : k = i * st + o
              · subst hk'; rw [List.getElem?_set_self (by simp; omega), hvx]
              · rw [List.getElem?_set_ne (fun e => hk' e.symm)]
            have e2 : (es.set i (row.set o (setN x (q :: p) xs'))).flatten = es.flatten.set (i * st + o) (setN x (q :: p) xs') := by
              have h1 := set_row_flatten (o := o) (xs := [setN x (q :: p) xs']) hst hk (by simp; omega)
              have hfl2 : i * st + o < es.flatten.length := by rw [hfl, hn]; omega
              rw [List.set_eq_take_append_cons_drop (l := row), if_pos holt, List.set_eq_take_append_cons_drop (l := es.flatten), if_pos hfl2]
              simpa [List.append_assoc] using h1
            rw [e1] at back'
            rw [e2]; exact back'
        · simp only [List.append_nil]
          have p1 : (Ra ++ R'' ++ Rb).Perm (Ra ++ (Rx' ++ R') ++ Rb) := List.Perm.append_right _ (List.Perm.append_left _ hperm)
          have p2 : (Ra ++ (Rx' ++ R') ++ Rb).Perm (Rx' ++ (Ra ++ R' ++ Rb)) := by
            have : (Ra ++ (Rx' ++ R')).Perm (Rx' ++ (Ra ++ R')) := by
              rw [← List.append_assoc, ← List.append_assoc]
              exact List.Perm.append_right _ List.perm_append_comm
            have := List.Perm.append_right Rb this
            simpa [List.append_assoc] using this
          exact (List.Perm.cons b0 (p1.trans p2)).trans List.perm_middle.symm
    | _ => simp [FV.kids] at hk
end Go.Fm
set_option linter.unusedVariables false
set_option linter.unusedSimpArgs false
namespace Go.Fm
open Go
abbrev Env := List (Nat × FV)
def Env.get : Env → Nat → FV
  | [], _ => .undef
  | (k, v) :: r, t => if k = t then v else Env.get r t
def Env.put : Env → Nat → FV → Env
  | [], t, f => [(t, f)]
  | (k, v) :: r, t, f => if k = t then (t, f) :: r else if t < k then (t, f) :: (k, v) :: r else (k, v) :: Env.put r t f
def Env.del : Env → Nat → Env
  | [], _ => []
  | (k, v) :: r, t => if k = t then r else (k, v) :: Env.del r t
def thru : Path → Path → Nat → Bool
  | (i, o) :: q, (i', o') :: p, n =>
    match p with
    | [] => (decide (o' ≤ o) && decide (o < o' + n)) && (decide (i = i') && !q.isEmpty)
    | _ :: _ => decide (o = o') && (decide (i = i') && thru q p n)
  | _, _, _ => false
def hits : Path → Path → Nat → Bool
  | (i, o) :: q, (i', o') :: p, n =>
    match p with
    | [] => (decide (o' ≤ o) && decide (o < o' + n)) && decide (i = i')
    | _ :: _ => decide (o = o') && (decide (i = i') && hits q p n)
  | _, _, _ => false
def unroot (d : Nat) : FV → FV
  | .al r p => if r = d then .undef else .al r p
  | .ptr r p => if r = d then .undef else .ptr r p
  | .clo f rs => if rs.contains d then .undef else .clo f rs
  | .als q lo n sz => if q = d then .undef else .als q lo n sz
  | .alg q p n => if q = d then .undef else .alg q p n
  | f => f
def unpath (d : Nat) (p : Path) (n : Nat) : FV → FV
  | .al r q => if r = d then (if hits q p n then .undef else .al r q) else .al r q
  | .ptr r q => if r = d then (if thru q p n then .undef else .ptr r q) else .ptr r q
  | .alg r q m => if r = d then .undef else .alg r q m
  | f => f
def Env.mapV (E : Env) (g : FV → FV) : Env := List.map (fun x => (x.1, g x.2)) E
def FV.owned : FV → Bool
  | .arr _ | .box _ | .buf _ => true
  | _ => false
def FV.alias : FV → Bool
  | .al _ _ | .ptr _ _ | .clo _ _ | .als _ _ _ _ | .alg _ _ _ => true
  | _ => false
def FV.isSl : FV → Bool
  | .arr _ | .buf _ => true
  | _ => false
def hdrAt (h : Array Obj) (val : Nat → Value) (E : Env) (r : Nat) (p : Path) : Option Value :=
  match p with
  | [] => if (E.get r).isSl then some (val r) else none
  | q :: p' => match getN (E.get r) (q :: p') 1 with
    | some [x] => if x.isSl then (match locate h (val r) (E.get r) (q :: p') with
      | some (b, o) => cellAt h b o
      | none => none) else none
    | _ => none
def ptrAt (h : Array Obj) (val : Nat → Value) (E : Env) (r : Nat) (p : Path) : Option Value :=
  match getN (E.get r) p 1 with
  | some _ => match locate h (val r) (E.get r) p with
    | some (b, o) => some (.pointer (some ⟨b, o, none⟩))
    | none => none
  | none => none
def FV.isBox : FV → Bool
  | .box _ => true
  | _ => false
def cloAt (val : Nat → Value) (E : Env) (f : FuncId) (rs : List Nat) : Option Value :=
  if (rs.all fun r => (E.get r).isBox) = true then some (.func (.func f) #[] (rs.map val).toArray) else none
def SubOf (v : Value) (f : FV) (lo n size : Nat) (u : Value) : Prop :=
  ∃ es : List (List FV), (f = .arr es ∨ (f = .buf size ∧ es = [])) ∧ (∀ e ∈ es, e.length = size) ∧ lo + n ≤ es.length ∧ ∃ z len cap, v = .slice z len cap ∧ u = .slice (if cap = lo then z else z.map (·.add (lo * size))) n (cap - lo)
def cellsAt (h : Array Obj) (b o n : Nat) : Option (List Value) :=
  match h[b]? with
  | some (.cells c _ _) => some ((c.toList.drop o).take n)
  | _ => none
theorem cellsAt_congr {h h' : Array Obj} {b : Nat} (e : h'[b]? = h[b]?) (o n : Nat) : cellsAt h' b o n = cellsAt h b o n := by unfold cellsAt; rw [e]
def FV.atP (f : FV) (p : Path) : FV :=
  match p with
  | [] => f
  | _ :: _ => match getN f p 1 with
    | some [x] => x
    | _ => .undef
def subV (v : Value) (f : FV) (lo n size : Nat) : Option Value :=
  match v with
  | .slice z _ cap => match f with
    | .arr es => if (es.all fun e => e.length == size) = true ∧ lo + n ≤ es.length then some (.slice (if cap = lo then z else z.map (·.add (lo * size))) n (cap - lo)) else none
    | _ => none
  | _ => none
theorem subV_spec {v u : Value} {f : FV} {lo n size : Nat} (h : subV v f lo n size = some u) : SubOf v f lo n size u := by
  unfold subV at h
  split at h <;> try (cases h; done)
  split at h <;> try (cases h; done)
  rename_i es
  split at h <;> try (cases h; done)
  rename_i hc
  cases h
  exact ⟨es, .inl rfl, fun e m => by simpa using List.all_eq_true.1 hc.1 e m, hc.2, _, _, _, rfl, rfl⟩
def aggAt (h : Array Obj) (val : Nat → Value) (E : Env) (r : Nat) (p : Path) (k : AK) : Option Value :=
  match k with
  | .agg n => match getN (E.get r) p n with
    | some _ => match locate h (val r) (E.get r) p with
      | some (b, o) => (cellsAt h b o n).map fun l => .agg l.toArray
      | none => none
    | none => none
  | .sub lo n sz => match hdrAt h val E r p with
    | some v => subV v ((E.get r).atP p) lo n sz
    | none => none
inductive REnv (h : Array Obj) (S : Nat → Prop) (val : Nat → Value) (E : Env) : Env → List Nat → Prop
  | nil : REnv h S val E [] []
  | own {t f env R1 R} : Rep h S [val t] [f] R1 → REnv h S val E env R → REnv h S val E ((t, f) :: env) (R1 ++ R)
  | al {t r p env R} : hdrAt h val E r p = some (val t) → REnv h S val E env R → REnv h S val E ((t, .al r p) :: env) R
  | ptr {t r p env R} : ptrAt h val E r p = some (val t) → REnv h S val E env R → REnv h S val E ((t, .ptr r p) :: env) R
  | clo {t f rs env R} : cloAt val E f rs = some (val t) → REnv h S val E env R → REnv h S val E ((t, .clo f rs) :: env) R
  | als {t q lo n sz env R} : SubOf (val q) (E.get q) lo n sz (val t) → REnv h S val E env R → REnv h S val E ((t, .als q lo n sz) :: env) R
  | alg {t q p n env R} : aggAt h val E q p n = some (val t) → REnv h S val E env R → REnv h S val E ((t, .alg q p n) :: env) R
theorem Rep.noalias {h S vs fs R} (r : Rep h S vs fs R) : ∀ f ∈ fs, f.alias = false := by
  induction r with
  | nil => simp
  | undef _ ih | int _ ih | bool _ ih | str _ ih | nilp _ ih | nilf _ ih | nili _ ih | slNil _ ih | arrNil _ ih | bufNil _ ih => intro f m; rcases List.mem_cons.1 m with rfl | m; rfl; exact ih f m
  | iface _ _ _ ih | agg _ _ _ ih | tup _ _ _ ih | fn _ _ _ ih => intro f m; rcases List.mem_cons.1 m with rfl | m; rfl; exact ih f m
  | sl _ _ _ _ _ _ _ _ _ _ _ _ ih => intro f m; rcases List.mem_cons.1 m with rfl | m; rfl; exact ih f m
  | ref _ _ _ _ _ _ ih => intro f m; rcases List.mem_cons.1 m with rfl | m; rfl; exact ih f m
  | arr _ _ _ _ _ _ _ _ _ ih => intro f m; rcases List.mem_cons.1 m with rfl | m; rfl; exact ih f m
  | box _ _ _ _ ih => intro f m; rcases List.mem_cons.1 m with rfl | m; rfl; exact ih f m
  | iter _ _ ih => intro f m; rcases List.mem_cons.1 m with rfl | m; rfl; exact ih f m
  | buf _ _ _ _ ih => intro f m; rcases List.mem_cons.1 m with rfl | m; rfl; exact ih f m
def Env.Sorted (E : Env) : Prop := List.Pairwise (fun a b => a.1 < b.1) E
theorem Env.get_mem {E : Env} : ∀ {t : Nat}, E.get t ≠ .undef → (t, E.get t) ∈ E := by
  induction E with
  | nil => intro t h; simp [Env.get] at h
  | cons x E ih =>
    obtain ⟨k, v⟩ := x
    intro t h
    simp only [Env.get] at h ⊢
    split
    · rename_i e; subst e; simp
    · rename_i e; rw [if_neg e] at h; exact List.mem_cons_of_mem _ (ih h)
theorem Env.mem_put {E : Env} {t : Nat} {f : FV} {x : Nat × FV} (h : x ∈ E.put t f) : x = (t, f) ∨ (x ∈ E ∧ x.1 ≠ t) ∨ (x ∈ E) := by
  induction E with
  | nil => simp [Env.put] at h; exact .inl h
  | cons y E ih =>
    obtain ⟨k, v⟩ := y
    simp only [Env.put] at h
    split at h
    · rcases List.mem_cons.1 h with h | h
      · exact .inl h
      · exact .inr (.inr (by simp [h]))
    · split at h
      · rcases List.mem_cons.1 h with h | h
        · exact .inl h
        · exact .inr (.inr h)
      · rcases List.mem_cons.1 h with h | h
        · exact .inr (.inr (by simp [h]))
        · rcases ih h with h | h | h
          · exact .inl h
          · exact .inr (.inr (by simp [h.1]))
          · exact .inr (.inr (by simp [h]))
theorem Env.sorted_put {E : Env} (hs : E.Sorted) (t : Nat) (f : FV) : (E.put t f).Sorted := by
  induction E with
  | nil => simp [Env.put, Env.Sorted]
  | cons x E ih =>
    obtain ⟨k, v⟩ := x
    have hs' := List.pairwise_cons.1 hs
    simp only [Env.put]
    split
    · rename_i e; subst e
      exact List.pairwise_cons.2 ⟨hs'.1, hs'.2⟩
    · split
      · rename_i e1 e2
        refine List.pairwise_cons.2 ⟨?_, hs⟩
        intro a ha
        rcases List.mem_cons.1 ha with rfl | ha
        · exact e2
        · have := hs'.1 _ ha; simp only at this ⊢; omega
      · rename_i e1 e2
        refine List.pairwise_cons.2 ⟨?_, ih hs'.2⟩
        intro a ha
        have hkt : k < t := by omega
        rcases Env.mem_put ha with rfl | h | h
        · exact hkt
        · exact hs'.1 _ h.1
        · exact hs'.1 _ h
theorem Env.sorted_del {E : Env} (hs : E.Sorted) (t : Nat) : (E.del t).Sorted ∧ ∀ x ∈ E.del t, x ∈ E ∧ x.1 ≠ t := by
  induction E with
  | nil => simp [Env.del, Env.Sorted]
  | cons x E ih =>
    obtain ⟨k, v⟩ := x
    have hs' := List.pairwise_cons.1 hs
    simp only [Env.del]
    split
    · rename_i e; subst e
      exact ⟨hs'.2, fun x hx => ⟨by simp [hx], by have := hs'.1 _ hx; simp only at this; omega⟩⟩
    · rename_i e
      obtain ⟨i1, i2⟩ := ih hs'.2
      refine ⟨List.pairwise_cons.2 ⟨fun a ha => hs'.1 _ (i2 a ha).1, i1⟩, ?_⟩
      intro a ha
      rcases List.mem_cons.1 ha with rfl | ha
      · exact ⟨by simp, e⟩
      · exact ⟨by simp [(i2 a ha).1], (i2 a ha).2⟩
theorem Env.sorted_mapV {E : Env} (hs : E.Sorted) (g : FV → FV) : (E.mapV g).Sorted := by
  unfold Env.Sorted Env.mapV at *
  rw [List.pairwise_map]
  exact hs
theorem Env.get_put (E : Env) (t : Nat) (f : FV) (u : Nat) (hs : E.Sorted) : (E.put t f).get u = if t = u then f else E.get u := by
  induction E with
  | nil => simp [Env.put, Env.get]
  | cons x E ih =>
    obtain ⟨k, v⟩ := x
    have hs' := List.pairwise_cons.1 hs
    simp only [Env.put]
    split
    · rename_i e; subst e
      simp only [Env.get]
      split <;> rfl
    · split
      · simp only [Env.get]
      · rename_i e1 e2
        simp only [Env.get, ih hs'.2]
        by_cases h1 : k = u
        · subst h1; rw [if_pos rfl, if_neg (fun e => e1 e.symm), if_pos rfl]
        · rw [if_neg h1, if_neg h1]
theorem Env.get_notmem {E : Env} {u : Nat} (h : ∀ x ∈ E, x.1 ≠ u) : E.get u = .undef := by
  induction E with
  | nil => rfl
  | cons x E ih =>
    obtain ⟨k, v⟩ := x
    simp only [Env.get]
    rw [if_neg (h (k, v) (by simp))]
    exact ih fun x hx => h x (by simp [hx])
theorem Env.get_del (E : Env) (t : Nat) (u : Nat) (hs : E.Sorted) : (E.del t).get u = if t = u then .undef else E.get u := by
  induction E with
  | nil => simp [Env.del, Env.get]
  | cons x E ih =>
    obtain ⟨k, v⟩ := x
    have hs' := List.pairwise_cons.1 hs
    simp only [Env.del]
    split
    · rename_i e; subst e
      simp only [Env.get]
      split
      · rename_i e; subst e
        exact Env.get_notmem fun x hx => by have := hs'.1 _ hx; simp only at this; omega
      · rfl
    · rename_i e
      simp only [Env.get, ih hs'.2]
      by_cases h1 : k = u
      · subst h1; rw [if_pos rfl, if_neg (fun e' => e e'.symm), if_pos rfl]
      · rw [if_neg h1, if_neg h1]
theorem Env.get_mapV (E : Env) (g : FV → FV) (hg : g .undef = .undef) (u : Nat) : (E.mapV g).get u = g (E.get u) := by
  induction E with
  | nil => simp [Env.mapV, Env.get, hg]
  | cons x E ih =>
    obtain ⟨k, v⟩ := x
    simp only [Env.mapV, List.map_cons, Env.get]
    split
    · rfl
    · exact ih
section
variable {h : Array Obj} {S : Nat → Prop} {val : Nat → Value} {E : Env}
theorem REnv.lt {env R} (r : REnv h S val E env R) : ∀ b ∈ R, b < h.size := by
  induction r with
  | nil => simp
  | own r1 _ ih => intro b m; rcases List.mem_append.1 m with m | m; exact r1.lt b m; exact ih b m
  | al _ _ ih => exact ih
  | ptr _ _ ih => exact ih
  | clo _ _ ih => exact ih
  | als _ _ ih => exact ih
  | alg _ _ ih => exact ih
theorem REnv.change {env R} (r : REnv h S val E env R) {h' : Array Obj} {S' : Nat → Prop} {val' : Nat → Value} {E' : Env}
    (hS : ∀ b, S b → S' b) (hsz : h.size ≤ h'.size) (hs : ∀ b, S b → b < h.size → h'[b]? = h[b]?) (hR : ∀ b ∈ R, h'[b]? = h[b]?)
    (hv : ∀ x ∈ env, val' x.1 = val x.1)
    (hal : ∀ t q p, (t, FV.al q p) ∈ env → hdrAt h val E q p = some (val t) → hdrAt h' val' E' q p = some (val t))
    (hpt : ∀ t q p, (t, FV.ptr q p) ∈ env → ptrAt h val E q p = some (val t) → ptrAt h' val' E' q p = some (val t))
    (hcl : ∀ t f rs, (t, FV.clo f rs) ∈ env → cloAt val E f rs = some (val t) → cloAt val' E' f rs = some (val t))
    (has : ∀ t q lo n sz, (t, FV.als q lo n sz) ∈ env → SubOf (val q) (E.get q) lo n sz (val t) → SubOf (val' q) (E'.get q) lo n sz (val t))
    (hag : ∀ t q p n, (t, FV.alg q p n) ∈ env → aggAt h val E q p n = some (val t) → aggAt h' val' E' q p n = some (val t)) : REnv h' S' val' E' env R := by
  induction r with
  | nil => exact .nil
  | @own t f env R1 R r1 _ ih =>
    refine .own (by rw [hv (t, f) (by simp)]; exact r1.mono hS hsz hs fun b m => hR b (by simp [m])) ?_
    exact ih (fun b m => hR b (by simp [m])) (fun x hx => hv x (by simp [hx])) (fun t q p m => hal t q p (by simp [m])) (fun t q p m => hpt t q p (by simp [m])) (fun t f rs m => hcl t f rs (by simp [m])) (fun t q lo n sz m => has t q lo n sz (by simp [m])) (fun t q p n m => hag t q p n (by simp [m]))
  | @al t q p env R r1 _ ih =>
    refine .al (by rw [hv (t, .al q p) (by simp)]; exact hal t q p (by simp) r1) ?_
    exact ih hR (fun x hx => hv x (by simp [hx])) (fun t q p m => hal t q p (by simp [m])) (fun t q p m => hpt t q p (by simp [m])) (fun t f rs m => hcl t f rs (by simp [m])) (fun t q lo n sz m => has t q lo n sz (by simp [m])) (fun t q p n m => hag t q p n (by simp [m]))
  | @ptr t q p env R r1 _ ih =>
    refine .ptr (by rw [hv (t, .ptr q p) (by simp)]; exact hpt t q p (by simp) r1) ?_
    exact ih hR (fun x hx => hv x (by simp [hx])) (fun t q p m => hal t q p (by simp [m])) (fun t q p m => hpt t q p (by simp [m])) (fun t f rs m => hcl t f rs (by simp [m])) (fun t q lo n sz m => has t q lo n sz (by simp [m])) (fun t q p n m => hag t q p n (by simp [m]))
  | @clo t f rs env R r1 _ ih =>
    refine .clo (by rw [hv (t, .clo f rs) (by simp)]; exact hcl t f rs (by simp) r1) ?_
    exact ih hR (fun x hx => hv x (by simp [hx])) (fun t q p m => hal t q p (by simp [m])) (fun t q p m => hpt t q p (by simp [m])) (fun t f rs m => hcl t f rs (by simp [m])) (fun t q lo n sz m => has t q lo n sz (by simp [m])) (fun t q p n m => hag t q p n (by simp [m]))
  | @als t q lo n sz env R r1 _ ih =>
    refine .als (by rw [hv (t, .als q lo n sz) (by simp)]; exact has t q lo n sz (by simp) r1) ?_
    exact ih hR (fun x hx => hv x (by simp [hx])) (fun t q p m => hal t q p (by simp [m])) (fun t q p m => hpt t q p (by simp [m])) (fun t f rs m => hcl t f rs (by simp [m])) (fun t q lo n sz m => has t q lo n sz (by simp [m])) (fun t q p n m => hag t q p n (by simp [m]))
  | @alg t q p n env R r1 _ ih =>
    refine .alg (by rw [hv (t, .alg q p n) (by simp)]; exact hag t q p n (by simp) r1) ?_
    exact ih hR (fun x hx => hv x (by simp [hx])) (fun t q p m => hal t q p (by simp [m])) (fun t q p m => hpt t q p (by simp [m])) (fun t f rs m => hcl t f rs (by simp [m])) (fun t q lo n sz m => has t q lo n sz (by simp [m])) (fun t q p n m => hag t q p n (by simp [m]))
theorem REnv.del {env R} (r : REnv h S val E env R) (t : Nat) :
    ∃ R1 R2, REnv h S val E (env.del t) R2 ∧ R.Perm (R1 ++ R2) ∧ ((env.get t).alias = false → Rep h S [val t] [env.get t] R1) ∧ ((env.get t).alias = true → R1 = []) := by
  induction r with
  | nil => exact ⟨[], [], .nil, by simp, fun _ => .undef .nil, fun _ => rfl⟩
  | @own u f env R1 R r1 r2 ih =>
    simp only [Env.del, Env.get]
    split
    · rename_i e; subst e
      refine ⟨R1, R, r2, List.Perm.refl _, fun _ => r1, fun ha => ?_⟩
      rw [r1.noalias f (by simp)] at ha; cases ha
    · obtain ⟨Ra, Rb, i1, i2, i3, i4⟩ := ih
      refine ⟨Ra, R1 ++ Rb, .own r1 i1, ?_, i3, i4⟩
      have := List.Perm.append_left R1 i2
      refine this.trans ?_
      rw [← List.append_assoc, ← List.append_assoc]
      exact List.Perm.append_right _ List.perm_append_comm
  | @al u q p env R r1 r2 ih =>
    simp only [Env.del, Env.get]
    split
    · rename_i e; subst e
      exact ⟨[], R, r2, List.Perm.refl _, fun ha => by simp [FV.alias] at ha, fun _ => rfl⟩
    · obtain ⟨Ra, Rb, i1, i2, i3, i4⟩ := ih
      exact ⟨Ra, Rb, .al r1 i1, i2, i3, i4⟩
  | @ptr u q p env R r1 r2 ih =>
    simp only [Env.del, Env.get]
    split
    · rename_i e; subst e
      exact ⟨[], R, r2, List.Perm.refl _, fun ha => by simp [FV.alias] at ha, fun _ => rfl⟩
    · obtain ⟨Ra, Rb, i1, i2, i3, i4⟩ := ih
      exact ⟨Ra, Rb, .ptr r1 i1, i2, i3, i4⟩
  | @clo u f rs env R r1 r2 ih =>
    simp only [Env.del, Env.get]
    split
    · rename_i e; subst e
      exact ⟨[], R, r2, List.Perm.refl _, fun ha => by simp [FV.alias] at ha, fun _ => rfl⟩
    · obtain ⟨Ra, Rb, i1, i2, i3, i4⟩ := ih
      exact ⟨Ra, Rb, .clo r1 i1, i2, i3, i4⟩
  | @als u q lo n sz env R r1 r2 ih =>
    simp only [Env.del, Env.get]
    split
    · rename_i e; subst e
      exact ⟨[], R, r2, List.Perm.refl _, fun ha => by simp [FV.alias] at ha, fun _ => rfl⟩
    · obtain ⟨Ra, Rb, i1, i2, i3, i4⟩ := ih
      exact ⟨Ra, Rb, .als r1 i1, i2, i3, i4⟩
  | @alg u q p n env R r1 r2 ih =>
    simp only [Env.del, Env.get]
    split
    · rename_i e; subst e
      exact ⟨[], R, r2, List.Perm.refl _, fun ha => by simp [FV.alias] at ha, fun _ => rfl⟩
    · obtain ⟨Ra, Rb, i1, i2, i3, i4⟩ := ih
      exact ⟨Ra, Rb, .alg r1 i1, i2, i3, i4⟩
theorem Env.del_notmem {env : Env} {t : Nat} (h : ∀ x ∈ env, x.1 ≠ t) : env.del t = env := by
  induction env with
  | nil => rfl
  | cons x env ih =>
    obtain ⟨k, v⟩ := x
    simp only [Env.del]
    rw [if_neg (h (k, v) (by simp)), ih fun x hx => h x (by simp [hx])]
theorem REnv.cons {env R t f R1} (hf : (∃ R0, Rep h S [val t] [f] R0 ∧ R1 = R0) ∨ (R1 = [] ∧ ((∃ q p, f = .al q p ∧ hdrAt h val E q p = some (val t)) ∨ (∃ q p, f = .ptr q p ∧ ptrAt h val E q p = some (val t)) ∨ (∃ g rs, f = .clo g rs ∧ cloAt val E g rs = some (val t)) ∨ (∃ q lo n sz, f = .als q lo n sz ∧ SubOf (val q) (E.get q) lo n sz (val t)) ∨ (∃ q p n, f = .alg q p n ∧ aggAt h val E q p n = some (val t)))))
    (r : REnv h S val E env R) : REnv h S val E ((t, f) :: env) (R1 ++ R) := by
  rcases hf with ⟨_, h1, rfl⟩ | ⟨rfl, ⟨q, p, rfl, h1⟩ | ⟨q, p, rfl, h1⟩ | ⟨g, rs, rfl, h1⟩ | ⟨q, lo, n, sz, rfl, h1⟩ | ⟨q, p, n, rfl, h1⟩⟩
  · exact .own h1 r
  · exact .al h1 r
  · exact .ptr h1 r
  · exact .clo h1 r
  · exact .als h1 r
  · exact .alg h1 r
theorem REnv.put {env R2 t f R1} (hso : Env.Sorted env) (r : REnv h S val E (Env.del env t) R2)
    (hf : (∃ R0, Rep h S [val t] [f] R0 ∧ R1 = R0) ∨ (R1 = [] ∧ ((∃ q p, f = .al q p ∧ hdrAt h val E q p = some (val t)) ∨ (∃ q p, f = .ptr q p ∧ ptrAt h val E q p = some (val t)) ∨ (∃ g rs, f = .clo g rs ∧ cloAt val E g rs = some (val t)) ∨ (∃ q lo n sz, f = .als q lo n sz ∧ SubOf (val q) (E.get q) lo n sz (val t)) ∨ (∃ q p n, f = .alg q p n ∧ aggAt h val E q p n = some (val t))))) :
    ∃ R', REnv h S val E (Env.put env t f) R' ∧ R'.Perm (R1 ++ R2) := by
  induction env generalizing R2 with
  | nil => exact ⟨R1 ++ R2, .cons hf r, List.Perm.refl _⟩
  | cons x env ih =>
    obtain ⟨k, v⟩ := x
    have hs' := List.pairwise_cons.1 hso
    simp only [Env.del] at r
    simp only [Env.put]
    by_cases e : k = t
    · subst e
      rw [if_pos rfl] at r ⊢
      exact ⟨_, .cons hf r, List.Perm.refl _⟩
    · rw [if_neg e] at r ⊢
      split
      · rename_i hlt
        rw [Env.del_notmem (fun x hx => by have := hs'.1 _ hx; simp only at this; omega)] at r
        exact ⟨_, .cons hf r, List.Perm.refl _⟩
      · cases r with
        | @own _ _ _ Ra Rb r1 r2 =>
          obtain ⟨R', i1, i2⟩ := ih hs'.2 r2
          refine ⟨Ra ++ R', .own r1 i1, ?_⟩
          refine (List.Perm.append_left Ra i2).trans ?_
          rw [← List.append_assoc, ← List.append_assoc]
          exact List.Perm.append_right _ List.perm_append_comm
        | al r1 r2 =>
          obtain ⟨R', i1, i2⟩ := ih hs'.2 r2
          exact ⟨R', .al r1 i1, i2⟩
        | ptr r1 r2 =>
          obtain ⟨R', i1, i2⟩ := ih hs'.2 r2
          exact ⟨R', .ptr r1 i1, i2⟩
        | clo r1 r2 =>
          obtain ⟨R', i1, i2⟩ := ih hs'.2 r2
          exact ⟨R', .clo r1 i1, i2⟩
        | als r1 r2 =>
          obtain ⟨R', i1, i2⟩ := ih hs'.2 r2
          exact ⟨R', .als r1 i1, i2⟩
        | alg r1 r2 =>
          obtain ⟨R', i1, i2⟩ := ih hs'.2 r2
          exact ⟨R', .alg r1 i1, i2⟩
theorem REnv.mapV {env R} (r : REnv h S val E env R) (g : FV → FV) (hg : ∀ f, f.alias = false → g f = f) (hg2 : ∀ f, f.alias = true → g f = f ∨ g f = .undef) :
    REnv h S val E (Env.mapV env g) R := by
  induction r with
  | nil => exact .nil
  | @own t f env R1 R r1 _ ih =>
    have : f.alias = false := r1.noalias f (by simp)
    simp only [Env.mapV, List.map_cons, hg f this]
    exact .own r1 ih
  | @al t q p env R r1 _ ih =>
    simp only [Env.mapV, List.map_cons]
    rcases hg2 (.al q p) rfl with e | e <;> rw [e]
    · exact .al r1 ih
    · exact .own (R1 := []) (.undef .nil) ih
  | @ptr t q p env R r1 _ ih =>
    simp only [Env.mapV, List.map_cons]
    rcases hg2 (.ptr q p) rfl with e | e <;> rw [e]
    · exact .ptr r1 ih
    · exact .own (R1 := []) (.undef .nil) ih
  | @clo t f rs env R r1 _ ih =>
    simp only [Env.mapV, List.map_cons]
    rcases hg2 (.clo f rs) rfl with e | e <;> rw [e]
    · exact .clo r1 ih
    · exact .own (R1 := []) (.undef .nil) ih
  | @als t q lo n sz env R r1 _ ih =>
    simp only [Env.mapV, List.map_cons]
    rcases hg2 (.als q lo n sz) rfl with e | e <;> rw [e]
    · exact .als r1 ih
    · exact .own (R1 := []) (.undef .nil) ih
  | @alg t q p n env R r1 _ ih =>
    simp only [Env.mapV, List.map_cons]
    rcases hg2 (.alg q p n) rfl with e | e <;> rw [e]
    · exact .alg r1 ih
    · exact .own (R1 := []) (.undef .nil) ih
end
theorem locate_keep {h h' : Array Obj} {S : Nat → Prop} : ∀ {p : Path} {v : Value} {f : FV} {R : List Nat}, Rep h S [v] [f] R → (∀ b ∈ R, h'[b]? = h[b]?) →
    locate h' v f p = locate h v f p
  | [], _, _, _, _, _ => rfl
  | [(i, o)], v, f, R, r, hR => by simp only [locate]
  | (i, o) :: q :: p, v, f, R, r, hR => by
    simp only [locate]
    cases hk : f.kids[i]? with
    | none => cases blockOf v <;> rfl
    | some row =>
    cases hro : row[o]? with
    | none => cases hb : blockOf v with
      | none => rfl
      | some b => simp only [hro]; cases cellAt h b (offOf v + (i * row.length + o)) <;> cases cellAt h' b (offOf v + (i * row.length + o)) <;> rfl
    | some x =>
    cases r with
    | @box b c T gs _ _ R1 R2 hb hr ht =>
      cases ht
      have hi : i = 0 ∧ row = gs := by
        simp only [FV.kids] at hk
        cases i with
        | zero => simp at hk; exact ⟨rfl, hk.symm⟩
        | succ i => simp at hk
      obtain ⟨rfl, rfl⟩ := hi
      obtain ⟨vx, Ra, Ry, Rb, hvx, hy, rfl, _⟩ := hr.at hro
      have e1 : h'[b]? = h[b]? := hR b (by simp)
      have hcell : cellAt h b (0 + (0 * row.length + o)) = some vx := by unfold cellAt; rw [hb]; simp [← hvx]
      simp only [blockOf, offOf, cellAt_congr e1, hcell, hro]
      exact locate_keep hy fun b' m => hR b' (by simp [m])
    | @arr es b o0 n' cap st c T _ _ R1 R2 hn hst hb hsz hcap hpos hr ht =>
      cases ht
      simp only [FV.kids] at hk
      have hrow : row.length = st := hst row (List.mem_of_getElem? hk)
      have holt : o < row.length := by
        rcases Nat.lt_or_ge o row.length with h1 | h1
        · exact h1
        · rw [List.getElem?_eq_none h1] at hro; cases hro
      have hlt : i < es.length := by
        rcases Nat.lt_or_ge i es.length with h1 | h1
        · exact h1
        · rw [List.getElem?_eq_none h1] at hk; cases hk
      have hmul : (i + 1) * st ≤ n' * st := Nat.mul_le_mul_right _ (by omega)
      rw [Nat.add_mul, Nat.one_mul] at hmul
      have hfx : es.flatten[i * st + o]? = some x := by
        have := flatten_row hst hk o (by omega)
        have h2 : (es.flatten.drop (i * st + o))[0]? = some x := by
          rw [this, List.getElem?_append_left (by simp; omega)]
          simpa using hro
        simpa using h2
      obtain ⟨vx, Ra, Ry, Rb, hvx, hy, rfl, _⟩ := hr.at hfx
      have e1 : h'[b]? = h[b]? := hR b (by simp)
      have hcell : cellAt h b (o0 + (i * row.length + o)) = some vx := by
        unfold cellAt; rw [hb, hrow]
        rw [List.getElem?_take_of_lt (by omega)] at hvx
        simpa using hvx
      simp only [blockOf, offOf, cellAt_congr e1, hcell, hro]
      exact locate_keep hy fun b' m => hR b' (by simp [m])
    | _ => simp [FV.kids] at hk
theorem cells_write {c c' : Array Value} {o n : Nat} {cs' : List Value} (hc' : c'.toList = c.toList.take o ++ cs' ++ c.toList.drop (o + n)) (hl : cs'.length = n) (hf : o + n ≤ c.size)
    (k : Nat) (hk : k < o ∨ o + n ≤ k) : c'[k]? = c[k]? := by
  have e1 : c'[k]? = c'.toList[k]? := by simp
  have e2 : c[k]? = c.toList[k]? := by simp
  rw [e1, e2, hc']
  rcases hk with hk | hk
  · rw [List.append_assoc, List.getElem?_append_left (by simp; omega), List.getElem?_take_of_lt hk]
  · rw [List.getElem?_append_right (by simp; omega), List.getElem?_drop]
    congr 1
    simp
    omega
theorem kid_cell {h : Array Obj} {S : Nat → Prop} {v : Value} {f : FV} {R : List Nat} {i o : Nat} {row : List FV} {x : FV} (r : Rep h S [v] [f] R) (hk : f.kids[i]? = some row) (hro : row[o]? = some x) :
    ∃ b0 c T vx Ry, blockOf v = some b0 ∧ b0 ∈ R ∧ h[b0]? = some (.cells c T (0, 0)) ∧ c[offOf v + (i * row.length + o)]? = some vx ∧ Rep h S [vx] [x] Ry ∧ (∀ b ∈ Ry, b ∈ R) ∧ (R.Nodup → b0 ∉ Ry) ∧ (R.Nodup → Ry.Nodup) := by
  have holt : o < row.length := by
    rcases Nat.lt_or_ge o row.length with h1 | h1
    · exact h1
    · rw [List.getElem?_eq_none h1] at hro; cases hro
  cases r with
  | @box b c T gs _ _ R1 R2 hb hr ht =>
    cases ht
    have hi : i = 0 ∧ row = gs := by
      simp only [FV.kids] at hk
      cases i with
      | zero => simp at hk; exact ⟨rfl, hk.symm⟩
      | succ i => simp at hk
    obtain ⟨rfl, rfl⟩ := hi
    obtain ⟨vx, Ra, Ry, Rb, hvx, hy, rfl, _⟩ := hr.at hro
    refine ⟨b, c, T, vx, Ry, rfl, by simp, hb, by simp [offOf, ← hvx], hy, by simp +contextual, ?_, ?_⟩
    · intro nd m; simp only [List.append_nil] at nd; exact (List.nodup_cons.1 nd).1 (by simp [m])
    · intro nd; simp only [List.append_nil] at nd
      have := (List.nodup_cons.1 nd).2
      rw [List.append_assoc] at this
      exact (List.nodup_append.1 (List.nodup_append.1 this).2.1).1
  | @arr es b o0 n' cap st c T _ _ R1 R2 hn hst hb hsz hcap hpos hr ht =>
    cases ht
    simp only [FV.kids] at hk
    have hrow : row.length = st := hst row (List.mem_of_getElem? hk)
    have hlt : i < es.length := by
      rcases Nat.lt_or_ge i es.length with h1 | h1
      · exact h1
      · rw [List.getElem?_eq_none h1] at hk; cases hk
    have hmul : (i + 1) * st ≤ n' * st := Nat.mul_le_mul_right _ (by omega)
    rw [Nat.add_mul, Nat.one_mul] at hmul
    have hfx : es.flatten[i * st + o]? = some x := by
      have := flatten_row hst hk o (by omega)
      have h2 : (es.flatten.drop (i * st + o))[0]? = some x := by
        rw [this, List.getElem?_append_left (by simp; omega)]
        simpa using hro
      simpa using h2
    obtain ⟨vx, Ra, Ry, Rb, hvx, hy, rfl, _⟩ := hr.at hfx
    rw [List.getElem?_take_of_lt (by omega)] at hvx
    refine ⟨b, c, T, vx, Ry, rfl, by simp, hb, by rw [hrow]; simpa [offOf] using hvx, hy, by simp +contextual, ?_, ?_⟩
    · intro nd m; simp only [List.append_nil] at nd; exact (List.nodup_cons.1 nd).1 (by simp [m])
    · intro nd; simp only [List.append_nil] at nd
      have := (List.nodup_cons.1 nd).2
      rw [List.append_assoc] at this
      exact (List.nodup_append.1 (List.nodup_append.1 this).2.1).1
  | _ => simp [FV.kids] at hk
theorem kids_setKids {f : FV} {i : Nat} {row : List FV} (hk : f.kids[i]? = some row) (row' : List FV) (j : Nat) :
    (f.setKids (f.kids.set i row')).kids[j]? = if j = i then some row' else f.kids[j]? := by
  cases f with
  | box cs =>
    cases i with
    | succ i => simp [FV.kids] at hk
    | zero =>
      simp only [FV.kids, FV.setKids, List.set_cons_zero, List.headD_cons]
      cases j with
      | zero => simp
      | succ j => simp
  | arr es =>
    simp only [FV.kids] at hk
    simp only [FV.setKids, FV.kids, List.getElem?_set]
    have hlt : i < es.length := by
      rcases Nat.lt_or_ge i es.length with h1 | h1
      · exact h1
      · rw [List.getElem?_eq_none h1] at hk; cases hk
    by_cases e : j = i
    · subst e; simp [hlt]
    · rw [if_neg (fun e' => e (Eq.symm e')), if_neg e]
  | _ => simp [FV.kids] at hk
def FV.like (y y' : FV) : Prop := y' = y ∨ (∃ a b, y = .arr a ∧ y' = .arr b) ∨ (∃ a b, y = .box a ∧ y' = .box b)
theorem FV.like.isSl {y y' : FV} (h : FV.like y y') : y'.isSl = y.isSl := by
  rcases h with rfl | ⟨_, _, rfl, rfl⟩ | ⟨_, _, rfl, rfl⟩ <;> rfl
theorem setN_like (f : FV) (p : Path) (xs : List FV) : FV.like f (setN f p xs) := by
  cases p with
  | nil => exact .inl rfl
  | cons x p =>
    obtain ⟨i, o⟩ := x
    have key : ∀ k, FV.like f (f.setKids k) := fun k => by
      cases f <;> first
        | exact .inl rfl
        | exact .inr (.inl ⟨_, _, rfl, rfl⟩)
        | exact .inr (.inr ⟨_, _, rfl, rfl⟩)
    simp only [setN]
    split
    · exact .inl rfl
    · cases p with
      | nil => exact key _
      | cons y p =>
        simp only
        split
        · exact .inl rfl
        · exact key _
theorem getN_row {f : FV} {i o : Nat} {y : FV} : getN f [(i, o)] 1 = some [y] ↔ ∃ row, f.kids[i]? = some row ∧ row[o]? = some y := by
  simp only [getN]
  cases hk : f.kids[i]? with
  | none => simp
  | some row =>
    simp only [Option.some.injEq, exists_eq_left']
    constructor
    · intro h
      split at h
      · simp only [Option.some.injEq] at h
        have : ((row.drop o).take 1)[0]? = some y := by rw [h]; rfl
        simpa [List.getElem?_take] using this
      · cases h
    · intro h
      have holt : o < row.length := by
        rcases Nat.lt_or_ge o row.length with h1 | h1
        · exact h1
        · rw [List.getElem?_eq_none h1] at h; cases h
      rw [if_pos (by omega)]
      rw [List.getElem?_eq_getElem holt] at h
      simp only [Option.some.injEq] at h
      rw [List.drop_eq_getElem_cons holt, h]
      rfl
theorem getN_step {f : FV} {i o : Nat} {q : Nat × Nat} {p : Path} {n : Nat} : getN f ((i, o) :: q :: p) n = match f.kids[i]? with
    | none => none
    | some row => match row[o]? with
      | none => none
      | some x => getN x (q :: p) n := by
  cases hk : f.kids[i]? with
  | none => simp only [getN, hk]
  | some row => cases hr : row[o]? <;> simp only [getN, hk, hr]
def FV.shape : FV → Option (List Nat)
  | .arr es => some (es.map List.length)
  | .buf st => some [st]
  | _ => none
theorem setN_shape {f : FV} {p : Path} {n : Nat} {ys xs : List FV} (hg : getN f p n = some ys) (hx : xs.length = n) : (setN f p xs).shape = f.shape := by
  match p, hg with
  | [(i, o)], hg =>
    simp only [getN] at hg
    cases hk : f.kids[i]? with
    | none => rw [hk] at hg; cases hg
    | some row =>
      rw [hk] at hg
      simp only at hg
      split at hg
      case isFalse => cases hg
      rename_i hle
      simp only [setN, hk]
      cases f <;> simp only [FV.kids] at hk <;> try (simp at hk; done)
      · rename_i es
        simp only [FV.setKids, FV.kids, FV.shape, Option.some.injEq]
        rw [List.map_set]
        apply List.ext_getElem?
        intro j
        by_cases hj : j = i
        · subst hj
          have hlt : j < es.length := by
            rcases Nat.lt_or_ge j es.length with h1 | h1
            · exact h1
            · rw [List.getElem?_eq_none h1] at hk; cases hk
          rw [List.getElem?_set_self (by simpa using hlt), List.getElem?_map, hk]
          simp; omega
        · rw [List.getElem?_set_ne (fun e => hj e.symm)]
      · rfl
  | (i, o) :: q :: p, hg =>
    rw [getN_step] at hg
    cases hk : f.kids[i]? with
    | none => rw [hk] at hg; cases hg
    | some row =>
      rw [hk] at hg
      simp only at hg
      cases hr : row[o]? with
      | none => rw [hr] at hg; cases hg
      | some x =>
        simp only [setN, hk, hr]
        cases f <;> simp only [FV.kids] at hk <;> try (simp at hk; done)
        · rename_i es
          simp only [FV.setKids, FV.kids, FV.shape, Option.some.injEq]
          rw [List.map_set]
          apply List.ext_getElem?
          intro j
          by_cases hj : j = i
          · subst hj
            have hlt : j < es.length := by
              rcases Nat.lt_or_ge j es.length with h1 | h1
              · exact h1
              · rw [List.getElem?_eq_none h1] at hk; cases hk
            rw [List.getElem?_set_self (by simpa using hlt), List.getElem?_map, hk]
            simp
          · rw [List.getElem?_set_ne (fun e => hj e.symm)]
        · rfl
theorem SubOf.owned {v : Value} {f : FV} {lo n size : Nat} {u : Value} (h : SubOf v f lo n size u) : f.owned = true := by
  obtain ⟨es, rfl | ⟨rfl, _⟩, _⟩ := h <;> rfl
theorem SubOf.shape {v : Value} {f f' : FV} {lo n size : Nat} {u : Value} (h : SubOf v f lo n size u) (hs : f'.shape = f.shape) (hl : (∃ es, f = .arr es) → ∃ es, f' = .arr es) : SubOf v f' lo n size u := by
  obtain ⟨es, hf, hr, hle, rest⟩ := h
  rcases hf with rfl | ⟨rfl, he⟩
  · obtain ⟨es', rfl⟩ := hl ⟨_, rfl⟩
    simp only [FV.shape, Option.some.injEq] at hs
    have hlen : es'.length = es.length := by simpa using congrArg List.length hs
    refine ⟨es', .inl rfl, fun e m => ?_, by omega, rest⟩
    have : e.length ∈ es'.map List.length := List.mem_map.2 ⟨e, m, rfl⟩
    rw [hs] at this
    obtain ⟨e2, m2, h2⟩ := List.mem_map.1 this
    rw [← h2]; exact hr e2 m2
  · cases f' <;> simp only [FV.shape, Option.some.injEq, reduceCtorEq] at hs
    · rename_i es'
      subst he
      simp only [List.length_nil] at hle
      have hlen : es'.length = 1 := by simpa using congrArg List.length hs
      match es', hlen with
      | [e], _ =>
        simp only [List.map_cons, List.map_nil, List.cons.injEq, and_true] at hs
        exact ⟨[e], .inl rfl, by simpa using hs, by simp; omega, rest⟩
    · rename_i st
      simp only [List.cons.injEq, and_true] at hs
      subst hs
      exact ⟨es, .inr ⟨rfl, he⟩, hr, hle, rest⟩
theorem Rep.uniq {h S vs fs R} (r : Rep h S vs fs R) : ∀ {S' R'}, Rep h S' vs fs R' → R' = R := by
  induction r with
  | nil => intro _ _ r'; cases r'; rfl
  | undef _ ih => intro _ _ r'; cases r' with | undef r' => exact ih r'
  | int _ ih => intro _ _ r'; cases r' with | int r' => exact ih r'
  | bool _ ih => intro _ _ r'; cases r' with | bool r' => exact ih r'
  | str _ ih =>
    intro _ _ r'
    generalize hv : Value.string _ :: _ = vv at r'
    cases r' with
    | str r' => cases hv; exact ih r'
  | nilp _ ih => intro _ _ r'; cases r' with | nilp r' => exact ih r'
  | nilf _ ih => intro _ _ r'; cases r' with | nilf r' => exact ih r'
  | nili _ ih => intro _ _ r'; cases r' with | nili r' => exact ih r'
  | iface _ _ i1 i2 => intro _ _ r'; cases r' with | iface r1 r2 => rw [i1 r1, i2 r2]
  | @agg cs _ _ _ _ _ _ _ i1 i2 =>
    intro _ _ r'
    generalize hv : Value.agg _ :: _ = vv at r'
    cases r' with
    | @agg cs' _ _ _ _ _ r1 r2 =>
      simp only [List.cons.injEq, Value.agg.injEq] at hv
      obtain ⟨e1, e2⟩ := hv
      have : cs = cs' := by simpa using congrArg Array.toList e1
      subst this; subst e2
      rw [i1 r1, i2 r2]
  | @tup cs _ _ _ _ _ _ _ i1 i2 =>
    intro _ _ r'
    generalize hv : Value.tuple _ :: _ = vv at r'
    cases r' with
    | @tup cs' _ _ _ _ _ r1 r2 =>
      simp only [List.cons.injEq, Value.tuple.injEq] at hv
      obtain ⟨e1, e2⟩ := hv
      have : cs = cs' := by simpa using congrArg Array.toList e1
      subst this; subst e2
      rw [i1 r1, i2 r2]
  | @fn f cs _ _ _ _ _ _ _ i1 i2 =>
    intro _ _ r'
    generalize hv : Value.func _ _ _ :: _ = vv at r'
    cases r' with
    | @fn _ cs' _ _ _ _ _ r1 r2 =>
      simp only [List.cons.injEq, Value.func.injEq] at hv
      obtain ⟨⟨_, _, e1⟩, e2⟩ := hv
      have : cs = cs' := by simpa using congrArg Array.toList e1
      subst this; subst e2
      rw [i1 r1, i2 r2]
  | slNil _ ih =>
    intro _ _ r'
    cases r' with
    | slNil r' => exact ih r'
    | sl _ _ _ _ _ _ _ _ _ _ r' => exact ih r'
  | sl _ _ _ _ _ _ _ _ hpos _ _ _ ih =>
    intro _ _ r'
    cases r' with
    | sl _ _ _ _ _ _ _ _ _ _ r' => exact ih r'
    | slNil r' => exact ih r'
  | ref _ _ _ _ _ _ ih => intro _ _ r'; cases r' with | ref _ _ _ _ r' => exact ih r'
  | arrNil _ ih =>
    intro _ _ r'
    cases r' with
    | arrNil r' => exact ih r'
    | arr _ _ _ _ _ hpos => omega
  | bufNil _ ih =>
    intro _ _ r'
    cases r' with
    | bufNil r' => exact ih r'
    | buf _ _ hpos => omega
  | @arr es b o0 n cap st c T _ _ _ _ hn hst hb hsz hcap hpos _ _ i1 i2 =>
    intro _ _ r'
    cases r' with
    | arrNil _ => omega
    | @arr _ _ _ _ _ st' c' T' _ _ _ _ hn' hst' hb' hsz' hcap' _ r1 r2 =>
      rw [hb] at hb'
      cases hb'
      have e : n * st = n * st' := by
        cases es with
        | nil => simp at hn; subst hn; simp
        | cons e es => rw [← hst e (by simp), ← hst' e (by simp)]
      rw [← e] at r1
      rw [i1 r1, i2 r2]
  | box hb _ _ i1 i2 =>
    intro _ _ r'
    cases r' with
    | box hb' r1 r2 =>
      rw [hb] at hb'
      cases hb'
      rw [i1 r1, i2 r2]
  | iter hb _ ih => intro _ _ r'; cases r' with | iter _ r' => rw [ih r']
  | buf _ _ hpos _ ih =>
    intro _ _ r'
    cases r' with
    | buf _ _ _ r' => rw [ih r']
    | bufNil _ => omega
theorem Rep.two {h S} : ∀ {vs fs R}, Rep h S vs fs R → R.Nodup → ∀ {k1 k2 : Nat} {x1 x2 : FV}, k1 < k2 → fs[k1]? = some x1 → fs[k2]? = some x2 →
    ∃ v1 v2 R1 R2, vs[k1]? = some v1 ∧ vs[k2]? = some v2 ∧ Rep h S [v1] [x1] R1 ∧ Rep h S [v2] [x2] R2 ∧ (∀ b ∈ R1, b ∉ R2) := by
  intro vs fs R r nd k1 k2 x1 x2 hk h1 h2
  have hl := r.length
  obtain ⟨Ra, Rb, r1, r2, rfl⟩ := r.split k2
  have e1 : (fs.take k2)[k1]? = some x1 := by rw [List.getElem?_take_of_lt hk]; exact h1
  have e2 : (fs.drop k2)[0]? = some x2 := by simpa using h2
  obtain ⟨v1, _, R1, _, hv1, hr1, rfl, _⟩ := r1.at e1
  obtain ⟨v2, _, R2, _, hv2, hr2, rfl, _⟩ := r2.at e2
  refine ⟨v1, v2, R1, R2, ?_, by simpa using hv2, hr1, hr2, ?_⟩
  · rw [List.getElem?_take_of_lt hk] at hv1; exact hv1
  · intro b m1 m2
    exact (List.nodup_append.1 nd).2.2 b (by simp [m1]) b (by simp [m2]) rfl
theorem path_apart {h : Array Obj} {S : Nat → Prop} {v : Value} {f : FV} {R : List Nat} {i o j u : Nat} {row rowi : List FV} {x xi : FV} {vx vi : Value} {Ry Ri : List Nat} {b0 : Nat} {c0 : Array Value} {T0 : TypeId}
    (r : Rep h S [v] [f] R) (nd : R.Nodup) (hk : f.kids[j]? = some row) (hro : row[u]? = some x) (hki : f.kids[i]? = some rowi) (hroi : rowi[o]? = some xi) (hne : ¬ (j = i ∧ u = o))
    (hbo : blockOf v = some b0) (hb0 : h[b0]? = some (.cells c0 T0 (0, 0))) (hcx : c0[offOf v + (j * row.length + u)]? = some vx) (hci : c0[offOf v + (i * rowi.length + o)]? = some vi)
    (hy : Rep h S [vx] [x] Ry) (hyi : Rep h S [vi] [xi] Ri) {b : Nat} (m1 : b ∈ Ry) (m2 : b ∈ Ri) : False := by
  have hu : u < row.length := by
    rcases Nat.lt_or_ge u row.length with h1 | h1
    · exact h1
    · rw [List.getElem?_eq_none h1] at hro; cases hro
  have ho : o < rowi.length := by
    rcases Nat.lt_or_ge o rowi.length with h1 | h1
    · exact h1
    · rw [List.getElem?_eq_none h1] at hroi; cases hroi
  have fin : ∀ {vs fs R'}, Rep h S vs fs R' → R'.Nodup → ∀ {k1 k2 : Nat} {x1 x2 : FV} {v1 v2 : Value} {R1 R2 : List Nat}, k1 < k2 → fs[k1]? = some x1 → fs[k2]? = some x2 → vs[k1]? = some v1 → vs[k2]? = some v2 →
      Rep h S [v1] [x1] R1 → Rep h S [v2] [x2] R2 → b ∈ R1 → b ∈ R2 → False := by
    intro vs fs R' r' nd' k1 k2 x1 x2 v1 v2 R1 R2 hlt e1 e2 e3 e4 q1 q2 n1 n2
    obtain ⟨w1, w2, Q1, Q2, f1, f2, g1, g2, hd⟩ := r'.two nd' hlt e1 e2
    rw [e3] at f1; cases f1
    rw [e4] at f2; cases f2
    rw [q1.uniq g1] at hd
    rw [q2.uniq g2] at hd
    exact hd b n1 n2
  cases r with
  | @box b1 c T gs _ _ R1 R2 hb hr ht =>
    cases ht
    have hi : i = 0 ∧ rowi = gs := by
      simp only [FV.kids] at hki
      cases i with
      | zero => simp at hki; exact ⟨rfl, hki.symm⟩
      | succ i => simp at hki
    have hj : j = 0 ∧ row = gs := by
      simp only [FV.kids] at hk
      cases j with
      | zero => simp at hk; exact ⟨rfl, hk.symm⟩
      | succ i => simp at hk
    obtain ⟨rfl, rfl⟩ := hi
    obtain ⟨rfl, rfl⟩ := hj
    simp only [blockOf, Option.some.injEq] at hbo
    subst hbo
    rw [hb] at hb0
    cases hb0
    simp only [List.append_nil] at nd
    have nd' := (List.nodup_cons.1 nd).2
    simp only [offOf, Nat.zero_mul, Nat.zero_add] at hcx hci
    rcases Nat.lt_or_ge u o with h1 | h1
    · exact fin hr nd' h1 hro hroi (by simpa using hcx) (by simpa using hci) hy hyi m1 m2
    · exact fin hr nd' (show o < u by omega) hroi hro (by simpa using hci) (by simpa using hcx) hyi hy m2 m1
  | @arr es b1 o0 n' cap st c T _ _ R1 R2 hn hst hb hsz hcap hpos hr ht =>
    cases ht
    simp only [FV.kids] at hk hki
    have hrow : row.length = st := hst row (List.mem_of_getElem? hk)
    have hrowi : rowi.length = st := hst rowi (List.mem_of_getElem? hki)
    have hlt : ∀ {k : Nat} {r0 : List FV}, es[k]? = some r0 → k < es.length := fun {k r0} e => by
      rcases Nat.lt_or_ge k es.length with h1 | h1
      · exact h1
      · rw [List.getElem?_eq_none h1] at e; cases e
    have hjl := hlt hk
    have hil := hlt hki
    have hfx : ∀ {k w : Nat} {r0 : List FV} {y : FV}, es[k]? = some r0 → r0[w]? = some y → w < r0.length → r0.length = st → es.flatten[k * st + w]? = some y := fun {k w r0 y} e1 e2 e3 e4 => by
      have := flatten_row hst e1 w (by omega)
      have h2 : (es.flatten.drop (k * st + w))[0]? = some y := by
        rw [this, List.getElem?_append_left (by simp; omega)]
        simpa using e2
      simpa using h2
    have hmulj : (j + 1) * st ≤ n' * st := Nat.mul_le_mul_right _ (by omega)
    have hmuli : (i + 1) * st ≤ n' * st := Nat.mul_le_mul_right _ (by omega)
    rw [Nat.add_mul, Nat.one_mul] at hmulj hmuli
    simp only [blockOf, Option.some.injEq] at hbo
    subst hbo
    rw [hb] at hb0
    cases hb0
    simp only [List.append_nil] at nd
    have nd' := (List.nodup_cons.1 nd).2
    rw [hrow] at hcx
    rw [hrowi] at hci
    simp only [offOf] at hcx hci
    have hcx' : ((c0.toList.drop o0).take (n' * st))[j * st + u]? = some vx := by rw [List.getElem?_take_of_lt (by omega)]; simpa using hcx
    have hci' : ((c0.toList.drop o0).take (n' * st))[i * st + o]? = some vi := by rw [List.getElem?_take_of_lt (by omega)]; simpa using hci
    have hne' : j * st + u ≠ i * st + o := by
      intro e
      rcases Nat.lt_trichotomy j i with h1 | h1 | h1
      · have : (j + 1) * st ≤ i * st := Nat.mul_le_mul_right _ (by omega)
        rw [Nat.add_mul, Nat.one_mul] at this
        omega
      · subst h1; exact hne ⟨rfl, by omega⟩
      · have : (i + 1) * st ≤ j * st := Nat.mul_le_mul_right _ (by omega)
        rw [Nat.add_mul, Nat.one_mul] at this
        omega
    rcases Nat.lt_or_ge (j * st + u) (i * st + o) with h1 | h1
    · exact fin hr nd' h1 (hfx hk hro hu hrow) (hfx hki hroi ho hrowi) hcx' hci' hy hyi m1 m2
    · exact fin hr nd' (show i * st + o < j * st + u by omega) (hfx hki hroi ho hrowi) (hfx hk hro hu hrow) hci' hcx' hyi hy m2 m1
  | _ => simp [FV.kids] at hk
theorem thru_cons (i o : Nat) (q2 : Nat × Nat) (q : Path) (p2 : Nat × Nat) (p : Path) (n : Nat) : thru ((i, o) :: q2 :: q) ((i, o) :: p2 :: p) n = thru (q2 :: q) (p2 :: p) n := by
  show (decide (o = o) && (decide (i = i) && thru (q2 :: q) (p2 :: p) n)) = _
  simp only [decide_true, Bool.true_and]
theorem hits_cons (i o : Nat) (q2 : Nat × Nat) (q : Path) (p2 : Nat × Nat) (p : Path) (n : Nat) : hits ((i, o) :: q2 :: q) ((i, o) :: p2 :: p) n = hits (q2 :: q) (p2 :: p) n := by
  show (decide (o = o) && (decide (i = i) && hits (q2 :: q) (p2 :: p) n)) = _
  simp only [decide_true, Bool.true_and]
set_option maxRecDepth 20000 in
theorem path_set {h h' : Array Obj} {S : Nat → Prop} {T : TypeId} {c c' : Array Value} {cs' : List Value} {xs' : List FV} {n : Nat} {b o : Nat}
    (hb : h[b]? = some (.cells c T (0, 0))) (hb' : h'[b]? = some (.cells c' T (0, 0))) (hc' : c'.toList = c.toList.take o ++ cs' ++ c.toList.drop (o + n)) (hl : cs'.length = n) (hf : o + n ≤ c.size) (hxl : xs'.length = n) :
    ∀ {p : Path} {v : Value} {f : FV} {R : List Nat} {xs : List FV}, Rep h S [v] [f] R → R.Nodup → getN f p n = some xs → locate h v f p = some (b, o) → (∀ b1 ∈ R, b1 ≠ b → h'[b1]? = h[b1]?) →
    ∀ {q : Path} {y : FV}, getN f q 1 = some [y] → thru q p n = false →
      locate h' v (setN f p xs') q = locate h v f q ∧ (∃ y', getN (setN f p xs') q 1 = some [y'] ∧ (hits q p n = false → y.like y')) ∧
      (hits q p n = false → ∀ b1 o1, locate h v f q = some (b1, o1) → cellAt h' b1 o1 = cellAt h b1 o1)
  | [], v, f, R, xs, r, nd, hg, hloc, hR, q, y, hq, ht => by simp [getN] at hg
  | (i, o') :: p, v, f, R, xs, r, nd, hg, hloc, hR, [], y, hq, ht => by simp [getN] at hq
  | [(i, o')], v, f, R, xs, r, nd, hg, hloc, hR, [(j, u)], y, hq, ht => by
    obtain ⟨row, hk, hro⟩ := getN_row.1 hq
    simp only [getN] at hg
    cases hki : f.kids[i]? with
    | none => rw [hki] at hg; cases hg
    | some rowi =>
    rw [hki] at hg
    simp only at hg
    split at hg
    case isFalse => cases hg
    rename_i hlen
    have hks := fun j => kids_setKids hki (rowi.take o' ++ xs' ++ rowi.drop (o' + xs'.length)) j
    have hl2 : (rowi.take o' ++ xs' ++ rowi.drop (o' + xs'.length)).length = rowi.length := by simp; omega
    obtain ⟨b0, c0, T0, vx, Ry, hbo, hbm, hb0, hcx, hy, _, _, _⟩ := kid_cell r hk hro
    have hb0b : b0 = b ∧ offOf v + (i * rowi.length + o') = o := by
      simp only [locate, hbo, hki] at hloc
      simp only [Option.some.injEq, Prod.mk.injEq] at hloc
      exact hloc
    obtain ⟨rfl, hoo⟩ := hb0b
    rw [hb] at hb0
    cases hb0
    have hset : setN f [(i, o')] xs' = f.setKids (f.kids.set i (rowi.take o' ++ xs' ++ rowi.drop (o' + xs'.length))) := by simp only [setN, hki]
    by_cases hji : j = i
    · subst hji
      rw [hki] at hk
      obtain rfl := Option.some.inj hk
      have hu : u < rowi.length := by
        rcases Nat.lt_or_ge u rowi.length with h1 | h1
        · exact h1
        · rw [List.getElem?_eq_none h1] at hro; cases hro
      refine ⟨?_, ?_, ?_⟩
      · rw [hset]
        simp only [locate, hbo, hks, if_true, hki, hl2]
      · have : ∃ y', (rowi.take o' ++ xs' ++ rowi.drop (o' + xs'.length))[u]? = some y' := ⟨_, List.getElem?_eq_getElem (by omega)⟩
        obtain ⟨y', hy'⟩ := this
        refine ⟨y', getN_row.2 ⟨_, by rw [hset, hks, if_pos rfl], hy'⟩, ?_⟩
        intro hh
        simp only [hits, decide_true, Bool.and_true, Bool.and_eq_false_iff, decide_eq_false_iff_not] at hh
        left
        have : (rowi.take o' ++ xs' ++ rowi.drop (o' + xs'.length))[u]? = rowi[u]? := by
          rcases hh with hh | hh
          · rw [List.append_assoc, List.getElem?_append_left (by simp; omega), List.getElem?_take_of_lt (by omega)]
          · rw [List.getElem?_append_right (by simp; omega), List.getElem?_drop]
            congr 1
            simp
            omega
        rw [this, hro] at hy'
        simpa using hy'.symm
      · intro hh b1 o1 hl1
        simp only [locate, hbo, hki, Option.some.injEq, Prod.mk.injEq] at hl1
        obtain ⟨rfl, rfl⟩ := hl1
        simp only [hits, decide_true, Bool.and_true, Bool.and_eq_false_iff, decide_eq_false_iff_not] at hh
        unfold cellAt
        rw [hb, hb']
        exact cells_write hc' hl hf _ (by omega)
    · refine ⟨?_, ?_, ?_⟩
      · rw [hset]
        simp only [locate, hbo, hks, if_neg hji]
      · exact ⟨y, getN_row.2 ⟨row, by rw [hset, hks, if_neg hji]; exact hk, hro⟩, fun _ => .inl rfl⟩
      · intro hh b1 o1 hl1
        simp only [locate, hbo, hk, Option.some.injEq, Prod.mk.injEq] at hl1
        obtain ⟨rfl, rfl⟩ := hl1
        unfold cellAt
        rw [hb, hb']
        refine cells_write hc' hl hf _ ?_
        have hu : u < row.length := by
          rcases Nat.lt_or_ge u row.length with h1 | h1
          · exact h1
          · rw [List.getElem?_eq_none h1] at hro; cases hro
        cases f with
        | box cs =>
          cases i <;> cases j <;> simp [FV.kids] at hk hki hji
        | arr es =>
          simp only [FV.kids] at hk hki
          have hst : row.length = rowi.length := by
            cases r with
            | arr _ hst' => rw [hst' _ (List.mem_of_getElem? hk), hst' _ (List.mem_of_getElem? hki)]
            | arrNil => simp at hk
          rw [hst] at hu ⊢
          rcases Nat.lt_or_ge j i with h1 | h1
          · left
            have : (j + 1) * rowi.length ≤ i * rowi.length := Nat.mul_le_mul_right _ (by omega)
            rw [Nat.add_mul, Nat.one_mul] at this
            omega
          · right
            have : (i + 1) * rowi.length ≤ j * rowi.length := Nat.mul_le_mul_right _ (by omega)
            rw [Nat.add_mul, Nat.one_mul] at this
            omega
        | _ => simp [FV.kids] at hk
  | [(i, o')], v, f, R, xs, r, nd, hg, hloc, hR, (j, u) :: q2 :: q, y, hq, ht => by
    rw [getN_step] at hq
    cases hk : f.kids[j]? with
    | none => rw [hk] at hq; cases hq
    | some row =>
    rw [hk] at hq
    simp only at hq
    cases hro : row[u]? with
    | none => rw [hro] at hq; cases hq
    | some x =>
    rw [hro] at hq
    simp only at hq
    -- the cell on the way is another one
    have hone : getN f [(j, u)] 1 = some [x] := getN_row.2 ⟨row, hk, hro⟩
    have hnot : hits [(j, u)] [(i, o')] n = false := by
      simp only [thru, hits] at ht ⊢
      simpa using ht
    obtain ⟨h1, ⟨y', h2, h3⟩, h4⟩ := path_set hb hb' hc' hl hf hxl r nd hg hloc hR hone (by simp [thru])
    obtain ⟨b0, c0, T0, vx, Ry, hbo, hbm, hb0, hcx, hy, hsub, hnin, hnd⟩ := kid_cell r hk hro
    have hloc1 : locate h v f [(j, u)] = some (b0, offOf v + (j * row.length + u)) := by simp only [locate, hbo, hk]
    have hcell : cellAt h b0 (offOf v + (j * row.length + u)) = some vx := by unfold cellAt; rw [hb0]; exact hcx
    have hcell' : cellAt h' b0 (offOf v + (j * row.length + u)) = some vx := by rw [h4 hnot _ _ hloc1]; exact hcell
    obtain ⟨row', hk', hro'⟩ := getN_row.1 h2
    have hyx : y' = x := by
      -- the row's cell itself is untouched: in the last case of 'path_set' it is equal
      have hb0b : b0 = b := by
        simp only [locate, hbo] at hloc
        cases hki : f.kids[i]? with
        | none => rw [hki] at hloc; cases hloc
        | some rowi => rw [hki] at hloc; simp only [Option.some.injEq, Prod.mk.injEq] at hloc; exact hloc.1
      simp only [getN] at hg
      cases hki : f.kids[i]? with
      | none => rw [hki] at hg; cases hg
      | some rowi =>
      rw [hki] at hg
      simp only at hg
      split at hg
      case isFalse => cases hg
      rename_i hlen
      have hks := kids_setKids hki (rowi.take o' ++ xs' ++ rowi.drop (o' + xs'.length)) j
      have hset : setN f [(i, o')] xs' = f.setKids (f.kids.set i (rowi.take o' ++ xs' ++ rowi.drop (o' + xs'.length))) := by simp only [setN, hki]
      rw [hset, hks] at hk'
      by_cases hji : j = i
      · subst hji
        rw [hki] at hk
        obtain rfl := Option.some.inj hk
        rw [if_pos rfl] at hk'
        obtain rfl := Option.some.inj hk'
        simp only [hits, decide_true, Bool.and_true, Bool.and_eq_false_iff, decide_eq_false_iff_not] at hnot
        have hu : u < rowi.length := by
          rcases Nat.lt_or_ge u rowi.length with h1 | h1
          · exact h1
          · rw [List.getElem?_eq_none h1] at hro; cases hro
        have : (rowi.take o' ++ xs' ++ rowi.drop (o' + xs'.length))[u]? = rowi[u]? := by
          rcases hnot with hh | hh
          · rw [List.append_assoc, List.getElem?_append_left (by simp; omega), List.getElem?_take_of_lt (by omega)]
          · rw [List.getElem?_append_right (by simp; omega), List.getElem?_drop]
            congr 1
            simp
            omega
        rw [this, hro] at hro'
        simpa using hro'.symm
      · rw [if_neg hji, hk] at hk'
        cases hk'
        rw [hro] at hro'
        simpa using hro'.symm
    subst hyx
    have hlenrow : row'.length = row.length := by
      have : locate h' v (setN f [(i, o')] xs') [(j, u)] = some (b0, offOf v + (j * row'.length + u)) := by simp only [locate, hbo, hk']
      rw [h1, hloc1] at this
      simp only [Option.some.injEq, Prod.mk.injEq, true_and] at this
      rcases Nat.eq_zero_or_pos j with hj | hj
      · subst hj
        -- rows of equal index have equal length by construction
        simp only [getN] at hg
        cases hki : f.kids[i]? with
        | none => rw [hki] at hg; cases hg
        | some rowi =>
        rw [hki] at hg
        simp only at hg
        split at hg
        case isFalse => cases hg
        rename_i hlen
        have hks := kids_setKids hki (rowi.take o' ++ xs' ++ rowi.drop (o' + xs'.length)) 0
        have hset : setN f [(i, o')] xs' = f.setKids (f.kids.set i (rowi.take o' ++ xs' ++ rowi.drop (o' + xs'.length))) := by simp only [setN, hki]
        rw [hset, hks] at hk'
        by_cases hji : 0 = i
        · subst hji
          rw [if_pos rfl] at hk'
          rw [hki] at hk
          cases hk; cases hk'
          simp; omega
        · rw [if_neg hji, hk] at hk'
          cases hk'; rfl
      · have : j * row.length = j * row'.length := by omega
        exact (Nat.eq_of_mul_eq_mul_left hj this).symm
    have hbRy : ∀ b1 ∈ Ry, h'[b1]? = h[b1]? := fun b1 m => hR b1 (hsub b1 m) (by
      intro e
      subst e
      have hb0b : b0 = b1 := by
        simp only [locate, hbo] at hloc
        cases hki : f.kids[i]? with
        | none => rw [hki] at hloc; cases hloc
        | some rowi => rw [hki] at hloc; simp only [Option.some.injEq, Prod.mk.injEq] at hloc; exact hloc.1
      subst hb0b
      exact hnin nd m)
    refine ⟨?_, ?_, ?_⟩
    · simp only [locate, hbo, hk, hk', hlenrow, hcell, hcell', hro, hro']
      exact locate_keep hy hbRy
    · refine ⟨y, ?_, fun _ => .inl rfl⟩
      rw [getN_step, hk']
      simp only [hro']
      exact hq
    · intro _ b1 o1 hl1
      simp only [locate, hbo, hk, hcell, hro] at hl1
      have hm : b1 ∈ Ry := by
        have ndy := hnd nd
        obtain ⟨b2, o2, _, _, _, R2, F⟩ := focus hy ndy hq
        have := F.loc
        rw [hl1] at this
        cases this
        exact F.perm.mem_iff.2 (List.mem_append.2 (.inr F.mem))
      exact cellAt_congr (hbRy b1 hm) o1
  | (i, o') :: p2 :: p, v, f, R, xs, r, nd, hg, hloc, hR, (j, u) :: q, y, hq, ht => by
    rw [getN_step] at hg
    cases hki : f.kids[i]? with
    | none => rw [hki] at hg; cases hg
    | some rowi =>
    rw [hki] at hg
    simp only at hg
    cases hroi : rowi[o']? with
    | none => rw [hroi] at hg; cases hg
    | some xi =>
    rw [hroi] at hg
    simp only at hg
    have ho' : o' < rowi.length := by
      rcases Nat.lt_or_ge o' rowi.length with h1 | h1
      · exact h1
      · rw [List.getElem?_eq_none h1] at hroi; cases hroi
    obtain ⟨b0, c0, T0, vi, Ri, hbo, hbm, hb0, hci, hyi, hsubi, hnini, hndi⟩ := kid_cell r hki hroi
    have hcelli : cellAt h b0 (offOf v + (i * rowi.length + o')) = some vi := by unfold cellAt; rw [hb0]; exact hci
    have hloci : locate h vi xi (p2 :: p) = some (b, o) := by
      simp only [locate, hbo, hki, hcelli, hroi] at hloc
      exact hloc
    have hbin : b ∈ Ri := by
      obtain ⟨b2, o2, _, _, _, R2, F⟩ := focus hyi (hndi nd) hg
      have := F.loc
      rw [hloci] at this
      cases this
      exact F.perm.mem_iff.2 (List.mem_append.2 (.inr F.mem))
    have hb0b : b0 ≠ b := fun e => hnini nd (e ▸ hbin)
    have hkeep0 : h'[b0]? = h[b0]? := hR b0 hbm hb0b
    have hset : setN f ((i, o') :: p2 :: p) xs' = f.setKids (f.kids.set i (rowi.set o' (setN xi (p2 :: p) xs'))) := by simp only [setN, hki, hroi]
    have hks := fun j => kids_setKids hki (rowi.set o' (setN xi (p2 :: p) xs')) j
    have hrow : ∃ row row' x x', f.kids[j]? = some row ∧ row[u]? = some x ∧ (setN f ((i, o') :: p2 :: p) xs').kids[j]? = some row' ∧ row'[u]? = some x' ∧ row'.length = row.length ∧
        ((j = i ∧ u = o' ∧ x = xi ∧ x' = setN xi (p2 :: p) xs') ∨ (¬ (j = i ∧ u = o') ∧ x' = x)) := by
      have : ∃ row x, f.kids[j]? = some row ∧ row[u]? = some x := by
        cases q with
        | nil => obtain ⟨row, hk, hro⟩ := getN_row.1 hq; exact ⟨row, y, hk, hro⟩
        | cons q2 q =>
          rw [getN_step] at hq
          cases hk : f.kids[j]? with
          | none => rw [hk] at hq; cases hq
          | some row =>
          rw [hk] at hq
          simp only at hq
          cases hro : row[u]? with
          | none => rw [hro] at hq; cases hq
          | some x => exact ⟨row, x, rfl, hro⟩
      obtain ⟨row, x, hk, hro⟩ := this
      by_cases hji : j = i
      · subst hji
        rw [hki] at hk
        cases hk
        by_cases huo : u = o'
        · subst huo
          rw [hroi] at hro
          cases hro
          exact ⟨rowi, _, _, _, hki, hroi, by rw [hset, hks, if_pos rfl], by rw [List.getElem?_set_self ho'], by simp, .inl ⟨rfl, rfl, rfl, rfl⟩⟩
        · exact ⟨rowi, _, _, _, hki, hro, by rw [hset, hks, if_pos rfl], by rw [List.getElem?_set_ne (fun e => huo e.symm)]; exact hro, by simp, .inr ⟨fun e => huo e.2, rfl⟩⟩
      · exact ⟨row, row, x, x, hk, hro, by rw [hset, hks, if_neg hji]; exact hk, hro, rfl, .inr ⟨fun e => hji e.1, rfl⟩⟩
    obtain ⟨row, row', x, x', hk, hro, hk', hro', hlen, hcase⟩ := hrow
    obtain ⟨b00, c00, T00, vx, Ry, hbo2, _, hb00, hcx, hy, hsub, hnin, hnd⟩ := kid_cell r hk hro
    rw [hbo] at hbo2
    cases hbo2
    rw [hb0] at hb00
    cases hb00
    have hcell : cellAt h b0 (offOf v + (j * row.length + u)) = some vx := by unfold cellAt; rw [hb0]; exact hcx
    have hcell' : cellAt h' b0 (offOf v + (j * row.length + u)) = some vx := by rw [cellAt_congr hkeep0]; exact hcell
    cases q with
    | nil =>
      obtain ⟨row2, hk2, hro2⟩ := getN_row.1 hq
      rw [hk] at hk2; cases hk2
      rw [hro] at hro2; cases hro2
      refine ⟨?_, ⟨x', getN_row.2 ⟨row', hk', hro'⟩, fun _ => ?_⟩, ?_⟩
      · simp only [locate, hbo, hk, hk', hlen]
      · rcases hcase with ⟨_, _, rfl, rfl⟩ | ⟨_, rfl⟩
        · exact setN_like _ _ _
        · exact .inl rfl
      · intro _ b1 o1 hl1
        simp only [locate, hbo, hk, Option.some.injEq, Prod.mk.injEq] at hl1
        obtain ⟨rfl, rfl⟩ := hl1
        exact cellAt_congr hkeep0 _
    | cons q2 q =>
      have hq' : getN x (q2 :: q) 1 = some [y] := by
        rw [getN_step, hk] at hq
        simp only [hro] at hq
        exact hq
      rcases hcase with ⟨rfl, rfl, rfl, rfl⟩ | ⟨hne, rfl⟩
      · rw [hki] at hk; cases hk
        rw [hroi] at hro; cases hro
        rw [hcelli] at hcell; cases hcell
        have ht' : thru (q2 :: q) (p2 :: p) n = false := by
          rw [thru_cons] at ht; exact ht
        obtain ⟨i1, ⟨y', i2, i3⟩, i4⟩ := path_set hb hb' hc' hl hf hxl hyi (hndi nd) hg hloci (fun b1 m e => hR b1 (hsubi b1 m) e) hq' ht'
        refine ⟨?_, ⟨y', ?_, fun hh => i3 ?_⟩, ?_⟩
        · simp only [locate, hbo, hki, hk', hlen, hcell', hcelli, hroi, hro']
          exact i1
        · rw [getN_step, hk']
          simp only [hro']
          exact i2
        · rw [hits_cons] at hh; exact hh
        · intro hh b1 o1 hl1
          refine i4 ?_ b1 o1 ?_
          · rw [hits_cons] at hh; exact hh
          · simp only [locate, hbo, hki, hcelli, hroi] at hl1
            exact hl1
      · have hbRy : ∀ b1 ∈ Ry, h'[b1]? = h[b1]? := fun b1 m => by
          refine hR b1 (hsub b1 m) fun e => ?_
          subst e
          -- two cells of one block own nothing in common
          exact path_apart r nd hk hro hki hroi hne hbo hb0 hcx hci hy hyi m hbin
        refine ⟨?_, ⟨y, ?_, fun _ => .inl rfl⟩, ?_⟩
        · simp only [locate, hbo, hk, hk', hlen, hcell, hcell', hro, hro']
          exact locate_keep hy hbRy
        · rw [getN_step, hk']
          simp only [hro']
          exact hq'
        · intro _ b1 o1 hl1
          simp only [locate, hbo, hk, hcell, hro] at hl1
          have hm : b1 ∈ Ry := by
            obtain ⟨b2, o2, _, _, _, R2, F⟩ := focus hy (hnd nd) hq'
            have := F.loc
            rw [hl1] at this
            cases this
            exact F.perm.mem_iff.2 (List.mem_append.2 (.inr F.mem))
          exact cellAt_congr (hbRy b1 hm) o1
termination_by p _ _ _ _ _ _ _ _ _ q => (p.length, q.length)
decreasing_by
  · exact Prod.Lex.right _ (by simp)
  · exact Prod.Lex.left _ _ (by simp)
end Go.Fm
set_option linter.unusedVariables false
set_option linter.unusedSimpArgs false
namespace Go.Fm
open Go
def X0 : Nat := 1000000
def valOf (a : Act) (xv : Nat → Value) (t : Nat) : Value := if t < X0 then a.tmps.getD t undef else xv t
structure Rel (N : Nat) (xv : Nat → Value) (E : Env) (a : Act) (w : World) (S : Nat → Prop) (R : List Nat) : Prop where
  env : REnv w.heap S (valOf a xv) E E R
  sorted : E.Sorted
  nodup : R.Nodup
  sep : ∀ b, S b → b < w.heap.size ∧ b ∉ R
  size : a.tmps.size = N
  small : N ≤ X0
  nodef : a.defers = []
structure Ext (w0 : World) (S0 : Nat → Prop) (R0 : List Nat) (w : World) (S : Nat → Prop) (R : List Nat) : Prop where
  seals : ∀ b, S0 b → S b
  news : ∀ b, S b → S0 b ∨ b ∈ R0 ∨ w0.heap.size ≤ b
  keep : ∀ b, b < w0.heap.size → b ∉ R0 → w.heap[b]? = w0.heap[b]?
  grow : w0.heap.size ≤ w.heap.size
  owns : ∀ b ∈ R, b ∈ R0 ∨ w0.heap.size ≤ b
  os : w.os = w0.os
  tape : w.tape = w0.tape
  output : w.output = w0.output
  spare : Addr → True → True
theorem Ext.refl (w : World) (S : Nat → Prop) (R : List Nat) (R' : List Nat) (h : ∀ b ∈ R', b ∈ R) : Ext w S R w S R' :=
  ⟨fun _ h => h, fun _ h => .inl h, fun _ _ _ => rfl, Nat.le_refl _, fun b m => .inl (h b m), rfl, rfl, rfl, fun _ h => h⟩
theorem Ext.trans {w0 S0 R0 w1 S1 R1 w2 S2 R2} (h : Ext w0 S0 R0 w1 S1 R1) (k : Ext w1 S1 R1 w2 S2 R2) : Ext w0 S0 R0 w2 S2 R2 where
  seals b hb := k.seals b (h.seals b hb)
  news b hb := by
    rcases k.news b hb with h1 | h1 | h1
    · exact h.news b h1
    · rcases h.owns b h1 with h2 | h2
      · exact .inr (.inl h2)
      · exact .inr (.inr h2)
    · exact .inr (.inr (Nat.le_trans h.grow h1))
  keep b hb hn := by
    have h1 := h.keep b hb hn
    rw [← h1]
    refine k.keep b (Nat.lt_of_lt_of_le hb h.grow) fun m => ?_
    rcases h.owns b m with h2 | h2
    · exact hn h2
    · omega
  grow := Nat.le_trans h.grow k.grow
  owns b hb := by
    rcases k.owns b hb with h1 | h1
    · exact h.owns b h1
    · exact .inr (Nat.le_trans h.grow h1)
  os := k.os.trans h.os
  tape := k.tape.trans h.tape
  output := k.output.trans h.output
  spare x hx := k.spare x (h.spare x hx)
section
variable {N : Nat} {xv : Nat → Value} {E : Env} {a : Act} {w : World} {S : Nat → Prop} {R : List Nat}
theorem owned_of_kids {f : FV} {i : Nat} {row : List FV} (h : f.kids[i]? = some row) : f.owned = true := by
  cases f <;> first | rfl | simp [FV.kids] at h
theorem owned_of_getN {f : FV} {p : Path} {n : Nat} {xs : List FV} (h : getN f p n = some xs) : f.owned = true := by
  cases p with
  | nil => simp [getN] at h
  | cons x p =>
    obtain ⟨i, o⟩ := x
    cases hk : f.kids[i]? with
    | none => simp only [getN, hk] at h; cases h
    | some row => exact owned_of_kids hk
theorem hdrAt_owned {h : Array Obj} {val : Nat → Value} {r : Nat} {p : Path} {v : Value} (e : hdrAt h val E r p = some v) : (E.get r).owned = true := by
  cases p with
  | nil =>
    simp only [hdrAt] at e
    cases hg : E.get r <;> rw [hg] at e <;> simp only [FV.isSl] at e <;> first | rfl | (cases e; done)
  | cons q p =>
    simp only [hdrAt] at e
    cases hg : getN (E.get r) (q :: p) 1 with
    | none => rw [hg] at e; cases e
    | some xs => exact owned_of_getN hg
theorem ptrAt_owned {h : Array Obj} {val : Nat → Value} {r : Nat} {p : Path} {v : Value} (e : ptrAt h val E r p = some v) : (E.get r).owned = true := by
  simp only [ptrAt] at e
  cases hg : getN (E.get r) p 1 with
  | none => rw [hg] at e; cases e
  | some xs => exact owned_of_getN hg
theorem hdrAt_congr {h : Array Obj} {val val' : Nat → Value} {E' : Env} {r : Nat} (p : Path) (h1 : E'.get r = E.get r) (h2 : val' r = val r) : hdrAt h val' E' r p = hdrAt h val E r p := by
  cases p <;> simp only [hdrAt, h1, h2]
theorem ptrAt_congr {h : Array Obj} {val val' : Nat → Value} {E' : Env} {r : Nat} (p : Path) (h1 : E'.get r = E.get r) (h2 : val' r = val r) : ptrAt h val' E' r p = ptrAt h val E r p := by
  simp only [ptrAt, h1, h2]
theorem aggAt_owned {h : Array Obj} {val : Nat → Value} {r : Nat} {n : AK} {p : Path} {v : Value} (e : aggAt h val E r p n = some v) : (E.get r).owned = true := by
  cases n with
  | agg n =>
    simp only [aggAt] at e
    cases hg : getN (E.get r) p n with
    | none => rw [hg] at e; cases e
    | some xs => exact owned_of_getN hg
  | sub lo n sz =>
    simp only [aggAt] at e
    cases hg : hdrAt h val E r p with
    | none => rw [hg] at e; cases e
    | some u => exact hdrAt_owned hg
theorem aggAt_congr {h : Array Obj} {val val' : Nat → Value} {E' : Env} {r : Nat} (p : Path) (n : AK) (h1 : E'.get r = E.get r) (h2 : val' r = val r) : aggAt h val' E' r p n = aggAt h val E r p n := by
  cases n with
  | agg n => simp only [aggAt, h1, h2]
  | sub lo n sz => simp only [aggAt, h1, hdrAt_congr p h1 h2]
theorem aggAt_sub {h h' : Array Obj} {val val' : Nat → Value} {E' : Env} {r lo n sz : Nat} {p : Path} {v : Value} (hh : ∀ u, hdrAt h val E r p = some u → hdrAt h' val' E' r p = some u) (h1 : E'.get r = E.get r) (e : aggAt h val E r p (.sub lo n sz) = some v) : aggAt h' val' E' r p (.sub lo n sz) = some v := by
  simp only [aggAt] at e ⊢
  cases hg : hdrAt h val E r p with
  | none => rw [hg] at e; cases e
  | some u => rw [hg] at e; rw [hh u hg, h1]; exact e
theorem cloAt_owned {val : Nat → Value} {f : FuncId} {rs : List Nat} {v : Value} (e : cloAt val E f rs = some v) : ∀ r ∈ rs, (E.get r).owned = true := by
  unfold cloAt at e
  split at e
  · rename_i h
    intro r m
    have := List.all_eq_true.1 h r m
    cases hg : E.get r <;> rw [hg] at this <;> first | rfl | cases this
  · cases e
theorem cloAt_congr {val val' : Nat → Value} {E' : Env} {f : FuncId} (rs : List Nat) (h1 : ∀ r ∈ rs, (E'.get r).isBox = (E.get r).isBox) (h2 : ∀ r ∈ rs, val' r = val r) : cloAt val' E' f rs = cloAt val E f rs := by
  unfold cloAt
  have e1 : (rs.all fun r => (E'.get r).isBox) = rs.all fun r => (E.get r).isBox := by
    rw [Bool.eq_iff_iff, List.all_eq_true, List.all_eq_true]
    exact ⟨fun h r m => (h1 r m) ▸ h r m, fun h r m => (h1 r m).symm ▸ h r m⟩
  have e2 : rs.map val' = rs.map val := List.map_congr_left h2
  rw [e1, e2]
theorem Rel.get (r : Rel N xv E a w S R) (t : Nat) (hal : (E.get t).alias = false) :
    ∃ R1 R2, Rep w.heap S [valOf a xv t] [E.get t] R1 ∧ R.Perm (R1 ++ R2) := by
  obtain ⟨R1, R2, _, h2, h3, _⟩ := r.env.del t
  exact ⟨R1, R2, h3 hal, h2⟩
theorem Rel.get0 (r : Rel N xv E a w S R) (t : Nat) {f : FV} (hg : E.get t = f) (hal : f.alias = false) :
    ∃ R1 R2, Rep w.heap S [valOf a xv t] [f] R1 ∧ R.Perm (R1 ++ R2) := by subst hg; exact r.get t hal
theorem REnv.mem_al {h : Array Obj} {val : Nat → Value} {env R} (r : REnv h S val E env R) : (∀ t q p, (t, FV.al q p) ∈ env → hdrAt h val E q p = some (val t)) ∧ (∀ t q p, (t, FV.ptr q p) ∈ env → ptrAt h val E q p = some (val t)) ∧
    (∀ t f rs, (t, FV.clo f rs) ∈ env → cloAt val E f rs = some (val t)) ∧ (∀ t q lo n sz, (t, FV.als q lo n sz) ∈ env → SubOf (val q) (E.get q) lo n sz (val t)) ∧ (∀ t q p n, (t, FV.alg q p n) ∈ env → aggAt h val E q p n = some (val t)) := by
  induction r with
  | nil => simp
  | @own t f env R1 R r1 _ ih =>
    have hna := r1.noalias f (by simp)
    refine ⟨fun t q p m => ?_, fun t q p m => ?_, fun t g rs m => ?_, fun t q lo n sz m => ?_, fun t q p n m => ?_⟩ <;> rcases List.mem_cons.1 m with e | m
    · cases e; cases hna
    · exact ih.1 t q p m
    · cases e; cases hna
    · exact ih.2.1 t q p m
    · cases e; cases hna
    · exact ih.2.2.1 t g rs m
    · cases e; cases hna
    · exact ih.2.2.2.1 t q lo n sz m
    · cases e; cases hna
    · exact ih.2.2.2.2 t q p n m
  | @al t q p env R r1 _ ih =>
    refine ⟨fun t q p m => ?_, fun t q p m => ?_, fun t g rs m => ?_, fun t q lo n sz m => ?_, fun t q p n m => ?_⟩ <;> rcases List.mem_cons.1 m with e | m
    · cases e; exact r1
    · exact ih.1 t q p m
    · cases e
    · exact ih.2.1 t q p m
    · cases e
    · exact ih.2.2.1 t g rs m
    · cases e
    · exact ih.2.2.2.1 t q lo n sz m
    · cases e
    · exact ih.2.2.2.2 t q p n m
  | @ptr t q p env R r1 _ ih =>
    refine ⟨fun t q p m => ?_, fun t q p m => ?_, fun t g rs m => ?_, fun t q lo n sz m => ?_, fun t q p n m => ?_⟩ <;> rcases List.mem_cons.1 m with e | m
    · cases e
    · exact ih.1 t q p m
    · cases e; exact r1
    · exact ih.2.1 t q p m
    · cases e
    · exact ih.2.2.1 t g rs m
    · cases e
    · exact ih.2.2.2.1 t q lo n sz m
    · cases e
    · exact ih.2.2.2.2 t q p n m
  | @clo t f rs env R r1 _ ih =>
    refine ⟨fun t q p m => ?_, fun t q p m => ?_, fun t g rs m => ?_, fun t q lo n sz m => ?_, fun t q p n m => ?_⟩ <;> rcases List.mem_cons.1 m with e | m
    · cases e
    · exact ih.1 t q p m
    · cases e
    · exact ih.2.1 t q p m
    · cases e; exact r1
    · exact ih.2.2.1 t g rs m
    · cases e
    · exact ih.2.2.2.1 t q lo n sz m
    · cases e
    · exact ih.2.2.2.2 t q p n m
  | @als t q lo n sz env R r1 _ ih =>
    refine ⟨fun t q p m => ?_, fun t q p m => ?_, fun t g rs m => ?_, fun t q lo n sz m => ?_, fun t q p n m => ?_⟩ <;> rcases List.mem_cons.1 m with e | m
    · cases e
    · exact ih.1 t q p m
    · cases e
    · exact ih.2.1 t q p m
    · cases e
    · exact ih.2.2.1 t g rs m
    · cases e; exact r1
    · exact ih.2.2.2.1 t q lo n sz m
    · cases e
    · exact ih.2.2.2.2 t q p n m
  | @alg t q p n env R r1 _ ih =>
    refine ⟨fun t q p m => ?_, fun t q p m => ?_, fun t g rs m => ?_, fun t q lo n sz m => ?_, fun t q p n m => ?_⟩ <;> rcases List.mem_cons.1 m with e | m
    · cases e
    · exact ih.1 t q p m
    · cases e
    · exact ih.2.1 t q p m
    · cases e
    · exact ih.2.2.1 t g rs m
    · cases e
    · exact ih.2.2.2.1 t q lo n sz m
    · cases e; exact r1
    · exact ih.2.2.2.2 t q p n m
theorem Rel.get_al (r : Rel N xv E a w S R) {t q : Nat} {p : Path} (hg : E.get t = .al q p) : hdrAt w.heap (valOf a xv) E q p = some (valOf a xv t) :=
  r.env.mem_al.1 t q p (hg ▸ Env.get_mem (by rw [hg]; simp))
theorem Rel.get_ptr (r : Rel N xv E a w S R) {t q : Nat} {p : Path} (hg : E.get t = .ptr q p) : ptrAt w.heap (valOf a xv) E q p = some (valOf a xv t) :=
  r.env.mem_al.2.1 t q p (hg ▸ Env.get_mem (by rw [hg]; simp))
theorem Rel.get_clo (r : Rel N xv E a w S R) {t : Nat} {f : FuncId} {rs : List Nat} (hg : E.get t = .clo f rs) : cloAt (valOf a xv) E f rs = some (valOf a xv t) :=
  r.env.mem_al.2.2.1 t f rs (hg ▸ Env.get_mem (by rw [hg]; simp))
theorem Rel.get_als (r : Rel N xv E a w S R) {t q lo n sz : Nat} (hg : E.get t = .als q lo n sz) : SubOf (valOf a xv q) (E.get q) lo n sz (valOf a xv t) :=
  r.env.mem_al.2.2.2.1 t q lo n sz (hg ▸ Env.get_mem (by rw [hg]; simp))
theorem Rel.get_alg (r : Rel N xv E a w S R) {t q : Nat} {n : AK} {p : Path} (hg : E.get t = .alg q p n) : aggAt w.heap (valOf a xv) E q p n = some (valOf a xv t) :=
  r.env.mem_al.2.2.2.2 t q p n (hg ▸ Env.get_mem (by rw [hg]; simp))
def Env.clear (E : Env) (d : Nat) : Env := if (E.get d).owned then E.mapV (unroot d) else E
def Env.upd (E : Env) (d : Nat) (f : FV) : Env := (E.clear d).put d f
theorem unroot_alias (d : Nat) (f : FV) (h : f.alias = false) : unroot d f = f := by cases f <;> first | rfl | cases h
theorem unroot_alias2 (d : Nat) (f : FV) (h : f.alias = true) : unroot d f = f ∨ unroot d f = .undef := by
  cases f <;> simp only [FV.alias] at h <;> first | cases h | skip
  · simp only [unroot]; split; exact .inr rfl; exact .inl rfl
  · simp only [unroot]; split; exact .inr rfl; exact .inl rfl
  · simp only [unroot]; split; exact .inr rfl; exact .inl rfl
  · simp only [unroot]; split; exact .inr rfl; exact .inl rfl
  · simp only [unroot]; split; exact .inr rfl; exact .inl rfl
theorem Env.clear_get (E : Env) (d u : Nat) (h : (E.get u).alias = false) : (E.clear d).get u = E.get u := by
  unfold Env.clear
  split
  · rw [Env.get_mapV _ _ rfl, unroot_alias _ _ h]
  · rfl
theorem Env.clear_sorted (hs : E.Sorted) (d : Nat) : (E.clear d).Sorted := by
  unfold Env.clear; split; exact Env.sorted_mapV hs _; exact hs
theorem Env.clear_mem {h : Array Obj} {val : Nat → Value} (hs : E.Sorted) (r : REnv h S val E E R) (d : Nat) : (∀ t q p, (t, FV.al q p) ∈ E.clear d → q ≠ d ∧ (t, FV.al q p) ∈ E) ∧ (∀ t q p, (t, FV.ptr q p) ∈ E.clear d → q ≠ d ∧ (t, FV.ptr q p) ∈ E) ∧
    (∀ t f rs, (t, FV.clo f rs) ∈ E.clear d → d ∉ rs ∧ (t, FV.clo f rs) ∈ E) ∧ (∀ t q lo n sz, (t, FV.als q lo n sz) ∈ E.clear d → q ≠ d ∧ (t, FV.als q lo n sz) ∈ E) ∧ (∀ t q p n, (t, FV.alg q p n) ∈ E.clear d → q ≠ d ∧ (t, FV.alg q p n) ∈ E) := by
  unfold Env.clear
  split
  · refine ⟨fun t q p m => ?_, fun t q p m => ?_, fun t g rs m => ?_, fun t q lo n sz m => ?_, fun t q p n m => ?_⟩
    · obtain ⟨⟨t', f⟩, hm, e⟩ := List.mem_map.1 m
      simp only [Prod.mk.injEq] at e
      obtain ⟨rfl, e⟩ := e
      cases f <;> simp only [unroot] at e <;> first | cases e | skip
      · split at e <;> cases e
      · rename_i q' p'
        split at e
        · cases e
        · rename_i hne; injection e with e1 e2; subst e1; subst e2; exact ⟨hne, hm⟩
      · split at e <;> cases e
      · split at e <;> cases e
      · split at e <;> cases e
    · obtain ⟨⟨t', f⟩, hm, e⟩ := List.mem_map.1 m
      simp only [Prod.mk.injEq] at e
      obtain ⟨rfl, e⟩ := e
      cases f <;> simp only [unroot] at e <;> first | cases e | skip
      · rename_i q' p'
        split at e
        · cases e
        · rename_i hne; injection e with e1 e2; subst e1; subst e2; exact ⟨hne, hm⟩
      · split at e <;> cases e
      · split at e <;> cases e
      · split at e <;> cases e
      · split at e <;> cases e
    · obtain ⟨⟨t', f⟩, hm, e⟩ := List.mem_map.1 m
      simp only [Prod.mk.injEq] at e
      obtain ⟨rfl, e⟩ := e
      cases f <;> simp only [unroot] at e <;> first | cases e | skip
      · split at e <;> cases e
      · split at e <;> cases e
      · split at e
        · cases e
        · rename_i hne; injection e with e1 e2; subst e1; subst e2; exact ⟨fun m => hne (List.contains_iff_mem.2 m), hm⟩
      · split at e <;> cases e
      · split at e <;> cases e
    · obtain ⟨⟨t', f⟩, hm, e⟩ := List.mem_map.1 m
      simp only [Prod.mk.injEq] at e
      obtain ⟨rfl, e⟩ := e
      cases f <;> simp only [unroot] at e <;> first | cases e | skip
      · split at e <;> cases e
      · split at e <;> cases e
      · split at e <;> cases e
      · split at e
        · cases e
        · rename_i hne; injection e with e1 e2 e3 e4; subst e1; subst e2; subst e3; subst e4; exact ⟨hne, hm⟩
      · split at e <;> cases e
    · obtain ⟨⟨t', f⟩, hm, e⟩ := List.mem_map.1 m
      simp only [Prod.mk.injEq] at e
      obtain ⟨rfl, e⟩ := e
      cases f <;> simp only [unroot] at e <;> first | cases e | skip
      · split at e <;> cases e
      · split at e <;> cases e
      · split at e <;> cases e
      · split at e <;> cases e
      · split at e
        · cases e
        · rename_i hne; injection e with e1 e2 e3; subst e1; subst e2; subst e3; exact ⟨hne, hm⟩
  · rename_i ho
    obtain ⟨h1, h2, h3, h4, h5⟩ := r.mem_al
    refine ⟨fun t q p m => ⟨fun e => ?_, m⟩, fun t q p m => ⟨fun e => ?_, m⟩, fun t g rs m => ⟨fun e => ?_, m⟩, fun t q lo n sz m => ⟨fun e => ?_, m⟩, fun t q p n m => ⟨fun e => ?_, m⟩⟩
    · subst e; exact ho (hdrAt_owned (h1 t q p m))
    · subst e; exact ho (ptrAt_owned (h2 t q p m))
    · exact ho (cloAt_owned (h3 t g rs m) d e)
    · subst e; exact ho (h4 t q lo n sz m).owned
    · subst e; exact ho (aggAt_owned (h5 t q p n m))
theorem valOf_put {d : Nat} {v : Value} (hd : d < N) (hN : N ≤ X0) (hs : a.tmps.size = N) : valOf (a.put (some d) v) xv d = v := by
  unfold valOf Act.put
  rw [if_pos (by omega)]
  simp [Array.getElem?_setIfInBounds, hs, hd]
theorem valOf_put_ne {d t : Nat} {v : Value} (h : t ≠ d) : valOf (a.put (some d) v) xv t = valOf a xv t := by
  unfold valOf Act.put
  split
  · simp only [Array.getD_eq_getD_getElem?]
    rw [Array.getElem?_setIfInBounds_ne (fun e => h e.symm)]
  · rfl
theorem put_size {d : Option Tmp} {v : Value} : (a.put d v).tmps.size = a.tmps.size := by cases d <;> simp [Act.put]
theorem put_defers {d : Option Tmp} {v : Value} : (a.put d v).defers = a.defers := by cases d <;> rfl
theorem Rel.world (r : Rel N xv E a w S R) {w' : World} (hsz : w.heap.size ≤ w'.heap.size) (hs : ∀ b, b < w.heap.size → S b → w'.heap[b]? = w.heap[b]?) (hR : ∀ b ∈ R, w'.heap[b]? = w.heap[b]?) :
    Rel N xv E a w' S R := by
  have key : ∀ q, (E.get q).owned = true → ∃ R1, Rep w.heap S [valOf a xv q] [E.get q] R1 ∧ ∀ b ∈ R1, w'.heap[b]? = w.heap[b]? := fun q ho => by
    obtain ⟨R1, R2, h1, h2⟩ := r.get q (by cases hg : E.get q <;> rw [hg] at ho <;> first | rfl | cases ho)
    exact ⟨R1, h1, fun b m => hR b (h2.mem_iff.2 (by simp [m]))⟩
  have hdr : ∀ q p v, hdrAt w.heap (valOf a xv) E q p = some v → hdrAt w'.heap (valOf a xv) E q p = some v := by
    intro q p v he
    obtain ⟨R1, h1, h2⟩ := key q (hdrAt_owned he)
    rw [← he]
    cases p with
    | nil => rfl
    | cons x p =>
      simp only [hdrAt]
      cases hg : getN (E.get q) (x :: p) 1 with
      | none => rfl
      | some xs =>
        simp only [locate_keep h1 h2]
        have hnd : R1.Nodup := by
          obtain ⟨R1', R2', g1, g2⟩ := r.get q (by have := hdrAt_owned he; cases hg : E.get q <;> rw [hg] at this <;> first | rfl | cases this)
          rw [← h1.uniq g1]
          exact (List.nodup_append.1 (g2.nodup_iff.1 r.nodup)).1
        obtain ⟨b, o, _, _, _, _, F⟩ := focus h1 hnd hg
        simp only [F.loc]
        have : cellAt w'.heap b o = cellAt w.heap b o := cellAt_congr (h2 b (F.perm.mem_iff.2 (by simp [F.mem]))) o
        rw [this]
  refine ⟨r.env.change (fun _ h => h) hsz (fun b h1 h2 => hs b h2 h1) hR (fun _ _ => rfl) (fun _ q p _ he => hdr q p _ he) ?_ (fun _ _ _ _ h => h) (fun _ _ _ _ _ _ h => h) ?_, r.sorted, r.nodup, fun b hb => ⟨by have := (r.sep b hb).1; omega, (r.sep b hb).2⟩, r.size, r.small, r.nodef⟩
  · intro t q p _ he
    obtain ⟨R1, h1, h2⟩ := key q (ptrAt_owned he)
    rw [← he]
    simp only [ptrAt, locate_keep h1 h2]
  · intro t q p k _ he
    cases k with
    | sub lo n sz => exact aggAt_sub (fun u hu => hdr q p u hu) rfl he
    | agg n =>
    obtain ⟨R1, h1, h2⟩ := key q (aggAt_owned he)
    rw [← he]
    simp only [aggAt]
    cases hg : getN (E.get q) p n with
    | none => rfl
    | some xs =>
      simp only [locate_keep h1 h2]
      have hnd : R1.Nodup := by
        obtain ⟨R1', R2', g1, g2⟩ := r.get q (by have := aggAt_owned he; cases hg : E.get q <;> rw [hg] at this <;> first | rfl | cases this)
        rw [← h1.uniq g1]
        exact (List.nodup_append.1 (g2.nodup_iff.1 r.nodup)).1
      obtain ⟨b, o, _, _, _, _, F⟩ := focus h1 hnd hg
      simp only [F.loc]
      rw [cellsAt_congr (h2 b (F.perm.mem_iff.2 (by simp [F.mem]))) o n]
theorem Rel.upd (r : Rel N xv E a w S R) {d : Nat} (hd : d < N) {v : Value} {f : FV} {Rf : List Nat} (hf : Rep w.heap S [v] [f] Rf) (hfr : ∀ b ∈ Rf, b ∉ R ∧ ¬ S b) (hnd : Rf.Nodup) :
    ∃ R', Rel N xv (E.upd d f) (a.put (some d) v) w S R' ∧ ∀ b ∈ R', b ∈ Rf ∨ b ∈ R := by
  have hso := r.sorted
  have hclr := Env.clear_mem hso r.env d
  -- drop the old value
  have e1 : REnv w.heap S (valOf a xv) E (E.clear d) R := by
    unfold Env.clear
    split
    · exact r.env.mapV _ (fun f h => unroot_alias d f h) (fun f h => unroot_alias2 d f h)
    · exact r.env
  obtain ⟨R1, R2, h2, hp, _, _⟩ := e1.del d
  have hsd := Env.sorted_del (Env.clear_sorted hso d) d
  have hgetq : ∀ q, q ≠ d → (E.get q).owned = true → (E.upd d f).get q = E.get q := fun q hq ho => by
    unfold Env.upd
    rw [Env.get_put _ _ _ _ (Env.clear_sorted hso d), if_neg (fun e => hq e.symm), Env.clear_get]
    cases hg : E.get q <;> rw [hg] at ho <;> first | rfl | cases ho
  have h3 : REnv w.heap S (valOf (a.put (some d) v) xv) (E.upd d f) (Env.del (E.clear d) d) R2 := by
    refine h2.change (fun _ h => h) (Nat.le_refl _) (fun _ _ _ => rfl) (fun _ _ => rfl) (fun x hx => valOf_put_ne (hsd.2 x hx).2) ?_ ?_ ?_ ?_ ?_
    · intro t q p hm he
      have := (hclr.1 t q p (hsd.2 _ hm).1).1
      rw [hdrAt_congr p (hgetq q this (hdrAt_owned he)) (valOf_put_ne this), he]
    · intro t q p hm he
      have := (hclr.2.1 t q p (hsd.2 _ hm).1).1
      rw [ptrAt_congr p (hgetq q this (ptrAt_owned he)) (valOf_put_ne this), he]
    · intro t g rs hm he
      have := (hclr.2.2.1 t g rs (hsd.2 _ hm).1).1
      have hne : ∀ q ∈ rs, q ≠ d := fun q m e => this (e ▸ m)
      exact (cloAt_congr rs (fun q m => by rw [hgetq q (hne q m) (cloAt_owned he q m)]) (fun q m => valOf_put_ne (hne q m))).trans he
    · intro t q lo n sz hm he
      have := (hclr.2.2.2.1 t q lo n sz (hsd.2 _ hm).1).1
      rw [hgetq q this he.owned, valOf_put_ne this]; exact he
    · intro t q p n hm he
      have := (hclr.2.2.2.2 t q p n (hsd.2 _ hm).1).1
      rw [aggAt_congr p n (hgetq q this (aggAt_owned he)) (valOf_put_ne this), he]
  obtain ⟨R', h4, h5⟩ := REnv.put (Env.clear_sorted hso d) h3 (t := d) (f := f) (R1 := Rf) (.inl ⟨Rf, by rw [valOf_put hd r.small r.size]; exact hf, rfl⟩)
  have hnd2 : (R1 ++ R2).Nodup := hp.nodup_iff.1 r.nodup
  have hsub : ∀ b ∈ R2, b ∈ R := fun b m => hp.mem_iff.2 (by simp [m])
  refine ⟨R', ⟨h4, Env.sorted_put (Env.clear_sorted hso d) _ _, ?_, ?_, by rw [put_size]; exact r.size, r.small, by rw [put_defers]; exact r.nodef⟩, ?_⟩
  · rw [h5.nodup_iff, List.nodup_append]
    exact ⟨hnd, (List.nodup_append.1 hnd2).2.1, fun x hx y hy e => (hfr x hx).1 (e ▸ hsub y hy)⟩
  · intro b hb
    refine ⟨(r.sep b hb).1, fun m => ?_⟩
    rcases List.mem_append.1 (h5.mem_iff.1 m) with m | m
    · exact (hfr b m).2 hb
    · exact (r.sep b hb).2 (hsub b m)
  · intro b m
    rcases List.mem_append.1 (h5.mem_iff.1 m) with m | m
    · exact .inl m
    · exact .inr (hsub b m)
theorem get_clear_put {d : Nat} {f : FV} (hso : E.Sorted) {q : Nat} (hq : q ≠ d) (ho : (E.get q).owned = true) : (E.upd d f).get q = E.get q := by
  unfold Env.upd
  rw [Env.get_put _ _ _ _ (Env.clear_sorted hso d), if_neg (fun e => hq e.symm), Env.clear_get]
  cases hg : E.get q <;> rw [hg] at ho <;> first | rfl | cases ho
theorem Rel.updA (r : Rel N xv E a w S R) {d : Nat} (hd : d < N) {v : Value} {f : FV} (hf : (∃ q p, q ≠ d ∧ ((f = .al q p ∧ hdrAt w.heap (valOf a xv) E q p = some v) ∨ (f = .ptr q p ∧ ptrAt w.heap (valOf a xv) E q p = some v))) ∨ (∃ g rs, d ∉ rs ∧ f = .clo g rs ∧ cloAt (valOf a xv) E g rs = some v) ∨ (∃ q lo n sz, q ≠ d ∧ f = .als q lo n sz ∧ SubOf (valOf a xv q) (E.get q) lo n sz v) ∨ ∃ q p n, q ≠ d ∧ f = .alg q p n ∧ aggAt w.heap (valOf a xv) E q p n = some v) :
    ∃ R', Rel N xv (E.upd d f) (a.put (some d) v) w S R' ∧ ∀ b ∈ R', b ∈ R := by
  have hso := r.sorted
  have hclr := Env.clear_mem hso r.env d
  have e1 : REnv w.heap S (valOf a xv) E (E.clear d) R := by
    unfold Env.clear
    split
    · exact r.env.mapV _ (fun f h => unroot_alias d f h) (fun f h => unroot_alias2 d f h)
    · exact r.env
  obtain ⟨R1, R2, h2, hp, _, _⟩ := e1.del d
  have hsd := Env.sorted_del (Env.clear_sorted hso d) d
  have h3 : REnv w.heap S (valOf (a.put (some d) v) xv) (E.upd d f) (Env.del (E.clear d) d) R2 := by
    refine h2.change (fun _ h => h) (Nat.le_refl _) (fun _ _ _ => rfl) (fun _ _ => rfl) (fun x hx => valOf_put_ne (hsd.2 x hx).2) ?_ ?_ ?_ ?_ ?_
    · intro t q p hm he
      have := (hclr.1 t q p (hsd.2 _ hm).1).1
      rw [hdrAt_congr p (get_clear_put hso this (hdrAt_owned he)) (valOf_put_ne this), he]
    · intro t q p hm he
      have := (hclr.2.1 t q p (hsd.2 _ hm).1).1
      rw [ptrAt_congr p (get_clear_put hso this (ptrAt_owned he)) (valOf_put_ne this), he]
    · intro t g rs hm he
      have := (hclr.2.2.1 t g rs (hsd.2 _ hm).1).1
      have hne : ∀ q ∈ rs, q ≠ d := fun q m e => this (e ▸ m)
      exact (cloAt_congr rs (fun q m => by rw [get_clear_put hso (hne q m) (cloAt_owned he q m)]) (fun q m => valOf_put_ne (hne q m))).trans he
    · intro t q lo n sz hm he
      have := (hclr.2.2.2.1 t q lo n sz (hsd.2 _ hm).1).1
      rw [get_clear_put hso this he.owned, valOf_put_ne this]; exact he
    · intro t q p n hm he
      have := (hclr.2.2.2.2 t q p n (hsd.2 _ hm).1).1
      rw [aggAt_congr p n (get_clear_put hso this (aggAt_owned he)) (valOf_put_ne this), he]
  have hf' : (∃ R0, Rep w.heap S [valOf (a.put (some d) v) xv d] [f] R0 ∧ ([] : List Nat) = R0) ∨ (([] : List Nat) = [] ∧ ((∃ q p, f = .al q p ∧ hdrAt w.heap (valOf (a.put (some d) v) xv) (E.upd d f) q p = some (valOf (a.put (some d) v) xv d)) ∨
      (∃ q p, f = .ptr q p ∧ ptrAt w.heap (valOf (a.put (some d) v) xv) (E.upd d f) q p = some (valOf (a.put (some d) v) xv d)) ∨ (∃ g rs, f = .clo g rs ∧ cloAt (valOf (a.put (some d) v) xv) (E.upd d f) g rs = some (valOf (a.put (some d) v) xv d)) ∨
      (∃ q lo n sz, f = .als q lo n sz ∧ SubOf (valOf (a.put (some d) v) xv q) ((E.upd d f).get q) lo n sz (valOf (a.put (some d) v) xv d)) ∨ (∃ q p n, f = .alg q p n ∧ aggAt w.heap (valOf (a.put (some d) v) xv) (E.upd d f) q p n = some (valOf (a.put (some d) v) xv d)))) := by
    right
    refine ⟨rfl, ?_⟩
    rw [valOf_put hd r.small r.size]
    obtain ⟨q, p, hq, ⟨rfl, he⟩ | ⟨rfl, he⟩⟩ | ⟨g, rs, hq, rfl, he⟩ | ⟨q, lo, n, sz, hq, rfl, he⟩ | ⟨q, p, n, hq, rfl, he⟩ := hf
    · left; exact ⟨q, p, rfl, by rw [hdrAt_congr p (get_clear_put hso hq (hdrAt_owned he)) (valOf_put_ne hq), he]⟩
    · right; left; exact ⟨q, p, rfl, by rw [ptrAt_congr p (get_clear_put hso hq (ptrAt_owned he)) (valOf_put_ne hq), he]⟩
    · right; right; left
      have hne : ∀ q ∈ rs, q ≠ d := fun q m e => hq (e ▸ m)
      exact ⟨g, rs, rfl, (cloAt_congr rs (fun q m => by rw [get_clear_put hso (hne q m) (cloAt_owned he q m)]) (fun q m => valOf_put_ne (hne q m))).trans he⟩
    · right; right; right; left
      exact ⟨q, lo, n, sz, rfl, by rw [get_clear_put hso hq he.owned, valOf_put_ne hq]; exact he⟩
    · right; right; right; right
      exact ⟨q, p, n, rfl, by rw [aggAt_congr p n (get_clear_put hso hq (aggAt_owned he)) (valOf_put_ne hq)]; exact he⟩
  obtain ⟨R', h4, h5⟩ := REnv.put (Env.clear_sorted hso d) h3 (t := d) (f := f) (R1 := []) hf'
  have hnd2 : (R1 ++ R2).Nodup := hp.nodup_iff.1 r.nodup
  have hsub : ∀ b ∈ R', b ∈ R := fun b m => hp.mem_iff.2 (by have := h5.mem_iff.1 m; simp at this; simp [this])
  refine ⟨R', ⟨h4, Env.sorted_put (Env.clear_sorted hso d) _ _, ?_, fun b hb => ⟨(r.sep b hb).1, fun m => (r.sep b hb).2 (hsub b m)⟩, by rw [put_size]; exact r.size, r.small, by rw [put_defers]; exact r.nodef⟩, hsub⟩
  rw [h5.nodup_iff]
  simpa using (List.nodup_append.1 hnd2).2.1
theorem Rel.swap (r : Rel N xv E a w S R) {d : Nat} (hal : (E.get d).alias = false) :
    ∃ Rf R2, Rep w.heap S [valOf a xv d] [E.get d] Rf ∧ R.Perm (Rf ++ R2) ∧ ∀ {S' : Nat → Prop} {f : FV} {Rg : List Nat}, Rep w.heap S' [valOf a xv d] [f] Rg → (∀ b, S b → S' b) → (∀ b, S' b → b < w.heap.size ∧ b ∉ Rg ∧ b ∉ R2) →
      Rg.Nodup → (∀ b ∈ Rg, b ∉ R2) → ∃ R', Rel N xv (E.upd d f) a w S' R' ∧ R'.Perm (Rg ++ R2) := by
  have hso := r.sorted
  have hclr := Env.clear_mem hso r.env d
  have e1 : REnv w.heap S (valOf a xv) E (E.clear d) R := by
    unfold Env.clear
    split
    · exact r.env.mapV _ (fun f h => unroot_alias d f h) (fun f h => unroot_alias2 d f h)
    · exact r.env
  obtain ⟨R1, R2, h2, hp, h3, _⟩ := e1.del d
  have hsd := Env.sorted_del (Env.clear_sorted hso d) d
  rw [Env.clear_get _ _ _ hal] at h3
  refine ⟨R1, R2, h3 hal, hp, ?_⟩
  intro S' f Rg hg hS hS' hnd hdis
  have h4 : REnv w.heap S' (valOf a xv) (E.upd d f) (Env.del (E.clear d) d) R2 := by
    refine h2.change hS (Nat.le_refl _) (fun _ _ _ => rfl) (fun _ _ => rfl) (fun x hx => rfl) ?_ ?_ ?_ ?_ ?_
    · intro t q p hm he
      have := (hclr.1 t q p (hsd.2 _ hm).1).1
      rw [hdrAt_congr p (get_clear_put hso this (hdrAt_owned he)) rfl, he]
    · intro t q p hm he
      have := (hclr.2.1 t q p (hsd.2 _ hm).1).1
      rw [ptrAt_congr p (get_clear_put hso this (ptrAt_owned he)) rfl, he]
    · intro t g rs hm he
      have := (hclr.2.2.1 t g rs (hsd.2 _ hm).1).1
      have hne : ∀ q ∈ rs, q ≠ d := fun q m e => this (e ▸ m)
      exact (cloAt_congr rs (fun q m => by rw [get_clear_put hso (hne q m) (cloAt_owned he q m)]) (fun q m => rfl)).trans he
    · intro t q lo n sz hm he
      have := (hclr.2.2.2.1 t q lo n sz (hsd.2 _ hm).1).1
      rw [get_clear_put hso this he.owned]; exact he
    · intro t q p n hm he
      have := (hclr.2.2.2.2 t q p n (hsd.2 _ hm).1).1
      rw [aggAt_congr p n (get_clear_put hso this (aggAt_owned he)) rfl, he]
  obtain ⟨R', h5, h6⟩ := REnv.put (Env.clear_sorted hso d) h4 (t := d) (f := f) (R1 := Rg) (.inl ⟨Rg, hg, rfl⟩)
  have hnd2 : (R1 ++ R2).Nodup := hp.nodup_iff.1 r.nodup
  refine ⟨R', ⟨h5, Env.sorted_put (Env.clear_sorted hso d) _ _, ?_, ?_, r.size, r.small, r.nodef⟩, h6⟩
  · rw [h6.nodup_iff, List.nodup_append]
    exact ⟨hnd, (List.nodup_append.1 hnd2).2.1, fun x hx y hy e => hdis x hx (e ▸ hy)⟩
  · intro b hb
    refine ⟨(hS' b hb).1, fun m => ?_⟩
    rcases List.mem_append.1 (h6.mem_iff.1 m) with m | m
    · exact (hS' b hb).2.1 m
    · exact (hS' b hb).2.2 m
theorem thru_hits : ∀ {q p : Path} {n : Nat}, hits q p n = false → thru q p n = false
  | [], p, n, h => by cases p <;> rfl
  | (i, o) :: q, [], n, h => rfl
  | (i, o) :: q, [(i', o')], n, h => by
    simp only [hits, thru] at h ⊢
    cases h1 : decide (o' ≤ o) && decide (o < o' + n) with
    | false => simp
    | true => rw [h1] at h; simp only [Bool.true_and] at h ⊢; simp [h]
  | (i, o) :: q, (i', o') :: p2 :: p, n, h => by
    have e1 : hits ((i, o) :: q) ((i', o') :: p2 :: p) n = (decide (o = o') && (decide (i = i') && hits q (p2 :: p) n)) := rfl
    have e2 : thru ((i, o) :: q) ((i', o') :: p2 :: p) n = (decide (o = o') && (decide (i = i') && thru q (p2 :: p) n)) := rfl
    rw [e1] at h
    rw [e2]
    by_cases h1 : o = o'
    · by_cases h2 : i = i'
      · subst h1; subst h2
        simp only [decide_true, Bool.true_and] at h ⊢
        exact thru_hits h
      · simp [h2]
    · simp [h1]
theorem unpath_alias (d : Nat) (p : Path) (n : Nat) (f : FV) (h : f.alias = false) : unpath d p n f = f := by cases f <;> first | rfl | cases h
theorem unpath_alias2 (d : Nat) (p : Path) (n : Nat) (f : FV) (h : f.alias = true) : unpath d p n f = f ∨ unpath d p n f = .undef := by
  cases f <;> simp only [FV.alias] at h <;> first | cases h | skip
  · simp only [unpath]; split
    · split; exact .inr rfl; exact .inl rfl
    · exact .inl rfl
  · simp only [unpath]; split
    · split; exact .inr rfl; exact .inl rfl
    · exact .inl rfl
  · exact .inl rfl
  · exact .inl rfl
  · simp only [unpath]; split; exact .inr rfl; exact .inl rfl
theorem unpath_mem {d : Nat} {p : Path} {n : Nat} : (∀ t q p', (t, FV.al q p') ∈ E.mapV (unpath d p n) → (t, FV.al q p') ∈ E ∧ (q = d → hits p' p n = false)) ∧
    (∀ t q p', (t, FV.ptr q p') ∈ E.mapV (unpath d p n) → (t, FV.ptr q p') ∈ E ∧ (q = d → thru p' p n = false)) ∧ (∀ t q p' m, (t, FV.alg q p' m) ∈ E.mapV (unpath d p n) → (t, FV.alg q p' m) ∈ E ∧ q ≠ d) := by
  refine ⟨fun t q p' m => ?_, fun t q p' m => ?_, fun t q p' n' m => ?_⟩
  · obtain ⟨⟨t', f⟩, hm, e⟩ := List.mem_map.1 m
    simp only [Prod.mk.injEq] at e
    obtain ⟨rfl, e⟩ := e
    cases f <;> simp only [unpath] at e <;> first | cases e | skip
    · split at e
      · split at e <;> cases e
      · cases e
    · split at e
      · split at e
        · cases e
        · rename_i hne; injection e with e1 e2; subst e1; subst e2; exact ⟨hm, fun _ => by simpa using hne⟩
      · rename_i hne; injection e with e1 e2; subst e1; subst e2; exact ⟨hm, fun e => absurd e hne⟩
    · split at e <;> cases e
  · obtain ⟨⟨t', f⟩, hm, e⟩ := List.mem_map.1 m
    simp only [Prod.mk.injEq] at e
    obtain ⟨rfl, e⟩ := e
    cases f <;> simp only [unpath] at e <;> first | cases e | skip
    · split at e
      · split at e
        · cases e
        · rename_i hne; injection e with e1 e2; subst e1; subst e2; exact ⟨hm, fun _ => by simpa using hne⟩
      · rename_i hne; injection e with e1 e2; subst e1; subst e2; exact ⟨hm, fun e => absurd e hne⟩
    · split at e
      · split at e <;> cases e
      · cases e
    · split at e <;> cases e
  · obtain ⟨⟨t', f⟩, hm, e⟩ := List.mem_map.1 m
    simp only [Prod.mk.injEq] at e
    obtain ⟨rfl, e⟩ := e
    cases f <;> simp only [unpath] at e <;> first | cases e | skip
    · split at e
      · split at e <;> cases e
      · cases e
    · split at e
      · split at e <;> cases e
      · cases e
    · split at e
      · cases e
      · rename_i hne; injection e with e1 e2 e3; subst e1; subst e2; subst e3; exact ⟨hm, hne⟩
def Env.wr (E : Env) (q : Nat) (p : Path) (xs : List FV) : Env := (E.mapV (unpath q p xs.length)).put q (setN (E.get q) p xs)
theorem Rel.tree (r : Rel N xv E a w S R) {q : Nat} {p : Path} {n : Nat} {xs : List FV} (hg : getN (E.get q) p n = some xs) :
    ∃ b o c T Rx R2, locate w.heap (valOf a xv q) (E.get q) p = some (b, o) ∧ w.heap[b]? = some (.cells c T (0, 0)) ∧ o + n ≤ c.size ∧ Rep w.heap S ((c.toList.drop o).take n) xs Rx ∧ R.Perm (Rx ++ R2) ∧ b ∈ R2 ∧
      ∀ {w' : World} {S' : Nat → Prop} {c' : Array Value} {cs' : List Value} {xs' : List FV} {Rx' : List Nat}, cs'.length = n → xs'.length = n → w'.heap[b]? = some (.cells c' T (0, 0)) → c'.toList = c.toList.take o ++ cs' ++ c.toList.drop (o + n) →
        (∀ b' ∈ R2, b' ≠ b → w'.heap[b']? = w.heap[b']?) → (∀ b' ∈ Rx, w'.heap[b']? = w.heap[b']?) → (∀ b, S b → S' b) → w.heap.size ≤ w'.heap.size → (∀ b, S b → b < w.heap.size → w'.heap[b]? = w.heap[b]?) →
        Rep w'.heap S' cs' xs' Rx' → Rx'.Nodup → (∀ b ∈ Rx', b ∉ R2) → (∀ b, S' b → b < w'.heap.size ∧ b ∉ Rx' ∧ b ∉ R2) →
        ∃ R', Rel N xv (E.wr q p xs') a w' S' R' ∧ R'.Perm (Rx' ++ R2) := by
  have hso := r.sorted
  have ho := owned_of_getN hg
  have hal : (E.get q).alias = false := by cases hq : E.get q <;> rw [hq] at ho <;> first | rfl | cases ho
  have e1 : REnv w.heap S (valOf a xv) E (E.mapV (unpath q p n)) R := r.env.mapV _ (fun f h => unpath_alias q p n f h) (fun f h => unpath_alias2 q p n f h)
  obtain ⟨Rq, Rr, hrest, hp, hq0, _⟩ := e1.del q
  have hgq : (E.mapV (unpath q p n)).get q = E.get q := by rw [Env.get_mapV _ _ rfl, unpath_alias _ _ _ _ hal]
  rw [hgq] at hq0
  have hq := hq0 hal
  have hnd : (Rq ++ Rr).Nodup := hp.nodup_iff.1 r.nodup
  have hndq := (List.nodup_append.1 hnd).1
  obtain ⟨b, o, c, T, Rx, Rf, F⟩ := focus hq hndq hg
  have hperm : R.Perm (Rx ++ (Rf ++ Rr)) := by
    refine hp.trans ?_
    rw [← List.append_assoc]
    exact List.Perm.append_right _ F.perm
  refine ⟨b, o, c, T, Rx, Rf ++ Rr, F.loc, F.blk, F.fits, F.rep, hperm, by simp [F.mem], ?_⟩
  intro w' S' c' cs' xs' Rx' hcl hxl hb' hc' hR hRx hS hsz hs hrep hndx hdis hsep
  obtain ⟨R'', hrq, hpq⟩ := F.back hcl hxl hb' hc' (fun b' m e => hR b' (by simp [m]) e) hS hsz hs hrep
  have hbq : b ∈ Rq := F.perm.mem_iff.2 (by simp [F.mem])
  have hbr : b ∉ Rr := fun m => (List.nodup_append.1 hnd).2.2 b hbq b m rfl
  have hRr : ∀ b' ∈ Rr, w'.heap[b']? = w.heap[b']? := fun b' m => hR b' (by simp [m]) (fun e => hbr (e ▸ m))
  have hsd := Env.sorted_del (Env.sorted_mapV hso (unpath q p n)) q
  have hmem := unpath_mem (E := E) (d := q) (p := p) (n := n)
  have hget : ∀ u, u ≠ q → (E.get u).owned = true → (E.wr q p xs').get u = E.get u := fun u hu ho => by
    unfold Env.wr
    rw [Env.get_put _ _ _ _ (Env.sorted_mapV hso _), if_neg (fun e => hu e.symm), Env.get_mapV _ _ rfl, unpath_alias]
    cases hg : E.get u <;> rw [hg] at ho <;> first | rfl | cases ho
  have hgetq : (E.wr q p xs').get q = setN (E.get q) p xs' := by
    unfold Env.wr
    rw [Env.get_put _ _ _ _ (Env.sorted_mapV hso _), if_pos rfl]
  -- the other roots
  have other : ∀ u, u ≠ q → (E.get u).owned = true → ∃ R1, Rep w.heap S [valOf a xv u] [E.get u] R1 ∧ (∀ b' ∈ R1, b' ∈ Rr) ∧ R1.Nodup := fun u hu ho => by
    obtain ⟨Ra, Rb, _, g2, g3, _⟩ := hrest.del u
    have hal' : (E.get u).alias = false := by cases hq : E.get u <;> rw [hq] at ho <;> first | rfl | cases ho
    have : (Env.del (E.mapV (unpath q p n)) q).get u = E.get u := by
      rw [Env.get_del _ _ _ (Env.sorted_mapV hso _), if_neg (fun e => hu e.symm), Env.get_mapV _ _ rfl, unpath_alias _ _ _ _ hal']
    rw [this] at g3
    exact ⟨Ra, g3 hal', fun b' m => g2.mem_iff.2 (by simp [m]), (List.nodup_append.1 (g2.nodup_iff.1 (List.nodup_append.1 hnd).2.1)).1⟩
  have hbox : ∀ u, (E.get u).owned = true → ((E.wr q p xs').get u).isBox = (E.get u).isBox := fun u ho => by
    by_cases hu : u = q
    · subst hu
      rw [hgetq]
      rcases setN_like (E.get u) p xs' with e | ⟨x, y, e1, e2⟩ | ⟨x, y, e1, e2⟩
      · rw [e]
      · rw [e1] at e2 ⊢; rw [e2]; rfl
      · rw [e1] at e2 ⊢; rw [e2]; rfl
    · rw [hget u hu ho]
  have hdrO : ∀ u p' v, u ≠ q → hdrAt w.heap (valOf a xv) E u p' = some v → hdrAt w'.heap (valOf a xv) (E.wr q p xs') u p' = some v := by
    intro u p' v hu he
    obtain ⟨R1, h1, h2, h4⟩ := other u hu (hdrAt_owned he)
    rw [← he]
    cases p' with
    | nil => simp only [hdrAt, hget u hu (hdrAt_owned he)]
    | cons x p' =>
      simp only [hdrAt, hget u hu (hdrAt_owned he)]
      cases hg1 : getN (E.get u) (x :: p') 1 with
      | none => rfl
      | some xs =>
        simp only [locate_keep h1 (fun b' m => hRr b' (h2 b' m))]
        obtain ⟨b1, o1, _, _, _, _, F1⟩ := focus h1 h4 hg1
        simp only [F1.loc]
        rw [show cellAt w'.heap b1 o1 = cellAt w.heap b1 o1 from cellAt_congr (hRr b1 (h2 b1 (F1.perm.mem_iff.2 (by simp [F1.mem])))) o1]
  have h3 : REnv w'.heap S' (valOf a xv) (E.wr q p xs') (Env.del (E.mapV (unpath q p n)) q) Rr := by
    refine hrest.change hS hsz hs hRr (fun _ _ => rfl) ?_ ?_ (fun t g rs _ he => (cloAt_congr rs (fun u m => hbox u (cloAt_owned he u m)) (fun _ _ => rfl)).trans he)
      (fun t u lo n0 sz _ he => by
        by_cases hu : u = q
        · subst hu
          rw [hgetq]
          refine he.shape (setN_shape hg hxl) ?_
          rintro ⟨es, e⟩
          rcases setN_like (E.get u) p xs' with e2 | ⟨x, y, e1, e2⟩ | ⟨x, y, e1, e2⟩
          · exact ⟨es, by rw [e2, e]⟩
          · exact ⟨_, e2⟩
          · rw [e] at e1; cases e1
        · rw [hget u hu he.owned]; exact he) ?_
    · intro t u p' hm he
      have hm2 := hmem.1 t u p' (hsd.2 _ hm).1
      by_cases hu : u = q
      · subst hu
        have hh := hm2.2 rfl
        cases p' with
        | nil =>
          simp only [hdrAt] at he ⊢
          rw [hgetq, (setN_like (E.get u) p xs').isSl]
          exact he
        | cons x p' =>
          simp only [hdrAt] at he ⊢
          cases hg1 : getN (E.get u) (x :: p') 1 with
          | none => rw [hg1] at he; cases he
          | some ys =>
            have hl1 := getN_len hg1
            match ys, hl1 with
            | [y], hly =>
            rw [hg1] at he
            obtain ⟨i1, ⟨y', i2, i3⟩, i4⟩ := path_set F.blk hb' hc' hcl F.fits hxl hq hndq hg F.loc (fun b1 m e => by
              rcases List.mem_append.1 (F.perm.mem_iff.1 m) with m' | m'
              · -- a block of the cells that are replaced: it stands, for nothing but b turns among what was owned
                exact hRx b1 m'
              · exact hR b1 (by simp [m']) e) hg1 (thru_hits hh)
            rw [hgetq, i2, i1]
            have hlike := i3 hh
            simp only at he ⊢
            rw [hlike.isSl]
            cases hs : y.isSl with
            | false => rw [hs] at he; cases he
            | true =>
            rw [hs] at he
            simp only [if_true] at he ⊢
            cases hl : locate w.heap (valOf a xv u) (E.get u) (x :: p') with
            | none => rw [hl] at he; cases he
            | some bo =>
              rw [hl] at he
              simp only at he ⊢
              rw [i4 hh _ _ hl]
              exact he
      · exact hdrO u p' _ hu he
    · intro t u p' hm he
      have hm2 := hmem.2.1 t u p' (hsd.2 _ hm).1
      by_cases hu : u = q
      · subst hu
        have hh := hm2.2 rfl
        simp only [ptrAt] at he ⊢
        cases hg1 : getN (E.get u) p' 1 with
        | none => rw [hg1] at he; cases he
        | some ys =>
          have hl1 := getN_len hg1
          match ys, hl1 with
          | [y], _ =>
          rw [hg1] at he
          obtain ⟨i1, ⟨y', i2, _⟩, _⟩ := path_set F.blk hb' hc' hcl F.fits hxl hq hndq hg F.loc (fun b1 m e => by
              rcases List.mem_append.1 (F.perm.mem_iff.1 m) with m' | m'
              · exact hRx b1 m'
              · exact hR b1 (by simp [m']) e) hg1 hh
          rw [hgetq, i2, i1]
          exact he
      · obtain ⟨R1, h1, h2, _⟩ := other u hu (ptrAt_owned he)
        rw [← he]
        simp only [ptrAt, hget u hu (ptrAt_owned he), locate_keep h1 (fun b' m => hRr b' (h2 b' m))]
    · intro t u p' m' hm he
      have hu := (hmem.2.2 t u p' m' (hsd.2 _ hm).1).2
      cases m' with
      | sub lo n0 sz => exact aggAt_sub (fun v hv => hdrO u p' v hu hv) (hget u hu (aggAt_owned he)) he
      | agg m' =>
      obtain ⟨R1, h1, h2, h4⟩ := other u hu (aggAt_owned he)
      rw [← he]
      simp only [aggAt, hget u hu (aggAt_owned he)]
      cases hg1 : getN (E.get u) p' m' with
      | none => rfl
      | some xs =>
        simp only [locate_keep h1 (fun b' m => hRr b' (h2 b' m))]
        obtain ⟨b1, o1, _, _, _, _, F1⟩ := focus h1 h4 hg1
        simp only [F1.loc]
        rw [cellsAt_congr (hRr b1 (h2 b1 (F1.perm.mem_iff.2 (by simp [F1.mem])))) o1 m']
  obtain ⟨R', h4, h5⟩ := REnv.put (Env.sorted_mapV hso _) h3 (t := q) (f := setN (E.get q) p xs') (R1 := R'') (.inl ⟨R'', hrq, rfl⟩)
  have hpf : R'.Perm (Rx' ++ (Rf ++ Rr)) := by
    refine h5.trans ?_
    rw [← List.append_assoc]
    exact List.Perm.append_right _ hpq
  have hwr : E.wr q p xs' = (E.mapV (unpath q p n)).put q (setN (E.get q) p xs') := by unfold Env.wr; rw [hxl]
  have hndR2 : (Rf ++ Rr).Nodup := by
    have := hperm.nodup_iff.1 r.nodup
    exact (List.nodup_append.1 this).2.1
  refine ⟨R', ⟨by rw [hwr] at h4 ⊢; exact h4, by rw [hwr]; exact Env.sorted_put (Env.sorted_mapV hso _) _ _, ?_, ?_, r.size, r.small, r.nodef⟩, hpf⟩
  · rw [hpf.nodup_iff, List.nodup_append]
    exact ⟨hndx, hndR2, fun x hx y hy e => hdis x hx (e ▸ hy)⟩
  · intro b1 hb1
    refine ⟨(hsep b1 hb1).1, fun m => ?_⟩
    rcases List.mem_append.1 (hpf.mem_iff.1 m) with m | m
    · exact (hsep b1 hb1).2.1 m
    · exact (hsep b1 hb1).2.2 m
end
end Go.Fm
set_option linter.unusedVariables false
set_option linter.unusedSimpArgs false
namespace Go.Fm
open Go
inductive Sr where
  | t (n : Nat)
  | k (v : FV)
  deriving Inhabited
def FV.plain : FV → Bool
  | .undef | .int .. | .bool _ | .str _ | .sl .. | .ref _ | .nilp | .nilf | .nili => true
  | .fn _ cap => cap.isEmpty
  | _ => false
theorem Rep.plain {h S vs fs R} (r : Rep h S vs fs R) (hp : fs.all FV.plain = true) : R = [] := by
  induction r with
  | nil => rfl
  | undef _ ih | int _ ih | bool _ ih | str _ ih | nilp _ ih | nilf _ ih | nili _ ih | slNil _ ih =>
    rw [List.all_cons, Bool.and_eq_true] at hp; exact ih hp.2
  | iface _ _ _ _ | agg _ _ _ _ | tup _ _ _ _ => rw [List.all_cons, Bool.and_eq_true] at hp; cases hp.1
  | fn r1 _ _ i2 =>
    rw [List.all_cons, Bool.and_eq_true] at hp
    have h1 := hp.1
    simp only [FV.plain, List.isEmpty_iff] at h1
    subst h1
    cases r1
    simpa using i2 hp.2
  | sl _ _ _ _ _ _ _ _ _ _ _ _ i2 => rw [List.all_cons, Bool.and_eq_true] at hp; exact i2 hp.2
  | ref _ _ _ _ _ _ i2 => rw [List.all_cons, Bool.and_eq_true] at hp; exact i2 hp.2
  | arrNil _ _ => rw [List.all_cons, Bool.and_eq_true] at hp; cases hp.1
  | bufNil _ _ => rw [List.all_cons, Bool.and_eq_true] at hp; cases hp.1
  | arr _ _ _ _ _ _ _ _ _ _ => rw [List.all_cons, Bool.and_eq_true] at hp; cases hp.1
  | box _ _ _ _ _ => rw [List.all_cons, Bool.and_eq_true] at hp; cases hp.1
  | iter _ _ _ => rw [List.all_cons, Bool.and_eq_true] at hp; cases hp.1
  | buf _ _ _ _ _ => rw [List.all_cons, Bool.and_eq_true] at hp; cases hp.1
def FV.flat : FV → Bool
  | .agg cs => cs.all FV.plain
  | f => f.plain
theorem Rep.flat {h S} : ∀ {fs vs R}, Rep h S vs fs R → fs.all FV.flat = true → R = []
  | [], [], _, r, _ => by cases r; rfl
  | [], _ :: _, _, r, _ => by have := r.length; simp at this
  | _ :: _, [], _, r, _ => by have := r.length; simp at this
  | f :: fs, v :: vs, _, r, hp => by
    rw [List.all_cons, Bool.and_eq_true] at hp
    obtain ⟨h1, h2⟩ := hp
    obtain ⟨Ra, Rb, ra, rb, rfl⟩ := r.cons_inv
    have e2 := Rep.flat rb h2
    subst e2
    have e1 : Ra = [] := by
      cases f with
      | agg cs =>
        cases ra with
        | agg r1 r2 =>
          cases r2
          have := r1.plain h1
          subst this; rfl
      | _ => exact ra.plain (by simpa [FV.flat] using h1)
    subst e1; rfl
def view (n : Nat) : FV → FV
  | .arr _ => .al n []
  | .buf _ => .al n []
  | .box (_ :: _) => .ptr n [(0, 0)]
  | .box [] => .undef
  | .agg cs => if cs.all FV.plain then .agg cs else .undef
  | .tup cs => if cs.all FV.flat then .tup cs else .undef
  | .fn f cap => if cap.all FV.plain then .fn f cap else .undef
  | .iter _ _ => .undef
  | .iface _ _ => .undef
  | f => f
def Env.look (E : Env) : Sr → FV
  | .k v => v
  | .t n => view n (E.get n)
mutual
def constOk : FV → Value → Bool
  | .int k n, .int k' n' => k == k' && n == n'
  | .bool b, .bool b' => b == b'
  | .str s, .string b => b.data.toList == s
  | .arr [], .slice none 0 0 => true
  | .sl _ [], .slice none 0 0 => true
  | .nilp, .pointer none => true
  | .nilf, .nilFunc => true
  | .nili, .nilIface => true
  | .fn f [], .func (.func g) a b => f == g && a.isEmpty && b.isEmpty
  | .agg cs, .agg vs => constOkL cs vs.toList
  | .undef, .tuple a => a.isEmpty
  | _, _ => false
def constOkL : List FV → List Value → Bool
  | [], [] => true
  | f :: fs, v :: vs => constOk f v && constOkL fs vs
  | _, _ => false
end
theorem bytes_eq {b : ByteArray} {s : List UInt8} (h : b.data.toList = s) : b = ⟨s.toArray⟩ := by
  obtain ⟨d⟩ := b
  simp only at h
  subst h
  simp
mutual
theorem constOk_rep (h : Array Obj) (S : Nat → Prop) : ∀ (f : FV) (v : Value), constOk f v = true → Rep h S [v] [f] []
  | f, v, e => by
    unfold constOk at e
    split at e
    · simp only [Bool.and_eq_true, beq_iff_eq] at e; obtain ⟨rfl, rfl⟩ := e; exact .int .nil
    · simp only [beq_iff_eq] at e; subst e; exact .bool .nil
    · simp only [beq_iff_eq] at e; rw [bytes_eq e]; exact .str .nil
    · exact .arrNil .nil
    · exact .slNil .nil
    · exact .nilp .nil
    · exact .nilf .nil
    · exact .nili .nil
    · rename_i f g a b
      simp only [Bool.and_eq_true, beq_iff_eq, Array.isEmpty_iff] at e
      obtain ⟨⟨rfl, rfl⟩, rfl⟩ := e
      exact .fn (R1 := []) .nil .nil
    · rename_i cs vs
      have := constOkL_rep h S cs vs.toList e
      have h2 := Rep.agg this .nil
      simpa using h2
    · exact .undef .nil
    · cases e
theorem constOkL_rep (h : Array Obj) (S : Nat → Prop) : ∀ (fs : List FV) (vs : List Value), constOkL fs vs = true → Rep h S vs fs []
  | [], [], _ => .nil
  | [], _ :: _, e => by simp [constOkL] at e
  | _ :: _, [], e => by simp [constOkL] at e
  | f :: fs, v :: vs, e => by
    simp only [constOkL, Bool.and_eq_true] at e
    exact (constOk_rep h S f v e.1).append (constOkL_rep h S fs vs e.2)
end
def Sr.fits (N : Nat) : Sr → Operand → Bool
  | .t n, .tmp m => n == m && decide (n < N)
  | .k v, .const c => constOk v c
  | .k (.fn f []), .func g => f == g
  | _, _ => false
section
variable {N : Nat} {xv : Nat → Value} {E : Env} {a : Act} {w : World} {S : Nat → Prop} {R : List Nat}
theorem eval_val (h : N ≤ X0) {n : Nat} (hn : n < N) : valOf a xv n = a.eval (.tmp n) := by
  unfold valOf Act.eval
  rw [if_pos (by omega)]
inductive Looked (N : Nat) (xv : Nat → Value) (E : Env) (a : Act) (w : World) (S : Nat → Prop) (v : Value) : FV → Prop
  | closed {f} : Rep w.heap S [v] [f] [] → Looked N xv E a w S v f
  | al {r p} : hdrAt w.heap (valOf a xv) E r p = some v → Looked N xv E a w S v (.al r p)
  | ptr {r p} : ptrAt w.heap (valOf a xv) E r p = some v → Looked N xv E a w S v (.ptr r p)
  | clo {f rs} : cloAt (valOf a xv) E f rs = some v → Looked N xv E a w S v (.clo f rs)
  | als {q lo n sz} : SubOf (valOf a xv q) (E.get q) lo n sz v → Looked N xv E a w S v (.als q lo n sz)
  | alg {q p n} : aggAt w.heap (valOf a xv) E q p n = some v → Looked N xv E a w S v (.alg q p n)
theorem looked (r : Rel N xv E a w S R) {s : Sr} {x : Operand} (hs : s.fits N x = true) : Looked N xv E a w S (a.eval x) (E.look s) := by
  cases s with
  | k v =>
    cases x with
    | const c => exact .closed (constOk_rep _ _ _ _ hs)
    | func g =>
      cases v <;> try (simp [Sr.fits] at hs; done)
      rename_i f cap
      cases cap <;> simp [Sr.fits] at hs
      subst hs
      exact .closed (.fn (R1 := []) .nil .nil)
    | _ => simp [Sr.fits] at hs
  | t n =>
    cases x with
    | tmp m =>
      simp only [Sr.fits, Bool.and_eq_true, beq_iff_eq, decide_eq_true_eq] at hs
      obtain ⟨rfl, hn⟩ := hs
      simp only [Env.look]
      rw [← eval_val (xv := xv) r.small hn]
      have undef : Looked N xv E a w S (valOf a xv n) .undef := .closed (.undef .nil)
      have plain : ∀ f, E.get n = f → f.alias = false → f.plain = true → Looked N xv E a w S (valOf a xv n) f := fun f hg ha hp => by
        obtain ⟨R1, _, h1, _⟩ := r.get0 n hg ha
        have := h1.plain (by simp [hp])
        subst this
        exact .closed h1
      cases hg : E.get n with
      | arr es =>
        simp only [view]
        exact .al (by simp only [hdrAt, hg]; rfl)
      | buf st =>
        simp only [view]
        exact .al (by simp only [hdrAt, hg]; rfl)
      | box cs =>
        cases cs with
        | nil => exact undef
        | cons c cs =>
          simp only [view]
          obtain ⟨R1, _, h1, _⟩ := r.get0 n hg rfl
          refine .ptr ?_
          simp only [ptrAt, hg]
          have e1 : getN (.box (c :: cs)) [(0, 0)] 1 = some [c] := by simp [getN, FV.kids]
          rw [e1]
          simp only
          generalize valOf a xv n = v at h1
          cases h1 with
          | box hb hr ht => simp [locate, blockOf, offOf, FV.kids]
      | agg cs =>
        simp only [view]
        split
        · rename_i hp
          obtain ⟨R1, _, h1, _⟩ := r.get0 n hg rfl
          refine .closed ?_
          generalize valOf a xv n = v at h1
          cases h1 with
          | agg r1 r2 =>
            cases r2
            have := r1.plain hp
            subst this
            exact .agg (R1 := []) r1 .nil
        · exact undef
      | tup cs =>
        simp only [view]
        split
        · rename_i hp
          obtain ⟨R1, _, h1, _⟩ := r.get0 n hg rfl
          refine .closed ?_
          generalize valOf a xv n = v at h1
          cases h1 with
          | tup r1 r2 =>
            cases r2
            have := r1.flat hp
            subst this
            exact .tup (R1 := []) r1 .nil
        · exact undef
      | fn f cap =>
        simp only [view]
        split
        · rename_i hp
          obtain ⟨R1, _, h1, _⟩ := r.get0 n hg rfl
          refine .closed ?_
          generalize valOf a xv n = v at h1
          cases h1 with
          | fn r1 r2 =>
            cases r2
            have := r1.plain hp
            subst this
            exact .fn (R1 := []) r1 .nil
        · exact undef
      | iter s pos => exact undef
      | iface t v => exact undef
      | al q p => exact .al (r.get_al hg)
      | ptr q p => exact .ptr (r.get_ptr hg)
      | clo f rs => exact .clo (r.get_clo hg)
      | als q lo n sz => exact .als (r.get_als hg)
      | alg q p n => exact .alg (r.get_alg hg)
      | undef => exact plain _ hg rfl rfl
      | int k m => exact plain _ hg rfl rfl
      | bool b => exact plain _ hg rfl rfl
      | str s => exact plain _ hg rfl rfl
      | sl f es => exact plain _ hg rfl rfl
      | ref cs => exact plain _ hg rfl rfl
      | nilp => exact plain _ hg rfl rfl
      | nilf => exact plain _ hg rfl rfl
      | nili => exact plain _ hg rfl rfl
    | _ => simp [Sr.fits] at hs
theorem Looked.rep {v : Value} {f : FV} (l : Looked N xv E a w S v f) (hp : f.alias = false) : Rep w.heap S [v] [f] [] := by
  cases l with
  | closed h1 => exact h1
  | al _ => cases hp
  | ptr _ => cases hp
  | clo _ => cases hp
  | als _ => cases hp
  | alg _ => cases hp
theorem Looked.int {v : Value} {k : IntKind} {n : Int} (l : Looked N xv E a w S v (.int k n)) : v = .int k n := by
  have := l.rep rfl
  cases this; rfl
theorem Looked.bool {v : Value} {b : Bool} (l : Looked N xv E a w S v (.bool b)) : v = .bool b := by
  have := l.rep rfl
  cases this; rfl
theorem Looked.str {v : Value} {s : List UInt8} (l : Looked N xv E a w S v (.str s)) : v = .string ⟨s.toArray⟩ := by
  have := l.rep rfl
  cases this; rfl
theorem Rel.put_look (r : Rel N xv E a w S R) {d : Nat} (hd : d < N) {v : Value} {f : FV} (l : Looked N xv E a w S v f)
    (hne : (∀ q p, (f = .al q p ∨ f = .ptr q p) → q ≠ d) ∧ (∀ g rs, f = .clo g rs → d ∉ rs) ∧ (∀ q lo n sz, f = .als q lo n sz → q ≠ d) ∧ ∀ q p n, f = .alg q p n → q ≠ d) : ∃ R', Rel N xv (E.upd d f) (a.put (some d) v) w S R' ∧ ∀ b ∈ R', b ∈ R := by
  cases l with
  | closed h1 =>
    obtain ⟨R', h3, h4⟩ := r.upd hd h1 (by simp) (by simp)
    exact ⟨R', h3, fun b m => by rcases h4 b m with h | h; simp at h; exact h⟩
  | @al q p he => exact r.updA hd (.inl ⟨q, p, hne.1 q p (.inl rfl), .inl ⟨rfl, he⟩⟩)
  | @ptr q p he => exact r.updA hd (.inl ⟨q, p, hne.1 q p (.inr rfl), .inr ⟨rfl, he⟩⟩)
  | @clo g rs he => exact r.updA hd (.inr (.inl ⟨g, rs, hne.2.1 g rs rfl, rfl, he⟩))
  | @als q lo n sz he => exact r.updA hd (.inr (.inr (.inl ⟨q, lo, n, sz, hne.2.2.1 q lo n sz rfl, rfl, he⟩)))
  | @alg q p n he => exact r.updA hd (.inr (.inr (.inr ⟨q, p, n, hne.2.2.2 q p n rfl, rfl, he⟩)))
def Env.at (E : Env) (r : Nat) (p : Path) : FV :=
  match p with
  | [] => E.get r
  | _ :: _ => match getN (E.get r) p 1 with
    | some [x] => x
    | _ => .undef
def Env.setAt (E : Env) (r : Nat) (p : Path) (x : FV) : Env :=
  match p with
  | [] => E.upd r x
  | _ :: _ => E.wr r p [x]
def FV.rows : FV → List (List FV)
  | .arr es => es
  | _ => []
def cutFV (f : FV) (lo n sz : Nat) : FV := if n = 0 then .buf sz else .arr ((f.rows.drop lo).take n)
def Env.pass (E : Env) (deep : Bool) : Sr → FV × Env
  | .k v => (v, E)
  | .t n => match E.get n with
    | .al r p => if deep then (E.at r p, E.setAt r p .undef) else ((E.at r p).sealed, E.setAt r p (E.at r p).sealed)
    | .ptr _ _ => (.undef, E)
    | .clo _ _ => (.undef, E)
    | .als q lo n sz => if deep then (cutFV (E.get q) lo n sz, E.upd q .undef) else ((cutFV (E.get q) lo n sz).sealed, E.upd q (E.get q).sealed)
    | .alg _ _ _ => (.undef, E)
    | .iter _ _ => (.undef, E)
    | f => if f.plain then (f, E) else (f, E.upd n .undef)
theorem Rel.alAt (r : Rel N xv E a w S R) {q : Nat} {p : Path} {v : Value} (he : hdrAt w.heap (valOf a xv) E q p = some v) :
    ∃ g Rf R2, E.at q p = g ∧ g.isSl = true ∧ Rep w.heap S [v] [g] Rf ∧ R.Perm (Rf ++ R2) ∧ ∀ {S' : Nat → Prop} {f : FV} {Rg : List Nat}, Rep w.heap S' [v] [f] Rg → (∀ b, S b → S' b) → (∀ b, S' b → b < w.heap.size ∧ b ∉ Rg ∧ b ∉ R2) →
      Rg.Nodup → (∀ b ∈ Rg, b ∉ R2) → ∃ R', Rel N xv (E.setAt q p f) a w S' R' ∧ R'.Perm (Rg ++ R2) := by
  cases p with
  | nil =>
    simp only [hdrAt] at he
    cases hsl : (E.get q).isSl with
    | false => rw [hsl] at he; cases he
    | true =>
    rw [hsl] at he
    simp only [if_true, Option.some.injEq] at he
    subst he
    obtain ⟨Rf, R2, h1, h2, h3⟩ := r.swap (d := q) (by cases hg : E.get q <;> rw [hg] at hsl <;> first | rfl | (cases hsl; done))
    exact ⟨E.get q, Rf, R2, rfl, hsl, h1, h2, fun h4 h5 h6 h7 h8 => h3 h4 h5 h6 h7 h8⟩
  | cons x p =>
    simp only [hdrAt] at he
    cases hg : getN (E.get q) (x :: p) 1 with
    | none => rw [hg] at he; cases he
    | some ys =>
      have hl := getN_len hg
      match ys, hl with
      | [y], hly =>
      rw [hg] at he
      simp only at he
      cases hsl : y.isSl with
      | false => rw [hsl] at he; cases he
      | true =>
      rw [hsl] at he
      simp only [if_true] at he
      obtain ⟨b, o, c, T, Rx, R2, hloc, hb, hf, hr, hp, hbm, back⟩ := r.tree hg
      rw [hloc] at he
      simp only at he
      have hcell : (c.toList.drop o).take 1 = [v] := by
        unfold cellAt at he
        rw [hb] at he
        simp only at he
        have : c.toList[o]? = some v := by simpa using he
        rw [List.drop_eq_getElem_cons (by simp; omega)]
        have h2 : c.toList[o]'(by simp; omega) = v := by
          rw [List.getElem?_eq_getElem (by simp; omega)] at this
          exact Option.some.inj this
        simpa using h2
      rw [hcell] at hr
      refine ⟨y, Rx, R2, by simp only [Env.at, hg], hsl, hr, hp, ?_⟩
      intro S' f Rg h4 h5 h6 h7 h8
      refine back (w' := w) (cs' := [v]) (c' := c) rfl rfl hb ?_ (fun _ _ _ => rfl) (fun _ _ => rfl) h5 (Nat.le_refl _) (fun _ _ _ => rfl) h4 h7 h8 h6
      rw [← hcell]
      rw [List.append_assoc, ← List.drop_drop, List.take_append_drop, List.take_append_drop]
structure Passed (N : Nat) (xv : Nat → Value) (a : Act) (w : World) (S : Nat → Prop) (R : List Nat) (v : Value) (f : FV) (E' : Env) (S' : Nat → Prop) (Rf R' : List Nat) : Prop where
  rep : Rep w.heap S' [v] [f] Rf
  rel : Rel N xv E' a w S' R'
  nodup : Rf.Nodup
  apart : ∀ b ∈ Rf, b ∉ R' ∧ ¬ S' b
  seals : ∀ b, S b → S' b
  news : ∀ b, S' b → S b ∨ b ∈ R
  sub : ∀ b ∈ R', b ∈ R
  subf : ∀ b ∈ Rf, b ∈ R
theorem add_eq' (b o k : Nat) : Addr.add ⟨b, o, none⟩ k = ⟨b, o + k, none⟩ := by
  unfold Addr.add
  split
  · rename_i h; subst h; rfl
  · rfl
theorem flat_drop {α : Type} {st : Nat} : ∀ {es : List (List α)} {l : Nat}, (∀ e ∈ es, e.length = st) → es.flatten.drop (l * st) = (es.drop l).flatten
  | [], l, _ => by simp
  | e :: es, 0, _ => by simp
  | e :: es, l + 1, hall => by
    have he := hall e (by simp)
    simp only [List.flatten_cons, List.drop_succ_cons]
    rw [List.drop_append, List.drop_of_length_le (by rw [he, Nat.add_mul]; omega), List.nil_append, he, show (l + 1) * st - st = l * st by rw [Nat.add_mul]; omega]
    exact flat_drop fun e m => hall e (by simp [m])
theorem flat_take {α : Type} {st : Nat} : ∀ {es : List (List α)} {k : Nat}, (∀ e ∈ es, e.length = st) → es.flatten.take (k * st) = (es.take k).flatten
  | [], k, _ => by simp
  | e :: es, 0, _ => by simp
  | e :: es, k + 1, hall => by
    have he := hall e (by simp)
    simp only [List.flatten_cons, List.take_succ_cons]
    rw [List.take_append, List.take_of_length_le (by rw [he, Nat.add_mul]; omega), he, show (k + 1) * st - st = k * st by rw [Nat.add_mul]; omega]
    rw [flat_take fun e m => hall e (by simp [m])]
theorem Rep.cut {h : Array Obj} {S : Nat → Prop} {v u : Value} {f : FV} {lo n sz : Nat} {Rf : List Nat} (r : Rep h S [v] [f] Rf) (hs : SubOf v f lo n sz u) (nd : Rf.Nodup) :
    ∃ Rc, Rep h S [u] [cutFV f lo n sz] Rc ∧ (∀ b ∈ Rc, b ∈ Rf) ∧ Rc.Nodup := by
  obtain ⟨es, hf, hrow, hle, z, len, cap, rfl, rfl⟩ := hs
  have nil : ∀ z' : Option Addr, n = 0 → Rep h S [.slice z' 0 0] [cutFV f lo 0 sz] [] := fun z' _ => by
    unfold cutFV
    rw [if_pos rfl]
    exact .bufNil .nil
  rcases hf with rfl | ⟨rfl, rfl⟩
  · cases r with
    | arrNil ht =>
      simp only [List.length_nil] at hle
      obtain rfl : lo = 0 := by omega
      obtain rfl : n = 0 := by omega
      exact ⟨[], nil _ rfl, by simp, by simp⟩
    | @arr _ b o n' cap' st c T _ _ R1 R2 hn hst hb hsz hcap hpos hr ht =>
      cases ht
      have hst' : st = sz := by
        cases es with
        | nil => simp at hn; omega
        | cons e es => rw [← hst e (by simp), hrow e (by simp)]
      subst hst'
      by_cases hc : cap = lo
      · obtain rfl : n = 0 := by omega
        rw [if_pos hc, hc, Nat.sub_self]
        exact ⟨[], nil _ rfl, by simp, by simp⟩
      · rw [if_neg hc]
        simp only [Option.map_some, add_eq', List.append_nil] at nd ⊢
        have hsz2 : c.size = o + lo * st + (cap - lo) * st := by
          rw [hsz, Nat.add_assoc, ← Nat.add_mul]; congr 2; omega
        by_cases hn0 : n = 0
        · subst hn0
          refine ⟨[b], ?_, by simp, by simp⟩
          unfold cutFV
          rw [if_pos rfl]
          exact .buf hb hsz2 (by omega) .nil
        · have hlen : ((es.drop lo).take n).length = n := by simp; omega
          obtain ⟨Ra, Rb, _, h2, rfl⟩ := hr.split (lo * st)
          obtain ⟨Rc, Rd, h3, _, rfl⟩ := h2.split (n * st)
          have e1 : (((c.toList.drop o).take (len * st)).drop (lo * st)).take (n * st) = (c.toList.drop (o + lo * st)).take (n * st) := by
            rw [List.drop_take, List.take_take, List.drop_drop]
            congr 1
            have : (lo + n) * st ≤ len * st := Nat.mul_le_mul_right _ (by omega)
            rw [Nat.add_mul] at this
            omega
          have e2 : (es.flatten.drop (lo * st)).take (n * st) = ((es.drop lo).take n).flatten := by
            rw [flat_drop hst, flat_take (fun e m => hst e (List.mem_of_mem_drop m))]
          rw [e1, e2] at h3
          refine ⟨b :: Rc, ?_, ?_, ?_⟩
          · unfold cutFV
            rw [if_neg hn0]
            have := Rep.arr (vs := []) (fs := []) (R := []) hlen (fun e m => hst e (List.mem_of_mem_drop (List.mem_of_mem_take m))) hb hsz2 (show n ≤ cap - lo by omega) (by omega) h3 .nil
            simpa [FV.rows] using this
          · intro b' m
            rcases List.mem_cons.1 m with rfl | m
            · simp
            · simp [m]
          · have nd' := List.nodup_cons.1 nd
            refine List.nodup_cons.2 ⟨fun m => nd'.1 (by simp [m]), ?_⟩
            have := (List.nodup_append.1 nd'.2).2.1
            exact (List.nodup_append.1 this).1
  · simp only [List.length_nil] at hle
    obtain rfl : lo = 0 := by omega
    obtain rfl : n = 0 := by omega
    cases r with
    | bufNil ht => exact ⟨[], nil _ rfl, by simp, by simp⟩
    | @buf b o cap' _ c T _ _ _ hb hsz hpos ht =>
      cases ht
      refine ⟨[b], ?_, by simp, by simp⟩
      unfold cutFV
      rw [if_pos rfl, if_neg (by omega)]
      simp only [Option.map_some, add_eq', Nat.zero_mul, Nat.add_zero, Nat.sub_zero]
      exact .buf hb hsz hpos .nil
theorem passed (r : Rel N xv E a w S R) {s : Sr} {x : Operand} (hs : s.fits N x = true) (deep : Bool) :
    ∃ S' Rf R', Passed N xv a w S R (a.eval x) (E.pass deep s).1 (E.pass deep s).2 S' Rf R' := by
  have triv : ∀ f, Rep w.heap S [a.eval x] [f] [] → Passed N xv a w S R (a.eval x) f E S [] R := fun f h =>
    ⟨h, r, by simp, by simp, fun _ h => h, fun _ h => .inl h, fun _ h => h, by simp⟩
  cases s with
  | k v => exact ⟨S, [], R, triv _ ((looked r hs).rep (by
      cases x with
      | const c => exact (constOk_rep w.heap S _ _ hs).noalias v (by simp)
      | func g => cases v <;> first | rfl | (simp [Sr.fits] at hs; done)
      | _ => simp [Sr.fits] at hs))⟩
  | t n =>
    have hx : x = .tmp n ∧ n < N := by
      cases x <;> simp [Sr.fits] at hs
      exact ⟨by rw [hs.1], hs.2⟩
    obtain ⟨rfl, hn⟩ := hx
    have hval := eval_val (a := a) (xv := xv) r.small hn
    simp only [Env.pass]
    have own : ∀ f, E.get n = f → f.alias = false → ∃ S' Rf R', Passed N xv a w S R (a.eval (.tmp n)) (if f.plain then (f, E) else (f, E.upd n .undef)).1 (if f.plain then (f, E) else (f, E.upd n .undef)).2 S' Rf R' := fun f hg ha => by
      cases hp : f.plain
      · simp only [Bool.false_eq_true, if_false]
        obtain ⟨Rf, R2, h1, h2, h3⟩ := r.swap (d := n) (by rw [hg]; exact ha)
        rw [hg, hval] at h1
        have hnd := h2.nodup_iff.1 r.nodup
        obtain ⟨R', h4, h5⟩ := h3 (S' := S) (f := .undef) (Rg := []) (.undef .nil) (fun _ h => h) (fun b hb => ⟨(r.sep b hb).1, by simp, fun m => (r.sep b hb).2 (h2.mem_iff.2 (by simp [m]))⟩) (by simp) (by simp)
        have hR' : ∀ b, b ∈ R' → b ∈ R2 := fun b m => by simpa using h5.mem_iff.1 m
        exact ⟨S, Rf, R', h1, h4, (List.nodup_append.1 hnd).1, fun b m => ⟨fun m' => (List.nodup_append.1 hnd).2.2 b m b (hR' b m') rfl, fun hb => (r.sep b hb).2 (h2.mem_iff.2 (by simp [m]))⟩, fun _ h => h, fun _ h => .inl h,
          fun b m => h2.mem_iff.2 (by simp [hR' b m]), fun b m => h2.mem_iff.2 (by simp [m])⟩
      · simp only [if_true]
        obtain ⟨R1, _, h1, _⟩ := r.get0 n hg ha
        have := h1.plain (by simp [hp])
        subst this
        rw [hval] at h1
        exact ⟨S, [], R, triv _ h1⟩
    cases hg : E.get n with
    | al q p =>
      have he := r.get_al hg
      rw [hval] at he
      obtain ⟨g, Rf, R2, h1, hsl, h2, h3, h4⟩ := r.alAt he
      have hnd := h3.nodup_iff.1 r.nodup
      cases deep
      · simp only [Bool.false_eq_true, if_false]
        rw [h1]
        have hseal := h2.seal (S' := fun b => S b ∨ b ∈ Rf) (fun _ h => .inl h) (fun _ h => .inr h)
        have hsep : ∀ b, (S b ∨ b ∈ Rf) → b < w.heap.size ∧ b ∉ ([] : List Nat) ∧ b ∉ R2 := fun b hb => by
          rcases hb with hb | hb
          · exact ⟨(r.sep b hb).1, by simp, fun m => (r.sep b hb).2 (h3.mem_iff.2 (by simp [m]))⟩
          · exact ⟨h2.lt b hb, by simp, fun m => (List.nodup_append.1 hnd).2.2 b hb b m rfl⟩
        obtain ⟨R', h5, h6⟩ := h4 (S' := fun b => S b ∨ b ∈ Rf) (f := g.sealed) (Rg := []) hseal (fun _ h => .inl h) hsep (by simp) (by simp)
        exact ⟨fun b => S b ∨ b ∈ Rf, [], R', hseal, h5, by simp, by simp, fun _ h => .inl h, fun b hb => hb.imp id (fun m => h3.mem_iff.2 (by simp [m])), fun b m => h3.mem_iff.2 (by
          have := h6.mem_iff.1 m; simp at this; simp [this]), by simp⟩
      · simp only [if_true]
        rw [h1]
        obtain ⟨R', h5, h6⟩ := h4 (S' := S) (f := .undef) (Rg := []) (.undef .nil) (fun _ h => h) (fun b hb => ⟨(r.sep b hb).1, by simp, fun m => (r.sep b hb).2 (h3.mem_iff.2 (by simp [m]))⟩) (by simp) (by simp)
        have hR' : ∀ b, b ∈ R' → b ∈ R2 := fun b m => by simpa using h6.mem_iff.1 m
        exact ⟨S, Rf, R', h2, h5, (List.nodup_append.1 hnd).1, fun b m => ⟨fun m' => (List.nodup_append.1 hnd).2.2 b m b (hR' b m') rfl, fun hb => (r.sep b hb).2 (h3.mem_iff.2 (by simp [m]))⟩, fun _ h => h, fun _ h => .inl h,
          fun b m => h3.mem_iff.2 (by simp [hR' b m]), fun b m => h3.mem_iff.2 (by simp [m])⟩
    | ptr q p => exact ⟨S, [], R, triv _ (.undef .nil)⟩
    | clo f rs => exact ⟨S, [], R, triv _ (.undef .nil)⟩
    | alg q p m => exact ⟨S, [], R, triv _ (.undef .nil)⟩
    | als q lo m sz =>
      have hsub := r.get_als hg
      rw [hval] at hsub
      obtain ⟨Rf, R2, h2, h3, h4⟩ := r.swap (d := q) (by have := hsub.owned; cases hq : E.get q <;> rw [hq] at this <;> first | rfl | cases this)
      have hnd := h3.nodup_iff.1 r.nodup
      obtain ⟨Rc, c1, c2, c3⟩ := h2.cut hsub (List.nodup_append.1 hnd).1
      cases deep
      · simp only [Bool.false_eq_true, if_false]
        have hseal := h2.seal (S' := fun b => S b ∨ b ∈ Rf) (fun _ h => .inl h) (fun _ h => .inr h)
        have hsep : ∀ b, (S b ∨ b ∈ Rf) → b < w.heap.size ∧ b ∉ ([] : List Nat) ∧ b ∉ R2 := fun b hb => by
          rcases hb with hb | hb
          · exact ⟨(r.sep b hb).1, by simp, fun m => (r.sep b hb).2 (h3.mem_iff.2 (by simp [m]))⟩
          · exact ⟨h2.lt b hb, by simp, fun m => (List.nodup_append.1 hnd).2.2 b hb b m rfl⟩
        obtain ⟨R', h5, h6⟩ := h4 (S' := fun b => S b ∨ b ∈ Rf) (f := (E.get q).sealed) (Rg := []) (by simpa [sealedL] using hseal) (fun _ h => .inl h) hsep (by simp) (by simp)
        have hc := c1.seal (S' := fun b => S b ∨ b ∈ Rf) (fun _ h => .inl h) (fun b m => .inr (c2 b m))
        exact ⟨fun b => S b ∨ b ∈ Rf, [], R', by simpa [sealedL] using hc, h5, by simp, by simp, fun _ h => .inl h, fun b hb => hb.imp id (fun m => h3.mem_iff.2 (by simp [m])), fun b m => h3.mem_iff.2 (by
          have := h6.mem_iff.1 m; simp at this; simp [this]), by simp⟩
      · simp only [if_true]
        obtain ⟨R', h5, h6⟩ := h4 (S' := S) (f := .undef) (Rg := []) (.undef .nil) (fun _ h => h) (fun b hb => ⟨(r.sep b hb).1, by simp, fun m => (r.sep b hb).2 (h3.mem_iff.2 (by simp [m]))⟩) (by simp) (by simp)
        have hR' : ∀ b, b ∈ R' → b ∈ R2 := fun b m => by simpa using h6.mem_iff.1 m
        exact ⟨S, Rc, R', c1, h5, c3, fun b m => ⟨fun m' => (List.nodup_append.1 hnd).2.2 b (c2 b m) b (hR' b m') rfl, fun hb => (r.sep b hb).2 (h3.mem_iff.2 (by simp [c2 b m]))⟩, fun _ h => h, fun _ h => .inl h,
          fun b m => h3.mem_iff.2 (by simp [hR' b m]), fun b m => h3.mem_iff.2 (by simp [c2 b m])⟩
    | iter s pos => exact ⟨S, [], R, triv _ (.undef .nil)⟩
    | _ => exact own _ hg rfl
def Env.passL (E : Env) (deep : Bool) : List Sr → List FV × Env
  | [] => ([], E)
  | s :: ss => ((E.pass deep s).1 :: ((E.pass deep s).2.passL deep ss).1, ((E.pass deep s).2.passL deep ss).2)
structure PassedL (N : Nat) (xv : Nat → Value) (a : Act) (w : World) (S : Nat → Prop) (R : List Nat) (vs : List Value) (fs : List FV) (E' : Env) (S' : Nat → Prop) (Rf R' : List Nat) : Prop where
  rep : Rep w.heap S' vs fs Rf
  rel : Rel N xv E' a w S' R'
  nodup : Rf.Nodup
  apart : ∀ b ∈ Rf, b ∉ R' ∧ ¬ S' b
  seals : ∀ b, S b → S' b
  news : ∀ b, S' b → S b ∨ b ∈ R
  sub : ∀ b ∈ R', b ∈ R
  subf : ∀ b ∈ Rf, b ∈ R
theorem passedL : ∀ {ss : List Sr} {xs : List Operand} {E : Env} {S : Nat → Prop} {R : List Nat} (r : Rel N xv E a w S R) (hs : List.all (ss.zip xs) (fun y => y.1.fits N y.2) = true) (hl : ss.length = xs.length) (deep : Bool),
    ∃ S' Rf R', PassedL N xv a w S R (xs.map a.eval) (E.passL deep ss).1 (E.passL deep ss).2 S' Rf R'
  | [], [], E, S, R, r, _, _, _ => ⟨S, [], R, .nil, r, by simp, by simp, fun _ h => h, fun _ h => .inl h, fun _ h => h, by simp⟩
  | s :: ss, [], E, S, R, r, _, hl, _ => by simp at hl
  | [], x :: xs, E, S, R, r, _, hl, _ => by simp at hl
  | s :: ss, x :: xs, E, S, R, r, hs, hl, deep => by
    simp only [List.zip_cons_cons, List.all_cons, Bool.and_eq_true] at hs
    obtain ⟨S1, Rf1, R1, p1⟩ := passed r hs.1 deep
    obtain ⟨S2, Rf2, R2, p2⟩ := passedL p1.rel hs.2 (by simpa using hl) deep
    refine ⟨S2, Rf1 ++ Rf2, R2, ?_, p2.rel, ?_, ?_, fun b h => p2.seals b (p1.seals b h), ?_, fun b m => p1.sub b (p2.sub b m), ?_⟩
    · simp only [Env.passL, List.map_cons]
      exact (p1.rep.mono p2.seals (Nat.le_refl _) (fun _ _ _ => rfl) (fun _ _ => rfl)).cons p2.rep
    · rw [List.nodup_append]
      exact ⟨p1.nodup, p2.nodup, fun b m b' m' e => (p1.apart b m).1 (e ▸ p2.subf b' m')⟩
    · intro b m
      rcases List.mem_append.1 m with m | m
      · refine ⟨fun m' => (p1.apart b m).1 (p2.sub b m'), fun hb => ?_⟩
        rcases p2.news b hb with h | h
        · exact (p1.apart b m).2 h
        · exact (p1.apart b m).1 h
      · exact p2.apart b m
    · intro b hb
      rcases p2.news b hb with h | h
      · exact p1.news b h
      · exact .inr (p1.sub b h)
    · intro b m
      rcases List.mem_append.1 m with m | m
      · exact p1.subf b m
      · exact p1.sub b (p2.subf b m)
end
end Go.Fm
set_option linter.unusedVariables false
set_option linter.unusedSimpArgs false
namespace Go.Fm
open Go
def Post (N : Nat) (xv : Nat → Value) (K : Env → Prop) (w : World) (S : Nat → Prop) (R : List Nat) (a' : Act) (w' : World) : Prop :=
  ∃ E' S' R', K E' ∧ Rel N xv E' a' w' S' R' ∧ Ext w S R w' S' R'
def OpOk (P : Program) (N : Nat) (o : Oper) (E : Env) (K : Env → Prop) : Prop :=
  ∀ {xv : Nat → Value} {a : Act} {w : World} {S : Nat → Prop} {R : List Nat}, Rel N xv E a w S R → o.wp P a w (Post N xv K w S R) (fun _ _ _ => False)
theorem wp_value {P : Program} {o : Oper} {a : Act} {w w' : World} {v : Value} {K : Act → World → Prop} {Q : Exit → Act → World → Prop} (h : (execOp a.eval o).run P w = .ok (.value v) w')
    (hk : K (a.put o.dst v) w') : o.wp P a w K Q := by
  unfold Oper.wp; rw [h]; exact hk
theorem wp_skip' {P : Program} {o : Oper} {a : Act} {w w' : World} {K : Act → World → Prop} {Q : Exit → Act → World → Prop} (h : (execOp a.eval o).run P w = .ok .skip w')
    (hk : K (a.put o.dst undef) w') : o.wp P a w K Q := by
  unfold Oper.wp; rw [h]; exact hk
def FV.notRoot (d : Nat) : FV → Bool
  | .al r _ | .ptr r _ => r != d
  | .clo _ rs => !rs.contains d
  | .als q _ _ _ => q != d
  | .alg q _ _ => q != d
  | _ => true
theorem notRoot_ne {d : Nat} {f : FV} (h : f.notRoot d = true) : (∀ q p, (f = .al q p ∨ f = .ptr q p) → q ≠ d) ∧ (∀ g rs, f = .clo g rs → d ∉ rs) ∧ (∀ q lo n sz, f = .als q lo n sz → q ≠ d) ∧ ∀ q p n, f = .alg q p n → q ≠ d := by
  refine ⟨fun q p e => ?_, fun g rs e => ?_, fun q lo n sz e => ?_, fun q p n e => ?_⟩
  · rcases e with rfl | rfl <;> simpa [FV.notRoot] using h
  · subst e
    simpa [FV.notRoot] using h
  · subst e
    simpa [FV.notRoot] using h
  · subst e
    simpa [FV.notRoot] using h
section
variable {P : Program} {N : Nat} {o : Oper} {E : Env} {d : Nat}
theorem ok_look {f : FV} (hd : o.dst = some d) (hdN : d < N) (hroot : f.notRoot d = true)
    (h : ∀ {xv : Nat → Value} {a : Act} {w : World} {S : Nat → Prop} {R : List Nat}, Rel N xv E a w S R → ∃ v, (execOp a.eval o).run P w = .ok (.value v) w ∧ Looked N xv E a w S v f) :
    OpOk P N o E (· = E.upd d f) := by
  intro xv a w S R r
  obtain ⟨v, hrun, l⟩ := h r
  refine wp_value hrun ?_
  rw [hd]
  obtain ⟨R', h1, h2⟩ := r.put_look hdN l (notRoot_ne hroot)
  exact ⟨_, S, R', rfl, h1, Ext.refl _ _ _ _ h2⟩
theorem ok_pass {s : Sr} {x : Operand} {deep : Bool} (hd : o.dst = some d) (hdN : d < N) (hs : s.fits N x = true)
    (h : ∀ {a : Act} {w : World}, (execOp a.eval o).run P w = .ok (.value (a.eval x)) w) : OpOk P N o E (· = (E.pass deep s).2.upd d (E.pass deep s).1) := by
  intro xv a w S R r
  refine wp_value h ?_
  rw [hd]
  obtain ⟨S', Rf, R', p⟩ := passed r hs deep
  obtain ⟨R'', h1, h2⟩ := p.rel.upd hdN p.rep p.apart p.nodup
  refine ⟨_, S', R'', rfl, h1, ⟨p.seals, fun b hb => (p.news b hb).imp id .inl, fun _ _ _ => rfl, Nat.le_refl _, fun b m => .inl ?_, rfl, rfl, rfl, fun _ h => h⟩⟩
  rcases h2 b m with h | h
  · exact p.subf b h
  · exact p.sub b h
theorem getElem?_push_lt {α : Type} (h : Array α) (x : α) {b : Nat} (hb : b < h.size) : (h.push x)[b]? = h[b]? := by
  rw [Array.getElem?_push, if_neg (by omega)]
theorem Passed.newCells {xv : Nat → Value} {a : Act} {w : World} {S : Nat → Prop} {R : List Nat} {vs : List Value} {fs : List FV} {E' : Env} {S' : Nat → Prop} {Rf R' : List Nat}
    (p : PassedL N xv a w S R vs fs E' S' Rf R') (hdN : d < N) {c : Array Value} {T : TypeId} {v : Value} {f : FV}
    (hrep : Rep (w.heap.push (.cells c T (0, 0))) S' [v] [f] (w.heap.size :: Rf)) (K : Env → Prop) (hK : K (E'.upd d f)) :
    Post N xv K w S R (a.put (some d) v) { w with heap := w.heap.push (.cells c T (0, 0)) } := by
  have hw : Rel N xv E' a { w with heap := w.heap.push (.cells c T (0, 0)) } S' R' := by
    refine p.rel.world (by simp) (fun b hb _ => getElem?_push_lt _ _ hb) (fun b m => getElem?_push_lt _ _ (p.rel.env.lt b m))
  have hfresh : ∀ b, b ∈ R' → b < w.heap.size := fun b m => p.rel.env.lt b m
  have hlt : ∀ b, b ∈ Rf → b < w.heap.size := p.rep.lt
  obtain ⟨R'', h1, h2⟩ := hw.upd hdN hrep (by
    intro b m
    rcases List.mem_cons.1 m with rfl | m
    · exact ⟨fun m' => by have := hfresh _ m'; omega, fun hb => by have := (p.rel.sep _ hb).1; omega⟩
    · exact p.apart b m) (by
    rw [List.nodup_cons]
    exact ⟨fun m => by have := hlt _ m; omega, p.nodup⟩)
  refine ⟨_, S', R'', hK, h1, ⟨p.seals, fun b hb => (p.news b hb).imp id .inl, fun b hb _ => getElem?_push_lt _ _ hb, by simp, ?_, rfl, rfl, rfl, ?_⟩⟩
  · intro b m
    rcases h2 b m with h | h
    · rcases List.mem_cons.1 h with rfl | h
      · exact .inr (Nat.le_refl _)
      · exact .inl (p.subf b h)
    · exact .inl (p.sub b h)
  · exact fun x hx => hx
theorem passedNil {xv : Nat → Value} {a : Act} {w : World} {S : Nat → Prop} {R : List Nat} (r : Rel N xv E a w S R) {vs : List Value} {fs : List FV} (h : Rep w.heap S vs fs []) : PassedL N xv a w S R vs fs E S [] R :=
  ⟨h, r, by simp, by simp, fun _ h => h, fun _ h => .inl h, fun _ h => h, by simp⟩
def FV.cells : FV → List FV
  | .agg cs => cs
  | f => [f]
theorem Rep.cells {h : Array Obj} {S : Nat → Prop} {v : Value} {f : FV} {R : List Nat} (r : Rep h S [v] [f] R) (hu : f ≠ .undef) : Rep h S v.cells.toList f.cells R := by
  cases r with
  | undef _ => exact absurd rfl hu
  | agg r1 r2 => cases r2; simpa [Value.cells, FV.cells] using r1
  | int r => cases r; exact .int .nil
  | bool r => cases r; exact .bool .nil
  | str r => cases r; exact .str .nil
  | nilp r => cases r; exact .nilp .nil
  | nilf r => cases r; exact .nilf .nil
  | nili r => cases r; exact .nili .nil
  | iface r1 r => cases r; exact .iface r1 .nil
  | tup r1 r => cases r; exact .tup r1 .nil
  | fn r1 r => cases r; exact .fn r1 .nil
  | slNil r => cases r; exact .slNil .nil
  | sl hn hst hS hlt hcs hc hcap hfull hpos hr r => cases r; exact .sl hn hst hS hlt hcs hc hcap hfull hpos hr .nil
  | ref hS hlt hc hr r => cases r; exact .ref hS hlt hc hr .nil
  | arrNil r => cases r; exact .arrNil .nil
  | bufNil r => cases r; exact .bufNil .nil
  | arr hn hst hb hsz hcap hpos hr r => cases r; exact .arr hn hst hb hsz hcap hpos hr .nil
  | box hb hr r => cases r; exact .box hb hr .nil
  | iter hb r => cases r; exact .iter hb .nil
  | buf hb hsz hpos r => cases r; exact .buf hb hsz hpos .nil
theorem run_typeInfo' {t : TypeId} {i : TypeInfo} {w : World} (h : P.info? t = some i) : (typeInfo t).run P w = .ok i w := by
  simp [typeInfo, h]
theorem run_sizeOf' {t : TypeId} {i : TypeInfo} {w : World} (h : P.info? t = some i) : (sizeOf t).run P w = .ok i.size w := by
  simp [sizeOf, run_typeInfo' h]
theorem run_underlying' {t : TypeId} {x : TypeDesc} {w : World} (h : P.underlying t = some x) : (underlying t).run P w = .ok x w := by
  simp [underlying, h]
theorem run_zeroValue' {t : TypeId} {i : TypeInfo} {z : Value} {w : World} (h : P.info? t = some i) (hz : i.zero = some z) : (zeroValue t).run P w = .ok z w := by
  simp [zeroValue, run_typeInfo' h, hz]
def zeroIs (P : Program) (t : TypeId) (cs : List FV) : Bool :=
  match P.info? t with
  | some i => match i.zero with
    | some z => constOkL cs z.cells.toList
    | none => false
  | none => false
def sizeIs (P : Program) (t : TypeId) (n : Nat) : Bool :=
  match P.info? t with
  | some i => i.size == n
  | none => false
def isAggT (P : Program) (t : TypeId) : Option Bool :=
  match P.underlying t with
  | some (.struct _) | some (.array _ _) => some true
  | some _ => some false
  | none => none
theorem run_isAgg' {t : TypeId} {b : Bool} {w : World} (h : isAggT P t = some b) : (isAgg t).run P w = .ok b w := by
  unfold isAggT at h
  unfold isAgg
  cases hu : P.underlying t with
  | none => rw [hu] at h; cases h
  | some x =>
    rw [hu] at h
    simp only [Sem.run_bind, run_underlying' hu, Result.andThen_ok]
    cases x <;> simp only at h <;> cases h <;> rfl
theorem ok_alloc {t : TypeId} {cs : List FV} (ho : o.op = .alloc t) (hd : o.dst = some d) (hdN : d < N) (hz : zeroIs P t cs = true) : OpOk P N o E (· = E.upd d (.box cs)) := by
  intro xv a w S R r
  unfold zeroIs at hz
  cases hi : P.info? t with
  | none => rw [hi] at hz; cases hz
  | some i =>
  rw [hi] at hz
  cases hzz : i.zero with
  | none => simp only [hzz] at hz; cases hz
  | some z =>
  simp only [hzz] at hz
  refine wp_value (v := .pointer (some ⟨w.heap.size, 0, none⟩)) (w' := { w with heap := w.heap.push (.cells z.cells t (0, 0)) }) ?_ ?_
  · simp [execOp, ho, Instr.alloc, run_zeroValue' hi hzz, newVar, newRow]
  · rw [hd]
    refine Passed.newCells (passedNil r .nil) hdN ?_ _ rfl
    have h1 := constOkL_rep (w.heap.push (.cells z.cells t (0, 0))) S cs z.cells.toList hz
    have : Rep (w.heap.push (.cells z.cells t (0, 0))) S [.pointer (some ⟨w.heap.size, 0, none⟩)] [.box cs] (w.heap.size :: [] ++ []) := .box (T := t) (by simp) h1 .nil
    simpa using this
theorem ok_box {t : TypeId} {s : Sr} {x : Operand} (ho : o.op = .box t x) (hd : o.dst = some d) (hdN : d < N) (hs : s.fits N x = true) (hu : (E.pass false s).1 ≠ .undef) :
    OpOk P N o E (· = (E.pass false s).2.upd d (.box (E.pass false s).1.cells)) := by
  intro xv a w S R r
  obtain ⟨S', Rf, R', p⟩ := passed r hs false
  refine wp_value (v := .pointer (some ⟨w.heap.size, 0, none⟩)) (w' := { w with heap := w.heap.push (.cells (a.eval x).cells t (0, 0)) }) ?_ ?_
  · simp [execOp, ho, Instr.box, newVar, newRow]
  · rw [hd]
    have h0 := p.rep.cells hu
    have pl : PassedL N xv a w S R (a.eval x).cells.toList (E.pass false s).1.cells (E.pass false s).2 S' Rf R' := ⟨h0, p.rel, p.nodup, p.apart, p.seals, p.news, p.sub, p.subf⟩
    refine Passed.newCells pl hdN ?_ _ rfl
    have h1 := h0.mono (h' := w.heap.push (.cells (a.eval x).cells t (0, 0))) (fun _ h => h) (by simp) (fun b _ hb => getElem?_push_lt _ _ hb) (fun b m => getElem?_push_lt _ _ (h0.lt b m))
    have : Rep (w.heap.push (.cells (a.eval x).cells t (0, 0))) S' [.pointer (some ⟨w.heap.size, 0, none⟩)] [.box (E.pass false s).1.cells] (w.heap.size :: Rf ++ []) := .box (T := t) (by simp) h1 .nil
    simpa using this
end
end Go.Fm
set_option linter.unusedVariables false
set_option linter.unusedSimpArgs false
namespace Go.Fm
open Go
section
variable {P : Program} {N : Nat} {o : Oper} {E : Env} {d : Nat}
theorem add_eq (b o j : Nat) : (Addr.add ⟨b, o, none⟩ j) = ⟨b, o + j, none⟩ := by
  unfold Addr.add
  split
  · rename_i h; subst h; rfl
  · rfl
theorem run_loadCells' {w : World} {b o : Nat} {cs : List Value} {n : Nat} (hn : cs.length = n) (h : ∀ k, k < n → cellAt w.heap b (o + k) = cs[k]?) :
    (loadCells ⟨b, o, none⟩ n).run P w = .ok cs.toArray w := by
  subst hn
  refine run_loadCells_list w _ cs fun j v hj => ?_
  rw [add_eq, cell?_eq]
  have hlt : j < cs.length := by
    rcases Nat.lt_or_ge j cs.length with h1 | h1
    · exact h1
    · rw [List.getElem?_eq_none h1] at hj; cases hj
  rw [h j hlt, hj]
theorem run_loadVar_agg {w : World} {t : TypeId} {b o n : Nat} {cs : List Value} (ha : isAggT P t = some true) (hs : sizeIs P t n = true) (hn : cs.length = n)
    (h : ∀ k, k < n → cellAt w.heap b (o + k) = cs[k]?) : (loadVar t ⟨b, o, none⟩).run P w = .ok (.agg cs.toArray) w := by
  unfold sizeIs at hs
  cases hi : P.info? t with
  | none => rw [hi] at hs; cases hs
  | some i =>
    rw [hi] at hs
    simp only [beq_iff_eq] at hs
    subst hs
    simp only [loadVar, Sem.run_bind, run_isAgg' ha, Result.andThen_ok, Sem.run_ite, if_true, run_sizeOf' hi, run_loadCells' hn h, Sem.run_pure]
theorem run_loadVar_one {w : World} {t : TypeId} {b o : Nat} {v : Value} (ha : isAggT P t = some false) (h : cellAt w.heap b o = some v) : (loadVar t ⟨b, o, none⟩).run P w = .ok v w := by
  simp only [loadVar, Sem.run_bind, run_isAgg' ha, Result.andThen_ok, Sem.run_ite, Bool.false_eq_true, if_false, run_load, cell?_eq, h]
theorem Rel.cells {xv : Nat → Value} {a : Act} {w : World} {S : Nat → Prop} {R : List Nat} (r : Rel N xv E a w S R) {q : Nat} {p : Path} {n : Nat} {xs : List FV} {v : Value}
    (he : ptrAt w.heap (valOf a xv) E q p = some v) (hg : getN (E.get q) p n = some xs) :
    ∃ b o cs Rx R2, v = .pointer (some ⟨b, o, none⟩) ∧ locate w.heap (valOf a xv q) (E.get q) p = some (b, o) ∧ cs.length = n ∧ (∀ k, k < n → cellAt w.heap b (o + k) = cs[k]?) ∧ Rep w.heap S cs xs Rx ∧ R.Perm (Rx ++ R2) ∧ cellsAt w.heap b o n = some cs := by
  obtain ⟨b, o, c, T, Rx, R2, hloc, hb, hf, hr, hp, _, _⟩ := r.tree hg
  simp only [ptrAt, hloc] at he
  cases hg1 : getN (E.get q) p 1 with
  | none => rw [hg1] at he; cases he
  | some ys =>
    rw [hg1] at he
    refine ⟨b, o, (c.toList.drop o).take n, Rx, R2, (Option.some.inj he).symm, hloc, by simp; omega, ?_, hr, hp, by simp only [cellsAt, hb]⟩
    intro k hk
    unfold cellAt
    rw [hb]
    simp [List.getElem?_take, hk]
theorem Rep.ref_inv {h : Array Obj} {S : Nat → Prop} {v : Value} {gs : List FV} {R : List Nat} (r : Rep h S [v] [.ref gs] R) : ∃ b o cs, v = .pointer (some ⟨b, o, none⟩) ∧ S b ∧ b < h.size ∧ (∀ k, k < cs.length → cellAt h b (o + k) = cs[k]?) ∧ Rep h S cs gs [] := by
  cases r with
  | ref hS hlt hc hr ht => exact ⟨_, _, _, rfl, hS, hlt, hc, hr⟩
def ldF (E : Env) (adr : FV) (n : Nat) (agg : Bool) : Option FV :=
  match adr with
  | .ref cs => if n ≤ cs.length then (if agg then some (.agg (cs.take n)) else if n = 1 then cs.head? else none) else none
  | .ptr q p => match getN (E.get q) p n with
    | none => none
    | some xs => if agg then (if xs.all FV.plain then some (.agg xs) else some (.alg q p (.agg n))) else
        match xs with
        | [x] => if x.isSl then some (.al q p) else if x.plain then some x else none
        | _ => none
  | _ => none
theorem Rep.takeD {h : Array Obj} {S : Nat → Prop} {cs : List Value} {gs : List FV} (r : Rep h S cs gs []) (n : Nat) : Rep h S (cs.take n) (gs.take n) [] ∧ Rep h S (cs.drop n) (gs.drop n) [] := by
  obtain ⟨R1, R2, h1, h2, e⟩ := r.split n
  have e1 := List.append_eq_nil_iff.1 e.symm
  rw [e1.1] at h1
  rw [e1.2] at h2
  exact ⟨h1, h2⟩
theorem ok_load {t : TypeId} {s : Sr} {x : Operand} {n : Nat} {agg : Bool} {f : FV} (ho : o.op = .load t x) (hd : o.dst = some d) (hdN : d < N) (hs : s.fits N x = true) (ha : isAggT P t = some agg) (hn : sizeIs P t n = true)
    (hl : ldF E (E.look s) n agg = some f) (hroot : f.notRoot d = true) : OpOk P N o E (· = E.upd d f) := by
  refine ok_look hd hdN hroot ?_
  intro xv a w S R r
  have lk := looked r hs
  generalize E.look s = adr at lk hl
  cases adr <;> simp only [ldF] at hl <;> try (cases hl; done)
  case ref gs =>
    split at hl
    case isFalse => cases hl
    rename_i hnl
    obtain ⟨b, o', cs, hv, hS, hlt, hc, hr⟩ := (lk.rep rfl).ref_inv
    have hlen := hr.length
    cases agg
    · simp only [Bool.false_eq_true, if_false] at hl
      split at hl
      case isFalse => cases hl
      rename_i hn1
      subst hn1
      cases gs with
      | nil => cases hl
      | cons g gs =>
        simp only [List.head?_cons, Option.some.injEq] at hl
        subst hl
        cases cs with
        | nil => simp at hlen
        | cons c cs =>
          obtain ⟨R1, R2, h1, _, e⟩ := hr.cons_inv
          have e1 := List.append_eq_nil_iff.1 e.symm
          rw [e1.1] at h1
          refine ⟨c, ?_, .closed h1⟩
          have h0 := hc 0 (by simp)
          simp only [Nat.add_zero, List.getElem?_cons_zero] at h0
          simp [execOp, ho, Instr.loadAt, Instr.sureAddr, hv, run_loadVar_one ha h0]
    · simp only [if_true, Option.some.injEq] at hl
      subst hl
      refine ⟨.agg (cs.take n).toArray, ?_, .closed ?_⟩
      · have := run_loadVar_agg (P := P) (w := w) (b := b) (o := o') (cs := cs.take n) ha hn (by simp; omega) (fun k hk => by
          rw [hc k (by omega), List.getElem?_take_of_lt hk])
        simp [execOp, ho, Instr.loadAt, Instr.sureAddr, hv, this]
      · exact .agg (R1 := []) (hr.takeD n).1 .nil
  case ptr q p =>
    cases hg : getN (E.get q) p n with
    | none => rw [hg] at hl; cases hl
    | some xs =>
    rw [hg] at hl
    simp only at hl
    have he : ptrAt w.heap (valOf a xv) E q p = some (a.eval x) := by
      cases lk with
      | closed h => have := h.noalias _ (List.mem_singleton.2 rfl); cases this
      | ptr h => exact h
    obtain ⟨b, o', cs, Rx, R2, hv, hloc, hcl, hcc, hrep, hperm, hcells⟩ := r.cells he hg
    cases agg
    · simp only [Bool.false_eq_true, if_false] at hl
      have hone : ∃ x1, xs = [x1] := by
        match xs, hl with
        | [x1], _ => exact ⟨x1, rfl⟩
        | [], hl => simp at hl
        | _ :: _ :: _, hl => simp at hl
      obtain ⟨x1, rfl⟩ := hone
      have hn1 := getN_len hg
      simp only [List.length_cons, List.length_nil] at hn1
      subst hn1
      have hcs : ∃ c, cs = [c] := by
        match cs, hcl with
        | [c], _ => exact ⟨c, rfl⟩
      obtain ⟨c, rfl⟩ := hcs
      have h0 := hcc 0 (by omega)
      simp only [Nat.add_zero, List.getElem?_cons_zero] at h0
      refine ⟨c, ?_, ?_⟩
      · simp [execOp, ho, Instr.loadAt, Instr.sureAddr, hv, run_loadVar_one ha h0]
      · simp only at hl
        cases harr : x1.isSl with
        | true =>
          rw [harr] at hl
          simp only [if_true, Option.some.injEq] at hl
          subst hl
          refine .al ?_
          cases p with
          | nil => simp [getN] at hg
          | cons y p => simp only [hdrAt, hg, hloc, h0, harr, if_true]
        | false =>
          rw [harr] at hl
          have hl' : (if x1.plain then some x1 else none) = some f := by simpa using hl
          split at hl'
          · rename_i hp
            cases hl'
            have := hrep.plain (by simp [hp])
            subst this
            exact .closed hrep
          · cases hl'
    · have hrun := run_loadVar_agg (P := P) (w := w) (b := b) (o := o') (cs := cs) ha hn hcl hcc
      simp only [if_true] at hl
      split at hl
      · rename_i hp
        cases hl
        have := hrep.plain hp
        subst this
        refine ⟨.agg cs.toArray, ?_, .closed (.agg (R1 := []) hrep .nil)⟩
        simp [execOp, ho, Instr.loadAt, Instr.sureAddr, hv, hrun]
      · cases hl
        refine ⟨.agg cs.toArray, ?_, .alg ?_⟩
        · simp [execOp, ho, Instr.loadAt, Instr.sureAddr, hv, hrun]
        · simp only [aggAt, hg, hloc, hcells, Option.map_some]
def ldM (E : Env) (adr : FV) (n : Nat) (agg take : Bool) : Option (FV × Env) :=
  match adr with
  | .ptr q p => match getN (E.get q) p n with
    | none => none
    | some xs =>
      if agg then some (if take then (.agg xs, E.wr q p (List.replicate n .undef)) else (.agg (sealedL xs), E.wr q p (sealedL xs)))
      else match xs with
        | [x] => some (if take then (x, E.wr q p [.undef]) else (x.sealed, E.wr q p [x.sealed]))
        | _ => none
  | _ => none
theorem rep_undefs {h : Array Obj} {S : Nat → Prop} : ∀ (cs : List Value), Rep h S cs (List.replicate cs.length .undef) []
  | [] => .nil
  | c :: cs => .undef (rep_undefs cs)
theorem ok_loadM {t : TypeId} {s : Sr} {x : Operand} {n : Nat} {agg take : Bool} {f : FV} {E1 : Env} (ho : o.op = .load t x) (hd : o.dst = some d) (hdN : d < N) (hs : s.fits N x = true) (ha : isAggT P t = some agg) (hn : sizeIs P t n = true)
    (hl : ldM E (E.look s) n agg take = some (f, E1)) : OpOk P N o E (· = E1.upd d f) := by
  intro xv a w S R r
  have lk := looked r hs
  generalize E.look s = adr at lk hl
  cases adr <;> simp only [ldM] at hl <;> try (cases hl; done)
  case ptr q p =>
    cases hg : getN (E.get q) p n with
    | none => rw [hg] at hl; cases hl
    | some xs =>
    rw [hg] at hl
    simp only at hl
    have he : ptrAt w.heap (valOf a xv) E q p = some (a.eval x) := by
      cases lk with
      | closed h => have := h.noalias _ (List.mem_singleton.2 rfl); cases this
      | ptr h => exact h
    have hxl := getN_len hg
    obtain ⟨b, o', c, T, Rx, R2, hloc, hb, hf, hr, hp, hbm, back⟩ := r.tree hg
    have hv : a.eval x = .pointer (some ⟨b, o', none⟩) := by
      simp only [ptrAt, hloc] at he
      cases hg1 : getN (E.get q) p 1 with
      | none => rw [hg1] at he; cases he
      | some ys => rw [hg1] at he; exact (Option.some.inj he).symm
    have hcl : ((c.toList.drop o').take n).length = n := by simp; omega
    have hcc : ∀ k, k < n → cellAt w.heap b (o' + k) = ((c.toList.drop o').take n)[k]? := fun k hk => by
      unfold cellAt
      rw [hb]
      simp [List.getElem?_take, hk]
    generalize hcs : (c.toList.drop o').take n = cs at hr hcl hcc
    have hsplit : c.toList = c.toList.take o' ++ cs ++ c.toList.drop (o' + n) := by
      rw [← hcs, List.append_assoc, ← List.drop_drop, List.take_append_drop, List.take_append_drop]
    have hnd := hp.nodup_iff.1 r.nodup
    -- the value that is loaded
    have hrun : ∃ v, (execOp a.eval o).run P w = .ok (.value v) w ∧ (agg = true → v = .agg cs.toArray) ∧ (agg = false → xs.length = 1 → cs = [v]) := by
      cases agg
      · have hn1 : ∀ y, cs = [y] → cellAt w.heap b o' = some y := fun y e => by
          have := hcc 0 (by rw [← hcl, e]; simp)
          simpa [e] using this
        by_cases h1 : xs.length = 1
        · have : ∃ y, cs = [y] := by
            have : cs.length = 1 := by omega
            match cs, this with
            | [y], _ => exact ⟨y, rfl⟩
          obtain ⟨y, hy⟩ := this
          refine ⟨y, ?_, by simp, fun _ _ => hy⟩
          simp [execOp, ho, Instr.loadAt, Instr.sureAddr, hv, run_loadVar_one ha (hn1 y hy)]
        · exfalso
          match xs, hl, h1 with
          | [], hl, _ => simp at hl
          | _ :: _ :: _, hl, _ => simp at hl
      · refine ⟨.agg cs.toArray, ?_, fun _ => rfl, by simp⟩
        have := run_loadVar_agg (P := P) (w := w) (b := b) (o := o') (cs := cs) ha hn hcl hcc
        simp [execOp, ho, Instr.loadAt, Instr.sureAddr, hv, this]
    obtain ⟨v, hrun, hvagg, hvone⟩ := hrun
    refine wp_value hrun ?_
    rw [hd]
    cases take
    · -- sealed
      have hseal := hr.seal (S' := fun b => S b ∨ b ∈ Rx) (fun _ h => .inl h) (fun _ h => .inr h)
      obtain ⟨R', h5, h6⟩ := back (w' := w) (S' := fun b => S b ∨ b ∈ Rx) (cs' := cs) (c' := c) (xs' := sealedL xs) (Rx' := []) hcl (by rw [sealedL_eq]; simpa using hxl) hb hsplit (fun _ _ _ => rfl) (fun _ _ => rfl) (fun _ h => .inl h) (Nat.le_refl _) (fun _ _ _ => rfl) hseal (by simp) (by simp)
        (fun b hb => by
          rcases hb with hb | hb
          · exact ⟨(r.sep b hb).1, by simp, fun m => (r.sep b hb).2 (hp.mem_iff.2 (by simp [m]))⟩
          · exact ⟨hr.lt b hb, by simp, fun m => (List.nodup_append.1 hnd).2.2 b hb b m rfl⟩)
      have hsub : ∀ b ∈ R', b ∈ R := fun b m => hp.mem_iff.2 (by have := h6.mem_iff.1 m; simp at this; simp [this])
      have hval : Rep w.heap (fun b => S b ∨ b ∈ Rx) [v] [f] [] ∧ E1 = E.wr q p (sealedL xs) := by
        cases agg
        · simp only [Bool.false_eq_true, if_false] at hl
          match xs, hl with
          | [x1], hl =>
            simp only [Bool.false_eq_true, if_false, Option.some.injEq, Prod.mk.injEq] at hl
            obtain ⟨rfl, rfl⟩ := hl
            have := hvone rfl rfl
            rw [this] at hseal
            exact ⟨hseal, rfl⟩
          | [], hl => simp at hl
          | _ :: _ :: _, hl => simp at hl
        · simp only [if_true, Bool.false_eq_true, if_false, Option.some.injEq, Prod.mk.injEq] at hl
          obtain ⟨rfl, rfl⟩ := hl
          rw [hvagg rfl]
          exact ⟨.agg (R1 := []) hseal .nil, rfl⟩
      obtain ⟨hval, rfl⟩ := hval
      obtain ⟨R'', h7, h8⟩ := h5.upd hdN hval (by simp) (by simp)
      refine ⟨_, _, R'', rfl, h7, ⟨fun _ h => .inl h, fun b hb => hb.imp id (fun m => .inl (hp.mem_iff.2 (by simp [m]))), fun _ _ _ => rfl, Nat.le_refl _, fun b m => .inl ?_, rfl, rfl, rfl, fun _ h => h⟩⟩
      rcases h8 b m with h | h
      · simp at h
      · exact hsub b h
    · -- taken
      obtain ⟨R', h5, h6⟩ := back (w' := w) (S' := S) (cs' := cs) (c' := c) (xs' := List.replicate n .undef) (Rx' := []) hcl (by simp) hb hsplit (fun _ _ _ => rfl) (fun _ _ => rfl) (fun _ h => h) (Nat.le_refl _) (fun _ _ _ => rfl) (by rw [← hcl]; exact rep_undefs cs) (by simp) (by simp)
        (fun b hb => ⟨(r.sep b hb).1, by simp, fun m => (r.sep b hb).2 (hp.mem_iff.2 (by simp [m]))⟩)
      have hR2 : ∀ b ∈ R', b ∈ R2 := fun b m => by have := h6.mem_iff.1 m; simpa using this
      have hval : Rep w.heap S [v] [f] Rx ∧ E1 = E.wr q p (List.replicate n .undef) := by
        cases agg
        · simp only [Bool.false_eq_true, if_false] at hl
          match xs, hl with
          | [x1], hl =>
            simp only [if_true, Option.some.injEq, Prod.mk.injEq] at hl
            obtain ⟨rfl, rfl⟩ := hl
            have := hvone rfl rfl
            rw [this] at hr
            simp only [List.length_cons, List.length_nil] at hxl
            subst hxl
            exact ⟨hr, rfl⟩
          | [], hl => simp at hl
          | _ :: _ :: _, hl => simp at hl
        · simp only [if_true, Option.some.injEq, Prod.mk.injEq] at hl
          obtain ⟨rfl, rfl⟩ := hl
          rw [hvagg rfl]
          have := Rep.agg hr .nil
          exact ⟨by simpa using this, rfl⟩
      obtain ⟨hval, rfl⟩ := hval
      obtain ⟨R'', h7, h8⟩ := h5.upd hdN hval (fun b m => ⟨fun m' => (List.nodup_append.1 hnd).2.2 b m b (hR2 b m') rfl, fun hb => (r.sep b hb).2 (hp.mem_iff.2 (by simp [m]))⟩) (List.nodup_append.1 hnd).1
      refine ⟨_, _, R'', rfl, h7, Ext.refl _ _ _ _ fun b m => ?_⟩
      rcases h8 b m with h | h
      · exact hp.mem_iff.2 (by simp [h])
      · exact hp.mem_iff.2 (by simp [hR2 b h])
def FV.one : FV → Bool
  | .undef | .agg _ | .tup _ => false
  | _ => true
theorem Rep.one {h : Array Obj} {S : Nat → Prop} {vs fs R} (r : Rep h S vs fs R) (hp : fs.all FV.one = true) : ∀ v ∈ vs, v.oneCell' = true := by
  induction r with
  | nil => simp
  | undef _ _ | agg _ _ _ _ | tup _ _ _ _ => rw [List.all_cons, Bool.and_eq_true] at hp; cases hp.1
  | int _ ih | bool _ ih | str _ ih | nilp _ ih | nilf _ ih | nili _ ih | slNil _ ih | arrNil _ ih | bufNil _ ih =>
    rw [List.all_cons, Bool.and_eq_true] at hp
    intro v m
    rcases List.mem_cons.1 m with rfl | m
    · rfl
    · exact ih hp.2 v m
  | iface _ _ _ ih | fn _ _ _ ih =>
    rw [List.all_cons, Bool.and_eq_true] at hp
    intro v m
    rcases List.mem_cons.1 m with rfl | m
    · rfl
    · exact ih hp.2 v m
  | sl _ _ _ _ _ _ _ _ _ _ _ _ ih =>
    rw [List.all_cons, Bool.and_eq_true] at hp
    intro v m
    rcases List.mem_cons.1 m with rfl | m
    · rfl
    · exact ih hp.2 v m
  | ref _ _ _ _ _ _ ih =>
    rw [List.all_cons, Bool.and_eq_true] at hp
    intro v m
    rcases List.mem_cons.1 m with rfl | m
    · rfl
    · exact ih hp.2 v m
  | arr _ _ _ _ _ _ _ _ _ ih =>
    rw [List.all_cons, Bool.and_eq_true] at hp
    intro v m
    rcases List.mem_cons.1 m with rfl | m
    · rfl
    · exact ih hp.2 v m
  | box _ _ _ _ ih =>
    rw [List.all_cons, Bool.and_eq_true] at hp
    intro v m
    rcases List.mem_cons.1 m with rfl | m
    · rfl
    · exact ih hp.2 v m
  | iter _ _ ih =>
    rw [List.all_cons, Bool.and_eq_true] at hp
    intro v m
    rcases List.mem_cons.1 m with rfl | m
    · rfl
    · exact ih hp.2 v m
  | buf _ _ _ _ ih =>
    rw [List.all_cons, Bool.and_eq_true] at hp
    intro v m
    rcases List.mem_cons.1 m with rfl | m
    · rfl
    · exact ih hp.2 v m
structure Wrote (w w' : World) (b o : Nat) (c c' : Array Value) (T : TypeId) (vs : List Value) : Prop where
  blk : w'.heap[b]? = some (.cells c' T (0, 0))
  cells : c'.toList = c.toList.take o ++ vs ++ c.toList.drop (o + vs.length)
  rest : ∀ b', b' ≠ b → w'.heap[b']? = w.heap[b']?
  size : w'.heap.size = w.heap.size
  os : w'.os = w.os
  tape : w'.tape = w.tape
  output : w'.output = w.output
  free : ∀ x : Addr, w'.frozen? x = w.frozen? x
theorem run_storeCells' {b : Nat} {T : TypeId} : ∀ (vs : List Value) (o i : Nat) (w : World) (c : Array Value), w.heap[b]? = some (.cells c T (0, 0)) → o + i + vs.length ≤ c.size → (∀ v ∈ vs, v.oneCell' = true) →
    ∃ w' c', (storeCells ⟨b, o, none⟩ vs i).run P w = .ok () w' ∧ Wrote w w' b (o + i) c c' T vs
  | [], o, i, w, c, hb, hl, _ => ⟨w, c, rfl, ⟨hb, by simp, fun _ _ => rfl, rfl, rfl, rfl, rfl, fun _ => rfl⟩⟩
  | v :: vs, o, i, w, c, hb, hl, h1 => by
    have hlt : o + i < c.size := by simp at hl; omega
    have hcell : w.cell? ⟨b, o + i, none⟩ = some c[o + i] := by
      rw [cell?_eq]; unfold cellAt; rw [hb]; simp [hlt]
    have hfz : w.frozen? ⟨b, o + i, none⟩ = false := by
      unfold World.frozen?; rw [hb]; simp
    have hst : (store ⟨b, o + i, none⟩ v).run P w = .ok () (w.setCell ⟨b, o + i, none⟩ v) := by
      rw [run_store P w _ v _ (h1 v (by simp)), hcell]
      simp only
      rw [hfz]
      simp
    have hb1 : (w.setCell ⟨b, o + i, none⟩ v).heap[b]? = some (.cells (c.setIfInBounds (o + i) v) T (0, 0)) := by
      unfold World.setCell
      simp only [Array.getElem?_modify, if_true, hb, Option.map_some]
      rfl
    obtain ⟨w', c', hrun, W⟩ := run_storeCells' vs o (i + 1) (w.setCell ⟨b, o + i, none⟩ v) (c.setIfInBounds (o + i) v) hb1 (by simp at hl ⊢; omega) (fun x m => h1 x (by simp [m]))
    refine ⟨w', c', ?_, ⟨W.blk, ?_, fun b' hb' => ?_, ?_, W.os, W.tape, W.output, fun x => ?_⟩⟩
    · simp only [storeCells, Sem.run_bind, add_eq, hst, Result.andThen_ok, hrun]
    · rw [W.cells]
      have e1 : (c.setIfInBounds (o + i) v).toList = c.toList.take (o + i) ++ v :: c.toList.drop (o + i + 1) := by
        rw [Array.toList_setIfInBounds, List.set_eq_take_append_cons_drop, if_pos (by simpa using hlt)]
      rw [e1]
      have e2 : (c.toList.take (o + i)).length = o + i := by simp; omega
      rw [show o + (i + 1) = (c.toList.take (o + i)).length + 1 by omega]
      rw [List.take_append, List.drop_append]
      simp only [List.length_cons]
      rw [List.take_of_length_le (by omega)]
      simp [e2]
      congr 1
      · rw [List.drop_of_length_le (by simp; omega)]
        rw [show o + i + 1 + vs.length - (o + i) = vs.length + 1 by omega]
        simp [Nat.add_assoc, Nat.add_comm, Nat.add_left_comm]
    · rw [W.rest b' hb']
      unfold World.setCell
      simp only [Array.getElem?_modify]
      rw [if_neg (fun e => hb' e.symm)]
    · rw [W.size]; simp [World.setCell]
    · rw [W.free x]
      exact World.frozen?_setCell _ _ _ _
def stF (E : Env) (adr s : Sr) (n : Nat) (deep : Bool) : Option Env :=
  match (E.pass deep s).2.look adr with
  | .ptr q p => match getN ((E.pass deep s).2.get q) p n with
    | none => none
    | some _ => if (E.pass deep s).1.cells.length = n ∧ (E.pass deep s).1.cells.all FV.one = true then some ((E.pass deep s).2.wr q p (E.pass deep s).1.cells) else none
  | _ => none
def stG (E : Env) (f : FV) (adr : Sr) (n : Nat) : Option Env :=
  match E.look adr with
  | .ptr q p => match getN (E.get q) p n with
    | none => none
    | some _ => if f.cells.length = n ∧ f.cells.all FV.one = true then some (E.wr q p f.cells) else none
  | _ => none
theorem ok_storeP {t : TypeId} {ad : Sr} {x y : Operand} {n : Nat} {f : FV} {E2 E1 : Env} (ho : o.op = .store t x y) (hd : o.dst = none) (hs1 : ad.fits N x = true) (hn : sizeIs P t n = true)
    (hps : ∀ {xv : Nat → Value} {a : Act} {w : World} {S : Nat → Prop} {R : List Nat}, Rel N xv E a w S R → ∃ S' Rf R', Passed N xv a w S R (a.eval y) f E2 S' Rf R')
    (hl : stG E2 f ad n = some E1) : OpOk P N o E (· = E1) := by
  intro xv a w S R r
  obtain ⟨S', Rf, R', p⟩ := hps r
  have lk := looked p.rel hs1
  unfold stG at hl
  generalize hadr : E2.look ad = adr at lk hl
  cases adr <;> simp only at hl <;> try (cases hl; done)
  case ptr q pa =>
    cases hg : getN (E2.get q) pa n with
    | none => rw [hg] at hl; cases hl
    | some xs =>
    rw [hg] at hl
    simp only at hl
    split at hl
    case isFalse => cases hl
    rename_i hc
    obtain ⟨hcl, hone⟩ := hc
    cases hl
    have he : ptrAt w.heap (valOf a xv) E2 q pa = some (a.eval x) := by
      cases lk with
      | closed h => have := h.noalias _ (List.mem_singleton.2 rfl); cases this
      | ptr h => exact h
    have hu : f ≠ .undef := by
      intro e; rw [e] at hone; simp [FV.cells, FV.one] at hone
    have hrep := p.rep.cells hu
    have hvl := hrep.length
    obtain ⟨b, o', c, T, Rx, R2, hloc, hb, hf, hr, hp, hbm, back⟩ := p.rel.tree hg
    have hv : a.eval x = .pointer (some ⟨b, o', none⟩) := by
      simp only [ptrAt, hloc] at he
      cases hg1 : getN (E2.get q) pa 1 with
      | none => rw [hg1] at he; cases he
      | some ys => rw [hg1] at he; exact (Option.some.inj he).symm
    have hbR : b ∈ R' := hp.mem_iff.2 (by simp [hbm])
    have hnd := hp.nodup_iff.1 p.rel.nodup
    obtain ⟨w', c', hrun, W⟩ := run_storeCells' (P := P) (a.eval y).cells.toList o' 0 w c hb (by rw [hvl, hcl]; omega) (hrep.one hone)
    rw [Nat.add_zero] at W
    refine wp_skip' (w' := w') ?_ ?_
    · unfold sizeIs at hn
      cases hi : P.info? t with
      | none => rw [hi] at hn; cases hn
      | some i =>
        rw [hi] at hn
        simp only [beq_iff_eq] at hn
        have hsz : (a.eval y).cells.size = i.size := by
          rw [hn, ← hcl, ← hvl]; simp
        simp [execOp, ho, Instr.storeAt, Instr.sureAddr, hv, storeVar, run_sizeOf' hi, hsz, hrun]
    · rw [hd]
      have hSb : ¬ S' b := fun h => (p.rel.sep b h).2 hbR
      have hrep' : Rep w'.heap S' (a.eval y).cells.toList f.cells Rf := hrep.mono (fun _ h => h) (by rw [W.size]; exact Nat.le_refl _)
        (fun b' hb' _ => W.rest b' (fun e => hSb (e ▸ hb'))) (fun b' m => W.rest b' (fun e => (p.apart b' m).1 (e ▸ hbR)))
      obtain ⟨R'', h5, h6⟩ := back (w' := w') (S' := S') (cs' := (a.eval y).cells.toList) (c' := c') (xs' := f.cells) (Rx' := Rf) (by rw [hvl, hcl]) hcl W.blk (by rw [W.cells, hvl, hcl])
        (fun b' _ e => W.rest b' e) (fun b' m => W.rest b' (fun e => (List.nodup_append.1 hnd).2.2 b' m b hbm e)) (fun _ h => h) (by rw [W.size]; exact Nat.le_refl _)
        (fun b' hb' _ => W.rest b' (fun e => hSb (e ▸ hb'))) hrep' p.nodup (fun b' m m' => (p.apart b' m).1 (hp.mem_iff.2 (by simp [m'])))
        (fun b' hb' => ⟨by rw [W.size]; exact (p.rel.sep b' hb').1, fun m => (p.apart b' m).2 hb', fun m => (p.rel.sep b' hb').2 (hp.mem_iff.2 (by simp [m]))⟩)
      refine ⟨_, S', R'', rfl, ?_, ⟨p.seals, fun b hb => (p.news b hb).imp id .inl, fun b' hb' hn' => W.rest b' (fun e => hn' (e ▸ p.sub b hbR)), by rw [W.size]; exact Nat.le_refl _, fun b' m => .inl ?_, W.os, W.tape, W.output, fun _ h => h⟩⟩
      · simpa [Act.put] using h5
      · rcases List.mem_append.1 (h6.mem_iff.1 m) with m | m
        · exact p.subf b' m
        · exact p.sub b' (hp.mem_iff.2 (by simp [m]))
theorem ok_store {t : TypeId} {ad s : Sr} {x y : Operand} {n : Nat} {deep : Bool} {E1 : Env} (ho : o.op = .store t x y) (hd : o.dst = none) (hs1 : ad.fits N x = true) (hs2 : s.fits N y = true) (hn : sizeIs P t n = true)
    (hl : stF E ad s n deep = some E1) : OpOk P N o E (· = E1) := ok_storeP ho hd hs1 hn (fun r => passed r hs2 deep) hl
theorem Passed.seal {v : Value} {f : FV} {E' : Env} {S' : Nat → Prop} {Rf R' : List Nat} {xv : Nat → Value} {a : Act} {w : World} {S : Nat → Prop} {R : List Nat} (p : Passed N xv a w S R v f E' S' Rf R') :
    Passed N xv a w S R v f.sealed E' (fun b => S' b ∨ b ∈ Rf) [] R' := by
  have hrel : Rel N xv E' a w (fun b => S' b ∨ b ∈ Rf) R' :=
    ⟨p.rel.env.change (fun _ h => .inl h) (Nat.le_refl _) (fun _ _ _ => rfl) (fun _ _ => rfl) (fun _ _ => rfl) (fun _ _ _ _ h => h) (fun _ _ _ _ h => h) (fun _ _ _ _ h => h) (fun _ _ _ _ _ _ h => h) (fun _ _ _ _ _ h => h),
      p.rel.sorted, p.rel.nodup, fun b hb => by
        rcases hb with hb | hb
        · exact p.rel.sep b hb
        · exact ⟨p.rep.lt b hb, (p.apart b hb).1⟩, p.rel.size, p.rel.small, p.rel.nodef⟩
  have hrep := p.rep.seal (S' := fun b => S' b ∨ b ∈ Rf) (fun _ h => .inl h) (fun _ h => .inr h)
  exact ⟨hrep, hrel, List.nodup_nil, by simp, fun b h => .inl (p.seals b h), fun b hb => by
    rcases hb with hb | hb
    · exact p.news b hb
    · exact .inr (p.subf b hb), p.sub, by simp⟩
def stS (E : Env) (adr s : Sr) (n : Nat) : Option Env := stG (E.pass true s).2 (E.pass true s).1.sealed adr n
theorem ok_storeS {t : TypeId} {ad s : Sr} {x y : Operand} {n : Nat} {E1 : Env} (ho : o.op = .store t x y) (hd : o.dst = none) (hs1 : ad.fits N x = true) (hs2 : s.fits N y = true) (hn : sizeIs P t n = true)
    (hl : stS E ad s n = some E1) : OpOk P N o E (· = E1) := ok_storeP ho hd hs1 hn (fun r => by
      obtain ⟨S', Rf, R', p⟩ := passed r hs2 true
      exact ⟨_, _, _, p.seal⟩) hl
theorem ok_storeL {t : TypeId} {ad s : Sr} {x y : Operand} {n : Nat} {E1 : Env} (ho : o.op = .store t x y) (hd : o.dst = none) (hs1 : ad.fits N x = true) (hs2 : s.fits N y = true) (hn : sizeIs P t n = true)
    (ha : (E.look s).alias = false) (hl : stG E (E.look s) ad n = some E1) : OpOk P N o E (· = E1) :=
  ok_storeP ho hd hs1 hn (fun {xv a w S R} r => ⟨S, [], R, (looked r hs2).rep ha, r, List.nodup_nil, by simp, fun _ h => h, fun _ h => .inl h, fun _ h => h, by simp⟩) hl
def addOff : Path → Nat → Path
  | [], _ => []
  | [(i, o)], k => [(i, o + k)]
  | x :: y :: p, k => x :: addOff (y :: p) k
theorem locate_addOff {h : Array Obj} : ∀ {p : Path} {v : Value} {f : FV} {b o : Nat} {k : Nat}, locate h v f p = some (b, o) → locate h v f (addOff p k) = some (b, o + k)
  | [], v, f, b, o, k, e => by simp [locate] at e
  | [(i, u)], v, f, b, o, k, e => by
    simp only [locate, addOff] at e ⊢
    cases hb : blockOf v with
    | none => rw [hb] at e; cases e
    | some b0 =>
    cases hk : f.kids[i]? with
    | none => rw [hb, hk] at e; cases e
    | some row =>
      rw [hb, hk] at e
      simp only [Option.some.injEq, Prod.mk.injEq] at e ⊢
      exact ⟨e.1, by omega⟩
  | (i, u) :: y :: p, v, f, b, o, k, e => by
    have hadd : addOff ((i, u) :: y :: p) k = (i, u) :: addOff (y :: p) k := rfl
    have hne : ∃ y' p', addOff (y :: p) k = y' :: p' := by
      cases p with
      | nil => exact ⟨_, _, rfl⟩
      | cons z p => exact ⟨_, _, rfl⟩
    obtain ⟨y', p', hy⟩ := hne
    rw [hadd, hy]
    simp only [locate] at e ⊢
    cases hb : blockOf v with
    | none => rw [hb] at e; cases e
    | some b0 =>
    cases hk : f.kids[i]? with
    | none => rw [hb, hk] at e; cases e
    | some row =>
    rw [hb, hk] at e
    simp only at e ⊢
    cases hc : cellAt h b0 (offOf v + (i * row.length + u)) with
    | none => rw [hc] at e; cases e
    | some vc =>
    cases hr : row[u]? with
    | none => rw [hc, hr] at e; cases e
    | some fc =>
      rw [hc, hr] at e
      simp only at e ⊢
      rw [← hy]
      exact locate_addOff e
def faF (E : Env) (adr : FV) (off : Nat) : Option FV :=
  match adr with
  | .ref cs => if off ≤ cs.length then some (.ref (cs.drop off)) else none
  | .ptr q p => match getN (E.get q) (addOff p off) 1 with
    | none => none
    | some _ => some (.ptr q (addOff p off))
  | _ => none
def fieldIs (P : Program) (t : TypeId) (f off : Nat) : Bool :=
  match P.underlying t with
  | some (.struct fs) => match fs[f]? with
    | some g => g.offset == off && (match P.info? g.type with | some i => i.size != 0 | none => false)
    | none => false
  | _ => false
theorem Rel.ptr_add {xv : Nat → Value} {a : Act} {w : World} {S : Nat → Prop} {R : List Nat} {q : Nat} {p : Path} {k : Nat} {v : Value} {ys : List FV} (he : ptrAt w.heap (valOf a xv) E q p = some v) (hg : getN (E.get q) (addOff p k) 1 = some ys) :
    ∃ b o, v = .pointer (some ⟨b, o, none⟩) ∧ ptrAt w.heap (valOf a xv) E q (addOff p k) = some (.pointer (some ⟨b, o + k, none⟩)) := by
  simp only [ptrAt] at he ⊢
  cases hg1 : getN (E.get q) p 1 with
  | none => rw [hg1] at he; cases he
  | some zs =>
  rw [hg1] at he
  cases hl : locate w.heap (valOf a xv q) (E.get q) p with
  | none => rw [hl] at he; cases he
  | some bo =>
    obtain ⟨b, o⟩ := bo
    rw [hl] at he
    simp only [Option.some.injEq] at he
    exact ⟨b, o, he.symm, by rw [hg, locate_addOff hl]⟩
theorem Rep.ref_drop {h : Array Obj} {S : Nat → Prop} {b o k : Nat} {cs : List Value} {gs : List FV} (hS : S b) (hlt : b < h.size) (hc : ∀ j, j < cs.length → cellAt h b (o + j) = cs[j]?) (hr : Rep h S cs gs []) :
    Rep h S [.pointer (some ⟨b, o + k, none⟩)] [.ref (gs.drop k)] [] :=
  .ref hS hlt (cs := cs.drop k) (fun j hj => by
    rw [Nat.add_assoc, hc (k + j) (by simp at hj; omega), List.getElem?_drop]) (hr.takeD k).2 .nil
theorem ok_fieldAddr {t : TypeId} {s : Sr} {x : Operand} {fi off : Nat} {f : FV} (ho : o.op = .fieldAddr t x fi) (hd : o.dst = some d) (hdN : d < N) (hs : s.fits N x = true) (hfd : fieldIs P t fi off = true)
    (hl : faF E (E.look s) off = some f) (hroot : f.notRoot d = true) : OpOk P N o E (· = E.upd d f) := by
  refine ok_look hd hdN hroot ?_
  intro xv a w S R r
  have lk := looked r hs
  have hrun : ∀ b o', a.eval x = .pointer (some ⟨b, o', none⟩) → (execOp a.eval o).run P w = .ok (.value (.pointer (some ⟨b, o' + off, none⟩))) w := by
    intro b o' hv
    unfold fieldIs at hfd
    cases hu : P.underlying t with
    | none => rw [hu] at hfd; cases hfd
    | some de =>
    rw [hu] at hfd
    cases de <;> simp only at hfd <;> try (cases hfd; done)
    rename_i fs
    cases hfi : fs[fi]? with
    | none => rw [hfi] at hfd; cases hfd
    | some g =>
    rw [hfi] at hfd
    simp only [Bool.and_eq_true, beq_iff_eq] at hfd
    obtain ⟨rfl, h2⟩ := hfd
    cases hi : P.info? g.type with
    | none => rw [hi] at h2; cases h2
    | some i =>
      rw [hi] at h2
      have hne : i.size ≠ 0 := by simpa using h2
      simp [execOp, ho, Instr.fieldAt, run_underlying' hu, hfi, Instr.sureAddr, hv, fieldPlace, run_sizeOf' hi, hne, add_eq]
  generalize E.look s = adr at lk hl
  cases adr <;> simp only [faF] at hl <;> try (cases hl; done)
  case ref gs =>
    split at hl
    case isFalse => cases hl
    cases hl
    obtain ⟨b, o', cs, hv, hS, hlt, hc, hr⟩ := (lk.rep rfl).ref_inv
    exact ⟨_, hrun b o' hv, .closed (Rep.ref_drop hS hlt hc hr)⟩
  case ptr q p =>
    cases hg : getN (E.get q) (addOff p off) 1 with
    | none => rw [hg] at hl; cases hl
    | some ys =>
    rw [hg] at hl
    simp only [Option.some.injEq] at hl
    subst hl
    have he : ptrAt w.heap (valOf a xv) E q p = some (a.eval x) := by
      cases lk with
      | closed h => have := h.noalias _ (List.mem_singleton.2 rfl); cases this
      | ptr h => exact h
    obtain ⟨b, o', hv, he'⟩ := Rel.ptr_add (xv := xv) (S := S) (R := R) he hg
    exact ⟨_, hrun b o' hv, .ptr he'⟩
end
end Go.Fm
set_option linter.unusedVariables false
set_option linter.unusedSimpArgs false
namespace Go.Fm
open Go
theorem getN_append {n : Nat} {y : Nat × Nat} {q : Path} : ∀ {p : Path} {f x : FV}, getN f p 1 = some [x] → getN f (p ++ y :: q) n = getN x (y :: q) n
  | [], f, x, h => by simp [getN] at h
  | [(i, o)], f, x, h => by
    obtain ⟨row, hk, hro⟩ := getN_row.1 h
    rw [List.singleton_append, getN_step, hk]
    simp only [hro]
  | (i, o) :: z :: p, f, x, h => by
    rw [getN_step] at h
    rw [List.cons_append, List.cons_append, getN_step]
    cases hk : f.kids[i]? with
    | none => rw [hk] at h; cases h
    | some row =>
    rw [hk] at h
    simp only at h ⊢
    cases hro : row[o]? with
    | none => rw [hro] at h; cases h
    | some x1 =>
      rw [hro] at h
      simp only at h ⊢
      exact getN_append h
theorem locate_append {h : Array Obj} {y : Nat × Nat} {q : Path} : ∀ {p : Path} {v : Value} {f x : FV} {b o : Nat} {vx : Value}, getN f p 1 = some [x] → locate h v f p = some (b, o) → cellAt h b o = some vx →
    locate h v f (p ++ y :: q) = locate h vx x (y :: q)
  | [], v, f, x, b, o, vx, hg, _, _ => by simp [getN] at hg
  | [(i, u)], v, f, x, b, o, vx, hg, hl, hc => by
    obtain ⟨row, hk, hro⟩ := getN_row.1 hg
    simp only [locate, hk] at hl
    rw [List.singleton_append]
    simp only [locate, hk]
    cases hb : blockOf v with
    | none => rw [hb] at hl; cases hl
    | some b0 =>
      rw [hb] at hl
      simp only [Option.some.injEq, Prod.mk.injEq] at hl
      obtain ⟨rfl, rfl⟩ := hl
      simp only [hc, hro]
  | (i, u) :: z :: p, v, f, x, b, o, vx, hg, hl, hc => by
    rw [getN_step] at hg
    rw [List.cons_append, List.cons_append]
    simp only [locate] at hl ⊢
    cases hb : blockOf v with
    | none => rw [hb] at hl; cases hl
    | some b0 =>
    cases hk : f.kids[i]? with
    | none => rw [hk] at hg; cases hg
    | some row =>
    rw [hk] at hg
    rw [hb, hk] at hl
    simp only at hg hl ⊢
    cases hro : row[u]? with
    | none => rw [hro] at hg; cases hg
    | some x1 =>
    rw [hro] at hg hl
    simp only at hg
    cases hcc : cellAt h b0 (offOf v + (i * row.length + u)) with
    | none => rw [hcc] at hl; cases hl
    | some vc =>
      rw [hcc] at hl
      simp only at hl ⊢
      exact locate_append hg hl hc
section
variable {P : Program} {N : Nat} {o : Oper} {E : Env} {d : Nat}
theorem Rel.elem {xv : Nat → Value} {a : Act} {w : World} {S : Nat → Prop} {R : List Nat} (r : Rel N xv E a w S R) {q : Nat} {p : Path} {v : Value} (he : hdrAt w.heap (valOf a xv) E q p = some v)
    {es : List (List FV)} (ha : E.at q p = .arr es) {i : Nat} {row : List FV} (hi : es[i]? = some row) (hr : 0 < row.length) :
    ∃ b o cap, v = .slice (some ⟨b, o, none⟩) es.length cap ∧ ptrAt w.heap (valOf a xv) E q (p ++ [(i, 0)]) = some (.pointer (some ⟨b, o + i * row.length, none⟩)) := by
  obtain ⟨g, Rf, R2, h1, hsl, h2, _, _⟩ := r.alAt he
  rw [ha] at h1
  subst h1
  have hg0 : getN (.arr es) [(i, 0)] 1 = some [row[0]] := getN_row.2 ⟨row, by simpa [FV.kids] using hi, List.getElem?_eq_getElem hr⟩
  cases h2 with
  | arrNil _ => simp at hi
  | @arr es b o0 n cap st c T _ _ R1 R2' hn hst hb hsz hcap hpos hr' ht =>
    refine ⟨b, o0, cap, by rw [hn], ?_⟩
    have hl0 : locate w.heap (.slice (some ⟨b, o0, none⟩) n cap) (.arr es) [(i, 0)] = some (b, o0 + (i * row.length + 0)) := by
      simp only [locate, blockOf, offOf, FV.kids, hi]
    cases p with
    | nil =>
      simp only [hdrAt] at he
      simp only [Env.at] at ha
      rw [ha] at he
      simp only [FV.isSl, if_true, Option.some.injEq] at he
      simp only [List.nil_append, ptrAt, ha, hg0, he, hl0, Nat.add_zero]
    | cons x p =>
      simp only [hdrAt] at he
      simp only [Env.at] at ha
      cases hg : getN (E.get q) (x :: p) 1 with
      | none => rw [hg] at ha; cases ha
      | some ys =>
      have hl := getN_len hg
      match ys, hl with
      | [y], hly =>
      rw [hg] at ha he
      simp only at ha
      subst ha
      simp only [FV.isSl, if_true] at he
      cases hloc : locate w.heap (valOf a xv q) (E.get q) (x :: p) with
      | none => rw [hloc] at he; cases he
      | some bo =>
        obtain ⟨b1, o1⟩ := bo
        rw [hloc] at he
        simp only at he
        simp only [ptrAt, getN_append hg, hg0, locate_append hg hloc he, hl0, Nat.add_zero]
def iaF (E : Env) (s : FV) (i : Int) (size : Nat) : Option FV :=
  match s with
  | .al q p => match E.at q p with
    | .arr es => match es[i.toNat]? with
      | some row => if 0 ≤ i ∧ row.length = size ∧ 0 < size then some (.ptr q (p ++ [(i.toNat, 0)])) else none
      | none => none
    | _ => none
  | .als q lo n sz => match E.get q with
    | .arr es => match es[lo + i.toNat]? with
      | some row => if 0 ≤ i ∧ i.toNat < n ∧ row.length = size ∧ size = sz ∧ 0 < size then some (.ptr q [(lo + i.toNat, 0)]) else none
      | none => none
    | _ => none
  | .sl _ es => match es[i.toNat]? with
    | some row => if 0 ≤ i ∧ row.length = size then some (.ref row) else none
    | none => none
  | _ => none
def sliceIs (P : Program) (t : TypeId) (size : Nat) : Bool :=
  match P.underlying t with
  | some (.slice e) => sizeIs P e size
  | _ => false
theorem sliceIs_spec {t : TypeId} {size : Nat} (h : sliceIs P t size = true) : ∃ e i, P.underlying t = some (.slice e) ∧ P.info? e = some i ∧ i.size = size := by
  unfold sliceIs at h
  cases hu : P.underlying t with
  | none => rw [hu] at h; cases h
  | some de =>
    rw [hu] at h
    cases de <;> simp only at h <;> try (cases h; done)
    rename_i e
    unfold sizeIs at h
    cases hi : P.info? e with
    | none => rw [hi] at h; cases h
    | some i =>
      rw [hi] at h
      exact ⟨e, i, rfl, hi, by simpa using h⟩
theorem Rep.row {h : Array Obj} {S : Nat → Prop} {b o0 st : Nat} {cs : List Value} {es : List (List FV)} {n i : Nat} {row : List FV} (hn : es.length = n) (hst : ∀ e ∈ es, e.length = st) (hS : S b) (hlt : b < h.size) (hcs : cs.length = n * st)
    (hc : ∀ k, k < n * st → cellAt h b (o0 + k) = cs[k]?) (hr : Rep h S cs es.flatten []) (hi : es[i]? = some row) : Rep h S [.pointer (some ⟨b, o0 + i * st, none⟩)] [.ref row] [] := by
  have hrow : row.length = st := hst row (List.mem_of_getElem? hi)
  have hil : i < es.length := by
    rcases Nat.lt_or_ge i es.length with h1 | h1
    · exact h1
    · rw [List.getElem?_eq_none h1] at hi; cases hi
  have hmul : (i + 1) * st ≤ n * st := Nat.mul_le_mul_right _ (by omega)
  rw [Nat.add_mul, Nat.one_mul] at hmul
  have h1 := ((hr.takeD (i * st)).2.takeD st).1
  have e1 : (es.flatten.drop (i * st)).take st = row := by
    have := flatten_row hst hi 0 (by omega)
    simp only [Nat.add_zero, List.drop_zero] at this
    rw [this, List.take_append_of_le_length (by omega), List.take_of_length_le (by omega)]
  rw [e1] at h1
  refine .ref hS hlt (cs := (cs.drop (i * st)).take st) ?_ h1 .nil
  intro k hk
  simp at hk
  rw [Nat.add_assoc, hc (i * st + k) (by omega), List.getElem?_take_of_lt (by omega), List.getElem?_drop]
theorem ok_indexAddr {t : TypeId} {s si : Sr} {x y : Operand} {i : Int} {k : IntKind} {size : Nat} {f : FV} (ho : o.op = .indexAddr t x y) (hd : o.dst = some d) (hdN : d < N) (hs : s.fits N x = true) (hsi : si.fits N y = true) (ht : sliceIs P t size = true)
    (hi : E.look si = .int k i) (hl : iaF E (E.look s) i size = some f) (hroot : f.notRoot d = true) : OpOk P N o E (· = E.upd d f) := by
  refine ok_look hd hdN hroot ?_
  intro xv a w S R r
  have lk := looked r hs
  have li := looked r hsi
  rw [hi] at li
  have hyv := li.int
  obtain ⟨e, inf, hu, hinf, hsz⟩ := sliceIs_spec ht
  have hrun : ∀ b o' n cap, a.eval x = .slice (some ⟨b, o', none⟩) n cap → 0 ≤ i → i < n → (execOp a.eval o).run P w = .ok (.value (.pointer (some ⟨b, o' + i.toNat * size, none⟩))) w := by
    intro b o' n cap hv h0 h1
    simp [execOp, ho, Instr.indexAt, hyv, asIntOf, run_underlying' hu, hv, h0, h1, run_sizeOf' hinf, hsz, add_eq]
  generalize E.look s = adr at lk hl
  cases adr <;> simp only [iaF] at hl <;> try (cases hl; done)
  case sl full es =>
    cases hrow : es[i.toNat]? with
    | none => rw [hrow] at hl; cases hl
    | some row =>
    rw [hrow] at hl
    simp only at hl
    split at hl
    case isFalse => cases hl
    rename_i hc
    cases hl
    have hil : i.toNat < es.length := by
      rcases Nat.lt_or_ge i.toNat es.length with h1 | h1
      · exact h1
      · rw [List.getElem?_eq_none h1] at hrow; cases hrow
    have hrep := lk.rep rfl
    generalize hv : a.eval x = v at hrep
    cases hrep with
    | slNil _ => simp at hil
    | @sl _ _ b o0 n cap st cs _ _ _ hn hst hS hlt hcs hcc hcap hfull hpos hr _ =>
      have hrl : row.length = st := hst row (List.mem_of_getElem? hrow)
      refine ⟨_, hrun b o0 n cap hv hc.1 (by omega), .closed ?_⟩
      have := Rep.row hn hst hS hlt hcs hcc hr hrow
      rw [show size = st by omega]
      exact this
  case als q lo m sz =>
    cases hq : E.get q <;> rw [hq] at hl <;> simp only at hl <;> try (cases hl; done)
    rename_i es
    cases hrow : es[lo + i.toNat]? with
    | none => rw [hrow] at hl; cases hl
    | some row =>
    rw [hrow] at hl
    simp only at hl
    split at hl
    case isFalse => cases hl
    rename_i hc
    obtain ⟨c1, c2, c3, c4, c5⟩ := hc
    cases hl
    cases lk with
    | closed h => have := h.noalias _ (List.mem_singleton.2 rfl); cases this
    | als h =>
      obtain ⟨es', hf, hrw, hle, z, len, cap, hv, hu'⟩ := h
      rw [hq] at hf
      obtain rfl : es = es' := by
        rcases hf with h | ⟨h, _⟩
        · exact FV.arr.inj h
        · cases h
      have he : hdrAt w.heap (valOf a xv) E q [] = some (valOf a xv q) := by simp only [hdrAt, hq, FV.isSl, if_true]
      obtain ⟨R1, R2, hrep, _⟩ := r.get0 q hq rfl
      obtain ⟨z2, cap2, hvz, hcap⟩ : ∃ z cap, valOf a xv q = .slice z es.length cap ∧ es.length ≤ cap := by
        generalize valOf a xv q = v at hrep
        cases hrep with
        | arrNil => exact ⟨_, 0, rfl, by simp⟩
        | arr hn _ _ _ hcap => subst hn; exact ⟨_, _, rfl, hcap⟩
      obtain ⟨b, o0, cap', hv', hp⟩ := r.elem he (show E.at q [] = .arr es from hq) hrow (by omega)
      rw [hv] at hv' hvz
      injection hv' with e1 e2 e3
      injection hvz with _ _ e4
      subst e1; subst e2; subst e3
      subst e4
      rw [if_neg (by omega)] at hu'
      simp only [Option.map_some, add_eq] at hu'
      refine ⟨_, hrun b _ m _ hu' c1 (by omega), .ptr ?_⟩
      rw [List.nil_append] at hp
      rw [hp]
      congr 4
      rw [c3, ← c4, Nat.add_mul]; omega
  case al q p =>
    cases ha : E.at q p <;> rw [ha] at hl <;> simp only at hl <;> try (cases hl; done)
    rename_i es
    cases hrow : es[i.toNat]? with
    | none => rw [hrow] at hl; cases hl
    | some row =>
    rw [hrow] at hl
    simp only at hl
    split at hl
    case isFalse => cases hl
    rename_i hc
    cases hl
    have he : hdrAt w.heap (valOf a xv) E q p = some (a.eval x) := by
      cases lk with
      | closed h => have := h.noalias _ (List.mem_singleton.2 rfl); cases this
      | al h => exact h
    have hil : i.toNat < es.length := by
      rcases Nat.lt_or_ge i.toNat es.length with h1 | h1
      · exact h1
      · rw [List.getElem?_eq_none h1] at hrow; cases hrow
    obtain ⟨b, o0, cap, hv, hp⟩ := r.elem he ha hrow (by omega)
    refine ⟨_, hrun b o0 es.length cap hv hc.1 (by omega), .ptr ?_⟩
    rw [hp, hc.2.1]
theorem Rel.alHdr {xv : Nat → Value} {a : Act} {w : World} {S : Nat → Prop} {R : List Nat} (r : Rel N xv E a w S R) {q : Nat} {p : Path} {v : Value} (he : hdrAt w.heap (valOf a xv) E q p = some v) :
    (∀ es, E.at q p = .arr es → ∃ b cap, v = .slice b es.length cap) ∧ (∀ st, E.at q p = .buf st → ∃ b cap, v = .slice b 0 cap) := by
  obtain ⟨g, Rf, R2, h1, hsl, h2, _, _⟩ := r.alAt he
  rw [h1]
  refine ⟨fun es e => ?_, fun st e => ?_⟩
  · subst e
    cases h2 with
    | arrNil _ => exact ⟨_, _, rfl⟩
    | arr hn => exact ⟨_, _, by rw [hn]⟩
  · subst e
    cases h2 with
    | buf => exact ⟨_, _, rfl⟩
    | bufNil => exact ⟨_, _, rfl⟩
def lenF (E : Env) (s : FV) : Option Nat :=
  match s with
  | .al q p => match E.at q p with
    | .arr es => some es.length
    | .buf _ => some 0
    | _ => none
  | .sl _ es => some es.length
  | .als _ _ n _ => some n
  | .arr [] => some 0
  | _ => none
def isSliceT (P : Program) (t : TypeId) : Bool :=
  match P.underlying t with
  | some (.slice _) => true
  | _ => false
def isStringT (P : Program) (t : TypeId) : Bool :=
  match P.underlying t with
  | some .string => true
  | _ => false
theorem isSliceT_spec {t : TypeId} (h : isSliceT P t = true) : ∃ e, P.underlying t = some (.slice e) := by
  unfold isSliceT at h
  cases hu : P.underlying t with
  | none => rw [hu] at h; cases h
  | some de => rw [hu] at h; cases de <;> simp only at h <;> first | (cases h; done) | exact ⟨_, rfl⟩
theorem isStringT_spec {t : TypeId} (h : isStringT P t = true) : P.underlying t = some .string := by
  unfold isStringT at h
  cases hu : P.underlying t with
  | none => rw [hu] at h; cases h
  | some de => rw [hu] at h; cases de <;> simp only at h <;> first | (cases h; done) | rfl
theorem ok_len {t : TypeId} {s : Sr} {x : Operand} {n : Nat} (ho : o.op = .call { callee := .builtin .len, args := #[x], argTypes := #[t] }) (hd : o.dst = some d) (hdN : d < N) (hs : s.fits N x = true) (ht : isSliceT P t = true)
    (hl : lenF E (E.look s) = some n) : OpOk P N o E (· = E.upd d (.int .i64 n)) := by
  refine ok_look hd hdN rfl ?_
  intro xv a w S R r
  have lk := looked r hs
  obtain ⟨e, hu⟩ := isSliceT_spec ht
  have main : ∀ m cap z, a.eval x = .slice z m cap → (execOp a.eval o).run P w = .ok (.value (.int .i64 m)) w := by
    intro m cap z hv
    simp [execOp, ho, resolve, invoke, builtin, Builtin.len_, run_underlying' hu, hv, goInt]
  refine ⟨.int .i64 n, ?_, .closed (.int .nil)⟩
  generalize E.look s = adr at lk hl
  cases adr <;> simp only [lenF] at hl <;> try (cases hl; done)
  case sl full es =>
    cases hl
    have hrep := lk.rep rfl
    generalize hv : a.eval x = v at hrep
    cases hrep with
    | slNil _ => exact main _ _ _ hv
    | sl hn => rw [hn]; exact main _ _ _ hv
  case arr es =>
    cases es with
    | cons e es => cases hl
    | nil =>
      cases hl
      have hrep := lk.rep rfl
      generalize hv : a.eval x = v at hrep
      cases hrep with
      | arrNil _ => exact main _ _ _ hv
  case als q lo m sz =>
    cases hl
    cases lk with
    | closed h => have := h.noalias _ (List.mem_singleton.2 rfl); cases this
    | als h =>
      obtain ⟨es, _, _, _, z, len, cap, _, hu⟩ := h
      exact main _ _ _ hu
  case al q p =>
    have he : hdrAt w.heap (valOf a xv) E q p = some (a.eval x) := by
      cases lk with
      | closed h => have := h.noalias _ (List.mem_singleton.2 rfl); cases this
      | al h => exact h
    obtain ⟨h1, h2⟩ := r.alHdr he
    cases ha : E.at q p <;> rw [ha] at hl <;> simp only at hl <;> try (cases hl; done)
    · cases hl
      obtain ⟨b, cap, hv⟩ := h1 _ ha
      exact main _ _ _ hv
    · cases hl
      obtain ⟨b, cap, hv⟩ := h2 _ ha
      exact main _ _ _ hv
theorem ok_lenS {t : TypeId} {s : Sr} {x : Operand} {b : List UInt8} (ho : o.op = .call { callee := .builtin .len, args := #[x], argTypes := #[t] }) (hd : o.dst = some d) (hdN : d < N) (hs : s.fits N x = true) (ht : isStringT P t = true)
    (hl : E.look s = .str b) : OpOk P N o E (· = E.upd d (.int .i64 b.length)) := by
  refine ok_look hd hdN rfl ?_
  intro xv a w S R r
  have lk := looked r hs
  rw [hl] at lk
  have hu := isStringT_spec ht
  refine ⟨.int .i64 b.length, ?_, .closed (.int .nil)⟩
  have hsz : (ByteArray.mk b.toArray).size = b.length := by simp [ByteArray.size]
  simp [execOp, ho, resolve, invoke, builtin, Builtin.len_, run_underlying' hu, lk.str, goInt, hsz]
theorem run_append_grow' {w : World} {t t2 ty e : TypeId} {i : TypeInfo} {z : Value} (ht : P.underlying t = some (.slice e)) (ht2 : P.underlying t2 = some (.slice e)) (hi : P.info? e = some i) (hz : i.zero = some z)
    {base : Option Addr} {sLen sCap : Nat} {olds news : List Value} {x : Option Addr} {n c : Nat} (hold : (Builtin.firstCells i.size sLen (.slice base sLen sCap)).run P w.drew = .ok olds.toArray w.drew)
    (hnew : (Builtin.firstCells i.size n (.slice x n c)).run P w.drew = .ok news.toArray w.drew) (hg : sCap < sLen + n) (hpos : 0 < i.bytes) (hfit : (sLen + n) * i.bytes ≤ 140737488355328) :
    ∃ cap, sLen + n ≤ cap ∧ (Builtin.append_ #[t, t2] ty #[.slice base sLen sCap, .slice x n c]).run P w =
      .ok (.slice (some ⟨w.heap.size, 0, none⟩) (sLen + n) cap) (w.drew.alloc (.cells (olds.toArray ++ news.toArray ++ Builtin.zeroCells z.cells (cap - (sLen + n))) e)) := by
  have hn : ¬ (sLen + n ≤ sCap) := by omega
  have h63 : ((sLen + n : Nat) : Int) ≤ 9223372036854775807 := by
    have : sLen + n ≤ (sLen + n) * i.bytes := Nat.le_mul_of_pos_right _ hpos
    omega
  have h63' : ¬ (9223372036854775807 < ((sLen : Int) + (n : Int))) := by omega
  have h48' : ¬ (281474976710656 < Builtin.nextslicecap (sLen + n) sCap * i.bytes) := by
    have := growslice_fits (bytes := i.bytes) hg hfit
    omega
  refine ⟨grownCap w (sLen + n) sCap e, grownCap_ge w (sLen + n) sCap e, ?_⟩
  simp [Builtin.append_, run_underlying' ht, run_underlying' ht2, sizeOf, typeInfo, zeroValue, hi, hz, Builtin.lenOf, hn, h63', h48', Question.forced, hold, hnew, newRow, grownCap]
  congr 2
  apply Array.ext'
  simp [List.append_assoc]
theorem run_append_fits' {w w' : World} {t t2 ty e : TypeId} {i : TypeInfo} (ht : P.underlying t = some (.slice e)) (ht2 : P.underlying t2 = some (.slice e)) (hi : P.info? e = some i)
    {base : Option Addr} {sLen sCap : Nat} {news : List Value} {x : Option Addr} {n c : Nat}
    (hnew : (Builtin.firstCells i.size n (.slice x n c)).run P w = .ok news.toArray w) (hg : sLen + n ≤ sCap)
    (hst : ∀ b, base = some b → (storeCells (b.add (sLen * i.size)) news 0).run P w = .ok () w') (hb : base = none → w' = w) :
    (Builtin.append_ #[t, t2] ty #[.slice base sLen sCap, .slice x n c]).run P w = .ok (.slice base (sLen + n) sCap) w' := by
  cases base with
  | none =>
    have := hb rfl
    subst this
    simp [Builtin.append_, run_underlying' ht, run_underlying' ht2, sizeOf, typeInfo, hi, Builtin.lenOf, hg, hnew]
  | some b =>
    have := hst b rfl
    simp [Builtin.append_, run_underlying' ht, run_underlying' ht2, sizeOf, typeInfo, hi, Builtin.lenOf, hg, hnew, this]
def rowsOk (size : Nat) (es : List (List FV)) : Bool := es.all fun r => r.length == size && r.all FV.one
theorem rowsOk_len {size : Nat} {es : List (List FV)} (h : rowsOk size es = true) : ∀ e ∈ es, e.length = size := by
  intro e m
  have := List.all_eq_true.1 h e m
  simp only [Bool.and_eq_true, beq_iff_eq] at this
  exact this.1
theorem rowsOk_one {size : Nat} {es : List (List FV)} (h : rowsOk size es = true) : es.flatten.all FV.one = true := by
  rw [List.all_eq_true]
  intro f m
  obtain ⟨e, he, hf⟩ := List.mem_flatten.1 m
  have := List.all_eq_true.1 h e he
  simp only [Bool.and_eq_true] at this
  exact List.all_eq_true.1 this.2 f hf
def elemsOf : FV → Option (List (List FV))
  | .arr es => some es
  | .sl _ es => some es
  | .buf _ => some []
  | _ => none
theorem elems_spec {w : World} {S : Nat → Prop} {v : Value} {f : FV} {R : List Nat} {es : List (List FV)} {size : Nat} (r : Rep w.heap S [v] [f] R) (he : elemsOf f = some es) (hs : rowsOk size es = true) :
    ∃ z n c news Rn, v = .slice z n c ∧ es.length = n ∧ (∀ w' : World, w'.heap = w.heap → (Builtin.firstCells size n v).run P w' = .ok news.toArray w') ∧ news.length = n * size ∧ Rep w.heap S news es.flatten Rn ∧ (∀ b ∈ Rn, b ∈ R) ∧ (R.Nodup → Rn.Nodup) := by
  have len := rowsOk_len hs
  have load : ∀ {b o : Nat} {cs : List Value} {n cap : Nat}, cs.length = n * size → (∀ k, k < n * size → cellAt w.heap b (o + k) = cs[k]?) → ∀ w' : World, w'.heap = w.heap →
      (Builtin.firstCells size n (.slice (some ⟨b, o, none⟩) n cap)).run P w' = .ok cs.toArray w' := by
    intro b o cs n cap h1 h2 w' hw
    simp only [Builtin.firstCells]
    exact run_loadCells' h1 (fun k hk => by rw [hw]; exact h2 k hk)
  have zero : ∀ {z : Option Addr} {cap : Nat}, ∀ w' : World, (Builtin.firstCells size 0 (.slice z 0 cap)).run P w' = .ok #[] w' := by
    intro z cap w'
    cases z with
    | none => simp [Builtin.firstCells]
    | some a => simp [Builtin.firstCells, loadCells, loadCellsFrom]
  cases f <;> simp only [elemsOf] at he <;> try (cases he; done)
  case sl full es' =>
    cases he
    cases r with
    | slNil ht => exact ⟨_, 0, 0, [], [], rfl, rfl, fun w' _ => zero w', by simp, .nil, by simp, by simp⟩
    | @sl _ _ b o0 n cap st cs _ _ _ hn hst hS hlt hcs hcc hcap hfull hpos hr ht =>
      cases ht
      have hmul : n * st = n * size := by
        cases es with
        | nil => simp at hn; subst hn; simp
        | cons e es => rw [← hst e (by simp), ← len e (by simp)]
      rw [hmul] at hcs hcc
      exact ⟨_, n, cap, cs, [], rfl, hn, load hcs hcc, hcs, hr, by simp, by simp⟩
  case arr es' =>
    cases he
    cases r with
    | arrNil ht => exact ⟨_, 0, 0, [], [], rfl, rfl, fun w' _ => zero w', by simp, .nil, by simp, by simp⟩
    | @arr _ b o0 n cap st c T _ _ R1 R2 hn hst hb hsz hcap hpos hr ht =>
      cases ht
      have hst' : st = size := by
        cases es with
        | nil => simp at hn; omega
        | cons e es => rw [← hst e (by simp), ← len e (by simp)]
      subst hst'
      have hle : n * st ≤ cap * st := Nat.mul_le_mul_right _ hcap
      have hl : ((c.toList.drop o0).take (n * st)).length = n * st := by simp; omega
      refine ⟨_, n, cap, (c.toList.drop o0).take (n * st), R1, rfl, hn, load hl (fun k hk => by unfold cellAt; rw [hb]; simp [List.getElem?_take, hk]), hl, hr, by simp +contextual, fun nd => ?_⟩
      simp only [List.append_nil] at nd
      exact (List.nodup_cons.1 nd).2
  case buf st =>
    cases he
    cases r with
    | buf hb hsz hpos ht => exact ⟨_, 0, _, [], [], rfl, rfl, fun w' _ => zero w', by simp, .nil, by simp, by simp⟩
    | bufNil ht => exact ⟨_, 0, _, [], [], rfl, rfl, fun w' _ => zero w', by simp, .nil, by simp, by simp⟩
theorem Post.alloc {xv : Nat → Value} {a : Act} {w w' : World} {S : Nat → Prop} {R : List Nat} {E' : Env} {S' : Nat → Prop} {R' Rf : List Nat} (hrel : Rel N xv E' a w S' R') (hseals : ∀ b, S b → S' b) (hnews : ∀ b, S' b → S b ∨ b ∈ R) (hsub : ∀ b ∈ R', b ∈ R)
    (hdN : d < N) {c : Array Value} {T : TypeId} (hheap : w'.heap = w.heap.push (.cells c T (0, 0))) (hos : w'.os = w.os) (htape : w'.tape = w.tape) (hout : w'.output = w.output) {v : Value} {f : FV}
    (hrep : Rep w'.heap S' [v] [f] (w.heap.size :: Rf)) (hnd : Rf.Nodup) (hap : ∀ b ∈ Rf, b ∉ R' ∧ ¬ S' b) (hsubf : ∀ b ∈ Rf, b ∈ R) (hlt : ∀ b ∈ Rf, b < w.heap.size) (K : Env → Prop) (hK : K (E'.upd d f)) :
    Post N xv K w S R (a.put (some d) v) w' := by
  have hw : Rel N xv E' a w' S' R' := hrel.world (by rw [hheap]; simp) (fun b hb _ => by rw [hheap]; exact getElem?_push_lt _ _ hb) (fun b m => by rw [hheap]; exact getElem?_push_lt _ _ (hrel.env.lt b m))
  obtain ⟨R'', h1, h2⟩ := hw.upd hdN hrep (by
    intro b m
    rcases List.mem_cons.1 m with rfl | m
    · exact ⟨fun m' => by have := hrel.env.lt _ m'; omega, fun hb => by have := (hrel.sep _ hb).1; omega⟩
    · exact hap b m) (by
    rw [List.nodup_cons]
    exact ⟨fun m => by have := hlt _ m; omega, hnd⟩)
  refine ⟨_, S', R'', hK, h1, ⟨hseals, fun b hb => (hnews b hb).imp id .inl, fun b hb _ => by rw [hheap]; exact getElem?_push_lt _ _ hb, by rw [hheap]; simp, ?_, hos, htape, hout, ?_⟩⟩
  · intro b m
    rcases h2 b m with h | h
    · rcases List.mem_cons.1 h with rfl | h
      · exact .inr (Nat.le_refl _)
      · exact .inl (hsubf b h)
    · exact .inl (hsub b h)
  · exact fun x hx => hx
def apBase (size : Nat) : FV → Option (List (List FV))
  | .arr es => some es
  | .buf st => if st = size then some [] else none
  | .sl true es => some es
  | _ => none
def apOut (f0 : FV) (es0 es1 : List (List FV)) : FV :=
  match f0 with
  | .buf st => if es1 = [] then .buf st else .arr es1
  | .sl _ (e :: es) => if es1 = [] then .sl true (e :: es) else .arr (e :: es ++ es1)
  | _ => .arr (es0 ++ es1)
def apF (E : Env) (a b : Sr) (size bytes : Nat) : Option (FV × Env) :=
  match apBase size (E.pass true a).1, elemsOf ((E.pass true a).2.pass false b).1 with
  | some es0, some es1 =>
    if (rowsOk size es0 && rowsOk size es1) = true ∧ (es0.length + es1.length) * bytes ≤ 140737488355328 then some (apOut (E.pass true a).1 es0 es1, ((E.pass true a).2.pass false b).2) else none
  | _, _ => none
def apOk (P : Program) (t t2 : TypeId) (size bytes : Nat) : Bool :=
  match P.underlying t, P.underlying t2 with
  | some (.slice e), some (.slice e2) => e == e2 && (match P.info? e with
    | some i => i.size == size && i.bytes == bytes && decide (0 < bytes) && (match i.zero with | some z => z.cells.size == size | none => false)
    | none => false)
  | _, _ => false
theorem apOk_spec {t t2 : TypeId} {size bytes : Nat} (h : apOk P t t2 size bytes = true) :
    ∃ e i z, P.underlying t = some (.slice e) ∧ P.underlying t2 = some (.slice e) ∧ P.info? e = some i ∧ i.size = size ∧ i.bytes = bytes ∧ 0 < bytes ∧ i.zero = some z ∧ z.cells.size = size := by
  unfold apOk at h
  cases hu : P.underlying t with
  | none => rw [hu] at h; cases h
  | some de =>
  cases hu2 : P.underlying t2 with
  | none => rw [hu, hu2] at h; cases de <;> cases h
  | some de2 =>
  rw [hu, hu2] at h
  cases de <;> try (cases h; done)
  cases de2 <;> try (cases h; done)
  rename_i e e2
  simp only [Bool.and_eq_true, beq_iff_eq] at h
  obtain ⟨rfl, h⟩ := h
  cases hi : P.info? e with
  | none => rw [hi] at h; cases h
  | some i =>
  rw [hi] at h
  simp only [Bool.and_eq_true, beq_iff_eq, decide_eq_true_eq] at h
  obtain ⟨⟨⟨h1, h2⟩, h3⟩, h4⟩ := h
  cases hz : i.zero with
  | none => rw [hz] at h4; cases h4
  | some z =>
    rw [hz] at h4
    exact ⟨e, i, z, rfl, rfl, hi, h1, h2, h3, hz, by simpa using h4⟩
theorem ok_append {t t2 : TypeId} {s1 s2 : Sr} {x y : Operand} {size bytes : Nat} {f : FV} {E' : Env} (ho : o.op = .call { callee := .builtin .append, args := #[x, y], argTypes := #[t, t2] }) (hd : o.dst = some d) (hdN : d < N)
    (hs1 : s1.fits N x = true) (hs2 : s2.fits N y = true) (ht : apOk P t t2 size bytes = true) (hl : apF E s1 s2 size bytes = some (f, E')) : OpOk P N o E (· = E'.upd d f) := by
  intro xv a w S R r
  obtain ⟨S1, Rf1, R1, p1⟩ := passed r hs1 true
  obtain ⟨S2, Rf2, R2, p2⟩ := passed p1.rel hs2 false
  unfold apF at hl
  have hrep1 : Rep w.heap S2 [a.eval x] [(E.pass true s1).1] Rf1 := p1.rep.mono p2.seals (Nat.le_refl _) (fun _ _ _ => rfl) (fun _ _ => rfl)
  have hrep2 := p2.rep
  generalize hf0 : (E.pass true s1).1 = f0 at hl hrep1
  generalize hf1 : ((E.pass true s1).2.pass false s2).1 = f1 at hl hrep2
  generalize hE2 : ((E.pass true s1).2.pass false s2).2 = E2 at hl
  have hrel := p2.rel
  rw [hE2] at hrel
  cases hb0 : apBase size f0 with
  | none => rw [hb0] at hl; cases hl
  | some es0 =>
  cases hb1 : elemsOf f1 with
  | none => rw [hb0, hb1] at hl; cases hl
  | some es1 =>
  rw [hb0, hb1] at hl
  simp only at hl
  split at hl
  case isFalse => cases hl
  rename_i hc
  obtain ⟨hrows, hfit⟩ := hc
  simp only [Bool.and_eq_true] at hrows
  simp only [Option.some.injEq, Prod.mk.injEq] at hl
  obtain ⟨rfl, rfl⟩ := hl
  obtain ⟨e, i, z, hu, hu2, hi, hsz, hby, hbpos, hz, hzs⟩ := apOk_spec ht
  subst hsz
  subst hby
  obtain ⟨zx, n1, c1, news, Rn, hv1, hn1, hfirst1, hnl, hrn, hrnsub, hrnnd⟩ := elems_spec (P := P) hrep2 hb1 hrows.2
  have hexec : ∀ {rv : Value} {w' : World}, (Builtin.append_ #[t, t2] o.type #[a.eval x, a.eval y]).run P w = .ok rv w' → (execOp a.eval o).run P w = .ok (.value rv) w' := by
    intro rv w' h
    simp [execOp, ho, resolve, invoke, builtin, h]
  -- the blocks of what is appended
  have hnap : ∀ b ∈ Rn, b ∉ R2 ∧ ¬ S2 b := fun b m => p2.apart b (hrnsub b m)
  have hsub2 : ∀ b ∈ R2, b ∈ R := fun b m => p1.sub b (p2.sub b m)
  have hseals : ∀ b, S b → S2 b := fun b h => p2.seals b (p1.seals b h)
  have hnews2 : ∀ b, S2 b → S b ∨ b ∈ R := fun b h => by
    rcases p2.news b h with h | h
    · exact p1.news b h
    · exact .inr (p1.sub b h)
  have hRf1 : ∀ b ∈ Rf1, b ∉ R2 ∧ ¬ S2 b := fun b m => ⟨fun m' => (p1.apart b m).1 (p2.sub b m'), fun hb => by
    rcases p2.news b hb with h | h
    · exact (p1.apart b m).2 h
    · exact (p1.apart b m).1 h⟩
  have hdis : ∀ b ∈ Rf1, b ∉ Rn := fun b m m' => (p1.apart b m).1 (p2.subf b (hrnsub b m'))
  have hnsub : ∀ b ∈ Rn, b ∈ R := fun b m => p1.sub b (p2.subf b (hrnsub b m))
  -- growing
  have grow : ∀ {base : Option Addr} {n0 cap0 : Nat} {olds : List Value} {R0 : List Nat}, a.eval x = .slice base n0 cap0 → es0.length = n0 → (∀ w' : World, w'.heap = w.heap → (Builtin.firstCells i.size n0 (.slice base n0 cap0)).run P w' = .ok olds.toArray w') → olds.length = n0 * i.size →
      Rep w.heap S2 olds es0.flatten R0 → (∀ b ∈ R0, b ∈ Rf1) → R0.Nodup → cap0 < n0 + n1 → apOut f0 es0 es1 = .arr (es0 ++ es1) → o.wp P a w (Post N xv (· = E2.upd d (apOut f0 es0 es1)) w S R) (fun _ _ _ => False) := by
    intro base n0 cap0 olds R0 hv hn0 hfirst hol hro hR0 hR0n hg hout
    rw [hout]
    obtain ⟨cap, hcap, hrun⟩ := run_append_grow' (P := P) (w := w) (t := t) (t2 := t2) (ty := o.type) hu hu2 hi hz (hfirst w.drew rfl) (by rw [← hv1]; exact hfirst1 w.drew rfl) hg hbpos (by rw [← hn0, ← hn1]; exact hfit)
    rw [← hv, ← hv1] at hrun
    refine wp_value (hexec hrun) ?_
    rw [hd]
    have hzsz : (Builtin.zeroCells z.cells (cap - (n0 + n1))).size = (cap - (n0 + n1)) * i.size := by rw [size_zeroCells, hzs]
    have hpushlt : ∀ b, b < w.heap.size → (w.heap.push (Obj.cells (olds.toArray ++ news.toArray ++ Builtin.zeroCells z.cells (cap - (n0 + n1))) e (0, 0)))[b]? = w.heap[b]? := fun b hb => getElem?_push_lt _ _ hb
    refine Post.alloc (w' := w.drew.alloc (.cells (olds.toArray ++ news.toArray ++ Builtin.zeroCells z.cells (cap - (n0 + n1))) e)) (Rf := R0 ++ Rn) hrel hseals hnews2 hsub2 hdN (c := olds.toArray ++ news.toArray ++ Builtin.zeroCells z.cells (cap - (n0 + n1))) (T := e) rfl rfl rfl rfl ?_ ?_ ?_ ?_ ?_ _ rfl
    · show Rep (w.heap.push (Obj.cells (olds.toArray ++ news.toArray ++ Builtin.zeroCells z.cells (cap - (n0 + n1))) e (0, 0))) S2 _ _ _
      have hcont : Rep (w.heap.push (Obj.cells (olds.toArray ++ news.toArray ++ Builtin.zeroCells z.cells (cap - (n0 + n1))) e (0, 0))) S2 (olds ++ news) (es0.flatten ++ es1.flatten) (R0 ++ Rn) :=
        (hro.append hrn).mono (fun _ h => h) (by simp) (fun b _ hb => hpushlt b hb) (fun b m => hpushlt b (by
          rcases List.mem_append.1 m with m | m
          · exact hro.lt b m
          · exact hrn.lt b m))
      have hmul : (n0 + n1) * i.size = n0 * i.size + n1 * i.size := Nat.add_mul _ _ _
      have := Rep.arr (h := w.heap.push (Obj.cells (olds.toArray ++ news.toArray ++ Builtin.zeroCells z.cells (cap - (n0 + n1))) e (0, 0))) (S := S2) (es := es0 ++ es1) (b := w.heap.size) (o := 0) (n := n0 + n1) (cap := cap) (st := i.size) (T := e)
        (c := olds.toArray ++ news.toArray ++ Builtin.zeroCells z.cells (cap - (n0 + n1))) (R1 := R0 ++ Rn) (vs := []) (fs := []) (R := []) (by simp [hn0, hn1])
        (by intro r hr; rcases List.mem_append.1 hr with hr | hr; exact rowsOk_len hrows.1 r hr; exact rowsOk_len hrows.2 r hr)
        (by simp) (by
          simp only [Array.size_append, List.size_toArray, hzsz, hol, hnl]
          rw [← Nat.add_mul, ← Nat.add_mul, Nat.zero_add]
          congr 1
          omega) hcap (by omega) (by
          rw [List.drop_zero]
          have e1 : (olds.toArray ++ news.toArray ++ Builtin.zeroCells z.cells (cap - (n0 + n1))).toList.take ((n0 + n1) * i.size) = olds ++ news := by
            rw [Array.toList_append, Array.toList_append, List.take_append_of_le_length (by simp; omega)]
            rw [List.take_of_length_le (by simp; omega)]
          rw [e1, List.flatten_append]
          exact hcont) .nil
      simpa using this
    · rw [List.nodup_append]
      have hRn : Rn.Nodup := hrnnd p2.nodup
      exact ⟨hR0n, hRn, fun b m b' m' e => hdis b (hR0 b m) (e ▸ m')⟩
    · intro b m
      rcases List.mem_append.1 m with m | m
      · exact hRf1 b (hR0 b m)
      · exact hnap b m
    · intro b m
      rcases List.mem_append.1 m with m | m
      · exact p1.subf b (hR0 b m)
      · exact hnsub b m
    · intro b m
      rcases List.mem_append.1 m with m | m
      · exact hro.lt b m
      · exact hrn.lt b m
  -- nothing is written
  have stay : ∀ {base : Option Addr} {n0 cap0 : Nat}, a.eval x = .slice base n0 cap0 → es0.length = n0 → es1 = [] → n0 + n1 ≤ cap0 → Rep w.heap S2 [a.eval x] [apOut f0 es0 es1] Rf1 → o.wp P a w (Post N xv (· = E2.upd d (apOut f0 es0 es1)) w S R) (fun _ _ _ => False) := by
    intro base n0 cap0 hv hn0 he hle hrep
    subst he
    simp only [List.length_nil] at hn1
    have hn1' : n1 = 0 := hn1.symm
    subst hn1'
    have hnews0 : news = [] := List.eq_nil_of_length_eq_zero (by rw [hnl]; simp)
    subst hnews0
    have hrun := run_append_fits' (P := P) (w := w) (w' := w) (t := t) (t2 := t2) (ty := o.type) hu hu2 hi (base := base) (sLen := n0) (sCap := cap0) (news := []) (by rw [← hv1]; exact hfirst1 w rfl) hle (fun b _ => rfl) (fun _ => rfl)
    rw [← hv, ← hv1] at hrun
    refine wp_value (hexec hrun) ?_
    rw [hd, Nat.add_zero, ← hv]
    obtain ⟨R'', h1, h2⟩ := hrel.upd hdN hrep hRf1 p1.nodup
    refine ⟨_, S2, R'', rfl, h1, ⟨hseals, fun b hb => (hnews2 b hb).imp id .inl, fun _ _ _ => rfl, Nat.le_refl _, fun b m => .inl ?_, rfl, rfl, rfl, fun _ h => h⟩⟩
    rcases h2 b m with h | h
    · exact p1.subf b h
    · exact hsub2 b h
  -- in place
  have place : ∀ {b o0 n0 cap0 : Nat} {c : Array Value} {T : TypeId} {R0 : List Nat}, a.eval x = .slice (some ⟨b, o0, none⟩) n0 cap0 → es0.length = n0 → w.heap[b]? = some (.cells c T (0, 0)) → c.size = o0 + cap0 * i.size → Rf1 = b :: R0 →
      Rep w.heap S2 ((c.toList.drop o0).take (n0 * i.size)) es0.flatten R0 → n0 + n1 ≤ cap0 → 0 < n0 + n1 → apOut f0 es0 es1 = .arr (es0 ++ es1) → o.wp P a w (Post N xv (· = E2.upd d (apOut f0 es0 es1)) w S R) (fun _ _ _ => False) := by
    intro b o0 n0 cap0 c T R0 hv hn0 hb hcs hR hro hle hpos hout
    rw [hout]
    have hmul : (n0 + n1) * i.size = n0 * i.size + n1 * i.size := Nat.add_mul _ _ _
    have hmul2 : (n0 + n1) * i.size ≤ cap0 * i.size := Nat.mul_le_mul_right _ hle
    obtain ⟨w', c', hrunS, W⟩ := run_storeCells' (P := P) news (o0 + n0 * i.size) 0 w c hb (by rw [hnl]; omega) (hrn.one (rowsOk_one hrows.2))
    rw [Nat.add_zero] at W
    have hrun := run_append_fits' (P := P) (w := w) (w' := w') (t := t) (t2 := t2) (ty := o.type) hu hu2 hi (base := some ⟨b, o0, none⟩) (sLen := n0) (sCap := cap0) (news := news) (by rw [← hv1]; exact hfirst1 w rfl) hle (fun b' hb' => by
      cases hb'
      rw [add_eq]; exact hrunS) (fun h => by cases h)
    rw [← hv, ← hv1] at hrun
    refine wp_value (hexec hrun) ?_
    rw [hd]
    have hbm : b ∈ Rf1 := by rw [hR]; simp
    have hbS : ¬ S2 b := (hRf1 b hbm).2
    have hbR2 : b ∉ R2 := (hRf1 b hbm).1
    have hndR : (b :: R0).Nodup := by rw [← hR]; exact p1.nodup
    have hw : Rel N xv E2 a w' S2 R2 := hrel.world (by rw [W.size]; exact Nat.le_refl _) (fun b' _ hb' => W.rest b' (fun e => hbS (e ▸ hb'))) (fun b' m => W.rest b' (fun e => hbR2 (e ▸ m)))
    have hcont : Rep w'.heap S2 ((c.toList.drop o0).take (n0 * i.size) ++ news) (es0.flatten ++ es1.flatten) (R0 ++ Rn) :=
      (hro.append hrn).mono (fun _ h => h) (by rw [W.size]; exact Nat.le_refl _) (fun b' hb' _ => W.rest b' (fun e => hbS (e ▸ hb'))) (fun b' m => W.rest b' (fun e => by
        subst e
        rcases List.mem_append.1 m with m | m
        · exact (List.nodup_cons.1 hndR).1 m
        · exact hdis b' hbm m))
    have hc'sz : c'.size = o0 + cap0 * i.size := by
      have := congrArg List.length W.cells
      simp at this
      omega
    have hrep : Rep w'.heap S2 [.slice (some ⟨b, o0, none⟩) (n0 + n1) cap0] [.arr (es0 ++ es1)] (b :: (R0 ++ Rn)) := by
      have := Rep.arr (h := w'.heap) (S := S2) (es := es0 ++ es1) (b := b) (o := o0) (n := n0 + n1) (cap := cap0) (st := i.size) (T := T) (c := c') (R1 := R0 ++ Rn) (vs := []) (fs := []) (R := []) (by simp [hn0, hn1])
        (by intro r hr; rcases List.mem_append.1 hr with hr | hr; exact rowsOk_len hrows.1 r hr; exact rowsOk_len hrows.2 r hr) W.blk hc'sz hle hpos (by
          have e1 : (c'.toList.drop o0).take ((n0 + n1) * i.size) = (c.toList.drop o0).take (n0 * i.size) ++ news := by
            rw [W.cells, List.append_assoc, List.drop_append_of_le_length (by simp; omega), List.drop_take, show o0 + n0 * i.size - o0 = n0 * i.size by omega, ← List.append_assoc, List.take_append_of_le_length (by simp; omega)]
            rw [List.take_of_length_le (by simp; omega)]
          rw [e1, List.flatten_append]
          exact hcont) .nil
      simpa using this
    obtain ⟨R'', h1, h2⟩ := hw.upd hdN hrep (by
      intro b' m
      rcases List.mem_cons.1 m with rfl | m
      · exact ⟨hbR2, hbS⟩
      · rcases List.mem_append.1 m with m | m
        · exact hRf1 b' (by rw [hR]; simp [m])
        · exact hnap b' m) (by
      rw [List.nodup_cons, List.nodup_append]
      refine ⟨fun m => ?_, (List.nodup_cons.1 hndR).2, hrnnd p2.nodup, fun b1 m1 b2 m2 e => hdis b1 (by rw [hR]; simp [m1]) (e ▸ m2)⟩
      rcases List.mem_append.1 m with m | m
      · exact (List.nodup_cons.1 hndR).1 m
      · exact hdis b hbm m)
    refine ⟨_, S2, R'', rfl, h1, ⟨hseals, fun b hb => (hnews2 b hb).imp id .inl, fun b' _ hn' => W.rest b' (fun e => hn' (e ▸ p1.subf b hbm)), by rw [W.size]; exact Nat.le_refl _, fun b' m => .inl ?_, W.os, W.tape, W.output, fun _ h => h⟩⟩
    rcases h2 b' m with h | h
    · rcases List.mem_cons.1 h with rfl | h
      · exact p1.subf _ hbm
      · rcases List.mem_append.1 h with h | h
        · exact p1.subf b' (by rw [hR]; simp [h])
        · exact hnsub b' h
    · exact hsub2 b' h
  -- by what is appended to
  cases f0 <;> simp only [apBase] at hb0 <;> try (cases hb0; done)
  case sl full es =>
    cases full <;> simp only at hb0 <;> try (cases hb0; done)
    cases hb0
    obtain ⟨zx0, n0, cap0, olds, R0, hv0, hn0, hfirst0, hol, hro, hR0, hR0n⟩ := elems_spec (P := P) hrep1 (show elemsOf (.sl true es0) = some es0 from rfl) hrows.1
    have hcap0 : cap0 = n0 := by
      generalize a.eval x = v at hrep1 hv0
      cases hrep1 with
      | slNil _ => cases hv0; rfl
      | sl hn' _ _ _ _ _ _ hfull => cases hv0; rw [hfull rfl, ← hn0, hn']
    rw [hv0] at hfirst0
    cases es0 with
    | nil =>
      by_cases h1 : es1 = []
      · refine stay hv0 hn0 h1 (by subst h1; simp at hn1; omega) ?_
        subst h1
        generalize a.eval x = v at hrep1 hv0
        simp only [apOut, List.append_nil]
        cases hrep1 with
        | slNil ht => exact .arrNil ht
        | sl hn' _ _ _ _ _ _ hfull hpos => simp at hn'; have := hfull rfl; omega
      · refine grow hv0 hn0 hfirst0 hol hro hR0 (hR0n p1.nodup) ?_ rfl
        have : 0 < es1.length := List.length_pos_iff.2 h1
        omega
    | cons e0 es0 =>
      by_cases h1 : es1 = []
      · refine stay hv0 hn0 h1 (by subst h1; simp at hn1; omega) ?_
        simp only [apOut, h1, if_true]
        exact hrep1
      · refine grow hv0 hn0 hfirst0 hol hro hR0 (hR0n p1.nodup) ?_ (by simp [apOut, h1])
        have : 0 < es1.length := List.length_pos_iff.2 h1
        omega
  case arr es =>
    cases hb0
    generalize hvx : a.eval x = v at hrep1
    cases hrep1 with
    | arrNil ht =>
      by_cases h1 : es1 = []
      · refine stay hvx rfl h1 (by subst h1; simp at hn1; omega) ?_
        subst h1
        rw [hvx]
        exact .arrNil ht
      · refine grow (olds := []) (R0 := []) hvx rfl (fun w' hw' => ?_) (by simp) .nil (by simp) (by simp) ?_ rfl
        · rename_i z0
          cases z0 with
          | none => simp [Builtin.firstCells]
          | some a0 => simp [Builtin.firstCells, loadCells, loadCellsFrom]
        · have : 0 < es1.length := List.length_pos_iff.2 h1
          omega
    | @arr _ b o0 n cap st c T _ _ Ra Rb hn hst hb hsz hcap hpos hr ht =>
      cases ht
      have hst' : st = i.size := by
        cases es0 with
        | nil => simp at hn; omega
        | cons e es => rw [← hst e (by simp), ← rowsOk_len hrows.1 e (by simp)]
      subst hst'
      by_cases hle : n + n1 ≤ cap
      · exact place hvx hn hb hsz (by simp) hr hle (by omega) rfl
      · have hle2 : n * i.size ≤ cap * i.size := Nat.mul_le_mul_right _ hcap
        have hl : ((c.toList.drop o0).take (n * i.size)).length = n * i.size := by simp; omega
        refine grow (R0 := Ra) hvx hn (fun w' hw' => ?_) hl hr (by simp +contextual) ?_ (by omega) rfl
        · simp only [Builtin.firstCells]
          exact run_loadCells' hl (fun k hk => by rw [hw']; unfold cellAt; rw [hb]; simp [List.getElem?_take, hk])
        · have := p1.nodup
          simp only [List.append_nil] at this
          exact (List.nodup_cons.1 this).2
  case buf st =>
    split at hb0
    case isFalse => cases hb0
    rename_i hst
    subst hst
    cases hb0
    generalize hvx : a.eval x = v at hrep1
    cases hrep1 with
    | bufNil ht =>
      cases ht
      by_cases h1 : es1 = []
      · refine stay hvx rfl h1 (by subst h1; simp at hn1; omega) ?_
        rw [hvx]
        simp only [apOut, h1, if_true]
        exact .bufNil .nil
      · have hp1 : 0 < es1.length := List.length_pos_iff.2 h1
        refine grow (olds := []) (R0 := []) hvx rfl (fun w' hw' => ?_) (by simp) .nil (by simp) (by simp) (by omega) (by simp [apOut, h1])
        rename_i z0
        cases z0 with
        | none => simp [Builtin.firstCells]
        | some a0 => simp [Builtin.firstCells, loadCells, loadCellsFrom]
    | @buf b o0 cap _ c T _ _ _ hb hsz hposc ht =>
      cases ht
      by_cases h1 : es1 = []
      · refine stay hvx rfl h1 (by subst h1; simp at hn1; omega) ?_
        rw [hvx]
        simp only [apOut, h1, if_true]
        exact .buf hb hsz hposc .nil
      · have hp1 : 0 < es1.length := List.length_pos_iff.2 h1
        by_cases hle : 0 + n1 ≤ cap
        · exact place hvx rfl hb hsz rfl (by simpa using Rep.nil) hle (by omega) (by simp [apOut, h1])
        · refine grow (olds := []) (R0 := []) hvx rfl (fun w' hw' => ?_) (by simp) .nil (by simp) (by simp) (by omega) (by simp [apOut, h1])
          simp [Builtin.firstCells, loadCells, loadCellsFrom]
end
end Go.Fm
