/- Sub-slices, fields of values, tuples, string indexes, min and max, ranging over a string, conversions. -/
import Derived.Test.YthfkhokmgolabaaDoorFmMore2
import Derived.Lib.Strings
import Derived.Laws.BytesString
set_option linter.unusedVariables false
set_option linter.unusedSimpArgs false
namespace Go.Fm
open Go

section
variable {P : Program} {N : Nat} {o : Oper} {E : Env} {d : Nat}

/-! ### bounds -/
/-- an optional bound: its value, or the default -/
def bnd (E : Env) (dflt : Nat) : Option Sr → Option Int
  | none => some dflt
  | some s => match E.look s with
    | .int _ n => some n
    | _ => none
def Sr.fitsO (N : Nat) : Option Sr → Option Operand → Bool
  | none, none => true
  | some s, some x => s.fits N x
  | _, _ => false

theorem bnd_spec {xv : Nat → Value} {a : Act} {w : World} {S : Nat → Prop} {R : List Nat} (r : Rel N xv E a w S R) {s : Option Sr} {x : Option Operand} {dflt : Nat} {n : Int} (hs : Sr.fitsO N s x = true) (hb : bnd E dflt s = some n) :
    (x = none ∧ s = none ∧ n = dflt) ∨ (∃ y k, x = some y ∧ a.eval y = .int k n) := by
  cases s with
  | none =>
    cases x with
    | none => simp only [bnd, Option.some.injEq] at hb; exact .inl ⟨rfl, rfl, hb.symm⟩
    | some x => simp [Sr.fitsO] at hs
  | some s =>
    cases x with
    | none => simp [Sr.fitsO] at hs
    | some x =>
      simp only [Sr.fitsO] at hs
      have l := looked r hs
      simp only [bnd] at hb
      split at hb
      · rename_i k m e
        cases hb
        rw [e] at l
        exact .inr ⟨x, k, rfl, l.int⟩
      · cases hb

theorem run_bound {w : World} {k : IntKind} {i : Int} {y : Nat} {code : BoundsCode} (h0 : 0 ≤ i) (h1 : i ≤ y) : (Instr.sliceBound (.int k i) y code).run P w = .ok i.toNat w := by
  simp [Instr.sliceBound, asIntOf, h0, h1]

/-- the bounds of a slice expression -/
theorem run_bounds {w : World} {isSl : Bool} {len cap : Nat} {l h : Int} {lo hi : Option Value} (hlo : lo = none ∧ l = 0 ∨ ∃ k, lo = some (.int k l)) (hhi : hi = none ∧ h = len ∨ ∃ k, hi = some (.int k h)) (h0 : 0 ≤ l) (h1 : l ≤ h) (h2 : h ≤ len) (hlc : len ≤ cap) :
    (Instr.sliceBounds isSl len cap lo hi none).run P w = .ok (l.toNat, h.toNat, cap) w := by
  rcases hlo with ⟨rfl, rfl⟩ | ⟨k1, rfl⟩ <;> rcases hhi with ⟨rfl, rfl⟩ | ⟨k2, rfl⟩
  · simp [Instr.sliceBounds]
  · simp [Instr.sliceBounds, run_bound (P := P) (w := w) (k := k2) (i := h) (y := cap) (by omega) (by omega)]
  · have e : (len : Int).toNat = len := by simp
    simp [Instr.sliceBounds, run_bound (P := P) (w := w) (k := k1) (i := l) (y := len) h0 (by omega)]
  · have e : ((h.toNat : Nat) : Int) = h := Int.toNat_of_nonneg (by omega)
    simp [Instr.sliceBounds, run_bound (P := P) (w := w) (k := k2) (i := h) (y := cap) (by omega) (by omega), run_bound (P := P) (w := w) (k := k1) (i := l) (y := h.toNat) h0 (by omega)]
theorem run_bounds3 {w : World} {len cap : Nat} {l h m : Int} {lo : Option Value} {k2 k3 : IntKind} (hlo : lo = none ∧ l = 0 ∨ ∃ k, lo = some (.int k l)) (h0 : 0 ≤ l) (h1 : l ≤ h) (h2 : h ≤ m) (h3 : m ≤ cap) :
    (Instr.sliceBounds true len cap lo (some (.int k2 h)) (some (.int k3 m))).run P w = .ok (l.toNat, h.toNat, m.toNat) w := by
  have e1 : ((h.toNat : Nat) : Int) = h := Int.toNat_of_nonneg (by omega)
  have e2 : ((m.toNat : Nat) : Int) = m := Int.toNat_of_nonneg (by omega)
  rcases hlo with ⟨rfl, rfl⟩ | ⟨k1, rfl⟩
  · simp [Instr.sliceBounds, run_bound (P := P) (w := w) (k := k3) (i := m) (y := cap) (by omega) (by omega), run_bound (P := P) (w := w) (k := k2) (i := h) (y := m.toNat) (by omega) (by omega)]
  · simp [Instr.sliceBounds, run_bound (P := P) (w := w) (k := k3) (i := m) (y := cap) (by omega) (by omega), run_bound (P := P) (w := w) (k := k2) (i := h) (y := m.toNat) (by omega) (by omega), run_bound (P := P) (w := w) (k := k1) (i := l) (y := h.toNat) h0 (by omega)]

theorem bnd_lo {xv : Nat → Value} {a : Act} {w : World} {S : Nat → Prop} {R : List Nat} (r : Rel N xv E a w S R) {s : Option Sr} {x : Option Operand} {dflt : Nat} {n : Int} (hs : Sr.fitsO N s x = true) (hb : bnd E dflt s = some n) :
    (x.map a.eval = none ∧ n = dflt) ∨ ∃ k, x.map a.eval = some (.int k n) := by
  rcases bnd_spec r hs hb with ⟨rfl, _, h⟩ | ⟨y, k, rfl, h⟩
  · exact .inl ⟨rfl, h⟩
  · exact .inr ⟨k, by simp [h]⟩

/-- a piece of a string -/
def subStr (s : List UInt8) (l h : Int) : Option FV := if 0 ≤ l ∧ l ≤ h ∧ h ≤ s.length then some (.str ((s.drop l.toNat).take (h.toNat - l.toNat))) else none
theorem ok_sliceStr {t : TypeId} {s : Sr} {x : Operand} {slo shi : Option Sr} {lo hi : Option Operand} {b : List UInt8} {l h : Int} {f : FV} (ho : o.op = .slice t x lo hi none) (hd : o.dst = some d) (hdN : d < N) (hs : s.fits N x = true) (hlo : Sr.fitsO N slo lo = true) (hhi : Sr.fitsO N shi hi = true)
    (ht : isStringT P t = true) (hb : E.look s = .str b) (h1 : bnd E 0 slo = some l) (h2 : bnd E b.length shi = some h) (hl : subStr b l h = some f) : OpOk P N o E (· = E.upd d f) := by
  unfold subStr at hl
  split at hl
  case isFalse => cases hl
  rename_i hc
  cases hl
  refine @ok_look P N o E d _ hd hdN rfl ?_
  intro xv a w S R r
  have lk := looked r hs
  rw [hb] at lk
  refine ⟨.string ⟨((b.drop l.toNat).take (h.toNat - l.toNat)).toArray⟩, ?_, .closed (.str .nil)⟩
  have hsz : (ByteArray.mk b.toArray).size = b.length := by simp [ByteArray.size]
  have hb1 := bnd_lo r hlo h1
  have hb2 := bnd_lo r hhi h2
  have hrun := run_bounds (P := P) (w := w) (isSl := false) (len := b.length) (cap := b.length) (l := l) (h := h) (lo := lo.map a.eval) (hi := hi.map a.eval) (by simpa using hb1) hb2 hc.1 hc.2.1 hc.2.2 (Nat.le_refl _)
  have hex : (ByteArray.mk b.toArray).extract l.toNat h.toNat = ⟨((b.drop l.toNat).take (h.toNat - l.toNat)).toArray⟩ := by
    rw [Lib.extract_eq]
  have hu := isStringT_spec ht
  simp only [execOp, ho, Option.map_none, Instr.sliceAt, Sem.run_bind, run_underlying' hu, Result.andThen_ok, Instr.slice, lk.str, Option.isSome_none, Bool.false_eq_true, if_false, hsz, hrun, hex, Sem.run_pure]

/-- a piece of a slice that is only read -/
def subSl (full : Bool) (es : List (List FV)) (l h : Int) (m : Option Int) : Option FV :=
  match m with
  | none => if 0 ≤ l ∧ l ≤ h ∧ h ≤ es.length then some (.sl (full && decide (h = es.length)) ((es.drop l.toNat).take (h.toNat - l.toNat))) else none
  | some m => if 0 ≤ l ∧ l ≤ h ∧ h ≤ m ∧ m ≤ es.length then some (.sl (decide (h = m)) ((es.drop l.toNat).take (h.toNat - l.toNat))) else none

theorem Rep.subSl {h : Array Obj} {S : Nat → Prop} {full full' : Bool} {es : List (List FV)} {z : Option Addr} {n cap size : Nat} {l hi m : Nat} (r : Rep h S [.slice z n cap] [.sl full es] []) (hrow : ∀ e ∈ es, e.length = size) (h1 : l ≤ hi) (h2 : hi ≤ es.length) (h3 : hi ≤ m) (h4 : m ≤ cap)
    (hf : full' = true → hi = m) : Rep h S [.slice (if m = l then z else z.map (·.add (l * size))) (hi - l) (m - l)] [.sl full' ((es.drop l).take (hi - l))] [] := by
  have hlen : ((es.drop l).take (hi - l)).length = hi - l := by simp; omega
  by_cases hm : m = l
  · subst hm
    have : hi = m := by omega
    subst this
    simp only [if_true, Nat.sub_self, List.take_zero]
    exact .slNil .nil
  · rw [if_neg hm]
    cases r with
    | slNil ht =>
      simp at h2
      omega
    | @sl _ _ b o0 n' cap' st cs _ _ _ hn hst hS hlt hcs hcc hcap hfull hpos hr ht =>
      simp only [Option.map_some, add_eq]
      have hmul : l * size = l * st := by
        cases es with
        | nil => simp at h2; subst h2; have : l = 0 := by omega
                 subst this; simp
        | cons e es => rw [← hst e (by simp), ← hrow e (by simp)]
      rw [hmul]
      have hle : l * st + (hi - l) * st = hi * st := by rw [← Nat.add_mul]; congr 1; omega
      have hle2 : hi * st ≤ n * st := Nat.mul_le_mul_right _ (by omega)
      refine .sl (st := st) (cs := (cs.drop (l * st)).take ((hi - l) * st)) hlen (fun e he => hst e (List.mem_of_mem_drop (List.mem_of_mem_take he))) hS hlt (by simp; omega) ?_ (by omega) (fun hf' => by have := hf hf'; omega) (by omega) ?_ .nil
      · intro k hk
        rw [Nat.add_assoc, hcc (l * st + k) (by omega), List.getElem?_take_of_lt hk, List.getElem?_drop]
      · have := (hr.takeD (l * st)).2.takeD ((hi - l) * st)
        have e1 : (es.flatten.drop (l * st)).take ((hi - l) * st) = ((es.drop l).take (hi - l)).flatten := by
          have d1 : ∀ {es : List (List FV)} {l : Nat}, (∀ e ∈ es, e.length = st) → es.flatten.drop (l * st) = (es.drop l).flatten := by
            intro es
            induction es with
            | nil => intro l _; simp
            | cons e es ih =>
              intro l hall
              cases l with
              | zero => simp
              | succ l =>
                have he := hall e (by simp)
                simp only [List.flatten_cons, List.drop_succ_cons]
                rw [List.drop_append, List.drop_of_length_le (by rw [he, Nat.add_mul]; omega), List.nil_append, he, show (l + 1) * st - st = l * st by rw [Nat.add_mul]; omega]
                exact ih fun e m => hall e (by simp [m])
          have d2 : ∀ {es : List (List FV)} {k : Nat}, (∀ e ∈ es, e.length = st) → es.flatten.take (k * st) = (es.take k).flatten := by
            intro es
            induction es with
            | nil => intro k _; simp
            | cons e es ih =>
              intro k hall
              cases k with
              | zero => simp
              | succ k =>
                have he := hall e (by simp)
                simp only [List.flatten_cons, List.take_succ_cons]
                rw [List.take_append, List.take_of_length_le (by rw [he, Nat.add_mul]; omega), he, show (k + 1) * st - st = k * st by rw [Nat.add_mul]; omega]
                rw [ih fun e m => hall e (by simp [m])]
          rw [d1 hst, d2 (fun e he => hst e (List.mem_of_mem_drop he))]
        rw [e1] at this
        exact this.1

theorem Rep.slHdr {h : Array Obj} {S : Nat → Prop} {v : Value} {full : Bool} {es : List (List FV)} {R : List Nat} (r : Rep h S [v] [.sl full es] R) : ∃ z cap, v = .slice z es.length cap ∧ es.length ≤ cap ∧ (full = true → es ≠ [] → cap = es.length) ∧ R = [] := by
  cases r with
  | slNil ht => cases ht; exact ⟨_, 0, rfl, by simp, by simp, rfl⟩
  | sl hn _ _ _ _ _ hcap hfull _ _ ht => cases ht; subst hn; exact ⟨_, _, rfl, hcap, fun h _ => hfull h, rfl⟩

theorem ok_sliceSl {t : TypeId} {s : Sr} {x : Operand} {slo shi smx : Option Sr} {lo hi mx : Option Operand} {full : Bool} {es : List (List FV)} {size : Nat} {l h : Int} {m : Option Int} {f : FV} (ho : o.op = .slice t x lo hi mx) (hd : o.dst = some d) (hdN : d < N) (hs : s.fits N x = true)
    (hlo : Sr.fitsO N slo lo = true) (hhi : Sr.fitsO N shi hi = true) (hmx : Sr.fitsO N smx mx = true) (ht : sliceIs P t size = true) (hb : E.look s = .sl full es) (hrow : (es.all fun r => r.length == size) = true) (h1 : bnd E 0 slo = some l) (h2 : bnd E es.length shi = some h)
    (h3 : (smx = none ∧ m = none) ∨ (∃ q n, smx = some q ∧ bnd E 0 smx = some n ∧ m = some n ∧ shi.isSome = true)) (hl : subSl full es l h m = some f) : OpOk P N o E (· = E.upd d f) := by
  have hrow' : ∀ e ∈ es, e.length = size := fun e he => by simpa using List.all_eq_true.1 hrow e he
  have hfr : ∃ fu ee, f = .sl fu ee := by
    unfold subSl at hl
    split at hl <;> split at hl <;> first | (cases hl; done) | (cases hl; exact ⟨_, _, rfl⟩)
  refine @ok_look P N o E d _ hd hdN (by obtain ⟨_, _, rfl⟩ := hfr; rfl) ?_
  intro xv a w S R r
  have lk := looked r hs
  rw [hb] at lk
  have hrep := lk.rep rfl
  obtain ⟨z, cap, hv, hcap, hfull, _⟩ := hrep.slHdr
  rw [hv] at hrep
  obtain ⟨e, i, hu, hi', hsz⟩ := sliceIs_spec ht
  have hb1 := bnd_lo r hlo h1
  have hb2 := bnd_lo r hhi h2
  rcases h3 with ⟨rfl, rfl⟩ | ⟨q, n, rfl, hn, rfl, hshi⟩
  · have hmx0 : mx = none := by cases mx <;> simp [Sr.fitsO] at hmx ⊢
    subst hmx0
    simp only [subSl] at hl
    split at hl
    case isFalse => cases hl
    rename_i hc
    cases hl
    have hrun := run_bounds (P := P) (w := w) (isSl := true) (len := es.length) (cap := cap) (l := l) (h := h) (lo := lo.map a.eval) (hi := hi.map a.eval) (by simpa using hb1) hb2 hc.1 hc.2.1 hc.2.2 hcap
    refine ⟨.slice (if cap = l.toNat then z else z.map (·.add (l.toNat * size))) (h.toNat - l.toNat) (cap - l.toNat), ?_, .closed ?_⟩
    · simp only [execOp, ho, Option.map_none, Instr.sliceAt, Sem.run_bind, run_underlying' hu, Result.andThen_ok, Instr.slice, hv, hrun, run_sizeOf' hi', hsz, Sem.run_pure]
    · refine hrep.subSl hrow' (by omega) (by omega) (by omega) (Nat.le_refl _) ?_
      intro hf
      simp only [Bool.and_eq_true, decide_eq_true_eq] at hf
      by_cases hes : es = []
      · subst hes
        cases hrep with
        | slNil _ => simp at hc; omega
        | sl _ _ _ _ _ _ _ hfl hpos => have := hfl hf.1; simp at this; omega
      · have := hfull hf.1 hes
        omega
  · obtain ⟨y, ky, hmy, hyv⟩ : ∃ y k, mx = some y ∧ a.eval y = .int k n := by
      rcases bnd_spec r hmx hn with ⟨_, h, _⟩ | ⟨y, k, h4, h5⟩
      · cases h
      · exact ⟨y, k, h4, h5⟩
    obtain ⟨y2, ky2, hhy, hhv⟩ : ∃ y k, hi = some y ∧ a.eval y = .int k h := by
      rcases bnd_spec r hhi h2 with ⟨_, h, _⟩ | ⟨y, k, h4, h5⟩
      · rw [h] at hshi; cases hshi
      · exact ⟨y, k, h4, h5⟩
    simp only [subSl] at hl
    split at hl
    case isFalse => cases hl
    rename_i hc
    cases hl
    have hrun := run_bounds3 (P := P) (w := w) (len := es.length) (cap := cap) (l := l) (h := h) (m := n) (lo := lo.map a.eval) (k2 := ky2) (k3 := ky) (by simpa using hb1) hc.1 hc.2.1 hc.2.2.1 (by omega)
    refine ⟨.slice (if n.toNat = l.toNat then z else z.map (·.add (l.toNat * size))) (h.toNat - l.toNat) (n.toNat - l.toNat), ?_, .closed ?_⟩
    · simp only [execOp, ho, hmy, hhy, Option.map_some, hyv, hhv, Instr.sliceAt, Sem.run_bind, run_underlying' hu, Result.andThen_ok, Instr.slice, hv, hrun, run_sizeOf' hi', hsz, Sem.run_pure]
    · refine hrep.subSl hrow' (by omega) (by omega) (by omega) (by omega) ?_
      intro hf
      simp only [decide_eq_true_eq] at hf
      omega

/-- an owned slice is sealed where it lies (so that a piece of it can be read) -/
def Env.sealAt (E : Env) (q : Nat) (p : Path) : Env := E.setAt q p (E.at q p).sealed

/-! ### fields of values, tuples, string indexes -/
def fdF (cs : List FV) (off n : Nat) (agg : Bool) : Option FV :=
  if off + n ≤ cs.length then (if agg then some (.agg ((cs.drop off).take n)) else if n = 1 then cs[off]? else none) else none
def fdOk (P : Program) (t : TypeId) (fi off n : Nat) (agg : Bool) : Bool :=
  match P.underlying t with
  | some (.struct fs) => match fs[fi]? with
    | some g => g.offset == off && sizeIs P g.type n && (isAggT P g.type == some agg)
    | none => false
  | _ => false
theorem Rep.pick {h : Array Obj} {S : Nat → Prop} {vs : List Value} {fs : List FV} (r : Rep h S vs fs []) {k : Nat} {f : FV} (hf : fs[k]? = some f) : ∃ v, vs[k]? = some v ∧ Rep h S [v] [f] [] := by
  obtain ⟨vx, R1, Rx, R2, h1, h2, h3, _⟩ := r.at hf
  have h4 := List.append_eq_nil_iff.1 h3.symm
  have h5 := (List.append_eq_nil_iff.1 h4.1).2
  rw [h5] at h2
  exact ⟨vx, h1, h2⟩
theorem ok_field {t : TypeId} {s : Sr} {x : Operand} {fi off n : Nat} {agg : Bool} {cs : List FV} {f : FV} (ho : o.op = .field t x fi) (hd : o.dst = some d) (hdN : d < N) (hs : s.fits N x = true) (ht : fdOk P t fi off n agg = true) (hb : E.look s = .agg cs) (hl : fdF cs off n agg = some f) (hroot : f.notRoot d = true) :
    OpOk P N o E (· = E.upd d f) := by
  refine @ok_look P N o E d _ hd hdN hroot ?_
  intro xv a w S R r
  have lk := looked r hs
  rw [hb] at lk
  obtain ⟨vs, hv, hr⟩ := (lk.rep rfl).agg_inv
  have hlen := hr.length
  unfold fdOk at ht
  cases hu : P.underlying t with
  | none => rw [hu] at ht; cases ht
  | some de =>
  rw [hu] at ht
  cases de <;> simp only at ht <;> try (cases ht; done)
  rename_i fs
  cases hg : fs[fi]? with
  | none => rw [hg] at ht; cases ht
  | some g =>
  rw [hg] at ht
  simp only [Bool.and_eq_true, beq_iff_eq] at ht
  obtain ⟨⟨hoff, hsz⟩, hagg⟩ := ht
  unfold fdF at hl
  split at hl
  case isFalse => cases hl
  rename_i hle
  obtain ⟨p1, p2⟩ := run_part (P := P) (w := w) (t := g.type) (n := n) (off := off) (cs := vs) hsz (by omega)
  cases agg
  · simp only [Bool.false_eq_true, if_false] at hl
    split at hl
    case isFalse => cases hl
    obtain ⟨v, hv1, hv2⟩ := hr.pick hl
    refine ⟨v, ?_, .closed hv2⟩
    simp only [execOp, ho, Instr.field, Sem.run_bind, run_underlying' hu, Result.andThen_ok, hg, hv, asAgg, Sem.run_pure, hoff, p2 hagg v hv1]
  · simp only [if_true, Option.some.injEq] at hl
    subst hl
    refine ⟨_, ?_, .closed (.agg (R1 := []) (hr.nilR off n) .nil)⟩
    simp only [execOp, ho, Instr.field, Sem.run_bind, run_underlying' hu, Result.andThen_ok, hg, hv, asAgg, Sem.run_pure, hoff, p1 hagg]

theorem ok_index {t : TypeId} {s si : Sr} {x y : Operand} {b : List UInt8} {k : IntKind} {i : Int} {c : UInt8} (ho : o.op = .index t x y) (hd : o.dst = some d) (hdN : d < N) (hs : s.fits N x = true) (hsi : si.fits N y = true) (ht : isStringT P t = true) (hb : E.look s = .str b) (hi : E.look si = .int k i)
    (h0 : 0 ≤ i) (hc : b[i.toNat]? = some c) : OpOk P N o E (· = E.upd d (.int .u8 c.toNat)) := by
  refine @ok_look P N o E d _ hd hdN rfl ?_
  intro xv a w S R r
  have l1 := looked r hs
  have l2 := looked r hsi
  rw [hb] at l1
  rw [hi] at l2
  refine ⟨_, ?_, .closed (.int .nil)⟩
  have hg : (ByteArray.mk b.toArray)[i.toNat]? = some c := by
    have hlt : i.toNat < b.length := by
      rcases Nat.lt_or_ge i.toNat b.length with h1 | h1
      · exact h1
      · rw [List.getElem?_eq_none h1] at hc; cases hc
    rw [List.getElem?_eq_getElem hlt] at hc
    have hsz : i.toNat < (ByteArray.mk b.toArray).size := by simpa [ByteArray.size] using hlt
    rw [getElem?_pos (ByteArray.mk b.toArray) i.toNat hsz]
    have : (ByteArray.mk b.toArray)[i.toNat] = b[i.toNat] := by
      show b.toArray[i.toNat] = _
      simp
    rw [this]; exact hc
  have hu := isStringT_spec ht
  simp [execOp, ho, Instr.index, l1.str, l2.int, asIntOf, run_underlying' hu, h0, hg]

/-- a component of a tuple: taken out of it, where it owns something -/
theorem ok_extract {n i : Nat} {x : Operand} {vs : List FV} {f : FV} (ho : o.op = .extract x i) (hd : o.dst = some d) (hdN : d < N) (hs : (Sr.t n).fits N x = true) (hb : E.get n = .tup vs) (hf : vs[i]? = some f) (ha : f.alias = false) :
    OpOk P N o E (· = (if f.plain then E else E.upd n (.tup (vs.set i .undef))).upd d f) := by
  intro xv a w S R r
  have hx : x = .tmp n ∧ n < N := by
    cases x <;> simp [Sr.fits] at hs
    exact ⟨by rw [hs.1], hs.2⟩
  obtain ⟨rfl, hn⟩ := hx
  have hval := eval_val (a := a) (xv := xv) r.small hn
  obtain ⟨Rf, R2, h1, h2, h3⟩ := r.swap (d := n) (by rw [hb]; rfl)
  rw [hb] at h1
  generalize hvn : valOf a xv n = v at h1 hval h3
  cases h1 with
  | @tup cs gs _ _ R1 R0 hr ht =>
    cases ht
    obtain ⟨vx, Ra, Rx, Rb, hvx, hrx, rfl, back⟩ := hr.at hf
    have hrun : (execOp a.eval o).run P w = .ok (.value vx) w := by
      have : cs.toArray[i]? = some vx := by simpa using hvx
      simp [execOp, ho, Instr.extract, ← hval, this]
    refine wp_value hrun ?_
    rw [hd]
    have hnd : (Ra ++ Rx ++ Rb ++ [] ++ R2).Nodup := h2.nodup_iff.1 r.nodup
    simp only [List.append_nil] at hnd h2 h3
    cases hp : f.plain
    · simp only [Bool.false_eq_true, if_false]
      have hnew := back (h' := w.heap) (S' := S) (fun _ h => h) (Nat.le_refl _) (fun _ _ _ => rfl) (fun _ _ => rfl) (fun _ _ => rfl) (vx' := vx) (x' := .undef) (Rx' := []) (.undef .nil)
      have hset : cs.set i vx = cs := List.ext_getElem? fun k => by
        by_cases hk : k = i
        · subst hk
          have hlt : k < cs.length := by
            rcases Nat.lt_or_ge k cs.length with h | h
            · exact h
            · rw [List.getElem?_eq_none h] at hvx; cases hvx
          rw [List.getElem?_set_self hlt, hvx]
        · rw [List.getElem?_set_ne (fun e => hk e.symm)]
      rw [hset] at hnew
      simp only [List.append_nil] at hnew
      have hperm : (Ra ++ Rx ++ Rb ++ R2).Perm (Rx ++ ((Ra ++ Rb) ++ R2)) := by
        have : (Ra ++ Rx ++ Rb).Perm (Rx ++ (Ra ++ Rb)) := by
          rw [List.append_assoc, ← List.append_assoc Rx]
          have : (Ra ++ (Rx ++ Rb)).Perm (Rx ++ Ra ++ Rb) := by
            rw [← List.append_assoc]; exact List.Perm.append_right _ List.perm_append_comm
          simpa [List.append_assoc] using this
        have := List.Perm.append_right R2 this
        simpa [List.append_assoc] using this
      have hnd2 := hperm.nodup_iff.1 hnd
      have hnd3 := (List.nodup_append.1 hnd2).2.1
      have hmem : ∀ b, b ∈ Ra ++ Rb → b ∈ R := fun b m => h2.mem_iff.2 (by
        have := hperm.mem_iff.2 (show b ∈ Rx ++ ((Ra ++ Rb) ++ R2) by simp only [List.mem_append] at m ⊢; rcases m with m | m <;> simp [m])
        exact this)
      obtain ⟨R', h4, h5⟩ := h3 (S' := S) (f := .tup (vs.set i .undef)) (Rg := Ra ++ Rb) (by
          have := Rep.tup hnew .nil
          simpa using this) (fun _ h => h)
        (fun b hb' => ⟨(r.sep b hb').1, fun m => (r.sep b hb').2 (hmem b m), fun m => (r.sep b hb').2 (h2.mem_iff.2 (by simp [m]))⟩)
        (List.nodup_append.1 hnd3).1 (fun b m m' => (List.nodup_append.1 hnd3).2.2 b m b m' rfl)
      have hRx : ∀ b ∈ Rx, b ∉ R' ∧ ¬ S b := fun b m => ⟨fun m' => (List.nodup_append.1 hnd2).2.2 b m b (h5.mem_iff.1 m') rfl, fun hb' => (r.sep b hb').2 (h2.mem_iff.2 (by simp [m]))⟩
      obtain ⟨R'', h6, h7⟩ := h4.upd hdN hrx hRx (List.nodup_append.1 hnd2).1
      refine ⟨_, S, R'', rfl, h6, Ext.refl _ _ _ _ fun b m => ?_⟩
      rcases h7 b m with m | m
      · exact h2.mem_iff.2 (by simp [m])
      · have := h5.mem_iff.1 m
        rcases List.mem_append.1 this with m | m
        · exact hmem b m
        · exact h2.mem_iff.2 (by simp [m])
    · simp only [if_true]
      have := hrx.plain (by simp [hp])
      subst this
      obtain ⟨R'', h6, h7⟩ := r.upd hdN hrx (by simp) (by simp)
      exact ⟨_, S, R'', rfl, h6, Ext.refl _ _ _ _ fun b m => by rcases h7 b m with m | m; simp at m; exact m⟩

/-! ### min and max of integers -/
def mmF (isMax : Bool) : FV → List FV → Option FV
  | f, [] => some f
  | .int k x, .int _ y :: r => mmF isMax (.int k (if isMax then max x y else min x y)) r
  | _, _ => none
theorem mm_run {w : World} (isMax : Bool) : ∀ {k : IntKind} {x : Int} {l : List FV} {vs : List Value} {f : FV}, Rep w.heap (fun _ => True) vs l [] → mmF isMax (.int k x) l = some f →
    ∃ n, f = .int k n ∧ (vs.foldlM (if isMax then Builtin.max2 else Builtin.min2) (.int k x)).run P w = .ok (.int k n) w
  | k, x, [], [], f, _, h => by
    simp only [mmF, Option.some.injEq] at h
    subst h
    exact ⟨x, rfl, by simp⟩
  | k, x, [], _ :: _, f, r, h => by have := r.length; simp at this
  | k, x, _ :: _, [], f, r, h => by have := r.length; simp at this
  | k, x, g :: l, v :: vs, f, r, h => by
    cases g <;> simp only [mmF] at h <;> try (cases h; done)
    rename_i k2 y
    cases r with
    | int r' =>
      obtain ⟨n, h1, h2⟩ := mm_run isMax r' h
      refine ⟨n, h1, ?_⟩
      simp only [List.foldlM_cons, Sem.run_bind]
      cases isMax
      · have e : (Builtin.min2 (.int k x) (.int k2 y)).run P w = .ok (.int k (min x y)) w := by
          simp only [Builtin.min2, Sem.run_pure]
          congr 2
          rw [Int.min_def]
          split <;> split <;> omega
        simp only [Bool.false_eq_true, if_false, e, Result.andThen_ok] at h2 ⊢
        exact h2
      · have e : (Builtin.max2 (.int k x) (.int k2 y)).run P w = .ok (.int k (max x y)) w := by
          simp only [Builtin.max2, Sem.run_pure]
          congr 2
          rw [Int.max_def]
          split <;> split <;> omega
        simp only [if_true, e, Result.andThen_ok] at h2 ⊢
        exact h2

theorem looked_ints {xv : Nat → Value} {a : Act} {w : World} {S : Nat → Prop} {R : List Nat} (r : Rel N xv E a w S R) : ∀ {ss : List Sr} {xs : List Operand}, ss.length = xs.length → List.all (ss.zip xs) (fun y => y.1.fits N y.2) = true → (∀ s ∈ ss, ∃ k n, E.look s = .int k n) →
    Rep w.heap (fun _ => True) (xs.map a.eval) (ss.map E.look) []
  | [], [], _, _, _ => .nil
  | [], _ :: _, h, _, _ => by simp at h
  | _ :: _, [], h, _, _ => by simp at h
  | s :: ss, x :: xs, hl, hs, hi => by
    simp only [List.zip_cons_cons, List.all_cons, Bool.and_eq_true] at hs
    obtain ⟨k, n, e⟩ := hi s (by simp)
    have l := looked r hs.1
    rw [e] at l
    simp only [List.map_cons, e, l.int]
    exact .int (looked_ints r (by simpa using hl) hs.2 fun s m => hi s (by simp [m]))

theorem ok_minmax {isMax : Bool} {xs : Array Operand} {ts : Array TypeId} {ss : List Sr} {f g : FV} {l : List FV} (ho : o.op = .call { callee := .builtin (if isMax then .max else .min), args := xs, argTypes := ts }) (hd : o.dst = some d) (hdN : d < N)
    (hs : List.all (ss.zip xs.toList) (fun y => y.1.fits N y.2) = true) (hlen : ss.length = xs.toList.length) (hm : ss.map E.look = g :: l) (hg : ∃ k n, g = .int k n) (hi : ∀ s ∈ ss, ∃ k n, E.look s = .int k n) (hl : mmF isMax g l = some f) : OpOk P N o E (· = E.upd d f) := by
  obtain ⟨k, n, rfl⟩ := hg
  have hf : ∃ m, f = .int k m := by
    have : ∀ {l : List FV} {x : Int} {f : FV}, mmF isMax (.int k x) l = some f → ∃ m, f = .int k m := by
      intro l
      induction l with
      | nil => intro x f h; simp only [mmF, Option.some.injEq] at h; exact ⟨x, h.symm⟩
      | cons g l ih =>
        intro x f h
        cases g <;> simp only [mmF] at h <;> first | (cases h; done) | exact ih h
    exact this hl
  refine @ok_look P N o E d _ hd hdN (by obtain ⟨m, rfl⟩ := hf; rfl) ?_
  intro xv a w S R r
  have hr := looked_ints r hlen hs hi
  rw [hm] at hr
  cases hx : xs.toList with
  | nil => rw [hx] at hr; have := hr.length; simp at this
  | cons x xs' =>
    rw [hx] at hr
    simp only [List.map_cons] at hr
    obtain ⟨R1, R2, h1, h2, h3⟩ := hr.cons_inv
    have h4 := List.append_eq_nil_iff.1 h3.symm
    rw [h4.2] at h2
    have hv : a.eval x = .int k n := by
      generalize a.eval x = v at h1 ⊢
      cases h1; rfl
    obtain ⟨m, rfl, hrun⟩ := mm_run (P := P) isMax h2 hl
    refine ⟨.int k m, ?_, .closed (.int .nil)⟩
    have hargs : (xs.map a.eval).toList = a.eval x :: xs'.map a.eval := by simp [hx]
    cases isMax
    · simp only [Bool.false_eq_true, if_false] at hrun ho
      simp [execOp, ho, resolve, invoke, builtin, Builtin.min_, hx, hv, hrun]
    · simp only [if_true] at hrun ho
      simp [execOp, ho, resolve, invoke, builtin, Builtin.max_, hx, hv, hrun]

end
end Go.Fm
