/- Slices: indexes, lengths, sub-slices, append, make, literals. -/
import Derived.Test.YthfkhokmgolabaaDoorFmMem
import Derived.Laws.AppendOwn
set_option linter.unusedVariables false
set_option linter.unusedSimpArgs false
namespace Go.Fm
open Go

theorem getN_append {n : Nat} {y : Nat × Nat} {q : Path} : ∀ {p : Path} {f x : FV}, getN f p 1 = some [x] → getN f (p ++ y :: q) n = getN x (y :: q) n
  | [], f, x, h => by simp [getN] at h
  | [(i, o)], f, x, h => by
    obtain ⟨row, hk, hro⟩ := getN_row.1 h
    rw [List.singleton_append, getN_step, hk]
    simp only [hro]
  | (i, o) :: z :: p, f, x, h => by
    rw [getN_step] at h
    rw [List.cons_append, List.cons_append, getN_step]
    cases hk : f.kids[i]? with
    | none => rw [hk] at h; cases h
    | some row =>
    rw [hk] at h
    simp only at h ⊢
    cases hro : row[o]? with
    | none => rw [hro] at h; cases h
    | some x1 =>
      rw [hro] at h
      simp only at h ⊢
      exact getN_append h

theorem locate_append {h : Array Obj} {y : Nat × Nat} {q : Path} : ∀ {p : Path} {v : Value} {f x : FV} {b o : Nat} {vx : Value}, getN f p 1 = some [x] → locate h v f p = some (b, o) → cellAt h b o = some vx →
    locate h v f (p ++ y :: q) = locate h vx x (y :: q)
  | [], v, f, x, b, o, vx, hg, _, _ => by simp [getN] at hg
  | [(i, u)], v, f, x, b, o, vx, hg, hl, hc => by
    obtain ⟨row, hk, hro⟩ := getN_row.1 hg
    simp only [locate, hk] at hl
    rw [List.singleton_append]
    simp only [locate, hk]
    cases hb : blockOf v with
    | none => rw [hb] at hl; cases hl
    | some b0 =>
      rw [hb] at hl
      simp only [Option.some.injEq, Prod.mk.injEq] at hl
      obtain ⟨rfl, rfl⟩ := hl
      simp only [hc, hro]
  | (i, u) :: z :: p, v, f, x, b, o, vx, hg, hl, hc => by
    rw [getN_step] at hg
    rw [List.cons_append, List.cons_append]
    simp only [locate] at hl ⊢
    cases hb : blockOf v with
    | none => rw [hb] at hl; cases hl
    | some b0 =>
    cases hk : f.kids[i]? with
    | none => rw [hk] at hg; cases hg
    | some row =>
    rw [hk] at hg
    rw [hb, hk] at hl
    simp only at hg hl ⊢
    cases hro : row[u]? with
    | none => rw [hro] at hg; cases hg
    | some x1 =>
    rw [hro] at hg hl
    simp only at hg
    cases hcc : cellAt h b0 (i * row.length + u) with
    | none => rw [hcc] at hl; cases hl
    | some vc =>
      rw [hcc] at hl
      simp only at hl ⊢
      exact locate_append hg hl hc

section
variable {P : Program} {N : Nat} {o : Oper} {E : Env} {d : Nat}

/-- the address of an element of an owned slice -/
theorem Rel.elem {xv : Nat → Value} {a : Act} {w : World} {S : Nat → Prop} {R : List Nat} (r : Rel N xv E a w S R) {q : Nat} {p : Path} {v : Value} (he : hdrAt w.heap (valOf a xv) E q p = some v)
    {es : List (List FV)} (ha : E.at q p = .arr es) {i : Nat} {row : List FV} (hi : es[i]? = some row) (hr : 0 < row.length) :
    ∃ b cap, v = .slice (some ⟨b, 0, none⟩) es.length cap ∧ ptrAt w.heap (valOf a xv) E q (p ++ [(i, 0)]) = some (.pointer (some ⟨b, i * row.length, none⟩)) := by
  obtain ⟨g, Rf, R2, h1, hsl, h2, _, _⟩ := r.alAt he
  rw [ha] at h1
  subst h1
  have hg0 : getN (.arr es) [(i, 0)] 1 = some [row[0]] := getN_row.2 ⟨row, by simpa [FV.kids] using hi, List.getElem?_eq_getElem hr⟩
  cases h2 with
  | arrNil _ => simp at hi
  | @arr es b n cap st c T _ _ R1 R2' hn hst hb hsz hcap hpos hr' ht =>
    refine ⟨b, cap, by rw [hn], ?_⟩
    have hl0 : locate w.heap (.slice (some ⟨b, 0, none⟩) n cap) (.arr es) [(i, 0)] = some (b, i * row.length + 0) := by
      simp only [locate, blockOf, FV.kids, hi]
    cases p with
    | nil =>
      simp only [hdrAt] at he
      simp only [Env.at] at ha
      rw [ha] at he
      simp only [FV.isSl, if_true, Option.some.injEq] at he
      simp only [List.nil_append, ptrAt, ha, hg0, he, hl0, Nat.add_zero]
    | cons x p =>
      simp only [hdrAt] at he
      simp only [Env.at] at ha
      cases hg : getN (E.get q) (x :: p) 1 with
      | none => rw [hg] at ha; cases ha
      | some ys =>
      have hl := getN_len hg
      match ys, hl with
      | [y], hly =>
      rw [hg] at ha he
      simp only at ha
      subst ha
      simp only [FV.isSl, if_true] at he
      cases hloc : locate w.heap (valOf a xv q) (E.get q) (x :: p) with
      | none => rw [hloc] at he; cases he
      | some bo =>
        obtain ⟨b1, o1⟩ := bo
        rw [hloc] at he
        simp only at he
        simp only [ptrAt, getN_append hg, hg0, locate_append hg hloc he, hl0, Nat.add_zero]

/-- the address of an element -/
def iaF (E : Env) (s : FV) (i : Int) (size : Nat) : Option FV :=
  match s with
  | .al q p => match E.at q p with
    | .arr es => match es[i.toNat]? with
      | some row => if 0 ≤ i ∧ row.length = size ∧ 0 < size then some (.ptr q (p ++ [(i.toNat, 0)])) else none
      | none => none
    | _ => none
  | .sl _ es => match es[i.toNat]? with
    | some row => if 0 ≤ i ∧ row.length = size then some (.ref row) else none
    | none => none
  | _ => none
def sliceIs (P : Program) (t : TypeId) (size : Nat) : Bool :=
  match P.underlying t with
  | some (.slice e) => sizeIs P e size
  | _ => false
theorem sliceIs_spec {t : TypeId} {size : Nat} (h : sliceIs P t size = true) : ∃ e i, P.underlying t = some (.slice e) ∧ P.info? e = some i ∧ i.size = size := by
  unfold sliceIs at h
  cases hu : P.underlying t with
  | none => rw [hu] at h; cases h
  | some de =>
    rw [hu] at h
    cases de <;> simp only at h <;> try (cases h; done)
    rename_i e
    unfold sizeIs at h
    cases hi : P.info? e with
    | none => rw [hi] at h; cases h
    | some i =>
      rw [hi] at h
      exact ⟨e, i, rfl, hi, by simpa using h⟩

theorem Rep.row {h : Array Obj} {S : Nat → Prop} {b o0 st : Nat} {cs : List Value} {es : List (List FV)} {n i : Nat} {row : List FV} (hn : es.length = n) (hst : ∀ e ∈ es, e.length = st) (hS : S b) (hlt : b < h.size) (hcs : cs.length = n * st)
    (hc : ∀ k, k < n * st → cellAt h b (o0 + k) = cs[k]?) (hr : Rep h S cs es.flatten []) (hi : es[i]? = some row) : Rep h S [.pointer (some ⟨b, o0 + i * st, none⟩)] [.ref row] [] := by
  have hrow : row.length = st := hst row (List.mem_of_getElem? hi)
  have hil : i < es.length := by
    rcases Nat.lt_or_ge i es.length with h1 | h1
    · exact h1
    · rw [List.getElem?_eq_none h1] at hi; cases hi
  have hmul : (i + 1) * st ≤ n * st := Nat.mul_le_mul_right _ (by omega)
  rw [Nat.add_mul, Nat.one_mul] at hmul
  have h1 := ((hr.takeD (i * st)).2.takeD st).1
  have e1 : (es.flatten.drop (i * st)).take st = row := by
    have := flatten_row hst hi 0 (by omega)
    simp only [Nat.add_zero, List.drop_zero] at this
    rw [this, List.take_append_of_le_length (by omega), List.take_of_length_le (by omega)]
  rw [e1] at h1
  refine .ref hS hlt (cs := (cs.drop (i * st)).take st) ?_ h1 .nil
  intro k hk
  simp at hk
  rw [Nat.add_assoc, hc (i * st + k) (by omega), List.getElem?_take_of_lt (by omega), List.getElem?_drop]

theorem ok_indexAddr {t : TypeId} {s si : Sr} {x y : Operand} {i : Int} {k : IntKind} {size : Nat} {f : FV} (ho : o.op = .indexAddr t x y) (hd : o.dst = some d) (hdN : d < N) (hs : s.fits N x = true) (hsi : si.fits N y = true) (ht : sliceIs P t size = true)
    (hi : E.look si = .int k i) (hl : iaF E (E.look s) i size = some f) (hroot : f.notRoot d = true) : OpOk P N o E (· = E.upd d f) := by
  refine ok_look hd hdN hroot ?_
  intro xv a w S R r
  have lk := looked r hs
  have li := looked r hsi
  rw [hi] at li
  have hyv := li.int
  obtain ⟨e, inf, hu, hinf, hsz⟩ := sliceIs_spec ht
  have hrun : ∀ b o' n cap, a.eval x = .slice (some ⟨b, o', none⟩) n cap → 0 ≤ i → i < n → (execOp a.eval o).run P w = .ok (.value (.pointer (some ⟨b, o' + i.toNat * size, none⟩))) w := by
    intro b o' n cap hv h0 h1
    simp [execOp, ho, Instr.indexAt, hyv, asIntOf, run_underlying' hu, hv, h0, h1, run_sizeOf' hinf, hsz, add_eq]
  generalize E.look s = adr at lk hl
  cases adr <;> simp only [iaF] at hl <;> try (cases hl; done)
  case sl full es =>
    cases hrow : es[i.toNat]? with
    | none => rw [hrow] at hl; cases hl
    | some row =>
    rw [hrow] at hl
    simp only at hl
    split at hl
    case isFalse => cases hl
    rename_i hc
    cases hl
    have hil : i.toNat < es.length := by
      rcases Nat.lt_or_ge i.toNat es.length with h1 | h1
      · exact h1
      · rw [List.getElem?_eq_none h1] at hrow; cases hrow
    have hrep := lk.rep rfl
    generalize hv : a.eval x = v at hrep
    cases hrep with
    | slNil _ => simp at hil
    | @sl _ _ b o0 n cap st cs _ _ _ hn hst hS hlt hcs hcc hcap hfull hpos hr _ =>
      have hrl : row.length = st := hst row (List.mem_of_getElem? hrow)
      refine ⟨_, hrun b o0 n cap hv hc.1 (by omega), .closed ?_⟩
      have := Rep.row hn hst hS hlt hcs hcc hr hrow
      rw [show size = st by omega]
      exact this
  case al q p =>
    cases ha : E.at q p <;> rw [ha] at hl <;> simp only at hl <;> try (cases hl; done)
    rename_i es
    cases hrow : es[i.toNat]? with
    | none => rw [hrow] at hl; cases hl
    | some row =>
    rw [hrow] at hl
    simp only at hl
    split at hl
    case isFalse => cases hl
    rename_i hc
    cases hl
    have he : hdrAt w.heap (valOf a xv) E q p = some (a.eval x) := by
      cases lk with
      | closed h => have := h.noalias _ (List.mem_singleton.2 rfl); cases this
      | al h => exact h
    have hil : i.toNat < es.length := by
      rcases Nat.lt_or_ge i.toNat es.length with h1 | h1
      · exact h1
      · rw [List.getElem?_eq_none h1] at hrow; cases hrow
    obtain ⟨b, cap, hv, hp⟩ := r.elem he ha hrow (by omega)
    refine ⟨_, hrun b 0 es.length cap hv hc.1 (by omega), .ptr ?_⟩
    rw [hp, hc.2.1, Nat.zero_add]

theorem Rel.alHdr {xv : Nat → Value} {a : Act} {w : World} {S : Nat → Prop} {R : List Nat} (r : Rel N xv E a w S R) {q : Nat} {p : Path} {v : Value} (he : hdrAt w.heap (valOf a xv) E q p = some v) :
    (∀ es, E.at q p = .arr es → ∃ b cap, v = .slice b es.length cap) ∧ (∀ st, E.at q p = .buf st → ∃ b cap, v = .slice b 0 cap) := by
  obtain ⟨g, Rf, R2, h1, hsl, h2, _, _⟩ := r.alAt he
  rw [h1]
  refine ⟨fun es e => ?_, fun st e => ?_⟩
  · subst e
    cases h2 with
    | arrNil _ => exact ⟨_, _, rfl⟩
    | arr hn => exact ⟨_, _, by rw [hn]⟩
  · subst e
    cases h2 with
    | buf => exact ⟨_, _, rfl⟩

/-- the length of a slice -/
def lenF (E : Env) (s : FV) : Option Nat :=
  match s with
  | .al q p => match E.at q p with
    | .arr es => some es.length
    | .buf _ => some 0
    | _ => none
  | .sl _ es => some es.length
  | .arr [] => some 0
  | _ => none
def isSliceT (P : Program) (t : TypeId) : Bool :=
  match P.underlying t with
  | some (.slice _) => true
  | _ => false
def isStringT (P : Program) (t : TypeId) : Bool :=
  match P.underlying t with
  | some .string => true
  | _ => false
theorem isSliceT_spec {t : TypeId} (h : isSliceT P t = true) : ∃ e, P.underlying t = some (.slice e) := by
  unfold isSliceT at h
  cases hu : P.underlying t with
  | none => rw [hu] at h; cases h
  | some de => rw [hu] at h; cases de <;> simp only at h <;> first | (cases h; done) | exact ⟨_, rfl⟩
theorem isStringT_spec {t : TypeId} (h : isStringT P t = true) : P.underlying t = some .string := by
  unfold isStringT at h
  cases hu : P.underlying t with
  | none => rw [hu] at h; cases h
  | some de => rw [hu] at h; cases de <;> simp only at h <;> first | (cases h; done) | rfl

theorem ok_len {t : TypeId} {s : Sr} {x : Operand} {n : Nat} (ho : o.op = .call { callee := .builtin .len, args := #[x], argTypes := #[t] }) (hd : o.dst = some d) (hdN : d < N) (hs : s.fits N x = true) (ht : isSliceT P t = true)
    (hl : lenF E (E.look s) = some n) : OpOk P N o E (· = E.upd d (.int .i64 n)) := by
  refine ok_look hd hdN rfl ?_
  intro xv a w S R r
  have lk := looked r hs
  obtain ⟨e, hu⟩ := isSliceT_spec ht
  have main : ∀ m cap z, a.eval x = .slice z m cap → (execOp a.eval o).run P w = .ok (.value (.int .i64 m)) w := by
    intro m cap z hv
    simp [execOp, ho, resolve, invoke, builtin, Builtin.len_, run_underlying' hu, hv, goInt]
  refine ⟨.int .i64 n, ?_, .closed (.int .nil)⟩
  generalize E.look s = adr at lk hl
  cases adr <;> simp only [lenF] at hl <;> try (cases hl; done)
  case sl full es =>
    cases hl
    have hrep := lk.rep rfl
    generalize hv : a.eval x = v at hrep
    cases hrep with
    | slNil _ => exact main _ _ _ hv
    | sl hn => rw [hn]; exact main _ _ _ hv
  case arr es =>
    cases es with
    | cons e es => cases hl
    | nil =>
      cases hl
      have hrep := lk.rep rfl
      generalize hv : a.eval x = v at hrep
      cases hrep with
      | arrNil _ => exact main _ _ _ hv
  case al q p =>
    have he : hdrAt w.heap (valOf a xv) E q p = some (a.eval x) := by
      cases lk with
      | closed h => have := h.noalias _ (List.mem_singleton.2 rfl); cases this
      | al h => exact h
    obtain ⟨h1, h2⟩ := r.alHdr he
    cases ha : E.at q p <;> rw [ha] at hl <;> simp only at hl <;> try (cases hl; done)
    · cases hl
      obtain ⟨b, cap, hv⟩ := h1 _ ha
      exact main _ _ _ hv
    · cases hl
      obtain ⟨b, cap, hv⟩ := h2 _ ha
      exact main _ _ _ hv

theorem ok_lenS {t : TypeId} {s : Sr} {x : Operand} {b : List UInt8} (ho : o.op = .call { callee := .builtin .len, args := #[x], argTypes := #[t] }) (hd : o.dst = some d) (hdN : d < N) (hs : s.fits N x = true) (ht : isStringT P t = true)
    (hl : E.look s = .str b) : OpOk P N o E (· = E.upd d (.int .i64 b.length)) := by
  refine ok_look hd hdN rfl ?_
  intro xv a w S R r
  have lk := looked r hs
  rw [hl] at lk
  have hu := isStringT_spec ht
  refine ⟨.int .i64 b.length, ?_, .closed (.int .nil)⟩
  have hsz : (ByteArray.mk b.toArray).size = b.length := by simp [ByteArray.size]
  simp [execOp, ho, resolve, invoke, builtin, Builtin.len_, run_underlying' hu, lk.str, goInt, hsz]

/-! ### append -/
theorem World.drew_heap (w : World) : w.drew.heap = w.heap := rfl

theorem run_append_grow' {w : World} {t t2 ty e : TypeId} {i : TypeInfo} {z : Value} (ht : P.underlying t = some (.slice e)) (ht2 : P.underlying t2 = some (.slice e)) (hi : P.info? e = some i) (hz : i.zero = some z)
    {base : Option Addr} {sLen sCap : Nat} {olds news : List Value} {x : Option Addr} {n c : Nat} (hold : (Builtin.firstCells i.size sLen (.slice base sLen sCap)).run P w.drew = .ok olds.toArray w.drew)
    (hnew : (Builtin.firstCells i.size n (.slice x n c)).run P w.drew = .ok news.toArray w.drew) (hg : sCap < sLen + n) (hpos : 0 < i.bytes) (hfit : (sLen + n) * i.bytes ≤ 140737488355328) :
    ∃ cap, sLen + n ≤ cap ∧ (Builtin.append_ #[t, t2] ty #[.slice base sLen sCap, .slice x n c]).run P w =
      .ok (.slice (some ⟨w.heap.size, 0, none⟩) (sLen + n) cap) (w.drew.alloc (.cells (olds.toArray ++ news.toArray ++ Builtin.zeroCells z.cells (cap - (sLen + n))) e)) := by
  have hn : ¬ (sLen + n ≤ sCap) := by omega
  have h63 : ((sLen + n : Nat) : Int) ≤ 9223372036854775807 := by
    have : sLen + n ≤ (sLen + n) * i.bytes := Nat.le_mul_of_pos_right _ hpos
    omega
  have h63' : ¬ (9223372036854775807 < ((sLen : Int) + (n : Int))) := by omega
  have h48' : ¬ (281474976710656 < Builtin.nextslicecap (sLen + n) sCap * i.bytes) := by
    have := growslice_fits (bytes := i.bytes) hg hfit
    omega
  refine ⟨grownCap w (sLen + n) sCap e, grownCap_ge w (sLen + n) sCap e, ?_⟩
  simp [Builtin.append_, run_underlying' ht, run_underlying' ht2, sizeOf, typeInfo, zeroValue, hi, hz, Builtin.lenOf, hn, h63', h48', Question.forced, hold, hnew, newRow, grownCap]
  congr 2
  apply Array.ext'
  simp [List.append_assoc]

theorem run_append_fits' {w w' : World} {t t2 ty e : TypeId} {i : TypeInfo} (ht : P.underlying t = some (.slice e)) (ht2 : P.underlying t2 = some (.slice e)) (hi : P.info? e = some i)
    {base : Option Addr} {sLen sCap : Nat} {news : List Value} {x : Option Addr} {n c : Nat}
    (hnew : (Builtin.firstCells i.size n (.slice x n c)).run P w = .ok news.toArray w) (hg : sLen + n ≤ sCap)
    (hst : ∀ b, base = some b → (storeCells (b.add (sLen * i.size)) news 0).run P w = .ok () w') (hb : base = none → w' = w) :
    (Builtin.append_ #[t, t2] ty #[.slice base sLen sCap, .slice x n c]).run P w = .ok (.slice base (sLen + n) sCap) w' := by
  cases base with
  | none =>
    have := hb rfl
    subst this
    simp [Builtin.append_, run_underlying' ht, run_underlying' ht2, sizeOf, typeInfo, hi, Builtin.lenOf, hg, hnew]
  | some b =>
    have := hst b rfl
    simp [Builtin.append_, run_underlying' ht, run_underlying' ht2, sizeOf, typeInfo, hi, Builtin.lenOf, hg, hnew, this]

/-- the rows of a slice: each of the size, each cell one that memory bears -/
def rowsOk (size : Nat) (es : List (List FV)) : Bool := es.all fun r => r.length == size && r.all FV.one
theorem rowsOk_len {size : Nat} {es : List (List FV)} (h : rowsOk size es = true) : ∀ e ∈ es, e.length = size := by
  intro e m
  have := List.all_eq_true.1 h e m
  simp only [Bool.and_eq_true, beq_iff_eq] at this
  exact this.1
theorem rowsOk_one {size : Nat} {es : List (List FV)} (h : rowsOk size es = true) : es.flatten.all FV.one = true := by
  rw [List.all_eq_true]
  intro f m
  obtain ⟨e, he, hf⟩ := List.mem_flatten.1 m
  have := List.all_eq_true.1 h e he
  simp only [Bool.and_eq_true] at this
  exact List.all_eq_true.1 this.2 f hf

def elemsOf : FV → Option (List (List FV))
  | .arr es => some es
  | .sl _ es => some es
  | .buf _ => some []
  | _ => none

/-- what a slice's cells are -/
theorem elems_spec {w : World} {S : Nat → Prop} {v : Value} {f : FV} {R : List Nat} {es : List (List FV)} {size : Nat} (r : Rep w.heap S [v] [f] R) (he : elemsOf f = some es) (hs : rowsOk size es = true) :
    ∃ z n c news Rn, v = .slice z n c ∧ es.length = n ∧ (∀ w' : World, w'.heap = w.heap → (Builtin.firstCells size n v).run P w' = .ok news.toArray w') ∧ news.length = n * size ∧ Rep w.heap S news es.flatten Rn ∧ (∀ b ∈ Rn, b ∈ R) ∧ (R.Nodup → Rn.Nodup) := by
  have len := rowsOk_len hs
  have load : ∀ {b o : Nat} {cs : List Value} {n cap : Nat}, cs.length = n * size → (∀ k, k < n * size → cellAt w.heap b (o + k) = cs[k]?) → ∀ w' : World, w'.heap = w.heap →
      (Builtin.firstCells size n (.slice (some ⟨b, o, none⟩) n cap)).run P w' = .ok cs.toArray w' := by
    intro b o cs n cap h1 h2 w' hw
    simp only [Builtin.firstCells]
    exact run_loadCells' h1 (fun k hk => by rw [hw]; exact h2 k hk)
  have zero : ∀ {z : Option Addr} {cap : Nat}, ∀ w' : World, (Builtin.firstCells size 0 (.slice z 0 cap)).run P w' = .ok #[] w' := by
    intro z cap w'
    cases z with
    | none => simp [Builtin.firstCells]
    | some a => simp [Builtin.firstCells, loadCells, loadCellsFrom]
  cases f <;> simp only [elemsOf] at he <;> try (cases he; done)
  case sl full es' =>
    cases he
    cases r with
    | slNil ht => exact ⟨_, 0, 0, [], [], rfl, rfl, fun w' _ => zero w', by simp, .nil, by simp, by simp⟩
    | @sl _ _ b o0 n cap st cs _ _ _ hn hst hS hlt hcs hcc hcap hfull hpos hr ht =>
      cases ht
      have hmul : n * st = n * size := by
        cases es with
        | nil => simp at hn; subst hn; simp
        | cons e es => rw [← hst e (by simp), ← len e (by simp)]
      rw [hmul] at hcs hcc
      exact ⟨_, n, cap, cs, [], rfl, hn, load hcs hcc, hcs, hr, by simp, by simp⟩
  case arr es' =>
    cases he
    cases r with
    | arrNil ht => exact ⟨_, 0, 0, [], [], rfl, rfl, fun w' _ => zero w', by simp, .nil, by simp, by simp⟩
    | @arr _ b n cap st c T _ _ R1 R2 hn hst hb hsz hcap hpos hr ht =>
      cases ht
      have hst' : st = size := by
        cases es with
        | nil => simp at hn; omega
        | cons e es => rw [← hst e (by simp), ← len e (by simp)]
      subst hst'
      have hle : n * st ≤ c.size := by rw [hsz]; exact Nat.mul_le_mul_right _ hcap
      have hl : (c.toList.take (n * st)).length = n * st := by simp; omega
      refine ⟨_, n, cap, c.toList.take (n * st), R1, rfl, hn, load hl (fun k hk => by rw [Nat.zero_add]; unfold cellAt; rw [hb]; simp [List.getElem?_take, hk]), hl, hr, by simp +contextual, fun nd => ?_⟩
      simp only [List.append_nil] at nd
      exact (List.nodup_cons.1 nd).2
  case buf st =>
    cases he
    cases r with
    | buf hb hsz ht => exact ⟨_, 0, _, [], [], rfl, rfl, fun w' _ => zero w', by simp, .nil, by simp, by simp⟩

/-- a new block in a world that may have drawn, too -/
theorem Post.alloc {xv : Nat → Value} {a : Act} {w w' : World} {S : Nat → Prop} {R : List Nat} {E' : Env} {S' : Nat → Prop} {R' Rf : List Nat} (hrel : Rel N xv E' a w S' R') (hseals : ∀ b, S b → S' b) (hnews : ∀ b, S' b → S b ∨ b ∈ R) (hsub : ∀ b ∈ R', b ∈ R)
    (hdN : d < N) {c : Array Value} {T : TypeId} (hheap : w'.heap = w.heap.push (.cells c T (0, 0))) (hos : w'.os = w.os) (htape : w'.tape = w.tape) (hout : w'.output = w.output) {v : Value} {f : FV}
    (hrep : Rep w'.heap S' [v] [f] (w.heap.size :: Rf)) (hnd : Rf.Nodup) (hap : ∀ b ∈ Rf, b ∉ R' ∧ ¬ S' b) (hsubf : ∀ b ∈ Rf, b ∈ R) (hlt : ∀ b ∈ Rf, b < w.heap.size) (K : Env → Prop) (hK : K (E'.upd d f)) :
    Post N xv K w S R (a.put (some d) v) w' := by
  have hw : Rel N xv E' a w' S' R' := hrel.world (by rw [hheap]; simp) (fun b hb _ => by rw [hheap]; exact getElem?_push_lt _ _ hb) (fun b m => by rw [hheap]; exact getElem?_push_lt _ _ (hrel.env.lt b m))
  obtain ⟨R'', h1, h2⟩ := hw.upd hdN hrep (by
    intro b m
    rcases List.mem_cons.1 m with rfl | m
    · exact ⟨fun m' => by have := hrel.env.lt _ m'; omega, fun hb => by have := (hrel.sep _ hb).1; omega⟩
    · exact hap b m) (by
    rw [List.nodup_cons]
    exact ⟨fun m => by have := hlt _ m; omega, hnd⟩)
  refine ⟨_, S', R'', hK, h1, ⟨hseals, fun b hb => (hnews b hb).imp id .inl, fun b hb _ => by rw [hheap]; exact getElem?_push_lt _ _ hb, by rw [hheap]; simp, ?_, hos, htape, hout, ?_⟩⟩
  · intro b m
    rcases h2 b m with h | h
    · rcases List.mem_cons.1 h with rfl | h
      · exact .inr (Nat.le_refl _)
      · exact .inl (hsubf b h)
    · exact .inl (hsub b h)
  · exact fun x hx => hx

/-- the slice that is appended to -/
def apBase (size : Nat) : FV → Option (List (List FV))
  | .arr es => some es
  | .buf st => if st = size then some [] else none
  | .sl true es => some es
  | _ => none
def apOut (f0 : FV) (es0 es1 : List (List FV)) : FV :=
  match f0 with
  | .buf st => if es1 = [] then .buf st else .arr es1
  | .sl _ (e :: es) => if es1 = [] then .sl true (e :: es) else .arr (e :: es ++ es1)
  | _ => .arr (es0 ++ es1)
/-- append -/
def apF (E : Env) (a b : Sr) (size bytes : Nat) : Option (FV × Env) :=
  match apBase size (E.pass true a).1, elemsOf ((E.pass true a).2.pass false b).1 with
  | some es0, some es1 =>
    if (rowsOk size es0 && rowsOk size es1) = true ∧ (es0.length + es1.length) * bytes ≤ 140737488355328 then some (apOut (E.pass true a).1 es0 es1, ((E.pass true a).2.pass false b).2) else none
  | _, _ => none

def apOk (P : Program) (t t2 : TypeId) (size bytes : Nat) : Bool :=
  match P.underlying t, P.underlying t2 with
  | some (.slice e), some (.slice e2) => e == e2 && (match P.info? e with
    | some i => i.size == size && i.bytes == bytes && decide (0 < bytes) && (match i.zero with | some z => z.cells.size == size | none => false)
    | none => false)
  | _, _ => false
theorem apOk_spec {t t2 : TypeId} {size bytes : Nat} (h : apOk P t t2 size bytes = true) :
    ∃ e i z, P.underlying t = some (.slice e) ∧ P.underlying t2 = some (.slice e) ∧ P.info? e = some i ∧ i.size = size ∧ i.bytes = bytes ∧ 0 < bytes ∧ i.zero = some z ∧ z.cells.size = size := by
  unfold apOk at h
  cases hu : P.underlying t with
  | none => rw [hu] at h; cases h
  | some de =>
  cases hu2 : P.underlying t2 with
  | none => rw [hu, hu2] at h; cases de <;> cases h
  | some de2 =>
  rw [hu, hu2] at h
  cases de <;> try (cases h; done)
  cases de2 <;> try (cases h; done)
  rename_i e e2
  simp only [Bool.and_eq_true, beq_iff_eq] at h
  obtain ⟨rfl, h⟩ := h
  cases hi : P.info? e with
  | none => rw [hi] at h; cases h
  | some i =>
  rw [hi] at h
  simp only [Bool.and_eq_true, beq_iff_eq, decide_eq_true_eq] at h
  obtain ⟨⟨⟨h1, h2⟩, h3⟩, h4⟩ := h
  cases hz : i.zero with
  | none => rw [hz] at h4; cases h4
  | some z =>
    rw [hz] at h4
    exact ⟨e, i, z, rfl, rfl, hi, h1, h2, h3, hz, by simpa using h4⟩

theorem ok_append {t t2 : TypeId} {s1 s2 : Sr} {x y : Operand} {size bytes : Nat} {f : FV} {E' : Env} (ho : o.op = .call { callee := .builtin .append, args := #[x, y], argTypes := #[t, t2] }) (hd : o.dst = some d) (hdN : d < N)
    (hs1 : s1.fits N x = true) (hs2 : s2.fits N y = true) (ht : apOk P t t2 size bytes = true) (hl : apF E s1 s2 size bytes = some (f, E')) : OpOk P N o E (· = E'.upd d f) := by
  intro xv a w S R r
  obtain ⟨S1, Rf1, R1, p1⟩ := passed r hs1 true
  obtain ⟨S2, Rf2, R2, p2⟩ := passed p1.rel hs2 false
  unfold apF at hl
  have hrep1 : Rep w.heap S2 [a.eval x] [(E.pass true s1).1] Rf1 := p1.rep.mono p2.seals (Nat.le_refl _) (fun _ _ _ => rfl) (fun _ _ => rfl)
  have hrep2 := p2.rep
  generalize hf0 : (E.pass true s1).1 = f0 at hl hrep1
  generalize hf1 : ((E.pass true s1).2.pass false s2).1 = f1 at hl hrep2
  generalize hE2 : ((E.pass true s1).2.pass false s2).2 = E2 at hl
  have hrel := p2.rel
  rw [hE2] at hrel
  cases hb0 : apBase size f0 with
  | none => rw [hb0] at hl; cases hl
  | some es0 =>
  cases hb1 : elemsOf f1 with
  | none => rw [hb0, hb1] at hl; cases hl
  | some es1 =>
  rw [hb0, hb1] at hl
  simp only at hl
  split at hl
  case isFalse => cases hl
  rename_i hc
  obtain ⟨hrows, hfit⟩ := hc
  simp only [Bool.and_eq_true] at hrows
  simp only [Option.some.injEq, Prod.mk.injEq] at hl
  obtain ⟨rfl, rfl⟩ := hl
  obtain ⟨e, i, z, hu, hu2, hi, hsz, hby, hbpos, hz, hzs⟩ := apOk_spec ht
  subst hsz
  subst hby
  obtain ⟨zx, n1, c1, news, Rn, hv1, hn1, hfirst1, hnl, hrn, hrnsub, hrnnd⟩ := elems_spec (P := P) hrep2 hb1 hrows.2
  have hexec : ∀ {rv : Value} {w' : World}, (Builtin.append_ #[t, t2] o.type #[a.eval x, a.eval y]).run P w = .ok rv w' → (execOp a.eval o).run P w = .ok (.value rv) w' := by
    intro rv w' h
    simp [execOp, ho, resolve, invoke, builtin, h]
  -- the blocks of what is appended
  have hnap : ∀ b ∈ Rn, b ∉ R2 ∧ ¬ S2 b := fun b m => p2.apart b (hrnsub b m)
  have hsub2 : ∀ b ∈ R2, b ∈ R := fun b m => p1.sub b (p2.sub b m)
  have hseals : ∀ b, S b → S2 b := fun b h => p2.seals b (p1.seals b h)
  have hnews2 : ∀ b, S2 b → S b ∨ b ∈ R := fun b h => by
    rcases p2.news b h with h | h
    · exact p1.news b h
    · exact .inr (p1.sub b h)
  have hRf1 : ∀ b ∈ Rf1, b ∉ R2 ∧ ¬ S2 b := fun b m => ⟨fun m' => (p1.apart b m).1 (p2.sub b m'), fun hb => by
    rcases p2.news b hb with h | h
    · exact (p1.apart b m).2 h
    · exact (p1.apart b m).1 h⟩
  have hdis : ∀ b ∈ Rf1, b ∉ Rn := fun b m m' => (p1.apart b m).1 (p2.subf b (hrnsub b m'))
  have hnsub : ∀ b ∈ Rn, b ∈ R := fun b m => p1.sub b (p2.subf b (hrnsub b m))
  -- growing
  have grow : ∀ {base : Option Addr} {n0 cap0 : Nat} {olds : List Value} {R0 : List Nat}, a.eval x = .slice base n0 cap0 → es0.length = n0 → (∀ w' : World, w'.heap = w.heap → (Builtin.firstCells i.size n0 (.slice base n0 cap0)).run P w' = .ok olds.toArray w') → olds.length = n0 * i.size →
      Rep w.heap S2 olds es0.flatten R0 → (∀ b ∈ R0, b ∈ Rf1) → R0.Nodup → cap0 < n0 + n1 → apOut f0 es0 es1 = .arr (es0 ++ es1) → o.wp P a w (Post N xv (· = E2.upd d (apOut f0 es0 es1)) w S R) (fun _ _ _ => False) := by
    intro base n0 cap0 olds R0 hv hn0 hfirst hol hro hR0 hR0n hg hout
    rw [hout]
    obtain ⟨cap, hcap, hrun⟩ := run_append_grow' (P := P) (w := w) (t := t) (t2 := t2) (ty := o.type) hu hu2 hi hz (hfirst w.drew rfl) (by rw [← hv1]; exact hfirst1 w.drew rfl) hg hbpos (by rw [← hn0, ← hn1]; exact hfit)
    rw [← hv, ← hv1] at hrun
    refine wp_value (hexec hrun) ?_
    rw [hd]
    have hzsz : (Builtin.zeroCells z.cells (cap - (n0 + n1))).size = (cap - (n0 + n1)) * i.size := by rw [size_zeroCells, hzs]
    have hpushlt : ∀ b, b < w.heap.size → (w.heap.push (Obj.cells (olds.toArray ++ news.toArray ++ Builtin.zeroCells z.cells (cap - (n0 + n1))) e (0, 0)))[b]? = w.heap[b]? := fun b hb => getElem?_push_lt _ _ hb
    refine Post.alloc (w' := w.drew.alloc (.cells (olds.toArray ++ news.toArray ++ Builtin.zeroCells z.cells (cap - (n0 + n1))) e)) (Rf := R0 ++ Rn) hrel hseals hnews2 hsub2 hdN (c := olds.toArray ++ news.toArray ++ Builtin.zeroCells z.cells (cap - (n0 + n1))) (T := e) rfl rfl rfl rfl ?_ ?_ ?_ ?_ ?_ _ rfl
    · show Rep (w.heap.push (Obj.cells (olds.toArray ++ news.toArray ++ Builtin.zeroCells z.cells (cap - (n0 + n1))) e (0, 0))) S2 _ _ _
      have hcont : Rep (w.heap.push (Obj.cells (olds.toArray ++ news.toArray ++ Builtin.zeroCells z.cells (cap - (n0 + n1))) e (0, 0))) S2 (olds ++ news) (es0.flatten ++ es1.flatten) (R0 ++ Rn) :=
        (hro.append hrn).mono (fun _ h => h) (by simp) (fun b _ hb => hpushlt b hb) (fun b m => hpushlt b (by
          rcases List.mem_append.1 m with m | m
          · exact hro.lt b m
          · exact hrn.lt b m))
      have hmul : (n0 + n1) * i.size = n0 * i.size + n1 * i.size := Nat.add_mul _ _ _
      have := Rep.arr (h := w.heap.push (Obj.cells (olds.toArray ++ news.toArray ++ Builtin.zeroCells z.cells (cap - (n0 + n1))) e (0, 0))) (S := S2) (es := es0 ++ es1) (b := w.heap.size) (n := n0 + n1) (cap := cap) (st := i.size) (T := e)
        (c := olds.toArray ++ news.toArray ++ Builtin.zeroCells z.cells (cap - (n0 + n1))) (R1 := R0 ++ Rn) (vs := []) (fs := []) (R := []) (by simp [hn0, hn1])
        (by intro r hr; rcases List.mem_append.1 hr with hr | hr; exact rowsOk_len hrows.1 r hr; exact rowsOk_len hrows.2 r hr)
        (by simp) (by
          simp only [Array.size_append, List.size_toArray, hzsz, hol, hnl]
          rw [← Nat.add_mul, ← Nat.add_mul]
          congr 1
          omega) hcap (by omega) (by
          have e1 : (olds.toArray ++ news.toArray ++ Builtin.zeroCells z.cells (cap - (n0 + n1))).toList.take ((n0 + n1) * i.size) = olds ++ news := by
            rw [Array.toList_append, Array.toList_append, List.take_append_of_le_length (by simp; omega)]
            rw [List.take_of_length_le (by simp; omega)]
          rw [e1, List.flatten_append]
          exact hcont) .nil
      simpa using this
    · rw [List.nodup_append]
      have hRn : Rn.Nodup := hrnnd p2.nodup
      exact ⟨hR0n, hRn, fun b m b' m' e => hdis b (hR0 b m) (e ▸ m')⟩
    · intro b m
      rcases List.mem_append.1 m with m | m
      · exact hRf1 b (hR0 b m)
      · exact hnap b m
    · intro b m
      rcases List.mem_append.1 m with m | m
      · exact p1.subf b (hR0 b m)
      · exact hnsub b m
    · intro b m
      rcases List.mem_append.1 m with m | m
      · exact hro.lt b m
      · exact hrn.lt b m
  -- nothing is written
  have stay : ∀ {base : Option Addr} {n0 cap0 : Nat}, a.eval x = .slice base n0 cap0 → es0.length = n0 → es1 = [] → n0 + n1 ≤ cap0 → Rep w.heap S2 [a.eval x] [apOut f0 es0 es1] Rf1 → o.wp P a w (Post N xv (· = E2.upd d (apOut f0 es0 es1)) w S R) (fun _ _ _ => False) := by
    intro base n0 cap0 hv hn0 he hle hrep
    subst he
    simp only [List.length_nil] at hn1
    have hn1' : n1 = 0 := hn1.symm
    subst hn1'
    have hnews0 : news = [] := List.eq_nil_of_length_eq_zero (by rw [hnl]; simp)
    subst hnews0
    have hrun := run_append_fits' (P := P) (w := w) (w' := w) (t := t) (t2 := t2) (ty := o.type) hu hu2 hi (base := base) (sLen := n0) (sCap := cap0) (news := []) (by rw [← hv1]; exact hfirst1 w rfl) hle (fun b _ => rfl) (fun _ => rfl)
    rw [← hv, ← hv1] at hrun
    refine wp_value (hexec hrun) ?_
    rw [hd, Nat.add_zero, ← hv]
    obtain ⟨R'', h1, h2⟩ := hrel.upd hdN hrep hRf1 p1.nodup
    refine ⟨_, S2, R'', rfl, h1, ⟨hseals, fun b hb => (hnews2 b hb).imp id .inl, fun _ _ _ => rfl, Nat.le_refl _, fun b m => .inl ?_, rfl, rfl, rfl, fun _ h => h⟩⟩
    rcases h2 b m with h | h
    · exact p1.subf b h
    · exact hsub2 b h
  -- in place
  have place : ∀ {b n0 cap0 : Nat} {c : Array Value} {T : TypeId} {R0 : List Nat}, a.eval x = .slice (some ⟨b, 0, none⟩) n0 cap0 → es0.length = n0 → w.heap[b]? = some (.cells c T (0, 0)) → c.size = cap0 * i.size → Rf1 = b :: R0 →
      Rep w.heap S2 (c.toList.take (n0 * i.size)) es0.flatten R0 → n0 + n1 ≤ cap0 → 0 < n0 + n1 → apOut f0 es0 es1 = .arr (es0 ++ es1) → o.wp P a w (Post N xv (· = E2.upd d (apOut f0 es0 es1)) w S R) (fun _ _ _ => False) := by
    intro b n0 cap0 c T R0 hv hn0 hb hcs hR hro hle hpos hout
    rw [hout]
    have hmul : (n0 + n1) * i.size = n0 * i.size + n1 * i.size := Nat.add_mul _ _ _
    have hmul2 : (n0 + n1) * i.size ≤ cap0 * i.size := Nat.mul_le_mul_right _ hle
    obtain ⟨w', c', hrunS, W⟩ := run_storeCells' (P := P) news (n0 * i.size) 0 w c hb (by rw [hnl]; omega) (hrn.one (rowsOk_one hrows.2))
    rw [Nat.add_zero] at W
    have hrun := run_append_fits' (P := P) (w := w) (w' := w') (t := t) (t2 := t2) (ty := o.type) hu hu2 hi (base := some ⟨b, 0, none⟩) (sLen := n0) (sCap := cap0) (news := news) (by rw [← hv1]; exact hfirst1 w rfl) hle (fun b' hb' => by
      cases hb'
      rw [add_eq, Nat.zero_add]; exact hrunS) (fun h => by cases h)
    rw [← hv, ← hv1] at hrun
    refine wp_value (hexec hrun) ?_
    rw [hd]
    have hbm : b ∈ Rf1 := by rw [hR]; simp
    have hbS : ¬ S2 b := (hRf1 b hbm).2
    have hbR2 : b ∉ R2 := (hRf1 b hbm).1
    have hndR : (b :: R0).Nodup := by rw [← hR]; exact p1.nodup
    have hw : Rel N xv E2 a w' S2 R2 := hrel.world (by rw [W.size]; exact Nat.le_refl _) (fun b' _ hb' => W.rest b' (fun e => hbS (e ▸ hb'))) (fun b' m => W.rest b' (fun e => hbR2 (e ▸ m)))
    have hcont : Rep w'.heap S2 (c.toList.take (n0 * i.size) ++ news) (es0.flatten ++ es1.flatten) (R0 ++ Rn) :=
      (hro.append hrn).mono (fun _ h => h) (by rw [W.size]; exact Nat.le_refl _) (fun b' hb' _ => W.rest b' (fun e => hbS (e ▸ hb'))) (fun b' m => W.rest b' (fun e => by
        subst e
        rcases List.mem_append.1 m with m | m
        · exact (List.nodup_cons.1 hndR).1 m
        · exact hdis b' hbm m))
    have hc'sz : c'.size = cap0 * i.size := by
      have := congrArg List.length W.cells
      simp at this
      omega
    have hrep : Rep w'.heap S2 [.slice (some ⟨b, 0, none⟩) (n0 + n1) cap0] [.arr (es0 ++ es1)] (b :: (R0 ++ Rn)) := by
      have := Rep.arr (h := w'.heap) (S := S2) (es := es0 ++ es1) (b := b) (n := n0 + n1) (cap := cap0) (st := i.size) (T := T) (c := c') (R1 := R0 ++ Rn) (vs := []) (fs := []) (R := []) (by simp [hn0, hn1])
        (by intro r hr; rcases List.mem_append.1 hr with hr | hr; exact rowsOk_len hrows.1 r hr; exact rowsOk_len hrows.2 r hr) W.blk hc'sz hle hpos (by
          have e1 : c'.toList.take ((n0 + n1) * i.size) = c.toList.take (n0 * i.size) ++ news := by
            rw [W.cells, List.append_assoc, ← List.append_assoc, List.take_append_of_le_length (by simp; omega)]
            rw [List.take_of_length_le (by simp; omega)]
          rw [e1, List.flatten_append]
          exact hcont) .nil
      simpa using this
    obtain ⟨R'', h1, h2⟩ := hw.upd hdN hrep (by
      intro b' m
      rcases List.mem_cons.1 m with rfl | m
      · exact ⟨hbR2, hbS⟩
      · rcases List.mem_append.1 m with m | m
        · exact hRf1 b' (by rw [hR]; simp [m])
        · exact hnap b' m) (by
      rw [List.nodup_cons, List.nodup_append]
      refine ⟨fun m => ?_, (List.nodup_cons.1 hndR).2, hrnnd p2.nodup, fun b1 m1 b2 m2 e => hdis b1 (by rw [hR]; simp [m1]) (e ▸ m2)⟩
      rcases List.mem_append.1 m with m | m
      · exact (List.nodup_cons.1 hndR).1 m
      · exact hdis b hbm m)
    refine ⟨_, S2, R'', rfl, h1, ⟨hseals, fun b hb => (hnews2 b hb).imp id .inl, fun b' _ hn' => W.rest b' (fun e => hn' (e ▸ p1.subf b hbm)), by rw [W.size]; exact Nat.le_refl _, fun b' m => .inl ?_, W.os, W.tape, W.output, fun _ h => h⟩⟩
    rcases h2 b' m with h | h
    · rcases List.mem_cons.1 h with rfl | h
      · exact p1.subf _ hbm
      · rcases List.mem_append.1 h with h | h
        · exact p1.subf b' (by rw [hR]; simp [h])
        · exact hnsub b' h
    · exact hsub2 b' h
  -- by what is appended to
  cases f0 <;> simp only [apBase] at hb0 <;> try (cases hb0; done)
  case sl full es =>
    cases full <;> simp only at hb0 <;> try (cases hb0; done)
    cases hb0
    obtain ⟨zx0, n0, cap0, olds, R0, hv0, hn0, hfirst0, hol, hro, hR0, hR0n⟩ := elems_spec (P := P) hrep1 (show elemsOf (.sl true es0) = some es0 from rfl) hrows.1
    have hcap0 : cap0 = n0 := by
      generalize a.eval x = v at hrep1 hv0
      cases hrep1 with
      | slNil _ => cases hv0; rfl
      | sl hn' _ _ _ _ _ _ hfull => cases hv0; rw [hfull rfl, ← hn0, hn']
    rw [hv0] at hfirst0
    cases es0 with
    | nil =>
      by_cases h1 : es1 = []
      · refine stay hv0 hn0 h1 (by subst h1; simp at hn1; omega) ?_
        subst h1
        generalize a.eval x = v at hrep1 hv0
        simp only [apOut, List.append_nil]
        cases hrep1 with
        | slNil ht => exact .arrNil ht
        | sl hn' _ _ _ _ _ _ hfull hpos => simp at hn'; have := hfull rfl; omega
      · refine grow hv0 hn0 hfirst0 hol hro hR0 (hR0n p1.nodup) ?_ rfl
        have : 0 < es1.length := List.length_pos_iff.2 h1
        omega
    | cons e0 es0 =>
      by_cases h1 : es1 = []
      · refine stay hv0 hn0 h1 (by subst h1; simp at hn1; omega) ?_
        simp only [apOut, h1, if_true]
        exact hrep1
      · refine grow hv0 hn0 hfirst0 hol hro hR0 (hR0n p1.nodup) ?_ (by simp [apOut, h1])
        have : 0 < es1.length := List.length_pos_iff.2 h1
        omega
  case arr es =>
    cases hb0
    generalize hvx : a.eval x = v at hrep1
    cases hrep1 with
    | arrNil ht =>
      by_cases h1 : es1 = []
      · refine stay hvx rfl h1 (by subst h1; simp at hn1; omega) ?_
        subst h1
        rw [hvx]
        exact .arrNil ht
      · refine grow (olds := []) (R0 := []) hvx rfl (fun w' hw' => ?_) (by simp) .nil (by simp) (by simp) ?_ rfl
        · rename_i z0
          cases z0 with
          | none => simp [Builtin.firstCells]
          | some a0 => simp [Builtin.firstCells, loadCells, loadCellsFrom]
        · have : 0 < es1.length := List.length_pos_iff.2 h1
          omega
    | @arr _ b n cap st c T _ _ Ra Rb hn hst hb hsz hcap hpos hr ht =>
      cases ht
      have hst' : st = i.size := by
        cases es0 with
        | nil => simp at hn; omega
        | cons e es => rw [← hst e (by simp), ← rowsOk_len hrows.1 e (by simp)]
      subst hst'
      by_cases hle : n + n1 ≤ cap
      · exact place hvx hn hb hsz (by simp) hr hle (by omega) rfl
      · have hle2 : n * i.size ≤ c.size := by rw [hsz]; exact Nat.mul_le_mul_right _ hcap
        have hl : (c.toList.take (n * i.size)).length = n * i.size := by simp; omega
        refine grow (R0 := Ra) hvx hn (fun w' hw' => ?_) hl hr (by simp +contextual) ?_ (by omega) rfl
        · simp only [Builtin.firstCells]
          exact run_loadCells' hl (fun k hk => by rw [hw', Nat.zero_add]; unfold cellAt; rw [hb]; simp [List.getElem?_take, hk])
        · have := p1.nodup
          simp only [List.append_nil] at this
          exact (List.nodup_cons.1 this).2
  case buf st =>
    split at hb0
    case isFalse => cases hb0
    rename_i hst
    subst hst
    cases hb0
    generalize hvx : a.eval x = v at hrep1
    cases hrep1 with
    | @buf b cap _ c T _ _ _ hb hsz ht =>
      cases ht
      by_cases h1 : es1 = []
      · refine stay hvx rfl h1 (by subst h1; simp at hn1; omega) ?_
        rw [hvx]
        simp only [apOut, h1, if_true]
        exact .buf hb hsz .nil
      · have hp1 : 0 < es1.length := List.length_pos_iff.2 h1
        by_cases hle : 0 + n1 ≤ cap
        · exact place hvx rfl hb hsz rfl (by simpa using Rep.nil) hle (by omega) (by simp [apOut, h1])
        · refine grow (olds := []) (R0 := []) hvx rfl (fun w' hw' => ?_) (by simp) .nil (by simp) (by simp) (by omega) (by simp [apOut, h1])
          simp [Builtin.firstCells, loadCells, loadCellsFrom]

end
end Go.Fm
