/- Array variables by index; bytes to a string. -/
import Derived.Test.YthfkhokmgolabaaDoorFmMore3
import Derived.Laws.BytesString
set_option linter.unusedVariables false
set_option linter.unusedSimpArgs false
namespace Go.Fm
open Go

section
variable {P : Program} {N : Nat} {o : Oper} {E : Env} {d : Nat}

def iaAF (E : Env) (adr : FV) (i : Int) (size n : Nat) : Option FV := if 0 ≤ i ∧ i < n then faF E adr (i.toNat * size) else none
def arrayIs (P : Program) (t : TypeId) (size n : Nat) : Bool :=
  match P.underlying t with
  | some (.array n' e) => n' == n && sizeIs P e size
  | _ => false

theorem ok_indexAddrA {t : TypeId} {s si : Sr} {x y : Operand} {i : Int} {k : IntKind} {size n : Nat} {f : FV} (ho : o.op = .indexAddr t x y) (hd : o.dst = some d) (hdN : d < N) (hs : s.fits N x = true) (hsi : si.fits N y = true) (ht : arrayIs P t size n = true)
    (hi : E.look si = .int k i) (hl : iaAF E (E.look s) i size n = some f) (hroot : f.notRoot d = true) : OpOk P N o E (· = E.upd d f) := by
  unfold iaAF at hl
  split at hl <;> try (cases hl; done)
  rename_i hb
  refine @ok_look P N o E d _ hd hdN hroot ?_
  intro xv a w S R r
  have lk := looked r hs
  have li := looked r hsi
  rw [hi] at li
  have hiv := li.int
  have hrun : ∀ b o', a.eval x = .pointer (some ⟨b, o', none⟩) → (execOp a.eval o).run P w = .ok (.value (.pointer (some ⟨b, o' + i.toNat * size, none⟩))) w := by
    intro b o' hv
    unfold arrayIs at ht
    cases hu : P.underlying t with
    | none => rw [hu] at ht; cases ht
    | some de =>
    rw [hu] at ht
    cases de <;> simp only at ht <;> try (cases ht; done)
    rename_i m e
    simp only [Bool.and_eq_true, beq_iff_eq] at ht
    obtain ⟨rfl, h2⟩ := ht
    unfold sizeIs at h2
    cases hi2 : P.info? e with
    | none => rw [hi2] at h2; cases h2
    | some ie =>
      rw [hi2] at h2
      have hsz : ie.size = size := by simpa using h2
      have hb2 : i < (m : Int) := hb.2
      simp [execOp, ho, Instr.indexAt, hiv, asIntOf, run_underlying' hu, Instr.sureAddr, hv, hb.1, hb2, run_sizeOf' hi2, hsz, add_eq]
  generalize E.look s = adr at lk hl
  cases adr <;> simp only [faF] at hl <;> try (cases hl; done)
  case ref gs =>
    split at hl
    case isFalse => cases hl
    cases hl
    obtain ⟨b, o', cs, hv, hS, hlt, hc, hr⟩ := (lk.rep rfl).ref_inv
    exact ⟨_, hrun b o' hv, .closed (Rep.ref_drop hS hlt hc hr)⟩
  case ptr q p =>
    cases hg : getN (E.get q) (addOff p (i.toNat * size)) 1 with
    | none => rw [hg] at hl; cases hl
    | some ys =>
    rw [hg] at hl
    simp only [Option.some.injEq] at hl
    subst hl
    have he : ptrAt w.heap (valOf a xv) E q p = some (a.eval x) := by
      cases lk with
      | closed h => have := h.noalias _ (List.mem_singleton.2 rfl); cases this
      | ptr h => exact h
    obtain ⟨b, o', hv, he'⟩ := Rel.ptr_add (xv := xv) (S := S) (R := R) he hg
    exact ⟨_, hrun b o' hv, .ptr he'⟩

def byteRow : List FV → Option UInt8
  | [.int .u8 n] => some (UInt8.ofNat n.toNat)
  | _ => none
def bytesF : List (List FV) → Option (List UInt8)
  | [] => some []
  | e :: es => match byteRow e, bytesF es with
    | some b, some bs => some (b :: bs)
    | _, _ => none
def elemsAt (E : Env) (f : FV) : Option (List (List FV)) :=
  match f with
  | .al q p => elemsOf (E.at q p)
  | f => elemsOf f
def bytesToStr (P : Program) (src dt : TypeId) : Bool :=
  match P.underlying src with
  | some (.slice e) => (match P.underlying e with | some (.int .u8) => true | _ => false) && isStringT P dt
  | _ => false

theorem bytesF_rows : ∀ {es : List (List FV)} {bs : List UInt8}, bytesF es = some bs → rowsOk 1 es = true
  | [], _, _ => rfl
  | e :: es, bs, h => by
    simp only [bytesF] at h
    split at h <;> try (cases h; done)
    rename_i b bs' hb hbs
    have ih := bytesF_rows hbs
    unfold byteRow at hb
    split at hb <;> try (cases hb; done)
    simp only [rowsOk, List.all_cons, Bool.and_eq_true] at ih ⊢
    exact ⟨by simp [FV.one], ih⟩
theorem bytesF_rep {h : Array Obj} {S : Nat → Prop} : ∀ {es : List (List FV)} {bs : List UInt8} {cs : List Value} {R : List Nat}, bytesF es = some bs → Rep h S cs es.flatten R → ∃ ns : List Int, cs = ns.map (Value.int .u8) ∧ bs = ns.map fun n => UInt8.ofNat n.toNat
  | [], bs, cs, R, hb, r => by cases hb; cases r; exact ⟨[], rfl, rfl⟩
  | e :: es, bs, cs, R, hb, r => by
    simp only [bytesF] at hb
    split at hb <;> try (cases hb; done)
    rename_i b bs' h1 h2
    cases hb
    unfold byteRow at h1
    split at h1 <;> try (cases h1; done)
    cases h1
    rename_i n
    rw [List.flatten_cons, List.singleton_append] at r
    cases cs with
    | nil => have := r.length; simp at this
    | cons c cs =>
    obtain ⟨R1, R2, r1, r2, rfl⟩ := r.cons_inv
    obtain ⟨ns, rfl, rfl⟩ := bytesF_rep h2 r2
    cases r1 with
    | int h => cases h; exact ⟨n :: ns, rfl, rfl⟩

theorem foldl_push (ns : List Int) : ∀ (b : ByteArray), ns.foldl (fun r n => r.push (UInt8.ofNat n.toNat)) b = ⟨b.data ++ (ns.map fun n => UInt8.ofNat n.toNat).toArray⟩ := by
  induction ns with
  | nil => intro b; cases b; simp
  | cons n ns ih =>
    intro b
    rw [List.foldl_cons, ih]
    cases b
    simp [ByteArray.push]

theorem ok_cvStr {src dt : TypeId} {s : Sr} {x : Operand} {es : List (List FV)} {bs : List UInt8} (ho : o.op = .convert src dt x) (hd : o.dst = some d) (hdN : d < N) (hs : s.fits N x = true) (ht : bytesToStr P src dt = true)
    (he : elemsAt E (E.look s) = some es) (hb : bytesF es = some bs) : OpOk P N o E (· = E.upd d (.str bs)) := by
  refine @ok_look P N o E d _ hd hdN rfl ?_
  intro xv a w S R r
  have lk := looked r hs
  unfold bytesToStr at ht
  cases hu : P.underlying src with
  | none => rw [hu] at ht; cases ht
  | some de =>
  rw [hu] at ht
  cases de <;> simp only at ht <;> try (cases ht; done)
  rename_i e
  simp only [Bool.and_eq_true] at ht
  have hue : P.underlying e = some (.int .u8) := by
    have := ht.1
    split at this
    · assumption
    · cases this
  have hut := isStringT_spec ht.2
  -- the cells
  have hrep : ∃ g S' R', elemsOf g = some es ∧ Rep w.heap S' [a.eval x] [g] R' := by
    unfold elemsAt at he
    generalize E.look s = f at lk he
    cases lk with
    | closed h =>
      refine ⟨f, S, [], ?_, h⟩
      cases f <;> first | exact he | (have := h.noalias _ (List.mem_singleton.2 rfl); cases this)
    | al h =>
      obtain ⟨g, Rf, R2, h1, _, h2, _⟩ := r.alAt h
      simp only at he
      rw [h1] at he
      exact ⟨g, S, Rf, he, h2⟩
    | ptr h => simp [elemsOf] at he
  obtain ⟨g, S', R', hg, hr⟩ := hrep
  obtain ⟨z, n, c, news, Rn, hv, hn, hload, hnl, hrn, _⟩ := elems_spec (P := P) hr hg (bytesF_rows hb)
  obtain ⟨ns, rfl, rfl⟩ := bytesF_rep hb hrn
  refine ⟨.string ⟨(ns.map fun n => UInt8.ofNat n.toNat).toArray⟩, ?_, .closed (.str .nil)⟩
  have hl := hload w rfl
  rw [hv] at hl
  have main : (Conv.bytesToString (.slice z n c)).run P w = .ok (.string ⟨(ns.map fun n => UInt8.ofNat n.toNat).toArray⟩) w := by
    cases z with
    | none =>
      have : ns = [] := by
        simp [Builtin.firstCells] at hl
        simpa using hl
      subst this
      simp [Conv.bytesToString]
      rfl
    | some ad =>
      have hl2 : (loadCells ad n).run P w = .ok (ns.map (Value.int .u8)).toArray w := by
        simpa [Builtin.firstCells] using hl
      rw [run_bytesToString w ad n c ns hl2, foldl_push]
      simp
  simp [execOp, ho, hv, run_convert_bytes_string w src dt e z n c hu hue hut, main]
end
end Go.Fm
