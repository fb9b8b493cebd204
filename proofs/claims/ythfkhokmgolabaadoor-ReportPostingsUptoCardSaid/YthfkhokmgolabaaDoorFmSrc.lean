/- Operands: how they are read, and how what they own is handed on. -/
import Derived.Test.YthfkhokmgolabaaDoorFmRel
set_option linter.unusedVariables false
set_option linter.unusedSimpArgs false
namespace Go.Fm
open Go

/-- an operand: a slot or a constant -/
inductive Sr where
  | t (n : Nat)
  | k (v : FV)
  deriving Inhabited

/-- a value that owns nothing -/
def FV.plain : FV → Bool
  | .undef | .int .. | .bool _ | .str _ | .sl .. | .ref _ | .nilp | .nilf | .nili => true
  | .fn _ cap => cap.isEmpty
  | _ => false

theorem Rep.plain {h S vs fs R} (r : Rep h S vs fs R) (hp : fs.all FV.plain = true) : R = [] := by
  induction r with
  | nil => rfl
  | undef _ ih | int _ ih | bool _ ih | str _ ih | nilp _ ih | nilf _ ih | nili _ ih | slNil _ ih =>
    rw [List.all_cons, Bool.and_eq_true] at hp; exact ih hp.2
  | iface _ _ _ _ | agg _ _ _ _ | tup _ _ _ _ => rw [List.all_cons, Bool.and_eq_true] at hp; cases hp.1
  | fn r1 _ _ i2 =>
    rw [List.all_cons, Bool.and_eq_true] at hp
    have h1 := hp.1
    simp only [FV.plain, List.isEmpty_iff] at h1
    subst h1
    cases r1
    simpa using i2 hp.2
  | sl _ _ _ _ _ _ _ _ _ _ _ _ i2 => rw [List.all_cons, Bool.and_eq_true] at hp; exact i2 hp.2
  | ref _ _ _ _ _ _ i2 => rw [List.all_cons, Bool.and_eq_true] at hp; exact i2 hp.2
  | arrNil _ _ => rw [List.all_cons, Bool.and_eq_true] at hp; cases hp.1
  | arr _ _ _ _ _ _ _ _ _ _ => rw [List.all_cons, Bool.and_eq_true] at hp; cases hp.1
  | box _ _ _ _ _ => rw [List.all_cons, Bool.and_eq_true] at hp; cases hp.1
  | iter _ _ _ => rw [List.all_cons, Bool.and_eq_true] at hp; cases hp.1
  | buf _ _ _ _ => rw [List.all_cons, Bool.and_eq_true] at hp; cases hp.1

/-- the value of a slot for a reader: of what the slot owns, a name -/
def view (n : Nat) : FV → FV
  | .arr _ => .al n []
  | .buf _ => .al n []
  | .box (_ :: _) => .ptr n [(0, 0)]
  | .box [] => .undef
  | .agg cs => if cs.all FV.plain then .agg cs else .undef
  | .tup _ => .undef
  | .fn f cap => if cap.all FV.plain then .fn f cap else .undef
  | .iter _ _ => .undef
  | .iface _ _ => .undef
  | f => f
def Env.look (E : Env) : Sr → FV
  | .k v => v
  | .t n => view n (E.get n)

mutual
/-- a constant of the code and the value for it -/
def constOk : FV → Value → Bool
  | .int k n, .int k' n' => k == k' && n == n'
  | .bool b, .bool b' => b == b'
  | .str s, .string b => b.data.toList == s
  | .arr [], .slice none 0 0 => true
  | .sl _ [], .slice none 0 0 => true
  | .nilp, .pointer none => true
  | .nilf, .nilFunc => true
  | .nili, .nilIface => true
  | .fn f [], .func (.func g) a b => f == g && a.isEmpty && b.isEmpty
  | .agg cs, .agg vs => constOkL cs vs.toList
  | .undef, .tuple a => a.isEmpty
  | _, _ => false
def constOkL : List FV → List Value → Bool
  | [], [] => true
  | f :: fs, v :: vs => constOk f v && constOkL fs vs
  | _, _ => false
end

theorem bytes_eq {b : ByteArray} {s : List UInt8} (h : b.data.toList = s) : b = ⟨s.toArray⟩ := by
  obtain ⟨d⟩ := b
  simp only at h
  subst h
  simp

mutual
theorem constOk_rep (h : Array Obj) (S : Nat → Prop) : ∀ (f : FV) (v : Value), constOk f v = true → Rep h S [v] [f] []
  | f, v, e => by
    unfold constOk at e
    split at e
    · simp only [Bool.and_eq_true, beq_iff_eq] at e; obtain ⟨rfl, rfl⟩ := e; exact .int .nil
    · simp only [beq_iff_eq] at e; subst e; exact .bool .nil
    · simp only [beq_iff_eq] at e; rw [bytes_eq e]; exact .str .nil
    · exact .arrNil .nil
    · exact .slNil .nil
    · exact .nilp .nil
    · exact .nilf .nil
    · exact .nili .nil
    · rename_i f g a b
      simp only [Bool.and_eq_true, beq_iff_eq, Array.isEmpty_iff] at e
      obtain ⟨⟨rfl, rfl⟩, rfl⟩ := e
      exact .fn (R1 := []) .nil .nil
    · rename_i cs vs
      have := constOkL_rep h S cs vs.toList e
      have h2 := Rep.agg this .nil
      simpa using h2
    · exact .undef .nil
    · cases e
theorem constOkL_rep (h : Array Obj) (S : Nat → Prop) : ∀ (fs : List FV) (vs : List Value), constOkL fs vs = true → Rep h S vs fs []
  | [], [], _ => .nil
  | [], _ :: _, e => by simp [constOkL] at e
  | _ :: _, [], e => by simp [constOkL] at e
  | f :: fs, v :: vs, e => by
    simp only [constOkL, Bool.and_eq_true] at e
    exact (constOk_rep h S f v e.1).append (constOkL_rep h S fs vs e.2)
end

/-- the operand of the code is the one that is meant -/
def Sr.fits (N : Nat) : Sr → Operand → Bool
  | .t n, .tmp m => n == m && decide (n < N)
  | .k v, .const c => constOk v c
  | .k (.fn f []), .func g => f == g
  | _, _ => false

section
variable {N : Nat} {xv : Nat → Value} {E : Env} {a : Act} {w : World} {S : Nat → Prop} {R : List Nat}

theorem eval_val (h : N ≤ X0) {n : Nat} (hn : n < N) : valOf a xv n = a.eval (.tmp n) := by
  unfold valOf Act.eval
  rw [if_pos (by omega)]

/-- what an operand that is read gives -/
inductive Looked (N : Nat) (xv : Nat → Value) (E : Env) (a : Act) (w : World) (S : Nat → Prop) (v : Value) : FV → Prop
  | closed {f} : Rep w.heap S [v] [f] [] → Looked N xv E a w S v f
  | al {r p} : hdrAt w.heap (valOf a xv) E r p = some v → Looked N xv E a w S v (.al r p)
  | ptr {r p} : ptrAt w.heap (valOf a xv) E r p = some v → Looked N xv E a w S v (.ptr r p)

theorem looked (r : Rel N xv E a w S R) {s : Sr} {x : Operand} (hs : s.fits N x = true) : Looked N xv E a w S (a.eval x) (E.look s) := by
  cases s with
  | k v =>
    cases x with
    | const c => exact .closed (constOk_rep _ _ _ _ hs)
    | func g =>
      cases v <;> try (simp [Sr.fits] at hs; done)
      rename_i f cap
      cases cap <;> simp [Sr.fits] at hs
      subst hs
      exact .closed (.fn (R1 := []) .nil .nil)
    | _ => simp [Sr.fits] at hs
  | t n =>
    cases x with
    | tmp m =>
      simp only [Sr.fits, Bool.and_eq_true, beq_iff_eq, decide_eq_true_eq] at hs
      obtain ⟨rfl, hn⟩ := hs
      simp only [Env.look]
      rw [← eval_val (xv := xv) r.small hn]
      have undef : Looked N xv E a w S (valOf a xv n) .undef := .closed (.undef .nil)
      have plain : ∀ f, E.get n = f → f.alias = false → f.plain = true → Looked N xv E a w S (valOf a xv n) f := fun f hg ha hp => by
        obtain ⟨R1, _, h1, _⟩ := r.get0 n hg ha
        have := h1.plain (by simp [hp])
        subst this
        exact .closed h1
      cases hg : E.get n with
      | arr es =>
        simp only [view]
        exact .al (by simp only [hdrAt, hg]; rfl)
      | buf st =>
        simp only [view]
        exact .al (by simp only [hdrAt, hg]; rfl)
      | box cs =>
        cases cs with
        | nil => exact undef
        | cons c cs =>
          simp only [view]
          obtain ⟨R1, _, h1, _⟩ := r.get0 n hg rfl
          refine .ptr ?_
          simp only [ptrAt, hg]
          have e1 : getN (.box (c :: cs)) [(0, 0)] 1 = some [c] := by simp [getN, FV.kids]
          rw [e1]
          simp only
          generalize valOf a xv n = v at h1
          cases h1 with
          | box hb hr ht => simp [locate, blockOf, FV.kids]
      | agg cs =>
        simp only [view]
        split
        · rename_i hp
          obtain ⟨R1, _, h1, _⟩ := r.get0 n hg rfl
          refine .closed ?_
          generalize valOf a xv n = v at h1
          cases h1 with
          | agg r1 r2 =>
            cases r2
            have := r1.plain hp
            subst this
            exact .agg (R1 := []) r1 .nil
        · exact undef
      | tup vs => exact undef
      | fn f cap =>
        simp only [view]
        split
        · rename_i hp
          obtain ⟨R1, _, h1, _⟩ := r.get0 n hg rfl
          refine .closed ?_
          generalize valOf a xv n = v at h1
          cases h1 with
          | fn r1 r2 =>
            cases r2
            have := r1.plain hp
            subst this
            exact .fn (R1 := []) r1 .nil
        · exact undef
      | iter s pos => exact undef
      | iface t v => exact undef
      | al q p => exact .al (r.get_al hg)
      | ptr q p => exact .ptr (r.get_ptr hg)
      | undef => exact plain _ hg rfl rfl
      | int k m => exact plain _ hg rfl rfl
      | bool b => exact plain _ hg rfl rfl
      | str s => exact plain _ hg rfl rfl
      | sl f es => exact plain _ hg rfl rfl
      | ref cs => exact plain _ hg rfl rfl
      | nilp => exact plain _ hg rfl rfl
      | nilf => exact plain _ hg rfl rfl
      | nili => exact plain _ hg rfl rfl
    | _ => simp [Sr.fits] at hs

theorem Looked.rep {v : Value} {f : FV} (l : Looked N xv E a w S v f) (hp : f.alias = false) : Rep w.heap S [v] [f] [] := by
  cases l with
  | closed h1 => exact h1
  | al _ => cases hp
  | ptr _ => cases hp

theorem Looked.int {v : Value} {k : IntKind} {n : Int} (l : Looked N xv E a w S v (.int k n)) : v = .int k n := by
  have := l.rep rfl
  cases this; rfl
theorem Looked.bool {v : Value} {b : Bool} (l : Looked N xv E a w S v (.bool b)) : v = .bool b := by
  have := l.rep rfl
  cases this; rfl
theorem Looked.str {v : Value} {s : List UInt8} (l : Looked N xv E a w S v (.str s)) : v = .string ⟨s.toArray⟩ := by
  have := l.rep rfl
  cases this; rfl

/-- a reader's value goes into a slot -/
theorem Rel.put_look (r : Rel N xv E a w S R) {d : Nat} (hd : d < N) {v : Value} {f : FV} (l : Looked N xv E a w S v f)
    (hne : ∀ q p, (f = .al q p ∨ f = .ptr q p) → q ≠ d) : ∃ R', Rel N xv (E.upd d f) (a.put (some d) v) w S R' ∧ ∀ b ∈ R', b ∈ R := by
  cases l with
  | closed h1 =>
    obtain ⟨R', h3, h4⟩ := r.upd hd h1 (by simp) (by simp)
    exact ⟨R', h3, fun b m => by rcases h4 b m with h | h; simp at h; exact h⟩
  | @al q p he => exact r.updA hd ⟨q, p, hne q p (.inl rfl), .inl ⟨rfl, he⟩⟩
  | @ptr q p he => exact r.updA hd ⟨q, p, hne q p (.inr rfl), .inr ⟨rfl, he⟩⟩

/-! ### what is handed on -/

/-- the owned slice at a path (of the slot itself: the empty path) -/
def Env.at (E : Env) (r : Nat) (p : Path) : FV :=
  match p with
  | [] => E.get r
  | _ :: _ => match getN (E.get r) p 1 with
    | some [x] => x
    | _ => .undef
/-- its value replaced -/
def Env.setAt (E : Env) (r : Nat) (p : Path) (x : FV) : Env :=
  match p with
  | [] => E.upd r x
  | _ :: _ => E.wr r p [x]

/-- the operand's value goes on to another owner: what its slot owns is taken (deep = true: through a copied header, too); else it is sealed -/
def Env.pass (E : Env) (deep : Bool) : Sr → FV × Env
  | .k v => (v, E)
  | .t n => match E.get n with
    | .al r p => if deep then (E.at r p, E.setAt r p .undef) else ((E.at r p).sealed, E.setAt r p (E.at r p).sealed)
    | .ptr _ _ => (.undef, E)
    | .iter _ _ => (.undef, E)
    | f => if f.plain then (f, E) else (f, E.upd n .undef)

theorem Rel.alAt (r : Rel N xv E a w S R) {q : Nat} {p : Path} {v : Value} (he : hdrAt w.heap (valOf a xv) E q p = some v) :
    ∃ g Rf R2, E.at q p = g ∧ g.isSl = true ∧ Rep w.heap S [v] [g] Rf ∧ R.Perm (Rf ++ R2) ∧ ∀ {S' : Nat → Prop} {f : FV} {Rg : List Nat}, Rep w.heap S' [v] [f] Rg → (∀ b, S b → S' b) → (∀ b, S' b → b < w.heap.size ∧ b ∉ Rg ∧ b ∉ R2) →
      Rg.Nodup → (∀ b ∈ Rg, b ∉ R2) → ∃ R', Rel N xv (E.setAt q p f) a w S' R' ∧ R'.Perm (Rg ++ R2) := by
  cases p with
  | nil =>
    simp only [hdrAt] at he
    cases hsl : (E.get q).isSl with
    | false => rw [hsl] at he; cases he
    | true =>
    rw [hsl] at he
    simp only [if_true, Option.some.injEq] at he
    subst he
    obtain ⟨Rf, R2, h1, h2, h3⟩ := r.swap (d := q) (by cases hg : E.get q <;> rw [hg] at hsl <;> first | rfl | (cases hsl; done))
    exact ⟨E.get q, Rf, R2, rfl, hsl, h1, h2, fun h4 h5 h6 h7 h8 => h3 h4 h5 h6 h7 h8⟩
  | cons x p =>
    simp only [hdrAt] at he
    cases hg : getN (E.get q) (x :: p) 1 with
    | none => rw [hg] at he; cases he
    | some ys =>
      have hl := getN_len hg
      match ys, hl with
      | [y], hly =>
      rw [hg] at he
      simp only at he
      cases hsl : y.isSl with
      | false => rw [hsl] at he; cases he
      | true =>
      rw [hsl] at he
      simp only [if_true] at he
      obtain ⟨b, o, c, T, Rx, R2, hloc, hb, hf, hr, hp, hbm, back⟩ := r.tree hg
      rw [hloc] at he
      simp only at he
      have hcell : (c.toList.drop o).take 1 = [v] := by
        unfold cellAt at he
        rw [hb] at he
        simp only at he
        have : c.toList[o]? = some v := by simpa using he
        rw [List.drop_eq_getElem_cons (by simp; omega)]
        have h2 : c.toList[o]'(by simp; omega) = v := by
          rw [List.getElem?_eq_getElem (by simp; omega)] at this
          exact Option.some.inj this
        simpa using h2
      rw [hcell] at hr
      refine ⟨y, Rx, R2, by simp only [Env.at, hg], hsl, hr, hp, ?_⟩
      intro S' f Rg h4 h5 h6 h7 h8
      refine back (w' := w) (cs' := [v]) (c' := c) rfl rfl hb ?_ (fun _ _ _ => rfl) (fun _ _ => rfl) h5 (Nat.le_refl _) (fun _ _ _ => rfl) h4 h7 h8 h6
      rw [← hcell]
      rw [List.append_assoc, ← List.drop_drop, List.take_append_drop, List.take_append_drop]

/-- what 'pass' gives -/
structure Passed (N : Nat) (xv : Nat → Value) (a : Act) (w : World) (S : Nat → Prop) (R : List Nat) (v : Value) (f : FV) (E' : Env) (S' : Nat → Prop) (Rf R' : List Nat) : Prop where
  rep : Rep w.heap S' [v] [f] Rf
  rel : Rel N xv E' a w S' R'
  nodup : Rf.Nodup
  apart : ∀ b ∈ Rf, b ∉ R' ∧ ¬ S' b
  seals : ∀ b, S b → S' b
  news : ∀ b, S' b → S b ∨ b ∈ R
  sub : ∀ b ∈ R', b ∈ R
  subf : ∀ b ∈ Rf, b ∈ R

theorem passed (r : Rel N xv E a w S R) {s : Sr} {x : Operand} (hs : s.fits N x = true) (deep : Bool) :
    ∃ S' Rf R', Passed N xv a w S R (a.eval x) (E.pass deep s).1 (E.pass deep s).2 S' Rf R' := by
  have triv : ∀ f, Rep w.heap S [a.eval x] [f] [] → Passed N xv a w S R (a.eval x) f E S [] R := fun f h =>
    ⟨h, r, by simp, by simp, fun _ h => h, fun _ h => .inl h, fun _ h => h, by simp⟩
  cases s with
  | k v => exact ⟨S, [], R, triv _ ((looked r hs).rep (by
      cases x with
      | const c => exact (constOk_rep w.heap S _ _ hs).noalias v (by simp)
      | func g => cases v <;> first | rfl | (simp [Sr.fits] at hs; done)
      | _ => simp [Sr.fits] at hs))⟩
  | t n =>
    have hx : x = .tmp n ∧ n < N := by
      cases x <;> simp [Sr.fits] at hs
      exact ⟨by rw [hs.1], hs.2⟩
    obtain ⟨rfl, hn⟩ := hx
    have hval := eval_val (a := a) (xv := xv) r.small hn
    simp only [Env.pass]
    have own : ∀ f, E.get n = f → f.alias = false → ∃ S' Rf R', Passed N xv a w S R (a.eval (.tmp n)) (if f.plain then (f, E) else (f, E.upd n .undef)).1 (if f.plain then (f, E) else (f, E.upd n .undef)).2 S' Rf R' := fun f hg ha => by
      cases hp : f.plain
      · simp only [Bool.false_eq_true, if_false]
        obtain ⟨Rf, R2, h1, h2, h3⟩ := r.swap (d := n) (by rw [hg]; exact ha)
        rw [hg, hval] at h1
        have hnd := h2.nodup_iff.1 r.nodup
        obtain ⟨R', h4, h5⟩ := h3 (S' := S) (f := .undef) (Rg := []) (.undef .nil) (fun _ h => h) (fun b hb => ⟨(r.sep b hb).1, by simp, fun m => (r.sep b hb).2 (h2.mem_iff.2 (by simp [m]))⟩) (by simp) (by simp)
        have hR' : ∀ b, b ∈ R' → b ∈ R2 := fun b m => by simpa using h5.mem_iff.1 m
        exact ⟨S, Rf, R', h1, h4, (List.nodup_append.1 hnd).1, fun b m => ⟨fun m' => (List.nodup_append.1 hnd).2.2 b m b (hR' b m') rfl, fun hb => (r.sep b hb).2 (h2.mem_iff.2 (by simp [m]))⟩, fun _ h => h, fun _ h => .inl h,
          fun b m => h2.mem_iff.2 (by simp [hR' b m]), fun b m => h2.mem_iff.2 (by simp [m])⟩
      · simp only [if_true]
        obtain ⟨R1, _, h1, _⟩ := r.get0 n hg ha
        have := h1.plain (by simp [hp])
        subst this
        rw [hval] at h1
        exact ⟨S, [], R, triv _ h1⟩
    cases hg : E.get n with
    | al q p =>
      have he := r.get_al hg
      rw [hval] at he
      obtain ⟨g, Rf, R2, h1, hsl, h2, h3, h4⟩ := r.alAt he
      have hnd := h3.nodup_iff.1 r.nodup
      cases deep
      · simp only [Bool.false_eq_true, if_false]
        rw [h1]
        have hseal := h2.seal (S' := fun b => S b ∨ b ∈ Rf) (fun _ h => .inl h) (fun _ h => .inr h)
        have hsep : ∀ b, (S b ∨ b ∈ Rf) → b < w.heap.size ∧ b ∉ ([] : List Nat) ∧ b ∉ R2 := fun b hb => by
          rcases hb with hb | hb
          · exact ⟨(r.sep b hb).1, by simp, fun m => (r.sep b hb).2 (h3.mem_iff.2 (by simp [m]))⟩
          · exact ⟨h2.lt b hb, by simp, fun m => (List.nodup_append.1 hnd).2.2 b hb b m rfl⟩
        obtain ⟨R', h5, h6⟩ := h4 (S' := fun b => S b ∨ b ∈ Rf) (f := g.sealed) (Rg := []) hseal (fun _ h => .inl h) hsep (by simp) (by simp)
        exact ⟨fun b => S b ∨ b ∈ Rf, [], R', hseal, h5, by simp, by simp, fun _ h => .inl h, fun b hb => hb.imp id (fun m => h3.mem_iff.2 (by simp [m])), fun b m => h3.mem_iff.2 (by
          have := h6.mem_iff.1 m; simp at this; simp [this]), by simp⟩
      · simp only [if_true]
        rw [h1]
        obtain ⟨R', h5, h6⟩ := h4 (S' := S) (f := .undef) (Rg := []) (.undef .nil) (fun _ h => h) (fun b hb => ⟨(r.sep b hb).1, by simp, fun m => (r.sep b hb).2 (h3.mem_iff.2 (by simp [m]))⟩) (by simp) (by simp)
        have hR' : ∀ b, b ∈ R' → b ∈ R2 := fun b m => by simpa using h6.mem_iff.1 m
        exact ⟨S, Rf, R', h2, h5, (List.nodup_append.1 hnd).1, fun b m => ⟨fun m' => (List.nodup_append.1 hnd).2.2 b m b (hR' b m') rfl, fun hb => (r.sep b hb).2 (h3.mem_iff.2 (by simp [m]))⟩, fun _ h => h, fun _ h => .inl h,
          fun b m => h3.mem_iff.2 (by simp [hR' b m]), fun b m => h3.mem_iff.2 (by simp [m])⟩
    | ptr q p => exact ⟨S, [], R, triv _ (.undef .nil)⟩
    | iter s pos => exact ⟨S, [], R, triv _ (.undef .nil)⟩
    | _ => exact own _ hg rfl

/-- a list of operands handed on, one behind the other -/
def Env.passL (E : Env) (deep : Bool) : List Sr → List FV × Env
  | [] => ([], E)
  | s :: ss => ((E.pass deep s).1 :: ((E.pass deep s).2.passL deep ss).1, ((E.pass deep s).2.passL deep ss).2)

structure PassedL (N : Nat) (xv : Nat → Value) (a : Act) (w : World) (S : Nat → Prop) (R : List Nat) (vs : List Value) (fs : List FV) (E' : Env) (S' : Nat → Prop) (Rf R' : List Nat) : Prop where
  rep : Rep w.heap S' vs fs Rf
  rel : Rel N xv E' a w S' R'
  nodup : Rf.Nodup
  apart : ∀ b ∈ Rf, b ∉ R' ∧ ¬ S' b
  seals : ∀ b, S b → S' b
  news : ∀ b, S' b → S b ∨ b ∈ R
  sub : ∀ b ∈ R', b ∈ R
  subf : ∀ b ∈ Rf, b ∈ R

theorem passedL : ∀ {ss : List Sr} {xs : List Operand} {E : Env} {S : Nat → Prop} {R : List Nat} (r : Rel N xv E a w S R) (hs : List.all (ss.zip xs) (fun y => y.1.fits N y.2) = true) (hl : ss.length = xs.length) (deep : Bool),
    ∃ S' Rf R', PassedL N xv a w S R (xs.map a.eval) (E.passL deep ss).1 (E.passL deep ss).2 S' Rf R'
  | [], [], E, S, R, r, _, _, _ => ⟨S, [], R, .nil, r, by simp, by simp, fun _ h => h, fun _ h => .inl h, fun _ h => h, by simp⟩
  | s :: ss, [], E, S, R, r, _, hl, _ => by simp at hl
  | [], x :: xs, E, S, R, r, _, hl, _ => by simp at hl
  | s :: ss, x :: xs, E, S, R, r, hs, hl, deep => by
    simp only [List.zip_cons_cons, List.all_cons, Bool.and_eq_true] at hs
    obtain ⟨S1, Rf1, R1, p1⟩ := passed r hs.1 deep
    obtain ⟨S2, Rf2, R2, p2⟩ := passedL p1.rel hs.2 (by simpa using hl) deep
    refine ⟨S2, Rf1 ++ Rf2, R2, ?_, p2.rel, ?_, ?_, fun b h => p2.seals b (p1.seals b h), ?_, fun b m => p1.sub b (p2.sub b m), ?_⟩
    · simp only [Env.passL, List.map_cons]
      exact (p1.rep.mono p2.seals (Nat.le_refl _) (fun _ _ _ => rfl) (fun _ _ => rfl)).cons p2.rep
    · rw [List.nodup_append]
      exact ⟨p1.nodup, p2.nodup, fun b m b' m' e => (p1.apart b m).1 (e ▸ p2.subf b' m')⟩
    · intro b m
      rcases List.mem_append.1 m with m | m
      · refine ⟨fun m' => (p1.apart b m).1 (p2.sub b m'), fun hb => ?_⟩
        rcases p2.news b hb with h | h
        · exact (p1.apart b m).2 h
        · exact (p1.apart b m).1 h
      · exact p2.apart b m
    · intro b hb
      rcases p2.news b hb with h | h
      · exact p1.news b h
      · exact .inr (p1.sub b h)
    · intro b m
      rcases List.mem_append.1 m with m | m
      · exact p1.subf b m
      · exact p1.sub b (p2.subf b m)

end
end Go.Fm
