/- Regions that draw their order: operations that change one slot each; what has to come last comes last. -/
import Derived.Test.YthfkhokmgolabaaDoorFmBody
set_option linter.unusedVariables false
set_option linter.unusedSimpArgs false
namespace Go.Fm
open Go

/-- a value that is handed on without a trace -/
def Env.plainAt (E : Env) : Sr → Bool
  | .k v => true
  | .t n => (E.get n).plain
/-- the value of an operation that changes nothing but its own slot -/
def FOp.val (E : Env) : FOp → Option FV
  | .mv s => some (E.look s)
  | .pick c a b => match E.look c with
    | .bool v => match v with
      | true => some (E.look a)
      | false => some (E.look b)
    | _ => none
  | .box s => match s with
    | .k v => none
    | .t n => if (E.get n).plain then (match E.get n with
      | .undef => none
      | f => some (.box f.cells)) else none
  | .load s n agg => ldF E (E.look s) n agg
  | .fa s off => faF E (E.look s) off
  | .ia s i size => match E.look i with
    | .int _ n => iaF E (E.look s) n size
    | _ => none
  | .len s => match lenF E (E.look s) with
    | some n => some (.int .i64 (n : Int))
    | none => none
  | .lenS s => match E.look s with
    | .str b => some (.int .i64 b.length)
    | _ => none
  | .bin op a b => binF op (E.look a) (E.look b)
  | .eqS neg cs a b => eqF neg cs (E.look a) (E.look b)
  | .eqB neg a b => match E.look a, E.look b with
    | .bool x, .bool y => some (.bool (if neg then !(x == y) else x == y))
    | _, _ => none
  | .un op a => unF op (E.look a)
  | .cv k a => match E.look a with
    | .int _ n => some (.int k (k.wrap n))
    | _ => none
  | .nilCheck a => if (E.look a).nonNil = true then some (E.look a) else none
  | .subStr s lo hi => match E.look s with
    | .str b => match bnd E 0 lo, bnd E b.length hi with
      | some l, some h => Go.Fm.subStr b l h
      | _, _ => none
    | _ => none
  | .subSl s lo hi size => match E.look s with
    | .sl full es => match bnd E 0 lo, bnd E es.length hi with
      | some l, some h => if (es.all fun r => r.length == size) = true then Go.Fm.subSl full es l h none else none
      | _, _ => none
    | _ => none
  | .field s off n agg => match E.look s with
    | .agg cs => fdF cs off n agg
    | _ => none
  | .index s i => match E.look s, E.look i with
    | .str b, .int _ n => if 0 ≤ n then match b[n.toNat]? with
        | some c => some (.int .u8 c.toNat)
        | none => none
      else none
    | _, _ => none
  | .iaA s i size n => match E.look i with
    | .int _ j => iaAF E (E.look s) j size n
    | _ => none
  | .cvStr s => match elemsAt E (E.look s) with
    | some es => (bytesF es).map .str
    | none => none
  | .mm isMax a b => match E.look a, E.look b with
    | .int k x, .int _ y => some (.int k (if isMax then max x y else min x y))
    | _, _ => none
  | .build tmpl ps ss => if (ss.all E.plainAt) = true then (fillF tmpl ps (ss.map E.look)).map fun cs => .agg cs else none
  | .buildSl tmpl ln is ss => if (ss.all E.plainAt) = true then (setRows (List.replicate ln tmpl) tmpl.length is (ss.map E.look)).map fun rows => .arr rows else none
  | _ => none

/-- the operands -/
def Sr.slots : Sr → List Nat
  | .t n => [n]
  | .k (.al r _) | .k (.ptr r _) => [r]
  | .k _ => []
def slotsO : Option Sr → List Nat
  | some s => s.slots
  | none => []
def slotsL (ss : List Sr) : List Nat := ss.flatMap Sr.slots
def FOp.srcs : FOp → List Nat
  | .mv s | .box s | .load s _ _ | .fa s _ | .len s | .lenS s | .un _ s | .cv _ s | .cvStr s | .nilCheck s | .field s _ _ _ => s.slots
  | .pick c a b => slotsL [c, a, b]
  | .ia a b _ | .iaA a b _ _ | .mm _ a b | .bin _ a b | .eqS _ _ a b | .eqB _ a b | .index a b => slotsL [a, b]
  | .subStr s lo hi | .subSl s lo hi _ => s.slots ++ (slotsO lo ++ slotsO hi)
  | .build _ _ ss | .buildSl _ _ _ ss => slotsL ss
  | _ => []

/-- two environments agree on a slot and on what it leans on -/
def Agree (E E' : Env) (n : Nat) : Prop := E'.get n = E.get n ∧ ∀ r p, (E.get n = .al r p ∨ E.get n = .ptr r p) → E'.get r = E.get r

section
variable {E E' : Env}

theorem look_agree {s : Sr} (h : ∀ n ∈ s.slots, Agree E E' n) : E'.look s = E.look s := by
  cases s with
  | k v => rfl
  | t n => simp only [Env.look, (h n (by simp [Sr.slots])).1]

/-- what an operand's value leans on -/
theorem root_agree {s : Sr} (h : ∀ n ∈ s.slots, Agree E E' n) : ∀ r p, (E.look s = .al r p ∨ E.look s = .ptr r p) → E'.get r = E.get r := by
  intro r p e
  cases s with
  | k v =>
    simp only [Env.look] at e
    rcases e with rfl | rfl
    · exact (h r (by simp [Sr.slots])).1
    · exact (h r (by simp [Sr.slots])).1
  | t n =>
    have h1 := h n (by simp [Sr.slots])
    simp only [Env.look] at e
    cases hg : E.get n <;> simp only [view, hg] at e
    case arr es => rcases e with e | e <;> cases e; exact h1.1
    case buf st => rcases e with e | e <;> cases e; exact h1.1
    case box cs =>
      cases cs with
      | nil => rcases e with e | e <;> cases e
      | cons c cs => rcases e with e | e <;> cases e; exact h1.1
    case al q p' => rcases e with e | e <;> cases e; exact h1.2 _ _ (.inl hg)
    case ptr q p' => rcases e with e | e <;> cases e; exact h1.2 _ _ (.inr hg)
    case agg cs => split at e <;> rcases e with e | e <;> cases e
    case fn f cap => split at e <;> rcases e with e | e <;> cases e
    all_goals (rcases e with e | e <;> cases e)

theorem at_agree {r : Nat} {p : Path} (h : E'.get r = E.get r) : E'.at r p = E.at r p := by unfold Env.at; cases p <;> simp [h]
theorem ldF_agree {f : FV} {n : Nat} {agg : Bool} (h : ∀ r p, f = .al r p ∨ f = .ptr r p → E'.get r = E.get r) : ldF E' f n agg = ldF E f n agg := by
  cases f with
  | ptr r p => simp only [ldF, h r p (.inr rfl)]
  | _ => rfl
theorem faF_agree {f : FV} {off : Nat} (h : ∀ r p, f = .al r p ∨ f = .ptr r p → E'.get r = E.get r) : faF E' f off = faF E f off := by
  cases f with
  | ptr r p => simp only [faF, h r p (.inr rfl)]
  | _ => rfl
theorem iaF_agree {f : FV} {i : Int} {size : Nat} (h : ∀ r p, f = .al r p ∨ f = .ptr r p → E'.get r = E.get r) : iaF E' f i size = iaF E f i size := by
  cases f with
  | al r p => simp only [iaF, at_agree (h r p (.inl rfl))]
  | _ => rfl
theorem lenF_agree {f : FV} (h : ∀ r p, f = .al r p ∨ f = .ptr r p → E'.get r = E.get r) : lenF E' f = lenF E f := by
  cases f with
  | al r p => simp only [lenF, at_agree (h r p (.inl rfl))]
  | arr es => cases es <;> rfl
  | _ => rfl
theorem iaAF_agree {f : FV} {i : Int} {size n : Nat} (h : ∀ r p, f = .al r p ∨ f = .ptr r p → E'.get r = E.get r) : iaAF E' f i size n = iaAF E f i size n := by
  simp only [iaAF, faF_agree h]
theorem elemsAt_agree {f : FV} (h : ∀ r p, f = .al r p ∨ f = .ptr r p → E'.get r = E.get r) : elemsAt E' f = elemsAt E f := by
  cases f with
  | al r p => simp only [elemsAt, at_agree (h r p (.inl rfl))]
  | _ => rfl
theorem bnd_agree {d : Nat} {s : Option Sr} (h : ∀ n ∈ slotsO s, Agree E E' n) : bnd E' d s = bnd E d s := by
  cases s with
  | none => rfl
  | some s => simp only [bnd, look_agree (s := s) (fun n hn => h n hn)]

theorem slotsL_mem {ss : List Sr} {s : Sr} (hs : s ∈ ss) {n : Nat} (hn : n ∈ s.slots) : n ∈ slotsL ss := List.mem_flatMap.2 ⟨s, hs, hn⟩
theorem looks_agree {ss : List Sr} (h : ∀ n ∈ slotsL ss, Agree E E' n) : ss.map E'.look = ss.map E.look :=
  List.map_congr_left fun s hs => look_agree fun n hn => h n (slotsL_mem hs hn)

theorem plainAt_agree {s : Sr} (h : ∀ n ∈ s.slots, Agree E E' n) : E'.plainAt s = E.plainAt s := by
  cases s with
  | k v => rfl
  | t n => simp only [Env.plainAt, (h n (by simp [Sr.slots])).1]
theorem plainAts_agree {ss : List Sr} (h : ∀ n ∈ slotsL ss, Agree E E' n) : ss.all E'.plainAt = ss.all E.plainAt := by
  induction ss with
  | nil => rfl
  | cons s ss ih =>
    simp only [List.all_cons]
    rw [plainAt_agree (s := s) fun n hn => h n (slotsL_mem (by simp) hn), ih fun n hn => h n (by
      simp only [slotsL, List.flatMap_cons, List.mem_append]; exact .inr hn)]

theorem FOp.val_agree {f : FOp} (h : ∀ n ∈ f.srcs, Agree E E' n) : f.val E' = f.val E := by
  cases f with
  | mv s => simp only [FOp.val, look_agree (s := s) h]
  | pick c a b =>
    have h1 := look_agree (s := c) fun n hn => h n (slotsL_mem (ss := [c, a, b]) (by simp) hn)
    have h2 := look_agree (s := a) fun n hn => h n (slotsL_mem (ss := [c, a, b]) (by simp) hn)
    have h3 := look_agree (s := b) fun n hn => h n (slotsL_mem (ss := [c, a, b]) (by simp) hn)
    simp only [FOp.val, h1, h2, h3]
  | box s =>
    cases s with
    | k v => rfl
    | t n => simp only [FOp.val, (h n (by simp [FOp.srcs, Sr.slots])).1]
  | load s n agg => simp only [FOp.val, look_agree (s := s) h, ldF_agree (root_agree (s := s) h)]
  | fa s off => simp only [FOp.val, look_agree (s := s) h, faF_agree (root_agree (s := s) h)]
  | ia s i size =>
    have h1 := fun n hn => h n (slotsL_mem (ss := [s, i]) (s := s) (by simp) hn)
    have h2 := fun n hn => h n (slotsL_mem (ss := [s, i]) (s := i) (by simp) hn)
    simp only [FOp.val, look_agree h1, look_agree h2, iaF_agree (root_agree h1)]
  | iaA s i size n =>
    have h1 := fun n hn => h n (slotsL_mem (ss := [s, i]) (s := s) (by simp) hn)
    have h2 := fun n hn => h n (slotsL_mem (ss := [s, i]) (s := i) (by simp) hn)
    simp only [FOp.val, look_agree h1, look_agree h2, iaAF_agree (root_agree h1)]
  | cvStr s => simp only [FOp.val, look_agree (s := s) h, elemsAt_agree (root_agree (s := s) h)]
  | mm isMax a b =>
    have h1 := fun n hn => h n (slotsL_mem (ss := [a, b]) (s := a) (by simp) hn)
    have h2 := fun n hn => h n (slotsL_mem (ss := [a, b]) (s := b) (by simp) hn)
    simp only [FOp.val, look_agree h1, look_agree h2]
  | len s => simp only [FOp.val, look_agree (s := s) h, lenF_agree (root_agree (s := s) h)]
  | lenS s => simp only [FOp.val, look_agree (s := s) h]
  | bin op a b =>
    have h1 := fun n hn => h n (slotsL_mem (ss := [a, b]) (s := a) (by simp) hn)
    have h2 := fun n hn => h n (slotsL_mem (ss := [a, b]) (s := b) (by simp) hn)
    simp only [FOp.val, look_agree h1, look_agree h2]
  | eqS neg cs a b =>
    have h1 := fun n hn => h n (slotsL_mem (ss := [a, b]) (s := a) (by simp) hn)
    have h2 := fun n hn => h n (slotsL_mem (ss := [a, b]) (s := b) (by simp) hn)
    simp only [FOp.val, look_agree h1, look_agree h2]
  | eqB neg a b =>
    have h1 := fun n hn => h n (slotsL_mem (ss := [a, b]) (s := a) (by simp) hn)
    have h2 := fun n hn => h n (slotsL_mem (ss := [a, b]) (s := b) (by simp) hn)
    simp only [FOp.val, look_agree h1, look_agree h2]
  | index a b =>
    have h1 := fun n hn => h n (slotsL_mem (ss := [a, b]) (s := a) (by simp) hn)
    have h2 := fun n hn => h n (slotsL_mem (ss := [a, b]) (s := b) (by simp) hn)
    simp only [FOp.val, look_agree h1, look_agree h2]
  | un op a => simp only [FOp.val, look_agree (s := a) h]
  | cv k a => simp only [FOp.val, look_agree (s := a) h]
  | nilCheck a => simp only [FOp.val, look_agree (s := a) h]
  | field s off n agg => simp only [FOp.val, look_agree (s := s) h]
  | subStr s lo hi =>
    have h1 := look_agree (s := s) fun n hn => h n (by simp [FOp.srcs, hn])
    have h2 := fun d => bnd_agree (d := d) (s := lo) fun n hn => h n (by simp [FOp.srcs, hn])
    have h3 := fun d => bnd_agree (d := d) (s := hi) fun n hn => h n (by simp [FOp.srcs, hn])
    simp only [FOp.val, h1, h2, h3]
  | subSl s lo hi size =>
    have h1 := look_agree (s := s) fun n hn => h n (by simp [FOp.srcs, hn])
    have h2 := fun d => bnd_agree (d := d) (s := lo) fun n hn => h n (by simp [FOp.srcs, hn])
    have h3 := fun d => bnd_agree (d := d) (s := hi) fun n hn => h n (by simp [FOp.srcs, hn])
    simp only [FOp.val, h1, h2, h3]
  | build tmpl ps ss =>
    simp only [FOp.val, looks_agree (ss := ss) h, plainAts_agree (ss := ss) h]
  | buildSl tmpl ln is ss =>
    simp only [FOp.val, looks_agree (ss := ss) h, plainAts_agree (ss := ss) h]
  | _ => rfl

/-! ### the step is the value's -/
theorem plain_pass {s : Sr} {deep : Bool} (h : E.plainAt s = true) : E.pass deep s = (E.look s, E) := by
  cases s with
  | k v => rfl
  | t n =>
    simp only [Env.plainAt] at h
    simp only [Env.look, Env.pass]
    generalize E.get n = f at h
    cases f <;> simp only [FV.plain, Bool.false_eq_true] at h <;> try rfl
    rename_i g cap
    cases cap <;> simp at h
    rfl
theorem plain_passL {deep : Bool} : ∀ {ss : List Sr}, ss.all E.plainAt = true → E.passL deep ss = (ss.map E.look, E)
  | [], _ => rfl
  | s :: ss, h => by
    simp only [List.all_cons, Bool.and_eq_true] at h
    have h1 := plain_pass (deep := deep) h.1
    have h2 := plain_passL (deep := deep) h.2
    simp only [Env.passL, h1, h2, List.map_cons]

theorem FOp.val_eval {f : FOp} {d : Nat} {v : FV} (h : f.val E = some v) (hr : v.notRoot d = true) : f.eval E d = some (E.upd d v) := by
  have put : ∀ {x}, x = some v → x.bind (putIn E d) = some (E.upd d v) := fun {x} e => by subst e; simp [putIn, hr]
  have put1 : putIn E d v = some (E.upd d v) := by simp [putIn, hr]
  cases f <;> simp only [FOp.val] at h <;> try (cases h; done)
  case mv s => cases h; exact put1
  case pick c a b =>
    simp only [FOp.eval]
    split at h <;> try (cases h; done)
    rename_i x hx
    rw [hx]
    cases x <;> simp only at h ⊢ <;> cases h <;> exact put1
  case box s =>
    cases s with
    | k v => cases h
    | t n =>
      simp only at h
      split at h <;> try (cases h; done)
      rename_i hp
      have := plain_pass (E := E) (s := .t n) (deep := false) (by simpa [Env.plainAt] using hp)
      simp only [FOp.eval, this, Env.look]
      generalize E.get n = f at h hp
      cases f <;> simp only [FV.plain, Bool.false_eq_true] at hp <;> simp only at h <;> try (cases h; done)
      all_goals try (cases h; rfl)
      rename_i g cap
      cases cap <;> simp at hp
      cases h; rfl
  case load s n agg => exact put h
  case fa s off => exact put h
  case ia s i size =>
    simp only [FOp.eval]
    split at h <;> try (cases h; done)
    rename_i hi
    rw [hi]
    exact put h
  case iaA s i size n =>
    simp only [FOp.eval]
    split at h <;> try (cases h; done)
    rename_i hi
    rw [hi]
    exact put h
  case cvStr s =>
    simp only [FOp.eval]
    split at h <;> try (cases h; done)
    rename_i hi
    rw [hi]
    rw [Option.map_eq_some_iff] at h
    obtain ⟨b, h1, rfl⟩ := h
    simp only [h1, Option.map_some]
  case mm isMax a b =>
    simp only [FOp.eval]
    split at h <;> try (cases h; done)
    rename_i h1 h2
    rw [h1, h2]
    cases h; rfl
  case len s =>
    simp only [FOp.eval]
    split at h <;> try (cases h; done)
    rename_i hi
    rw [hi]
    cases h; rfl
  case lenS s =>
    simp only [FOp.eval]
    split at h <;> try (cases h; done)
    rename_i hi
    rw [hi]
    cases h; rfl
  case bin op a b => simp only [FOp.eval, h, Option.map_some]
  case eqS => simp only [FOp.eval, h, Option.map_some]
  case un => simp only [FOp.eval, h, Option.map_some]
  case eqB neg a b =>
    simp only [FOp.eval]
    split at h <;> try (cases h; done)
    rename_i h1 h2
    rw [h1, h2]
    cases h; rfl
  case cv =>
    simp only [FOp.eval]
    split at h <;> try (cases h; done)
    rename_i h1
    rw [h1]
    cases h; rfl
  case nilCheck a =>
    simp only [FOp.eval]
    split at h <;> try (cases h; done)
    rename_i h1
    rw [if_pos h1]
    cases h; exact put1
  case subStr s lo hi =>
    simp only [FOp.eval]
    split at h <;> try (cases h; done)
    rename_i h1
    rw [h1]
    simp only
    split at h <;> try (cases h; done)
    rename_i h2 h3
    rw [h2, h3]
    simp only [h, Option.map_some]
  case subSl s lo hi size =>
    simp only [FOp.eval]
    split at h <;> try (cases h; done)
    rename_i h1
    rw [h1]
    simp only
    split at h <;> try (cases h; done)
    rename_i h2 h3
    rw [h2, h3]
    simp only
    split at h <;> try (cases h; done)
    rename_i h4
    rw [if_pos h4]
    simp only [h, Option.map_some]
  case field s off n agg =>
    simp only [FOp.eval]
    split at h <;> try (cases h; done)
    rename_i h1
    rw [h1]
    exact put h
  case index s i =>
    simp only [FOp.eval]
    split at h <;> try (cases h; done)
    rename_i h1 h2
    rw [h1, h2]
    simp only
    split at h <;> try (cases h; done)
    rename_i h3
    rw [if_pos h3]
    split at h <;> try (cases h; done)
    rename_i h4
    rw [h4]
    cases h; rfl
  case build tmpl ps ss =>
    split at h <;> try (cases h; done)
    rename_i hp
    simp only [FOp.eval, bdF, plain_passL hp]
    rw [Option.map_eq_some_iff] at h
    obtain ⟨cs, h1, rfl⟩ := h
    simp only [h1, Option.map_some]
  case buildSl tmpl ln is ss =>
    split at h <;> try (cases h; done)
    rename_i hp
    simp only [FOp.eval, bsF, plain_passL hp]
    rw [Option.map_eq_some_iff] at h
    obtain ⟨cs, h1, rfl⟩ := h
    simp only [h1, Option.map_some]
end
end Go.Fm
