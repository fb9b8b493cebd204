/- Part of a proof: see the last text of the claim. -/
import Derived.Test.YthfkhokmgolabaaDoorA2
import Derived.Below
import Derived.Deep.Draws
import Derived.Sort.Grow
import Derived.Lib.Join
/- Regions that draw their order: operations that change one slot each; what has to come last comes last. -/
set_option linter.unusedVariables false
set_option linter.unusedSimpArgs false
namespace Go.Fm
open Go

/-- a value that is handed on without a trace -/
def Env.plainAt (E : Env) : Sr → Bool
  | .k v => true
  | .t n => (E.get n).plain
/-- the value of an operation that changes nothing but its own slot -/
def FOp.val (E : Env) : FOp → Option FV
  | .mv s => some (E.look s)
  | .pick c a b => match E.look c with
    | .bool v => match v with
      | true => some (E.look a)
      | false => some (E.look b)
    | _ => none
  | .box s => match s with
    | .k v => none
    | .t n => if (E.get n).plain then (match E.get n with
      | .undef => none
      | f => some (.box f.cells)) else none
  | .load s n agg => ldF E (E.look s) n agg
  | .fa s off => faF E (E.look s) off
  | .ia s i size => match E.look i with
    | .int _ n => iaF E (E.look s) n size
    | _ => none
  | .len s => match lenF E (E.look s) with
    | some n => some (.int .i64 (n : Int))
    | none => none
  | .lenS s => match E.look s with
    | .str b => some (.int .i64 b.length)
    | _ => none
  | .bin op a b => binF op (E.look a) (E.look b)
  | .eqS neg cs a b => eqF neg cs (E.look a) (E.look b)
  | .eqB neg a b => match E.look a, E.look b with
    | .bool x, .bool y => some (.bool (if neg then !(x == y) else x == y))
    | _, _ => none
  | .un op a => unF op (E.look a)
  | .cv k a => match E.look a with
    | .int _ n => some (.int k (k.wrap n))
    | _ => none
  | .nilCheck a => if (E.look a).nonNil = true then some (E.look a) else none
  | .subStr s lo hi => match E.look s with
    | .str b => match bnd E 0 lo, bnd E b.length hi with
      | some l, some h => Go.Fm.subStr b l h
      | _, _ => none
    | _ => none
  | .subSl s lo hi size => match E.look s with
    | .sl full es => match bnd E 0 lo, bnd E es.length hi with
      | some l, some h => if (es.all fun r => r.length == size) = true then Go.Fm.subSl full es l h none else none
      | _, _ => none
    | _ => none
  | .field s off n agg => match E.look s with
    | .agg cs => fdF cs off n agg
    | _ => none
  | .index s i => match E.look s, E.look i with
    | .str b, .int _ n => if 0 ≤ n then match b[n.toNat]? with
        | some c => some (.int .u8 c.toNat)
        | none => none
      else none
    | _, _ => none
  | .iaA s i size n => match E.look i with
    | .int _ j => iaAF E (E.look s) j size n
    | _ => none
  | .cvStr s => match elemsAt E (E.look s) with
    | some es => (bytesF es).map .str
    | none => none
  | .mm isMax a b => match E.look a, E.look b with
    | .int k x, .int _ y => some (.int k (if isMax then max x y else min x y))
    | _, _ => none
  | .build tmpl ps ss => if (ss.all E.plainAt) = true then (fillF tmpl ps (ss.map E.look)).map fun cs => .agg cs else none
  | .buildSl tmpl ln is ss => if (ss.all E.plainAt) = true then (setRows (List.replicate ln tmpl) tmpl.length is (ss.map E.look)).map fun rows => .arr rows else none
  | _ => none

/-- the operands -/
def Sr.slots : Sr → List Nat
  | .t n => [n]
  | .k (.al r _) | .k (.ptr r _) => [r]
  | .k _ => []
def slotsO : Option Sr → List Nat
  | some s => s.slots
  | none => []
def slotsL (ss : List Sr) : List Nat := ss.flatMap Sr.slots
def FOp.srcs : FOp → List Nat
  | .mv s | .box s | .load s _ _ | .fa s _ | .len s | .lenS s | .un _ s | .cv _ s | .cvStr s | .nilCheck s | .field s _ _ _ => s.slots
  | .pick c a b => slotsL [c, a, b]
  | .ia a b _ | .iaA a b _ _ | .mm _ a b | .bin _ a b | .eqS _ _ a b | .eqB _ a b | .index a b => slotsL [a, b]
  | .subStr s lo hi | .subSl s lo hi _ => s.slots ++ (slotsO lo ++ slotsO hi)
  | .build _ _ ss | .buildSl _ _ _ ss => slotsL ss
  | _ => []

/-- two environments agree on a slot and on what it leans on -/
def Agree (E E' : Env) (n : Nat) : Prop := E'.get n = E.get n ∧ ∀ r p, (E.get n = .al r p ∨ E.get n = .ptr r p) → E'.get r = E.get r

section
variable {E E' : Env}

theorem look_agree {s : Sr} (h : ∀ n ∈ s.slots, Agree E E' n) : E'.look s = E.look s := by
  cases s with
  | k v => rfl
  | t n => simp only [Env.look, (h n (by simp [Sr.slots])).1]

/-- what an operand's value leans on -/
theorem root_agree {s : Sr} (h : ∀ n ∈ s.slots, Agree E E' n) : ∀ r p, (E.look s = .al r p ∨ E.look s = .ptr r p) → E'.get r = E.get r := by
  intro r p e
  cases s with
  | k v =>
    simp only [Env.look] at e
    rcases e with rfl | rfl
    · exact (h r (by simp [Sr.slots])).1
    · exact (h r (by simp [Sr.slots])).1
  | t n =>
    have h1 := h n (by simp [Sr.slots])
    simp only [Env.look] at e
    cases hg : E.get n <;> simp only [view, hg] at e
    case arr es => rcases e with e | e <;> cases e; exact h1.1
    case buf st => rcases e with e | e <;> cases e; exact h1.1
    case box cs =>
      cases cs with
      | nil => rcases e with e | e <;> cases e
      | cons c cs => rcases e with e | e <;> cases e; exact h1.1
    case al q p' => rcases e with e | e <;> cases e; exact h1.2 _ _ (.inl hg)
    case ptr q p' => rcases e with e | e <;> cases e; exact h1.2 _ _ (.inr hg)
    case agg cs => split at e <;> rcases e with e | e <;> cases e
    case fn f cap => split at e <;> rcases e with e | e <;> cases e
    all_goals (rcases e with e | e <;> cases e)

theorem at_agree {r : Nat} {p : Path} (h : E'.get r = E.get r) : E'.at r p = E.at r p := by unfold Env.at; cases p <;> simp [h]
theorem ldF_agree {f : FV} {n : Nat} {agg : Bool} (h : ∀ r p, f = .al r p ∨ f = .ptr r p → E'.get r = E.get r) : ldF E' f n agg = ldF E f n agg := by
  cases f with
  | ptr r p => simp only [ldF, h r p (.inr rfl)]
  | _ => rfl
theorem faF_agree {f : FV} {off : Nat} (h : ∀ r p, f = .al r p ∨ f = .ptr r p → E'.get r = E.get r) : faF E' f off = faF E f off := by
  cases f with
  | ptr r p => simp only [faF, h r p (.inr rfl)]
  | _ => rfl
theorem iaF_agree {f : FV} {i : Int} {size : Nat} (h : ∀ r p, f = .al r p ∨ f = .ptr r p → E'.get r = E.get r) : iaF E' f i size = iaF E f i size := by
  cases f with
  | al r p => simp only [iaF, at_agree (h r p (.inl rfl))]
  | _ => rfl
theorem lenF_agree {f : FV} (h : ∀ r p, f = .al r p ∨ f = .ptr r p → E'.get r = E.get r) : lenF E' f = lenF E f := by
  cases f with
  | al r p => simp only [lenF, at_agree (h r p (.inl rfl))]
  | arr es => cases es <;> rfl
  | _ => rfl
theorem iaAF_agree {f : FV} {i : Int} {size n : Nat} (h : ∀ r p, f = .al r p ∨ f = .ptr r p → E'.get r = E.get r) : iaAF E' f i size n = iaAF E f i size n := by
  simp only [iaAF, faF_agree h]
theorem elemsAt_agree {f : FV} (h : ∀ r p, f = .al r p ∨ f = .ptr r p → E'.get r = E.get r) : elemsAt E' f = elemsAt E f := by
  cases f with
  | al r p => simp only [elemsAt, at_agree (h r p (.inl rfl))]
  | _ => rfl
theorem bnd_agree {d : Nat} {s : Option Sr} (h : ∀ n ∈ slotsO s, Agree E E' n) : bnd E' d s = bnd E d s := by
  cases s with
  | none => rfl
  | some s => simp only [bnd, look_agree (s := s) (fun n hn => h n hn)]

theorem slotsL_mem {ss : List Sr} {s : Sr} (hs : s ∈ ss) {n : Nat} (hn : n ∈ s.slots) : n ∈ slotsL ss := List.mem_flatMap.2 ⟨s, hs, hn⟩
theorem looks_agree {ss : List Sr} (h : ∀ n ∈ slotsL ss, Agree E E' n) : ss.map E'.look = ss.map E.look :=
  List.map_congr_left fun s hs => look_agree fun n hn => h n (slotsL_mem hs hn)

theorem plainAt_agree {s : Sr} (h : ∀ n ∈ s.slots, Agree E E' n) : E'.plainAt s = E.plainAt s := by
  cases s with
  | k v => rfl
  | t n => simp only [Env.plainAt, (h n (by simp [Sr.slots])).1]
theorem plainAts_agree {ss : List Sr} (h : ∀ n ∈ slotsL ss, Agree E E' n) : ss.all E'.plainAt = ss.all E.plainAt := by
  induction ss with
  | nil => rfl
  | cons s ss ih =>
    simp only [List.all_cons]
    rw [plainAt_agree (s := s) fun n hn => h n (slotsL_mem (by simp) hn), ih fun n hn => h n (by
      simp only [slotsL, List.flatMap_cons, List.mem_append]; exact .inr hn)]

theorem FOp.val_agree {f : FOp} (h : ∀ n ∈ f.srcs, Agree E E' n) : f.val E' = f.val E := by
  cases f with
  | mv s => simp only [FOp.val, look_agree (s := s) h]
  | pick c a b =>
    have h1 := look_agree (s := c) fun n hn => h n (slotsL_mem (ss := [c, a, b]) (by simp) hn)
    have h2 := look_agree (s := a) fun n hn => h n (slotsL_mem (ss := [c, a, b]) (by simp) hn)
    have h3 := look_agree (s := b) fun n hn => h n (slotsL_mem (ss := [c, a, b]) (by simp) hn)
    simp only [FOp.val, h1, h2, h3]
  | box s =>
    cases s with
    | k v => rfl
    | t n => simp only [FOp.val, (h n (by simp [FOp.srcs, Sr.slots])).1]
  | load s n agg => simp only [FOp.val, look_agree (s := s) h, ldF_agree (root_agree (s := s) h)]
  | fa s off => simp only [FOp.val, look_agree (s := s) h, faF_agree (root_agree (s := s) h)]
  | ia s i size =>
    have h1 := fun n hn => h n (slotsL_mem (ss := [s, i]) (s := s) (by simp) hn)
    have h2 := fun n hn => h n (slotsL_mem (ss := [s, i]) (s := i) (by simp) hn)
    simp only [FOp.val, look_agree h1, look_agree h2, iaF_agree (root_agree h1)]
  | iaA s i size n =>
    have h1 := fun n hn => h n (slotsL_mem (ss := [s, i]) (s := s) (by simp) hn)
    have h2 := fun n hn => h n (slotsL_mem (ss := [s, i]) (s := i) (by simp) hn)
    simp only [FOp.val, look_agree h1, look_agree h2, iaAF_agree (root_agree h1)]
  | cvStr s => simp only [FOp.val, look_agree (s := s) h, elemsAt_agree (root_agree (s := s) h)]
  | mm isMax a b =>
    have h1 := fun n hn => h n (slotsL_mem (ss := [a, b]) (s := a) (by simp) hn)
    have h2 := fun n hn => h n (slotsL_mem (ss := [a, b]) (s := b) (by simp) hn)
    simp only [FOp.val, look_agree h1, look_agree h2]
  | len s => simp only [FOp.val, look_agree (s := s) h, lenF_agree (root_agree (s := s) h)]
  | lenS s => simp only [FOp.val, look_agree (s := s) h]
  | bin op a b =>
    have h1 := fun n hn => h n (slotsL_mem (ss := [a, b]) (s := a) (by simp) hn)
    have h2 := fun n hn => h n (slotsL_mem (ss := [a, b]) (s := b) (by simp) hn)
    simp only [FOp.val, look_agree h1, look_agree h2]
  | eqS neg cs a b =>
    have h1 := fun n hn => h n (slotsL_mem (ss := [a, b]) (s := a) (by simp) hn)
    have h2 := fun n hn => h n (slotsL_mem (ss := [a, b]) (s := b) (by simp) hn)
    simp only [FOp.val, look_agree h1, look_agree h2]
  | eqB neg a b =>
    have h1 := fun n hn => h n (slotsL_mem (ss := [a, b]) (s := a) (by simp) hn)
    have h2 := fun n hn => h n (slotsL_mem (ss := [a, b]) (s := b) (by simp) hn)
    simp only [FOp.val, look_agree h1, look_agree h2]
  | index a b =>
    have h1 := fun n hn => h n (slotsL_mem (ss := [a, b]) (s := a) (by simp) hn)
    have h2 := fun n hn => h n (slotsL_mem (ss := [a, b]) (s := b) (by simp) hn)
    simp only [FOp.val, look_agree h1, look_agree h2]
  | un op a => simp only [FOp.val, look_agree (s := a) h]
  | cv k a => simp only [FOp.val, look_agree (s := a) h]
  | nilCheck a => simp only [FOp.val, look_agree (s := a) h]
  | field s off n agg => simp only [FOp.val, look_agree (s := s) h]
  | subStr s lo hi =>
    have h1 := look_agree (s := s) fun n hn => h n (by simp [FOp.srcs, hn])
    have h2 := fun d => bnd_agree (d := d) (s := lo) fun n hn => h n (by simp [FOp.srcs, hn])
    have h3 := fun d => bnd_agree (d := d) (s := hi) fun n hn => h n (by simp [FOp.srcs, hn])
    simp only [FOp.val, h1, h2, h3]
  | subSl s lo hi size =>
    have h1 := look_agree (s := s) fun n hn => h n (by simp [FOp.srcs, hn])
    have h2 := fun d => bnd_agree (d := d) (s := lo) fun n hn => h n (by simp [FOp.srcs, hn])
    have h3 := fun d => bnd_agree (d := d) (s := hi) fun n hn => h n (by simp [FOp.srcs, hn])
    simp only [FOp.val, h1, h2, h3]
  | build tmpl ps ss =>
    simp only [FOp.val, looks_agree (ss := ss) h, plainAts_agree (ss := ss) h]
  | buildSl tmpl ln is ss =>
    simp only [FOp.val, looks_agree (ss := ss) h, plainAts_agree (ss := ss) h]
  | _ => rfl

/-! ### the step is the value's -/
theorem plain_pass {s : Sr} {deep : Bool} (h : E.plainAt s = true) : E.pass deep s = (E.look s, E) := by
  cases s with
  | k v => rfl
  | t n =>
    simp only [Env.plainAt] at h
    simp only [Env.look, Env.pass]
    generalize E.get n = f at h
    cases f <;> simp only [FV.plain, Bool.false_eq_true] at h <;> try rfl
    rename_i g cap
    cases cap <;> simp at h
    rfl
theorem plain_passL {deep : Bool} : ∀ {ss : List Sr}, ss.all E.plainAt = true → E.passL deep ss = (ss.map E.look, E)
  | [], _ => rfl
  | s :: ss, h => by
    simp only [List.all_cons, Bool.and_eq_true] at h
    have h1 := plain_pass (deep := deep) h.1
    have h2 := plain_passL (deep := deep) h.2
    simp only [Env.passL, h1, h2, List.map_cons]

theorem FOp.val_eval {f : FOp} {d : Nat} {v : FV} (h : f.val E = some v) (hr : v.notRoot d = true) : f.eval E d = some (E.upd d v) := by
  have put : ∀ {x}, x = some v → x.bind (putIn E d) = some (E.upd d v) := fun {x} e => by subst e; simp [putIn, hr]
  have put1 : putIn E d v = some (E.upd d v) := by simp [putIn, hr]
  cases f <;> simp only [FOp.val] at h <;> try (cases h; done)
  case mv s => cases h; exact put1
  case pick c a b =>
    simp only [FOp.eval]
    split at h <;> try (cases h; done)
    rename_i x hx
    rw [hx]
    cases x <;> simp only at h ⊢ <;> cases h <;> exact put1
  case box s =>
    cases s with
    | k v => cases h
    | t n =>
      simp only at h
      split at h <;> try (cases h; done)
      rename_i hp
      have := plain_pass (E := E) (s := .t n) (deep := false) (by simpa [Env.plainAt] using hp)
      simp only [FOp.eval, this, Env.look]
      generalize E.get n = f at h hp
      cases f <;> simp only [FV.plain, Bool.false_eq_true] at hp <;> simp only at h <;> try (cases h; done)
      all_goals try (cases h; rfl)
      rename_i g cap
      cases cap <;> simp at hp
      cases h; rfl
  case load s n agg => exact put h
  case fa s off => exact put h
  case ia s i size =>
    simp only [FOp.eval]
    split at h <;> try (cases h; done)
    rename_i hi
    rw [hi]
    exact put h
  case iaA s i size n =>
    simp only [FOp.eval]
    split at h <;> try (cases h; done)
    rename_i hi
    rw [hi]
    exact put h
  case cvStr s =>
    simp only [FOp.eval]
    split at h <;> try (cases h; done)
    rename_i hi
    rw [hi]
    rw [Option.map_eq_some_iff] at h
    obtain ⟨b, h1, rfl⟩ := h
    simp only [h1, Option.map_some]
  case mm isMax a b =>
    simp only [FOp.eval]
    split at h <;> try (cases h; done)
    rename_i h1 h2
    rw [h1, h2]
    cases h; rfl
  case len s =>
    simp only [FOp.eval]
    split at h <;> try (cases h; done)
    rename_i hi
    rw [hi]
    cases h; rfl
  case lenS s =>
    simp only [FOp.eval]
    split at h <;> try (cases h; done)
    rename_i hi
    rw [hi]
    cases h; rfl
  case bin op a b => simp only [FOp.eval, h, Option.map_some]
  case eqS => simp only [FOp.eval, h, Option.map_some]
  case un => simp only [FOp.eval, h, Option.map_some]
  case eqB neg a b =>
    simp only [FOp.eval]
    split at h <;> try (cases h; done)
    rename_i h1 h2
    rw [h1, h2]
    cases h; rfl
  case cv =>
    simp only [FOp.eval]
    split at h <;> try (cases h; done)
    rename_i h1
    rw [h1]
    cases h; rfl
  case nilCheck a =>
    simp only [FOp.eval]
    split at h <;> try (cases h; done)
    rename_i h1
    rw [if_pos h1]
    cases h; exact put1
  case subStr s lo hi =>
    simp only [FOp.eval]
    split at h <;> try (cases h; done)
    rename_i h1
    rw [h1]
    simp only
    split at h <;> try (cases h; done)
    rename_i h2 h3
    rw [h2, h3]
    simp only [h, Option.map_some]
  case subSl s lo hi size =>
    simp only [FOp.eval]
    split at h <;> try (cases h; done)
    rename_i h1
    rw [h1]
    simp only
    split at h <;> try (cases h; done)
    rename_i h2 h3
    rw [h2, h3]
    simp only
    split at h <;> try (cases h; done)
    rename_i h4
    rw [if_pos h4]
    simp only [h, Option.map_some]
  case field s off n agg =>
    simp only [FOp.eval]
    split at h <;> try (cases h; done)
    rename_i h1
    rw [h1]
    exact put h
  case index s i =>
    simp only [FOp.eval]
    split at h <;> try (cases h; done)
    rename_i h1 h2
    rw [h1, h2]
    simp only
    split at h <;> try (cases h; done)
    rename_i h3
    rw [if_pos h3]
    split at h <;> try (cases h; done)
    rename_i h4
    rw [h4]
    cases h; rfl
  case build tmpl ps ss =>
    split at h <;> try (cases h; done)
    rename_i hp
    simp only [FOp.eval, bdF, plain_passL hp]
    rw [Option.map_eq_some_iff] at h
    obtain ⟨cs, h1, rfl⟩ := h
    simp only [h1, Option.map_some]
  case buildSl tmpl ln is ss =>
    split at h <;> try (cases h; done)
    rename_i hp
    simp only [FOp.eval, bsF, plain_passL hp]
    rw [Option.map_eq_some_iff] at h
    obtain ⟨cs, h1, rfl⟩ := h
    simp only [h1, Option.map_some]
end
end Go.Fm
/- Regions that draw their order: the theorem. -/
set_option linter.unusedVariables false
set_option linter.unusedSimpArgs false
namespace Go.Fm
open Go

/-- one step with its guard -/
def stepG (P : Program) (f : FO) (E : Env) (J : Env → Prop) : Prop :=
  match f.g with
  | none => runK P f.k f.d E J
  | some (t, want) => match E.get t with
    | .bool b => (b = want → runK P f.k f.d E J) ∧ (b ≠ want → J (E.upd f.d skipped))
    | .tup [] => J (E.upd f.d skipped)
    | _ => False
theorem runOps_cons (P : Program) (f : FO) (r : List FO) (E : Env) (J : Env → Prop) : runOps P (f :: r) E J = stepG P f E (fun E' => runOps P r E' J) := rfl

def detK (P : Program) (k : FK) (d : Nat) (E : Env) (J : FV → Prop) : Prop :=
  match k with
  | .op f => ∃ v, f.val E = some v ∧ v.notRoot d = true ∧ J v
  | .call _ _ => False
  | .callB f ss => ∃ v, FCall P f (ss.map E.lend) (· = v) ∧ v.free = true ∧ J v
  | .callL f ss => (ss.all fun s => !(E.look s).alias) = true ∧ ∃ v, FCall P f (ss.map E.look) (· = v) ∧ J v
def detG (P : Program) (f : FO) (E : Env) (J : FV → Prop) : Prop :=
  match f.g with
  | none => detK P f.k f.d E J
  | some (t, want) => match E.get t with
    | .bool b => (b = want → detK P f.k f.d E J) ∧ (b ≠ want → J skipped)
    | .tup [] => J skipped
    | _ => False
def runDet (P : Program) : List FO → Env → (Env → Prop) → Prop
  | [], E, J => J E
  | f :: r, E, J => detG P f E (fun v => runDet P r (E.upd f.d v) J)

def FK.srcs : FK → List Nat
  | .op f => f.srcs
  | .call _ _ => []
  | .callB _ ss | .callL _ ss => slotsL ss
def FO.srcs (f : FO) : List Nat := (match f.g with | some (t, _) => [t] | none => []) ++ f.k.srcs

section
variable {P : Program} {N : Nat} {xv : Nat → Value} {a : Act} {w : World} {S : Nat → Prop} {R : List Nat}

theorem step_ok {ops : List Oper} {f : FO} {o : Oper} {E : Env} {J : Env → Prop} {K : Act → World → Prop} {Q : Exit → Act → World → Prop} (hk : f.k.chk P N f.d o = true) (hg : guardOk N ops f o = true) (hA : Amb P w S) (r : Rel N xv E a w S R) (h : stepG P f E J)
    (hq : ∀ a' w', Post N xv J w S R a' w' → K a' w') :
    if Region.wanted o (yielded ops.toArray a.tmps) then o.wp P a w K Q ∨ (o.asks P a w ∧ LetsOut Q) else K (a.put o.dst undef) w := by
  have go : runK P f.k f.d E J → o.wp P a w K Q := fun h1 => wp_widen (runK_ok hk h1 hA r) hq
  have skip : o.dst = some f.d → f.d < N → J (E.upd f.d skipped) → K (a.put o.dst undef) w := fun h1 h2 h3 => by
    obtain ⟨R', h4, h5⟩ := r.skip h2
    rw [h1]
    exact hq _ _ ⟨_, S, R', h3, h4, h5⟩
  unfold guardOk at hg
  unfold stepG at h
  cases hfg : f.g with
  | none =>
    rw [hfg] at hg h
    cases hog : o.guard with
    | some x => rw [hog] at hg; cases hg
    | none =>
    simp only at h
    rw [if_pos (by simp [Region.wanted, hog])]
    exact .inl (go h)
  | some x =>
    obtain ⟨t, want⟩ := x
    rw [hfg] at hg h
    cases hog : o.guard with
    | none => rw [hog] at hg; cases hg
    | some y =>
    obtain ⟨j, want'⟩ := y
    rw [hog] at hg
    simp only [Bool.and_eq_true, beq_iff_eq, decide_eq_true_eq] at hg
    obtain ⟨rfl, ht, hj, _, hd, hdN⟩ := hg
    have hv : yielded ops.toArray a.tmps j = match a.tmps[t]? with | some (.bool b) => some b | _ => none := by
      unfold yielded
      have : (ops.toArray[j]?).bind (·.dst) = some t := by simpa using hj
      rw [this]
      rfl
    have hsz : t < a.tmps.size := by rw [r.size]; exact ht
    have hval := eval_val (a := a) (xv := xv) r.small ht
    have hget : a.tmps[t]? = some (valOf a xv t) := by
      rw [hval]
      simp [Act.eval, hsz]
    rw [hget] at hv
    simp only at h
    cases hE : E.get t with
    | bool b =>
      rw [hE] at h
      simp only at h
      obtain ⟨R1, _, h1, _⟩ := r.get0 t hE rfl
      have hb : valOf a xv t = .bool b := by
        generalize valOf a xv t = v at h1
        cases h1; rfl
      rw [hb] at hv
      simp only at hv
      by_cases hbw : b = want
      · rw [if_pos (by simp [Region.wanted, hog, hv, hbw])]
        exact .inl (go (h.1 hbw))
      · rw [if_neg (by simp [Region.wanted, hog, hv, hbw])]
        exact skip hd hdN (h.2 hbw)
    | tup vs =>
      rw [hE] at h
      cases vs with
      | cons _ _ => exact h.elim
      | nil =>
      simp only at h
      obtain ⟨R1, _, h1, _⟩ := r.get0 t hE rfl
      have hb : ∃ z, valOf a xv t = .tuple z := by
        generalize valOf a xv t = v at h1
        cases h1; exact ⟨_, rfl⟩
      obtain ⟨z, hb⟩ := hb
      rw [hb] at hv
      simp only at hv
      rw [if_neg (by simp [Region.wanted, hog, hv])]
      exact skip hd hdN h
    | _ => rw [hE] at h; exact h.elim

theorem lend_agree {E E' : Env} {s : Sr} (h : ∀ n ∈ s.slots, Agree E E' n) : E'.lend s = E.lend s := by
  cases s with
  | k v => rfl
  | t n =>
    have h1 := h n (by simp [Sr.slots])
    simp only [Env.lend, h1.1]
    cases hg : E.get n with
    | al r p => simp only [at_agree (h1.2 r p (.inl hg))]
    | _ => rfl

theorem detK_agree {E E' : Env} {k : FK} {d : Nat} {J : FV → Prop} (h : ∀ n ∈ k.srcs, Agree E E' n) (hd : detK P k d E J) : detK P k d E' J := by
  cases k with
  | op f => simpa only [detK, FOp.val_agree (f := f) h] using hd
  | call f ss => exact hd
  | callB f ss =>
    have : ss.map E'.lend = ss.map E.lend := List.map_congr_left fun s hs => lend_agree fun n hn => h n (slotsL_mem hs hn)
    simpa only [detK, this] using hd
  | callL f ss =>
    have h1 : ss.map E'.look = ss.map E.look := looks_agree h
    have h3 : ∀ E : Env, (ss.all fun s => !(E.look s).alias) = (ss.map E.look).all fun f => !f.alias := fun E => by simp [List.all_map, Function.comp_def]
    simp only [detK] at hd ⊢
    rw [h3] at hd ⊢
    rw [h1]
    exact hd

theorem detG_agree {E E' : Env} {f : FO} {J : FV → Prop} (h : ∀ n ∈ f.srcs, Agree E E' n) (hd : detG P f E J) : detG P f E' J := by
  unfold detG at hd ⊢
  unfold FO.srcs at h
  cases hg : f.g with
  | none =>
    rw [hg] at hd h
    exact detK_agree (fun n hn => h n (by simp [hn])) hd
  | some x =>
    obtain ⟨t, want⟩ := x
    rw [hg] at hd h
    simp only at hd ⊢
    rw [(h t (by simp)).1]
    cases hE : E.get t with
    | bool b =>
      rw [hE] at hd
      exact ⟨fun hb => detK_agree (fun n hn => h n (by simp [hn])) (hd.1 hb), hd.2⟩
    | tup vs =>
      rw [hE] at hd
      cases vs with
      | nil => exact hd
      | cons _ _ => exact hd
    | _ => rw [hE] at hd; exact hd.elim

theorem detK_run {E : Env} {k : FK} {d : Nat} {J : FV → Prop} (h : detK P k d E J) : runK P k d E (fun E' => ∃ v, E' = E.upd d v ∧ J v) := by
  cases k with
  | op f =>
    obtain ⟨v, h1, h2, h3⟩ := h
    exact ⟨_, FOp.val_eval h1 h2, v, rfl, h3⟩
  | call f ss => exact h.elim
  | callB f ss =>
    obtain ⟨v, h1, h2, h3⟩ := h
    exact h1.mono fun r hr => by subst hr; exact ⟨h2, _, rfl, h3⟩
  | callL f ss =>
    obtain ⟨h0, v, h1, h3⟩ := h
    exact ⟨h0, h1.mono fun r hr => by subst hr; exact ⟨_, rfl, h3⟩⟩
theorem detG_step {E : Env} {f : FO} {J : FV → Prop} (h : detG P f E J) : stepG P f E (fun E' => ∃ v, E' = E.upd f.d v ∧ J v) := by
  unfold detG at h
  unfold stepG
  cases hg : f.g with
  | none => rw [hg] at h; exact detK_run h
  | some x =>
    obtain ⟨t, want⟩ := x
    rw [hg] at h
    simp only at h ⊢
    cases hE : E.get t with
    | bool b =>
      rw [hE] at h
      exact ⟨fun hb => detK_run (h.1 hb), fun hb => ⟨_, rfl, h.2 hb⟩⟩
    | tup vs =>
      rw [hE] at h
      cases vs with
      | nil => exact ⟨_, rfl, h⟩
      | cons _ _ => exact h
    | _ => rw [hE] at h; exact h.elim
theorem detG_mono {E : Env} {f : FO} {J J' : FV → Prop} (h : detG P f E J) (hj : ∀ v, J v → J' v) : detG P f E J' := by
  have mk : detK P f.k f.d E J → detK P f.k f.d E J' := fun h => by
    cases hk : f.k <;> rw [hk] at h
    · obtain ⟨v, h1, h2, h3⟩ := h; exact ⟨v, h1, h2, hj v h3⟩
    · exact h
    · obtain ⟨v, h1, h2, h3⟩ := h; exact ⟨v, h1, h2, hj v h3⟩
    · obtain ⟨h0, v, h1, h3⟩ := h; exact ⟨h0, v, h1, hj v h3⟩
  unfold detG at h ⊢
  cases hg : f.g with
  | none => rw [hg] at h; exact mk h
  | some x =>
    obtain ⟨t, want⟩ := x
    rw [hg] at h
    simp only at h ⊢
    cases hE : E.get t with
    | bool b => rw [hE] at h; exact ⟨fun hb => mk (h.1 hb), fun hb => hj _ (h.2 hb)⟩
    | tup vs =>
      rw [hE] at h
      cases vs with
      | nil => exact hj _ h
      | cons _ _ => exact h
    | _ => rw [hE] at h; exact h.elim
end
end Go.Fm
/- Regions that draw their order: every order gives what the written order gives. -/
set_option linter.unusedVariables false
set_option linter.unusedSimpArgs false
namespace Go.Fm
open Go

/-! ### environments in part -/
def Env.only (E : Env) (p : Nat → Bool) : Env := List.filter (fun x => p x.1) E
theorem only_cons (p : Nat → Bool) (k : Nat) (v : FV) (E : Env) : Env.only ((k, v) :: E) p = if p k then (k, v) :: Env.only E p else Env.only E p := by
  simp only [Env.only, List.filter_cons]
theorem only_mem {p : Nat → Bool} {E : Env} {x : Nat × FV} : x ∈ E.only p ↔ x ∈ E ∧ p x.1 = true := List.mem_filter
theorem only_only (p q : Nat → Bool) (E : Env) : (E.only p).only q = E.only fun n => p n && q n := by
  simp only [Env.only, List.filter_filter]
  exact List.filter_congr fun x _ => by rw [Bool.and_comm]
theorem only_congr {p q : Nat → Bool} {E : Env} (h : ∀ x ∈ E, p x.1 = q x.1) : E.only p = E.only q := List.filter_congr h
theorem only_all {p : Nat → Bool} {E : Env} (h : ∀ x ∈ E, p x.1 = true) : E.only p = E := List.filter_eq_self.2 h
theorem get_only (p : Nat → Bool) : ∀ (E : Env) (n : Nat), (E.only p).get n = if p n then E.get n else .undef
  | [], n => by simp [Env.get, Env.only]
  | (k, v) :: E, n => by
    rw [only_cons]
    by_cases hk : p k = true
    · rw [if_pos hk]
      simp only [Env.get]
      by_cases e : k = n
      · subst e; simp [hk]
      · rw [if_neg e, if_neg e]; exact get_only p E n
    · rw [if_neg hk, get_only p E n]
      simp only [Env.get]
      by_cases e : k = n
      · subst e; simp [hk]
      · rw [if_neg e]
theorem put_only_ne (d : Nat) (v : FV) : ∀ (E : Env), (∀ x ∈ E, x.1 ≠ d) → (E.put d v).only (fun n => n != d) = E
  | [], _ => by simp [Env.put, Env.only]
  | (k, u) :: E, h => by
    have hk : k ≠ d := h (k, u) (by simp)
    have hkb : (k != d) = true := by simpa using hk
    have all : Env.only E (fun n => n != d) = E := only_all fun x hx => by simpa using h x (by simp [hx])
    simp only [Env.put, if_neg hk]
    split
    · rw [only_cons, only_cons, all]; simp [hk]
    · rw [only_cons, if_pos hkb, put_only_ne d v E fun x hx => h x (by simp [hx])]
theorem upd_fresh {E : Env} {d : Nat} {v : FV} (h : ∀ x ∈ E, x.1 ≠ d) : E.upd d v = E.put d v := by
  unfold Env.upd Env.clear
  rw [Env.get_notmem h]
  rfl
theorem put_mem {d : Nat} {v : FV} : ∀ (E : Env), (d, v) ∈ E.put d v
  | [] => by simp [Env.put]
  | (k, u) :: E => by
    simp only [Env.put]
    split
    · simp
    · split
      · simp
      · exact List.mem_cons_of_mem _ (put_mem E)
theorem put_head {d : Nat} {v : FV} {l : Env} (h : ∀ y ∈ l, d < y.1) : l.put d v = (d, v) :: l := by
  cases l with
  | nil => rfl
  | cons y l =>
    obtain ⟨y1, y2⟩ := y
    have := h (y1, y2) (by simp)
    simp only at this
    simp only [Env.put]
    rw [if_neg (by omega), if_pos this]
theorem only_put (p : Nat → Bool) (d : Nat) (v : FV) (hp : p d = false) : ∀ (E : Env), E.Sorted → (d, v) ∈ E → (E.only p).put d v = E.only fun n => p n || n == d
  | [], _, h => by simp at h
  | (k, u) :: E, hs, h => by
    obtain ⟨h1, h2⟩ := List.pairwise_cons.1 hs
    rw [only_cons, only_cons]
    by_cases e : k = d
    · subst e
      have hu : u = v := by
        rcases List.mem_cons.1 h with h | h
        · cases h; rfl
        · have := h1 _ h; simp at this
      subst hu
      rw [if_neg (by rw [hp]; simp), if_pos (by simp)]
      have h3 : Env.only E (fun n => p n || n == k) = Env.only E p := only_congr fun x hx => by
        have := h1 x hx
        simp only at this
        have : (x.1 == k) = false := by simp; omega
        simp [this]
      rw [h3, put_head fun y hy => h1 y (only_mem.1 hy).1]
    · have hm : (d, v) ∈ E := by
        rcases List.mem_cons.1 h with h | h
        · cases h; exact absurd rfl e
        · exact h
      have hlt := h1 _ hm
      simp only at hlt
      have ih := only_put p d v hp E h2 hm
      by_cases hk : p k = true
      · rw [if_pos hk, if_pos (by simp [hk])]
        simp only [Env.put]
        rw [if_neg e, if_neg (by omega), ih]
      · rw [if_neg hk, if_neg (by simp [hk, e]), ih]

def dests (fs : List FO) : List Nat := fs.map (·.d)

section
variable {P : Program} {N : Nat} {xv : Nat → Value} {a : Act} {w : World} {S : Nat → Prop} {R : List Nat}

theorem detG_pick {E : Env} {f : FO} {J : FV → Prop} (h : detG P f E J) : ∃ v, detG P f E (· = v) ∧ J v := by
  have mk : detK P f.k f.d E J → ∃ v, detK P f.k f.d E (· = v) ∧ J v := fun h => by
    cases hk : f.k <;> rw [hk] at h
    · obtain ⟨v, h1, h2, h3⟩ := h; exact ⟨v, ⟨v, h1, h2, rfl⟩, h3⟩
    · exact h.elim
    · obtain ⟨v, h1, h2, h3⟩ := h; exact ⟨v, ⟨v, h1, h2, rfl⟩, h3⟩
    · obtain ⟨h0, v, h1, h3⟩ := h; exact ⟨v, ⟨h0, v, h1, rfl⟩, h3⟩
  unfold detG at h ⊢
  cases hg : f.g with
  | none => rw [hg] at h; exact mk h
  | some x =>
    obtain ⟨t, want⟩ := x
    rw [hg] at h
    simp only at h ⊢
    cases hE : E.get t with
    | bool b =>
      rw [hE] at h
      by_cases hb : b = want
      · obtain ⟨v, h1, h2⟩ := mk (h.1 hb)
        exact ⟨v, ⟨fun _ => h1, fun hn => absurd hb hn⟩, h2⟩
      · exact ⟨skipped, ⟨fun h => absurd h hb, fun _ => rfl⟩, h.2 hb⟩
    | tup vs =>
      rw [hE] at h
      cases vs with
      | nil => exact ⟨skipped, rfl, h⟩
      | cons _ _ => exact h.elim
    | _ => rw [hE] at h; exact h.elim

theorem runDet_table : ∀ {fs : List FO} {E : Env} {J : Env → Prop}, E.Sorted → (dests fs).Nodup → (∀ f ∈ fs, ∀ x ∈ E, x.1 ≠ f.d) → runDet P fs E J →
    ∃ Ef, J Ef ∧ Ef.Sorted ∧ (Ef.only fun n => !(dests fs).contains n) = E ∧ (∀ f ∈ fs, (f.d, Ef.get f.d) ∈ Ef) ∧
      ∀ pre f post, fs = pre ++ f :: post → detG P f (Ef.only fun n => !(dests (f :: post)).contains n) (· = Ef.get f.d)
  | [], E, J, hs, _, _, h => ⟨E, h, hs, only_all (by simp [dests]), by simp, fun pre f post e => by simp at e⟩
  | f :: r, E, J, hs, hnd, hfr, h => by
    obtain ⟨v, h1, h2⟩ := detG_pick h
    simp only [dests, List.map_cons, List.nodup_cons] at hnd
    have hE := upd_fresh (v := v) (hfr f (by simp))
    rw [hE] at h2
    obtain ⟨Ef, i1, i2, i3, i4, i5⟩ := runDet_table (fs := r) (E := E.put f.d v) (Env.sorted_put hs _ _) hnd.2 (fun g hg x hx => by
      rcases Env.mem_put hx with rfl | ⟨hx, _⟩ | hx
      · exact fun e => hnd.1 (by simp only at e; rw [e]; exact List.mem_map.2 ⟨g, hg, rfl⟩)
      · exact hfr g (by simp [hg]) x hx
      · exact hfr g (by simp [hg]) x hx) h2
    have hc : (dests r).contains f.d = false := by simpa [dests] using hnd.1
    have hv : Ef.get f.d = v := by
      have h3 := congrArg (fun E => Env.get E f.d) i3
      rw [get_only, Env.get_put _ _ _ _ hs, if_pos rfl, if_pos (by rw [hc]; rfl)] at h3
      exact h3
    have hall : (Ef.only fun n => !(dests (f :: r)).contains n) = E := by
      have h3 := congrArg (fun E => Env.only E (fun n => n != f.d)) i3
      rw [put_only_ne _ _ _ (hfr f (by simp)), only_only] at h3
      rw [← h3]
      refine only_congr fun x _ => ?_
      simp only [dests, List.map_cons, List.contains_cons]
      cases h4 : (x.1 == f.d) <;> simp [h4, bne]
    refine ⟨Ef, i1, i2, hall, ?_, ?_⟩
    · intro g hg
      rcases List.mem_cons.1 hg with rfl | hg
      · have := put_mem (d := g.d) (v := v) E
        rw [← i3] at this
        rw [hv]
        exact (only_mem.1 this).1
      · exact i4 g hg
    · intro pre g post e
      cases pre with
      | nil =>
        simp only [List.nil_append, List.cons.injEq] at e
        obtain ⟨rfl, rfl⟩ := e
        rw [hall, hv]
        exact h1
      | cons x pre =>
        simp only [List.cons_append, List.cons.injEq] at e
        exact i5 pre g post e.2
end
end Go.Fm
/- Regions that draw their order: the rule. -/
set_option linter.unusedVariables false
set_option linter.unusedSimpArgs false
namespace Go.Fm
open Go

/-- the edges of an operation that bind -/
def bnds (o : Oper) : List Nat := (o.after.toList.filter (Region.binds .any)).map (·.on)
/-- what comes ahead of an operation, as bits -/
def mask (acc : List Nat) (o : Oper) : Nat := (bnds o).foldl (fun m e => m ||| (1 <<< e ||| acc.getD e 0)) 0
def masks : List Oper → List Nat → List Nat
  | [], acc => acc
  | o :: os, acc => masks os (acc ++ [mask acc o])

def edgesOk : Nat → List Oper → Bool
  | _, [] => true
  | i, o :: os => (bnds o).all (fun e => decide (e < i)) && edgesOk (i + 1) os
/-- the operands of the i-th come from ahead of it -/
def srcsOk (D : List Nat) : List FO → List Oper → Bool
  | [], _ => true
  | f :: fs, o :: os => (f.srcs.all fun s => !D.contains s || (bnds o).contains (D.idxOf s)) && srcsOk D fs os
  | _ :: _, [] => false
def tailOk (ms : List Nat) : Nat → Nat → Bool
  | i, 0 => true
  | i, k + 1 => ((List.range i).all fun j => (ms.getD i 0).testBit j) && tailOk ms (i + 1) k
def nodupB : List Nat → Bool
  | [] => true
  | x :: l => !l.contains x && nodupB l
/-- the first n may be done in any order that their edges allow; the others come behind them, one after the other -/
def drawChk (n : Nat) (fs : List FO) (ops : List Oper) : Bool :=
  nodupB (dests (fs.take n)) && (decide (n ≤ fs.length) && (edgesOk 0 ops && (srcsOk (dests (fs.take n)) (fs.take n) ops && tailOk (masks ops []) n (fs.length - n))))
/-- nothing leans on what the first n yield -/
def rootOk (D : List Nat) : FV → Bool
  | .al r _ | .ptr r _ => !D.contains r
  | _ => true
def rootsOk (D : List Nat) (E : Env) : Bool := E.all fun x => rootOk D x.2
def freshOk (D : List Nat) (E : Env) : Bool := E.all fun x => !D.contains x.1

section
theorem nodupB_spec : ∀ {l : List Nat}, nodupB l = true → l.Nodup
  | [], _ => List.nodup_nil
  | x :: l, h => by
    simp only [nodupB, Bool.and_eq_true, Bool.not_eq_true'] at h
    exact List.nodup_cons.2 ⟨by simpa using h.1, nodupB_spec h.2⟩

theorem edgesOk_spec : ∀ {os : List Oper} {i k : Nat} {o : Oper}, edgesOk i os = true → os[k]? = some o → ∀ e ∈ bnds o, e < i + k
  | [], i, k, o, _, h => by simp at h
  | o' :: os, i, k, o, h, hk => by
    simp only [edgesOk, Bool.and_eq_true, List.all_eq_true, decide_eq_true_eq] at h
    cases k with
    | zero => simp at hk; subst hk; exact h.1
    | succ k => intro e he; have := edgesOk_spec h.2 (by simpa using hk) e he; omega

theorem srcsOk_spec {D : List Nat} : ∀ {fs : List FO} {os : List Oper} {k : Nat} {f : FO} {o : Oper}, srcsOk D fs os = true → fs[k]? = some f → os[k]? = some o → ∀ s ∈ f.srcs, s ∈ D → D.idxOf s ∈ bnds o
  | [], os, k, f, o, _, h, _ => by simp at h
  | f' :: fs, [], k, f, o, h, _, h2 => by simp at h2
  | f' :: fs, o' :: os, k, f, o, h, hf, ho => by
    simp only [srcsOk, Bool.and_eq_true, List.all_eq_true, Bool.or_eq_true, Bool.not_eq_true'] at h
    cases k with
    | zero =>
      simp at hf ho
      subst hf; subst ho
      intro s hs hD
      rcases h.1 s hs with h1 | h1
      · have := List.contains_iff_mem.2 hD; rw [h1] at this; cases this
      · exact List.contains_iff_mem.1 h1
    | succ k => exact srcsOk_spec h.2 (by simpa using hf) (by simpa using ho)

/-- what is listed is closed under what comes ahead -/
def Closed (ops : List Oper) (L : Nat → Prop) : Prop := ∀ i o, ops[i]? = some o → L i → ∀ e ∈ bnds o, L e

theorem mask_spec {L : Nat → Prop} {acc : List Nat} : ∀ (es : List Nat) (m0 : Nat), (∀ j, m0.testBit j = true → L j) → (∀ e ∈ es, L e ∧ ∀ j, (acc.getD e 0).testBit j = true → L j) →
    ∀ j, (es.foldl (fun m e => m ||| (1 <<< e ||| acc.getD e 0)) m0).testBit j = true → L j
  | [], m0, h, _ => h
  | e :: es, m0, h, he => by
    simp only [List.foldl_cons]
    refine mask_spec es _ (fun j hj => ?_) fun e' m => he e' (by simp [m])
    simp only [Nat.testBit_or, Bool.or_eq_true] at hj
    rcases hj with hj | hj | hj
    · exact h j hj
    · rw [Nat.shiftLeft_eq, Nat.one_mul, Nat.testBit_two_pow] at hj
      have : e = j := by simpa using hj
      subst this
      exact (he e (by simp)).1
    · exact (he e (by simp)).2 j hj

theorem masks_spec {ops : List Oper} {L : Nat → Prop} (hc : Closed ops L) : ∀ (os : List Oper) (pre : List Oper) (acc : List Nat), ops = pre ++ os → acc.length = pre.length →
    (∀ i o, pre[i]? = some o → (∀ e ∈ bnds o, L e) → ∀ j, (acc.getD i 0).testBit j = true → L j) →
    ∀ i o, ops[i]? = some o → (∀ e ∈ bnds o, L e) → ∀ j, ((masks os acc).getD i 0).testBit j = true → L j
  | [], pre, acc, e, hl, h => by simp at e; subst e; exact h
  | o :: os, pre, acc, e, hl, h => by
    simp only [masks]
    refine masks_spec hc os (pre ++ [o]) _ (by simp [e]) (by simp [hl]) fun i o' hi he j hj => ?_
    rcases Nat.lt_or_ge i pre.length with hlt | hge
    · rw [List.getElem?_append_left hlt] at hi
      refine h i o' hi he j ?_
      rw [List.getD_eq_getElem?_getD, List.getElem?_append_left (by omega), ← List.getD_eq_getElem?_getD] at hj
      exact hj
    · rw [List.getElem?_append_right hge] at hi
      have : i = pre.length := by
        rcases Nat.lt_or_ge (i - pre.length) 1 with h1 | h1
        · omega
        · rw [List.getElem?_eq_none (by simpa using h1)] at hi; cases hi
      subst this
      simp at hi
      subst hi
      rw [List.getD_eq_getElem?_getD, List.getElem?_append_right (by omega), hl, Nat.sub_self] at hj
      refine mask_spec (bnds o) 0 (by simp) (fun e' m => ⟨he e' m, fun j' hj' => ?_⟩) j (by simpa [mask] using hj)
      -- an edge leads to one ahead, whose own edges are listed
      cases ho : pre[e']? with
      | some o2 => exact h e' o2 ho (hc e' o2 (by rw [e, List.getElem?_append_left (List.getElem?_eq_some_iff.1 ho).1]; exact ho) (he e' m)) j' hj'
      | none =>
        have : acc.getD e' 0 = 0 := by
          rw [List.getD_eq_getElem?_getD, List.getElem?_eq_none (by rw [hl]; exact List.getElem?_eq_none_iff.1 ho)]; rfl
        rw [this] at hj'
        simp at hj'
theorem tailOk_spec {ms : List Nat} : ∀ {k i : Nat}, tailOk ms i k = true → ∀ q, i ≤ q → q < i + k → ∀ j, j < q → (ms.getD q 0).testBit j = true
  | 0, i, _, q, h1, h2 => by omega
  | k + 1, i, h, q, h1, h2 => by
    simp only [tailOk, Bool.and_eq_true, List.all_eq_true, List.mem_range] at h
    by_cases e : q = i
    · subst e; exact h.1
    · exact tailOk_spec h.2 q (by omega) (by omega)
end

section
variable {P : Program} {N : Nat} {xv : Nat → Value} {a : Act} {w : World} {S : Nat → Prop} {R : List Nat}

/-- the slots that are to be seen while only some are done -/
def vis (D : List Nat) (listed : Array Bool) (x : Nat) : Bool := !D.contains x || listed.getD (D.idxOf x) false

theorem chkL_get {ops : List Oper} : ∀ {fs : List FO} {l : List Oper}, chkL P N ops fs l = true → fs.length = l.length ∧ ∀ (i : Nat) (f : FO) (o : Oper), fs[i]? = some f → l[i]? = some o → f.chk P N ops o = true
  | [], [], _ => ⟨rfl, by simp⟩
  | _ :: _, [], h => by simp [chkL] at h
  | [], _ :: _, h => by simp [chkL] at h
  | f :: fs, o :: l, h => by
    simp only [chkL, Bool.and_eq_true] at h
    obtain ⟨h1, h2⟩ := chkL_get h.2
    refine ⟨by simp [h1], fun i f' o' hf ho => ?_⟩
    cases i with
    | zero => simp at hf ho; subst hf; subst ho; exact h.1
    | succ i => exact h2 i f' o' (by simpa using hf) (by simpa using ho)

/-- how far a drawn region has come -/
inductive Phase (P : Program) (N : Nat) (xv : Nat → Value) (w0 : World) (S0 : Nat → Prop) (R0 : List Nat) (n : Nat) (fs : List FO) (Ef : Env) (J : Env → Prop) (listed : Array Bool) (a : Act) (w : World) : Prop
  | light (S : Nat → Prop) (R : List Nat) (h1 : ∀ i, n ≤ i → i < fs.length → listed.getD i true = false) (r : Rel N xv (Ef.only (vis (dests (fs.take n)) listed)) a w S R) (e : Ext w0 S0 R0 w S R)
  | tail (k : Nat) (S : Nat → Prop) (R : List Nat) (E : Env) (h0 : n ≤ k) (h1 : k ≤ fs.length) (h2 : ∀ i, i < fs.length → listed.getD i true = decide (i < k)) (r : Rel N xv E a w S R) (e : Ext w0 S0 R0 w S R) (h : runOps P (fs.drop k) E J)

theorem ready_iff {ops : List Oper} {listed : Array Bool} {i : Nat} : i ∈ Region.ready .any ops.toArray listed ↔ ∃ o, ops[i]? = some o ∧ listed.getD i true = false ∧ ∀ e ∈ bnds o, listed.getD e false = true := by
  have key : ∀ o : Oper, (o.after.all fun e => !Region.binds .any e || listed.getD e.on false) = true ↔ ∀ e ∈ bnds o, listed.getD e false = true := fun o => by
    rw [← Array.all_toList, List.all_eq_true]
    simp only [bnds, List.mem_map, List.mem_filter]
    constructor
    · rintro h e ⟨x, ⟨hx, hb⟩, rfl⟩
      have := h x hx
      simpa [hb] using this
    · intro h x hx
      cases hb : Region.binds .any x
      · rfl
      · simpa using h x.on ⟨x, ⟨hx, hb⟩, rfl⟩
  unfold Region.ready
  simp only [List.mem_filter, List.mem_range, List.size_toArray, Bool.and_eq_true, Bool.not_eq_true']
  constructor
  · rintro ⟨hi, h1, h2⟩
    have hg : ops[i]? = some ops[i] := List.getElem?_eq_getElem hi
    refine ⟨_, hg, h1, (key _).1 ?_⟩
    rw [List.getElem?_toArray, hg] at h2
    exact h2
  · rintro ⟨o, ho, h1, h2⟩
    have hi := (List.getElem?_eq_some_iff.1 ho).1
    refine ⟨hi, h1, ?_⟩
    rw [List.getElem?_toArray, ho]
    exact (key o).2 h2

theorem getD_set {listed : Array Bool} {i j : Nat} {b d : Bool} (hi : i < listed.size) : (listed.setIfInBounds i b).getD j d = if i = j then b else listed.getD j d := by
  rw [Array.getD_eq_getD_getElem?, Array.getElem?_setIfInBounds, Array.getD_eq_getD_getElem?]
  split
  · rename_i e; subst e; simp [hi]
  · rfl

theorem idx_nodup {D : List Nat} (hnd : D.Nodup) {i d : Nat} (hd : D[i]? = some d) : D.idxOf d = i := by
  obtain ⟨hi, rfl⟩ := List.getElem?_eq_some_iff.1 hd
  exact hnd.idxOf_getElem i hi
theorem vis_set {D : List Nat} (hnd : D.Nodup) {listed : Array Bool} {i d : Nat} (hi : i < listed.size) (hd : D[i]? = some d) : vis D (listed.setIfInBounds i true) = fun x => vis D listed x || x == d := by
  funext x
  unfold vis
  rw [getD_set hi]
  by_cases hx : x = d
  · subst hx
    rw [idx_nodup hnd hd]
    simp
  · by_cases hm : x ∈ D
    · have hne : i ≠ D.idxOf x := fun e => by
        have h0 := List.idxOf_lt_length_of_mem hm
        have h1 : D[D.idxOf x]? = some x := by rw [List.getElem?_eq_getElem h0, List.getElem_idxOf h0]
        rw [← e, hd] at h1
        exact hx (Option.some.inj h1).symm
      rw [if_neg hne]
      have : (x == d) = false := by simpa using hx
      simp [this]
    · have : D.contains x = false := by simpa using hm
      simp only [this, Bool.not_false, Bool.true_or]
theorem vis_tail {D : List Nat} {listed : Array Bool} {i : Nat} (hi : i < listed.size) (hd : D.length ≤ i) : vis D (listed.setIfInBounds i true) = vis D listed := by
  funext x
  unfold vis
  rw [getD_set hi]
  by_cases hm : x ∈ D
  · have := List.idxOf_lt_length_of_mem hm
    rw [if_neg (by omega)]
  · have : D.contains x = false := by simpa using hm
    simp only [this, Bool.not_false, Bool.true_or]

theorem getD_dflt {l : Array Bool} {i : Nat} (h : i < l.size) (b b' : Bool) : l.getD i b = l.getD i b' := by
  rw [Array.getD_eq_getD_getElem?, Array.getD_eq_getD_getElem?]; simp [h]

/-- the number of those that are still to come -/
def toCome (m : Nat) (listed : Array Bool) : Nat := ((List.range m).filter fun i => !listed.getD i true).length
theorem toCome_set {m : Nat} {listed : Array Bool} {i : Nat} (hi : i < listed.size) (him : i < m) (h : listed.getD i true = false) : toCome m (listed.setIfInBounds i true) < toCome m listed := by
  unfold toCome
  have h1 : ((List.range m).filter fun j => !(listed.setIfInBounds i true).getD j true) = ((List.range m).filter fun j => !listed.getD j true).filter fun j => j != i := by
    rw [List.filter_filter]
    refine List.filter_congr fun j _ => ?_
    rw [getD_set hi]
    by_cases e : i = j
    · subst e; simp
    · have : (j != i) = true := by simpa using fun h => e h.symm
      rw [if_neg e, this, Bool.true_and]
  rw [h1]
  have hmem : i ∈ (List.range m).filter fun j => !listed.getD j true := List.mem_filter.2 ⟨List.mem_range.2 him, by rw [h]; rfl⟩
  exact List.length_filter_lt_length_iff_exists.2 ⟨i, hmem, by simp⟩

/-- what is known of a drawn region -/
structure Drawn (P : Program) (N : Nat) (ops : List Oper) (n : Nat) (fs : List FO) (Ef : Env) (J : Env → Prop) : Prop where
  chk : chkL P N ops fs ops = true
  draw : drawChk n fs ops = true
  sorted : Ef.Sorted
  roots : rootsOk (dests (fs.take n)) Ef = true
  keys : ∀ f ∈ fs.take n, (f.d, Ef.get f.d) ∈ Ef
  tab : ∀ pre f post, fs.take n = pre ++ f :: post → detG P f (Ef.only fun x => !(dests (f :: post)).contains x) (· = Ef.get f.d)
  rest : runOps P (fs.drop n) Ef J

theorem drawn_any {ops : List Oper} {n : Nat} {fs : List FO} {Ef : Env} {J : Env → Prop} {Q : Exit → Act → World → Prop} {w0 : World} {S0 : Nat → Prop} {R0 : List Nat} (hA0 : Amb P w0 S0) (hs0 : ∀ b, S0 b → b < w0.heap.size ∧ b ∉ R0) (D : Drawn P N ops n fs Ef J)
    (hq : ∀ a' w', Post N xv J w0 S0 R0 a' w' → Q .normal a' w') : ∀ (fuel : Nat) (listed : Array Bool) (a : Act) (w : World), listed.size = ops.length → toCome ops.length listed ≤ fuel → Closed ops (fun i => listed.getD i false = true) →
    Phase P N xv w0 S0 R0 n fs Ef J listed a w → wpAny P .any ops.toArray Q fuel listed a w := by
  have hd := D.draw
  simp only [drawChk, Bool.and_eq_true, decide_eq_true_eq] at hd
  obtain ⟨hnd, hn, hedges, hsrcs, htail⟩ := hd
  have hnd := nodupB_spec hnd
  obtain ⟨hlen, hget⟩ := chkL_get D.chk
  have hDlen : (dests (fs.take n)).length = n := by simp [dests]; omega
  have fsome : ∀ {i : Nat} {o : Oper}, ops[i]? = some o → ∃ f, fs[i]? = some f ∧ f.chk P N ops o = true := fun {i o} ho => by
    have hi := (List.getElem?_eq_some_iff.1 ho).1
    have hf : fs[i]? = some (fs[i]'(by omega)) := List.getElem?_eq_getElem (by omega)
    exact ⟨_, hf, hget i _ o hf ho⟩
  have visAll : ∀ {listed : Array Bool}, listed.size = ops.length → (∀ i, i < n → listed.getD i true = true) → Ef.only (vis (dests (fs.take n)) listed) = Ef := fun {listed} hsz hall => only_all fun x hx => by
    unfold vis
    by_cases hm : x.1 ∈ dests (fs.take n)
    · have := List.idxOf_lt_length_of_mem hm
      have h3 := hall _ (show (dests (fs.take n)).idxOf x.1 < n by omega)
      rw [getD_dflt (by omega) false true, h3, Bool.or_true]
    · have : (dests (fs.take n)).contains x.1 = false := by simpa using hm
      simp only [this, Bool.not_false, Bool.true_or]
  -- all is done
  have done : ∀ {listed a w}, listed.size = ops.length → (∀ i, i < ops.length → listed.getD i true = true) → Phase P N xv w0 S0 R0 n fs Ef J listed a w → Q .normal a w := by
    intro listed a w hsz hall ph
    cases ph with
    | light S R h1 r e =>
      have hnn : n = fs.length := by
        rcases Nat.lt_or_ge n fs.length with h | h
        · have := h1 n (Nat.le_refl _) h
          rw [hall n (by omega)] at this; cases this
        · omega
      rw [visAll hsz fun i hi => hall i (by omega)] at r
      have hrest := D.rest
      rw [hnn, List.drop_length] at hrest
      exact hq a w ⟨Ef, S, R, hrest, r, e⟩
    | tail k S R E h0 h1 h2 r e h =>
      have : k = fs.length := by
        rcases Nat.lt_or_ge k fs.length with hk | hk
        · have := h2 k hk
          rw [hall k (by omega)] at this
          simp at this
        · omega
      subst this
      rw [List.drop_length] at h
      exact hq a w ⟨E, S, R, h, r, e⟩
  intro fuel
  induction fuel with
  | zero =>
    intro listed a w hsz hcnt hcl ph
    have hall : ∀ i, i < ops.length → listed.getD i true = true := fun i hi => by
      have h0 : ((List.range ops.length).filter fun i => !listed.getD i true) = [] := List.length_eq_zero_iff.1 (Nat.le_zero.1 hcnt)
      have := List.filter_eq_nil_iff.1 h0 i (List.mem_range.2 hi)
      simpa only [Bool.not_eq_true', Bool.not_eq_false] using this
    refine ⟨?_, done hsz hall ph⟩
    rw [List.eq_nil_iff_forall_not_mem]
    intro i hi
    obtain ⟨o, ho, h1, _⟩ := ready_iff.1 hi
    rw [hall i (List.getElem?_eq_some_iff.1 ho).1] at h1
    cases h1
  | succ fuel ih =>
    intro listed a w hsz hcnt hcl ph
    refine ⟨fun hre => done hsz (fun i => ?_) ph, fun i hi => ?_⟩
    · induction i using Nat.strongRecOn with
      | _ i ihi =>
      intro hi
      cases hl : listed.getD i true with
      | true => rfl
      | false =>
        exfalso
        have ho : ops[i]? = some (ops[i]'hi) := List.getElem?_eq_getElem hi
        have : i ∈ Region.ready .any ops.toArray listed := ready_iff.2 ⟨_, ho, hl, fun e he => by
          have := edgesOk_spec hedges ho e he
          rw [getD_dflt (by omega) false true]
          exact ihi e (by omega) (by omega)⟩
        rw [hre] at this
        cases this
    · obtain ⟨o, ho, hun, hed⟩ := ready_iff.1 hi
      have hil := (List.getElem?_eq_some_iff.1 ho).1
      obtain ⟨f, hf, hchk⟩ := fsome ho
      simp only [FO.chk, Bool.and_eq_true] at hchk
      -- the state behind
      have hsz' : (listed.setIfInBounds i true).size = ops.length := by rw [Array.size_setIfInBounds]; exact hsz
      have hcnt' : toCome ops.length (listed.setIfInBounds i true) ≤ fuel := by have := toCome_set (by omega) hil hun; omega
      have hcl' : Closed ops (fun j => (listed.setIfInBounds i true).getD j false = true) := fun j oj hj hlj e he => by
        have hlj : (listed.setIfInBounds i true).getD j false = true := hlj
        show (listed.setIfInBounds i true).getD e false = true
        rw [getD_set (by omega)] at hlj ⊢
        split
        · rfl
        · split at hlj
          · rename_i h; subst h
            rw [ho] at hj; cases hj
            exact hed e he
          · exact hcl j oj hj hlj e he
      unfold wpOp
      rw [List.getElem?_toArray, ho]
      simp only
      -- what lies behind the first n comes one after the other
      have ahead : n ≤ i → ∀ j, j < i → listed.getD j true = true := fun hni j hj => by
        have h1 := masks_spec hcl ops [] [] rfl rfl (fun i o h => by simp at h) i o ho hed j
        rw [getD_dflt (by omega) true false]
        refine h1 ?_
        rw [← tailOk_spec htail i hni (by omega) j hj]
      cases ph with
      | light S R h1 r e =>
        rcases Nat.lt_or_ge i n with hin | hin
        · -- one of those that may come in any order
          have hfd : (dests (fs.take n))[i]? = some f.d := by
            simp only [dests, List.getElem?_map, List.getElem?_take, if_pos hin, hf, Option.map_some]
          have hmemf : f ∈ fs.take n := List.mem_iff_getElem?.2 ⟨i, by rw [List.getElem?_take, if_pos hin]; exact hf⟩
          have hft : (fs.take n)[i]? = some f := by rw [List.getElem?_take, if_pos hin]; exact hf
          obtain ⟨hit, hfe⟩ := List.getElem?_eq_some_iff.1 hft
          have hsplit : fs.take n = (fs.take n).take i ++ f :: (fs.take n).drop (i + 1) := by
            rw [← hfe, ← List.drop_eq_getElem_cons hit, List.take_append_drop]
          have htab := D.tab _ _ _ hsplit
          have hdd : dests (fs.take n) = dests ((fs.take n).take i) ++ dests (f :: (fs.take n).drop (i + 1)) := by
            have := congrArg dests hsplit
            simpa [dests] using this
          have hmem_dests : f.d ∈ dests (fs.take n) := List.mem_iff_getElem?.2 ⟨i, hfd⟩
          -- what it reads is the same
          have hag : ∀ s ∈ f.srcs, Agree (Ef.only fun x => !(dests (f :: (fs.take n).drop (i + 1))).contains x) (Ef.only (vis (dests (fs.take n)) listed)) s := fun s hs => by
            have hsrc := srcsOk_spec hsrcs hft ho s hs
            -- seen in both
            have v1 : (!(dests (f :: (fs.take n).drop (i + 1))).contains s) = true := by
              rw [Bool.not_eq_true', ← Bool.not_eq_true]
              intro hm
              have hm : s ∈ dests (f :: (fs.take n).drop (i + 1)) := by simpa using hm
              have hmD : s ∈ dests (fs.take n) := by rw [hdd]; simp [hm]
              have hlt := edgesOk_spec hedges ho _ (hsrc hmD)
              -- but it stands at i or behind
              obtain ⟨q, hq⟩ := List.mem_iff_getElem?.1 hm
              have hq2 : (dests (fs.take n))[i + q]? = some s := by
                rw [hdd, List.getElem?_append_right (by simp [dests]; omega)]
                have : (dests ((fs.take n).take i)).length = i := by simp [dests]; omega
                rw [this, Nat.add_sub_cancel_left]
                exact hq
              have := idx_nodup hnd hq2
              omega
            have v2 : vis (dests (fs.take n)) listed s = true := by
              unfold vis
              by_cases hm : s ∈ dests (fs.take n)
              · rw [hed _ (hsrc hm), Bool.or_true]
              · have : (dests (fs.take n)).contains s = false := by simpa using hm
                simp only [this, Bool.not_false, Bool.true_or]
            refine ⟨by rw [get_only, get_only, if_pos v2, if_pos v1], ?_⟩
            intro rr p hal
            rw [get_only, if_pos v1] at hal
            have hmemE : (s, Ef.get s) ∈ Ef := Env.get_mem (by rcases hal with h | h <;> rw [h] <;> simp)
            have hroot := List.all_eq_true.1 D.roots _ hmemE
            have hnr : (dests (fs.take n)).contains rr = false := by
              rcases hal with h | h <;> rw [h] at hroot <;> simpa [rootOk] using hroot
            have hnr2 : (dests (f :: (fs.take n).drop (i + 1))).contains rr = false := by
              rw [← Bool.not_eq_true]
              intro hm
              have hm : rr ∈ dests (f :: (fs.take n).drop (i + 1)) := by simpa using hm
              have : rr ∈ dests (fs.take n) := by rw [hdd]; simp [hm]
              have := List.contains_iff_mem.2 this
              rw [hnr] at this; cases this
            rw [get_only, get_only, if_pos (by unfold vis; rw [hnr]; rfl), if_pos (by rw [hnr2]; rfl)]
          have hst := detG_step (detG_agree hag htab)
          refine step_ok hchk.1 hchk.2 (hA0.ext e hs0) r hst fun a' w' hp => ?_
          obtain ⟨E', S', R', ⟨v, rfl, rfl⟩, r', e'⟩ := hp
          have hvd : vis (dests (fs.take n)) listed f.d = false := by
            unfold vis
            have h3 : (dests (fs.take n)).contains f.d = true := by simpa using hmem_dests
            rw [h3, idx_nodup hnd hfd, getD_dflt (by omega) false true, hun]; rfl
          have hfresh : ∀ x ∈ Ef.only (vis (dests (fs.take n)) listed), x.1 ≠ f.d := fun x hx hxd => by
            have := (only_mem.1 hx).2
            rw [hxd, hvd] at this; cases this
          rw [upd_fresh hfresh, only_put _ _ _ hvd Ef D.sorted (D.keys f hmemf)] at r'
          refine ih _ a' w' hsz' hcnt' hcl' (.light S' R' (fun j hj1 hj2 => ?_) ?_ (e.trans e'))
          · rw [getD_set (by omega), if_neg (by omega)]; exact h1 j hj1 hj2
          · rw [vis_set hnd (by omega) hfd]; exact r'
        · have hni : i = n := by
            rcases Nat.lt_or_ge n i with h | h
            · have h2 := ahead hin n h
              rw [h1 n (Nat.le_refl _) (by omega)] at h2; cases h2
            · omega
          subst hni
          rw [visAll hsz fun j hj => ahead hin j hj] at r
          have hrest := D.rest
          have hdrop : fs.drop i = f :: fs.drop (i + 1) := by
            obtain ⟨hfi, hfe⟩ := List.getElem?_eq_some_iff.1 hf
            rw [← hfe, ← List.drop_eq_getElem_cons hfi]
          rw [hdrop, runOps_cons] at hrest
          refine step_ok hchk.1 hchk.2 (hA0.ext e hs0) r hrest fun a' w' hp => ?_
          obtain ⟨E', S', R', k, r', e'⟩ := hp
          refine ih _ a' w' hsz' hcnt' hcl' (.tail (i + 1) S' R' E' (by omega) (by omega) (fun j hj => ?_) r' (e.trans e') k)
          rw [getD_set (by omega)]
          split
          · simp; omega
          · rcases Nat.lt_or_ge j i with h | h
            · rw [ahead hin j h]; simp; omega
            · rw [h1 j h hj]; simp; omega
      | tail k S R E h0 h1 h2 r e h =>
        have hik : i = k := by
          have h3 := h2 i (by omega)
          rw [hun] at h3
          have h4 : ¬ i < k := by simpa using h3.symm
          rcases Nat.lt_or_ge k i with h5 | h5
          · have h6 := ahead (by omega) k h5
            rw [h2 k (by omega)] at h6
            simp at h6
          · omega
        subst hik
        have hdrop : fs.drop i = f :: fs.drop (i + 1) := by
          obtain ⟨hfi, hfe⟩ := List.getElem?_eq_some_iff.1 hf
          rw [← hfe, ← List.drop_eq_getElem_cons hfi]
        rw [hdrop, runOps_cons] at h
        refine step_ok hchk.1 hchk.2 (hA0.ext e hs0) r h fun a' w' hp => ?_
        obtain ⟨E', S', R', k', r', e'⟩ := hp
        refine ih _ a' w' hsz' hcnt' hcl' (.tail (i + 1) S' R' E' (by omega) (by omega) (fun j hj => ?_) r' (e.trans e') k')
        rw [getD_set (by omega)]
        split
        · simp; omega
        · rw [h2 j hj]
          by_cases h5 : j < i
          · simp [h5]; omega
          · simp [h5]; omega
end
end Go.Fm
/- Code as data, and what is asked of it. -/
set_option linter.unusedVariables false
set_option linter.unusedSimpArgs false
namespace Go.Fm
open Go

inductive FC where
  | skip
  /-- (dr: the first so many operations draw their order) -/
  | reg (dr : Option Nat) (fs : List FO) (ks : List Nat)
  | seq (x y : FC)
  | cond (s : Sr) (x y : FC)
  | block (id : Nat) (x : FC)
  | loop (x : FC)
  | exit (id : Nat)
  | ret

def FC.chk (P : Program) (N : Nat) : FC → Code → Bool
  | .skip, .skip => true
  | .reg none fs _, .region _ ⟨ops⟩ false => chkL P N ops fs ops
  | .reg (some n) fs _, .region _ ⟨ops⟩ true => chkL P N ops fs ops && drawChk n fs ops
  | .seq x y, .seq x' y' => x.chk P N x' && y.chk P N y'
  | .cond s x y, .cond s' x' y' => s.fits N s' && (x.chk P N x' && y.chk P N y')
  | .block id x, .block id' x' => id == id' && x.chk P N x'
  | .loop x, .loop x' => x.chk P N x'
  | .exit id, .exit id' => id == id'
  | .ret, .ret => true
  | _, _ => false

def FW (P : Program) (N : Nat) (c : FC) (E : Env) (K : Exit → Env → Prop) : Prop := ∀ c', c.chk P N c' = true → CodeOk P N c' E K

section
variable {P : Program} {N : Nat} {E : Env} {K : Exit → Env → Prop}

theorem FW.mono {c : FC} {K' : Exit → Env → Prop} (h : FW P N c E K) (hk : ∀ e E', K e E' → K' e E') : FW P N c E K' := fun c' hc => CodeOk.mono (fun hA r => h c' hc hA r) hk
theorem FW.skip (h : K .normal E) : FW P N .skip E K := fun c' hc => by
  cases c' <;> simp only [FC.chk, Bool.false_eq_true] at hc
  exact fun hA r => CodeOk.skip h hA r
theorem FW.ret (h : K .ret E) : FW P N .ret E K := fun c' hc => by
  cases c' <;> simp only [FC.chk, Bool.false_eq_true] at hc
  exact fun hA r => CodeOk.ret h hA r
theorem FW.exit {id : Nat} (h : K (.exit id) E) : FW P N (.exit id) E K := fun c' hc => by
  cases c' <;> simp only [FC.chk, Bool.false_eq_true] at hc
  simp only [beq_iff_eq] at hc
  subst hc
  exact fun hA r => CodeOk.exit h hA r
theorem FW.seq {x y : FC} (h : FW P N x E (thenK (fun E' => FW P N y E' K) K)) : FW P N (.seq x y) E K := fun c' hc => by
  cases c' <;> simp only [FC.chk, Bool.false_eq_true] at hc
  simp only [Bool.and_eq_true] at hc
  refine fun hA r => CodeOk.seq (fun hA r => CodeOk.mono (fun hA r => h _ hc.1 hA r) (fun e E' k => ?_) hA r) hA r
  cases e with
  | normal => exact fun hA r => k _ hc.2 hA r
  | _ => exact k
theorem FW.seq_k {x y : FC} (h : ∀ J : Env → Prop, (∀ E', FW P N y E' K → J E') → FW P N x E (thenK J K)) : FW P N (.seq x y) E K := FW.seq (h _ fun _ h => h)
theorem FW.cond {s : Sr} {x y : FC} {b : Bool} (hb : E.look s = .bool b) (h : FW P N (if b then x else y) E K) : FW P N (.cond s x y) E K := fun c' hc => by
  cases c' <;> simp only [FC.chk, Bool.false_eq_true] at hc
  simp only [Bool.and_eq_true] at hc
  refine fun hA r => CodeOk.cond hc.1 hb (fun hA r => ?_) hA r
  cases b
  · exact h _ hc.2.2 hA r
  · exact h _ hc.2.1 hA r
theorem FW.block {id : Nat} {x : FC} (h : FW P N x E (blockK id K)) : FW P N (.block id x) E K := fun c' hc => by
  cases c' <;> simp only [FC.chk, Bool.false_eq_true] at hc
  simp only [Bool.and_eq_true, beq_iff_eq] at hc
  obtain ⟨rfl, hc⟩ := hc
  exact fun hA r => CodeOk.block (fun hA r => h _ hc hA r) hA r
theorem FW.loop {x : FC} (I : Nat → Env → Prop) (n : Nat) (h0 : I n E) (h : ∀ n E, I n E → FW P N x E (thenK (fun E' => ∃ m, m < n ∧ I m E') K)) : FW P N (.loop x) E K := fun c' hc => by
  cases c' <;> simp only [FC.chk, Bool.false_eq_true] at hc
  exact fun hA r => CodeOk.loop I n h0 (fun n E' hi => by intro xv a w S R hA2 r2; exact h n E' hi _ hc hA2 r2) hA r
/-- a loop over states: what stands in the slots is a function of the state -/
theorem FW.loopS {x : FC} {α : Type} (I : α → Env) (μ : α → Nat) (G : α → Prop) (s : α) (h0 : I s = E) (hg : G s) (h : ∀ s, G s → FW P N x (I s) (thenK (fun E' => ∃ t, E' = I t ∧ G t ∧ μ t < μ s) K)) : FW P N (.loop x) E K := by
  refine FW.loop (fun n E' => ∃ t, E' = I t ∧ G t ∧ μ t = n) (μ s) ⟨s, h0.symm, hg, rfl⟩ ?_
  rintro n E' ⟨t, rfl, hg', rfl⟩
  refine (h t hg').mono fun e E2 k => ?_
  cases e with
  | normal => obtain ⟨u, h1, h2, h3⟩ := k; exact ⟨μ u, h3, u, h1, h2, rfl⟩
  | _ => exact k
theorem FW.kill {c : FC} (ks : List Nat) (h : FW P N c (E.kills ks) K) : FW P N c E K := fun c' hc => by
  intro xv a w S R hA r
  exact CodeOk.kill ks (fun hA r => h c' hc hA r) hA r
/-- the same, with slots that are dead at the head of a round -/
theorem FW.loopK {x : FC} {α : Type} (ks : List Nat) (I : α → Env) (μ : α → Nat) (G : α → Prop) (s : α) (h0 : E.kills ks = I s) (hg : G s) (h : ∀ s, G s → FW P N x (I s) (thenK (fun E' => ∃ t, E'.kills ks = I t ∧ G t ∧ μ t < μ s) K)) : FW P N (.loop x) E K := by
  refine FW.loop (fun n E' => ∃ t, E'.kills ks = I t ∧ G t ∧ μ t = n) (μ s) ⟨s, h0, hg, rfl⟩ ?_
  rintro n E' ⟨t, he, hg', rfl⟩
  refine FW.kill ks ?_
  rw [he]
  refine (h t hg').mono fun e E2 k => ?_
  cases e with
  | normal => obtain ⟨u, h1, h2, h3⟩ := k; exact ⟨μ u, h3, u, h1, h2, rfl⟩
  | _ => exact k
theorem reg_inv {fs : List FO} {ks : List Nat} : ∀ c' : Code, FC.chk P N (.reg none fs ks) c' = true → ∃ id ops, c' = .region id (List.toArray ops) false ∧ chkL P N ops fs ops = true
  | .region id ⟨ops⟩ false, hc => ⟨id, ops, rfl, hc⟩
theorem FW.reg {fs : List FO} {ks : List Nat} (h : runOps P fs E (fun E' => K .normal (E'.kills ks))) : FW P N (.reg none fs ks) E K := fun c' hc => by
  obtain ⟨id, ops, rfl, hc⟩ := reg_inv c' hc
  intro xv a w S R hA r
  refine wp_mono (CodeOk.region (id := id) (K := fun e E' => match e with | .normal => K .normal (E'.kills ks) | _ => False) hc h hA r) fun e a' w' p => ?_
  obtain ⟨E', S', R', k, r', e1⟩ := p
  cases e <;> simp only at k <;> try exact k.elim
  obtain ⟨R2, r2, h2⟩ := r'.kills ks
  exact ⟨_, S', R2, k, r2, e1.trans (Ext.refl _ _ _ _ h2)⟩

theorem draw_inv {n : Nat} {fs : List FO} {ks : List Nat} : ∀ c' : Code, FC.chk P N (.reg (some n) fs ks) c' = true → ∃ id ops, c' = .region id (List.toArray ops) true ∧ chkL P N ops fs ops = true ∧ drawChk n fs ops = true
  | .region id ⟨ops⟩ true, hc => ⟨id, ops, rfl, by simpa only [FC.chk, Bool.and_eq_true] using hc⟩
theorem repl_getD (m i : Nat) : (Array.replicate m false).getD i false = false := by
  rw [Array.getD_eq_getD_getElem?, Array.getElem?_replicate]; split <;> rfl
theorem FW.draw {n : Nat} {fs : List FO} {ks : List Nat} (hm : P.follows .mixedOrders = true) (hf : freshOk (dests (fs.take n)) E = true)
    (h : runDet P (fs.take n) E (fun Ef => rootsOk (dests (fs.take n)) Ef = true ∧ runOps P (fs.drop n) Ef (fun E' => K .normal (E'.kills ks)))) : FW P N (.reg (some n) fs ks) E K := fun c' hc => by
  obtain ⟨id, ops, rfl, hc, hdr⟩ := draw_inv c' hc
  intro xv a w S R hA r
  have hdr0 := hdr
  simp only [drawChk, Bool.and_eq_true, decide_eq_true_eq] at hdr0
  obtain ⟨Ef, ⟨i1, i1'⟩, i2, i3, i4, i5⟩ := runDet_table r.sorted (nodupB_spec hdr0.1) (fun f hf' x hx e => by
    have := List.all_eq_true.1 hf x hx
    rw [e] at this
    have hm : (dests (fs.take n)).contains f.d = true := List.contains_iff_mem.2 (List.mem_map.2 ⟨f, hf', rfl⟩)
    rw [hm] at this; cases this) h
  refine wp_region_any hm ?_
  have r1 : Rel N xv E a { w with drawn := w.drawn + 1 } S R := r.world (Nat.le_refl _) (fun _ _ _ => rfl) (fun _ _ => rfl)
  have e1 : Ext w S R { w with drawn := w.drawn + 1 } S R := ⟨fun _ h => h, fun _ h => .inl h, fun _ _ _ => rfl, Nat.le_refl _, fun b m => .inl m, rfl, rfl, rfl, fun _ h => h⟩
  refine @drawn_any P N xv ops n fs Ef (fun E' => K .normal (E'.kills ks)) (Rests N xv K w S R) w S R hA r.sep ⟨hc, hdr, i2, i1, i4, i5, i1'⟩ (fun a' w' hp => ?_) _ _ a _ (by simp) ?_ ?_ (.light S R ?_ ?_ e1)
  -- (J := fun E' => K .normal (E'.kills ks)) (w0 := w) (S0 := S) (R0 := R) ⟨hc, hdr, i2, i1, i4, i5, i1'⟩ (fun a' w' hp => ?_) _ _ a _ (by simp) ?_ ?_ (.light S R ?_ ?_ e1)
  · obtain ⟨E', S', R', k, r', e'⟩ := hp
    obtain ⟨R2, r2, h2⟩ := r'.kills ks
    exact ⟨_, S', R2, k, r2, e'.trans (Ext.refl _ _ _ _ h2)⟩
  · unfold toCome
    refine Nat.le_trans (List.length_filter_le _ _) ?_
    simp
  · intro i o _ hl
    exfalso
    have hl : (Array.replicate (List.toArray ops).size false).getD i false = true := hl
    rw [repl_getD] at hl
    cases hl
  · intro i hi hil
    have : fs.length = ops.length := (chkL_get hc).1
    rw [getD_dflt (by simp; omega) true false, repl_getD]
  · have : Ef.only (vis (dests (fs.take n)) (Array.replicate (List.toArray ops).size false)) = E := by
      rw [← i3]
      refine only_congr fun x _ => ?_
      unfold vis
      rw [repl_getD, Bool.or_false]
    rw [this]
    exact r1

/-- the function's body is this code -/
def fnOk (P : Program) (fn : Func) (fc : FC) (N na : Nat) (rs : List RV) : Bool :=
  match fn.body with
  | some c => fc.chk P N c && (fn.ntmps == N && (decide (N ≤ X0) && (decide (na ≤ N) && (decide (fn.results.size ≤ 4) && (rs.length == fn.results.toList.length && List.all (rs.zip fn.results.toList) (fun y => y.1.chk P N y.2))))))
  | none => false

theorem FCall.of {f : FuncId} {fn : Func} {fc : FC} {fs : List FV} {na : Nat} {rs : List RV} {J : FV → Prop} (hf : P.funcs[f]? = some fn) (hc : fnOk P fn fc N na rs = true) (hl : fs.length = na)
    (h : FW P N fc (entryFrom 0 fs) (fun e E' => (e = .normal ∨ e = .ret) ∧ ∃ x, outs E' rs = some x ∧ J (one x.1))) : FCall P f fs J := by
  unfold fnOk at hc
  cases hb : fn.body with
  | none => rw [hb] at hc; cases hc
  | some c =>
  rw [hb] at hc
  simp only [Bool.and_eq_true, beq_iff_eq, decide_eq_true_eq] at hc
  obtain ⟨h1, h2, h3, h4, h5, h6, h7⟩ := hc
  exact FCall.body hf hb h2 h3 (by omega) h7 h6 h5 (fun hA r => h c h1 hA r)
end
end Go.Fm
/- How a walk is computed: rewriting rules for environments, operations and regions. -/
set_option linter.unusedVariables false
set_option linter.unusedSimpArgs false
namespace Go.Fm
open Go

/-- (what bears a tag is not looked into) -/
inductive Tag {α : Type} (a : α) : Type
  | mk
def FCallT (P : Program) (f : FuncId) (fs : List FV) (K : FV → Prop) (_ : Tag K) : Prop := FCall P f fs K
def FWT (P : Program) (N : Nat) (c : FC) (E : Env) (K : Exit → Env → Prop) (_ : Tag (c, K)) : Prop := FW P N c E K

section
variable {P : Program} {N : Nat} {E : Env} {K : Exit → Env → Prop}
theorem FCallT.of {f : FuncId} {fs : List FV} {K J : FV → Prop} {t : Tag K} (h : FCall P f fs J) (hk : ∀ r, J r → K r) : FCallT P f fs K t := h.mono hk

/-! ### environments -/
@[go_sem] theorem e_get_nil (t : Nat) : Env.get [] t = .undef := rfl
@[go_sem] theorem e_get_cons (k t : Nat) (v : FV) (E : Env) : Env.get ((k, v) :: E) t = if k = t then v else Env.get E t := rfl
@[go_sem] theorem e_put_nil (t : Nat) (f : FV) : Env.put [] t f = [(t, f)] := rfl
@[go_sem] theorem e_put_cons (k t : Nat) (v f : FV) (E : Env) : Env.put ((k, v) :: E) t f = if k = t then (t, f) :: E else if t < k then (t, f) :: (k, v) :: E else (k, v) :: Env.put E t f := rfl
@[go_sem] theorem e_del_nil (t : Nat) : Env.del [] t = [] := rfl
@[go_sem] theorem e_del_cons (k t : Nat) (v : FV) (E : Env) : Env.del ((k, v) :: E) t = if k = t then E else (k, v) :: Env.del E t := rfl
@[go_sem] theorem e_mapV_nil (g : FV → FV) : Env.mapV [] g = [] := rfl
@[go_sem] theorem e_mapV_cons (k : Nat) (v : FV) (E : Env) (g : FV → FV) : Env.mapV ((k, v) :: E) g = (k, g v) :: Env.mapV E g := rfl
/-- the old value owns memory: what leans on it goes -/
def Env.clearB (E : Env) (d : Nat) : Bool → Env
  | true => E.mapV (unroot d)
  | false => E
@[go_sem] theorem e_upd (d : Nat) (f : FV) : E.upd d f = (E.clearB d (E.get d).owned).put d f := by
  unfold Env.upd Env.clear Env.clearB
  cases (E.get d).owned <;> rfl
@[go_sem] theorem e_kill (d : Nat) : E.kill d = (E.clearB d (E.get d).owned).del d := by
  unfold Env.kill Env.clear Env.clearB
  cases (E.get d).owned <;> rfl
@[go_sem] theorem e_clearB_true (d : Nat) : E.clearB d true = E.mapV (unroot d) := rfl
@[go_sem] theorem e_clearB_false (d : Nat) : E.clearB d false = E := rfl
@[go_sem] theorem e_kills_nil : E.kills [] = E := rfl
@[go_sem] theorem e_kills_cons (k : Nat) (ks : List Nat) : E.kills (k :: ks) = (E.kill k).kills ks := rfl
@[go_sem] theorem e_look_k (v : FV) : E.look (.k v) = v := rfl
@[go_sem] theorem e_look_t (n : Nat) : E.look (.t n) = view n (E.get n) := rfl
@[go_sem] theorem e_at_nil (r : Nat) : E.at r [] = E.get r := rfl

section values
variable (n r q d : Nat) (p : Path) (k : IntKind) (i : Int) (b : Bool) (s : List UInt8) (u : Bool) (es : List (List FV)) (c : FV) (cs : List FV) (f : FuncId) (t : TypeId)
@[go_sem] theorem v_undef : view n .undef = .undef := rfl
@[go_sem] theorem v_int : view n (.int k i) = .int k i := rfl
@[go_sem] theorem v_bool : view n (.bool b) = .bool b := rfl
@[go_sem] theorem v_str : view n (.str s) = .str s := rfl
@[go_sem] theorem v_sl : view n (.sl u es) = .sl u es := rfl
@[go_sem] theorem v_arr : view n (.arr es) = .al n [] := rfl
@[go_sem] theorem v_buf : view n (.buf q) = .al n [] := rfl
@[go_sem] theorem v_box : view n (.box (c :: cs)) = .ptr n [(0, 0)] := rfl
@[go_sem] theorem v_ref : view n (.ref cs) = .ref cs := rfl
@[go_sem] theorem v_al : view n (.al r p) = .al r p := rfl
@[go_sem] theorem v_ptr : view n (.ptr r p) = .ptr r p := rfl
@[go_sem] theorem v_agg : view n (.agg cs) = if cs.all FV.plain then .agg cs else .undef := rfl
@[go_sem] theorem v_tup : view n (.tup cs) = .undef := rfl
@[go_sem] theorem v_fn : view n (.fn f cs) = if cs.all FV.plain then .fn f cs else .undef := rfl
@[go_sem] theorem v_iface : view n (.iface t c) = .undef := rfl
@[go_sem] theorem v_nilp : view n .nilp = .nilp := rfl
@[go_sem] theorem v_nilf : view n .nilf = .nilf := rfl
@[go_sem] theorem v_nili : view n .nili = .nili := rfl
@[go_sem] theorem o_undef : FV.undef.owned = false := rfl
@[go_sem] theorem o_int : (FV.int k i).owned = false := rfl
@[go_sem] theorem o_bool : (FV.bool b).owned = false := rfl
@[go_sem] theorem o_str : (FV.str s).owned = false := rfl
@[go_sem] theorem o_sl : (FV.sl u es).owned = false := rfl
@[go_sem] theorem o_arr : (FV.arr es).owned = true := rfl
@[go_sem] theorem o_buf : (FV.buf q).owned = true := rfl
@[go_sem] theorem o_box : (FV.box cs).owned = true := rfl
@[go_sem] theorem o_ref : (FV.ref cs).owned = false := rfl
@[go_sem] theorem o_al : (FV.al r p).owned = false := rfl
@[go_sem] theorem o_ptr : (FV.ptr r p).owned = false := rfl
@[go_sem] theorem o_agg : (FV.agg cs).owned = false := rfl
@[go_sem] theorem o_tup : (FV.tup cs).owned = false := rfl
@[go_sem] theorem o_fn : (FV.fn f cs).owned = false := rfl
@[go_sem] theorem o_iface : (FV.iface t c).owned = false := rfl
@[go_sem] theorem o_nilp : FV.nilp.owned = false := rfl
@[go_sem] theorem o_nilf : FV.nilf.owned = false := rfl
@[go_sem] theorem o_nili : FV.nili.owned = false := rfl
@[go_sem] theorem o_skip : skipped.owned = false := rfl
@[go_sem] theorem u_undef : unroot d .undef = .undef := rfl
@[go_sem] theorem u_int : unroot d (.int k i) = .int k i := rfl
@[go_sem] theorem u_bool : unroot d (.bool b) = .bool b := rfl
@[go_sem] theorem u_str : unroot d (.str s) = .str s := rfl
@[go_sem] theorem u_sl : unroot d (.sl u es) = .sl u es := rfl
@[go_sem] theorem u_arr : unroot d (.arr es) = .arr es := rfl
@[go_sem] theorem u_buf : unroot d (.buf q) = .buf q := rfl
@[go_sem] theorem u_box : unroot d (.box cs) = .box cs := rfl
@[go_sem] theorem u_ref : unroot d (.ref cs) = .ref cs := rfl
@[go_sem] theorem u_al : unroot d (.al r p) = if r = d then .undef else .al r p := rfl
@[go_sem] theorem u_ptr : unroot d (.ptr r p) = if r = d then .undef else .ptr r p := rfl
@[go_sem] theorem u_agg : unroot d (.agg cs) = .agg cs := rfl
@[go_sem] theorem u_tup : unroot d (.tup cs) = .tup cs := rfl
@[go_sem] theorem u_fn : unroot d (.fn f cs) = .fn f cs := rfl
@[go_sem] theorem u_iface : unroot d (.iface t c) = .iface t c := rfl
@[go_sem] theorem u_nilp : unroot d .nilp = .nilp := rfl
@[go_sem] theorem u_nilf : unroot d .nilf = .nilf := rfl
@[go_sem] theorem u_nili : unroot d .nili = .nili := rfl
@[go_sem] theorem u_skip : unroot d skipped = skipped := rfl
@[go_sem] theorem w_undef : unpath d p n .undef = .undef := rfl
@[go_sem] theorem w_int : unpath d p n (.int k i) = .int k i := rfl
@[go_sem] theorem w_bool : unpath d p n (.bool b) = .bool b := rfl
@[go_sem] theorem w_str : unpath d p n (.str s) = .str s := rfl
@[go_sem] theorem w_sl : unpath d p n (.sl u es) = .sl u es := rfl
@[go_sem] theorem w_arr : unpath d p n (.arr es) = .arr es := rfl
@[go_sem] theorem w_buf : unpath d p n (.buf q) = .buf q := rfl
@[go_sem] theorem w_box : unpath d p n (.box cs) = .box cs := rfl
@[go_sem] theorem w_ref : unpath d p n (.ref cs) = .ref cs := rfl
@[go_sem] theorem w_al (p' : Path) : unpath d p n (.al r p') = if r = d then (if hits p' p n then .undef else .al r p') else .al r p' := rfl
@[go_sem] theorem w_ptr (p' : Path) : unpath d p n (.ptr r p') = if r = d then (if thru p' p n then .undef else .ptr r p') else .ptr r p' := rfl
@[go_sem] theorem w_agg : unpath d p n (.agg cs) = .agg cs := rfl
@[go_sem] theorem w_tup : unpath d p n (.tup cs) = .tup cs := rfl
@[go_sem] theorem w_fn : unpath d p n (.fn f cs) = .fn f cs := rfl
@[go_sem] theorem w_iface : unpath d p n (.iface t c) = .iface t c := rfl
@[go_sem] theorem w_nilp : unpath d p n .nilp = .nilp := rfl
@[go_sem] theorem w_nilf : unpath d p n .nilf = .nilf := rfl
@[go_sem] theorem w_nili : unpath d p n .nili = .nili := rfl
@[go_sem] theorem w_skip : unpath d p n skipped = skipped := rfl
end values
attribute [go_sem] hits thru FV.notRoot FV.plain FV.alias FV.cells FV.nonNil FV.one FV.sealed sealedL sealedLL FV.free freeL freeLL FV.isSl FV.kids FV.setKids getN setN addOff

/-! ### operations -/
@[go_sem] theorem op_putIn (d : Nat) (f : FV) : putIn E d f = if f.notRoot d = true then some (E.upd d f) else none := rfl
attribute [go_sem] FOp.eval FOp.val Env.pass Env.passL Env.passM Env.setAt Env.wr Env.lend Env.plainAt ldF ldM stF faF iaF lenF apF binF intF strF isShift eqF eqL unF bdF fillF bsF mkSlF subStr subSl fdF bnd iaAF elemsAt elemsOf bytesF byteRow apBase apOut setRows

/-! ### regions -/
/-- the first entry of a slot, replaced -/
def Env.fix : Env → Nat → FV → Env
  | [], _, _ => []
  | (k, v) :: E, t, f => if k = t then (k, f) :: E else (k, v) :: Env.fix E t f
@[go_sem] theorem e_fix_nil (t : Nat) (f : FV) : Env.fix [] t f = [] := rfl
@[go_sem] theorem e_fix_cons (k t : Nat) (v f : FV) (E : Env) : Env.fix ((k, v) :: E) t f = if k = t then (k, f) :: E else (k, v) :: Env.fix E t f := rfl
theorem fix_get : ∀ (E : Env) (t : Nat), E.fix t (E.get t) = E
  | [], _ => rfl
  | (k, v) :: E, t => by
    simp only [Env.fix, Env.get]
    split
    · rfl
    · rw [fix_get E t]
theorem fix_bool {t : Nat} {b : Bool} (h : E.get t = .bool b) : E.fix t (.bool b) = E := by rw [← h]; exact fix_get E t
/-- what follows an operation that may fail -/
def runFrom (P : Program) (r : List FO) (J : Env → Prop) (x : Option Env) (_ : Tag (r, J)) : Prop := ∃ E', x = some E' ∧ runOps P r E' J
/-- what follows a guard -/
def runG (P : Program) (d : Nat) (k : FK) (t : Nat) (want : Bool) (r : List FO) (J : Env → Prop) (E : Env) (g : FV) (_ : Tag (k, r, J)) : Prop :=
  match g with
  | .bool b => (b = true → if want then runOps P (⟨d, k, none⟩ :: r) (E.fix t (.bool true)) J else runOps P r ((E.fix t (.bool true)).upd d skipped) J) ∧
      (b = false → if want then runOps P r ((E.fix t (.bool false)).upd d skipped) J else runOps P (⟨d, k, none⟩ :: r) (E.fix t (.bool false)) J)
  | .tup [] => runOps P r (E.upd d skipped) J
  | _ => False
@[go_sem ↓] theorem r_nil (J : Env → Prop) : runOps P [] E J = J E := propext Iff.rfl
@[go_sem ↓] theorem r_op (d : Nat) (f : FOp) (r : List FO) (J : Env → Prop) : runOps P (⟨d, .op f, none⟩ :: r) E J = runFrom P r J (f.eval E d) .mk := propext Iff.rfl
@[go_sem ↓] theorem r_call (d : Nat) (f : FuncId) (ss : List (Bool × Sr)) (r : List FO) (J : Env → Prop) : runOps P (⟨d, .call f ss, none⟩ :: r) E J = FCallT P f (E.passM ss).1 (fun v => runOps P r ((E.passM ss).2.upd d v) J) .mk := propext Iff.rfl
@[go_sem ↓] theorem r_callB (d : Nat) (f : FuncId) (ss : List Sr) (r : List FO) (J : Env → Prop) : runOps P (⟨d, .callB f ss, none⟩ :: r) E J = FCallT P f (ss.map E.lend) (fun v => v.free = true ∧ runOps P r (E.upd d v) J) .mk := propext Iff.rfl
@[go_sem ↓] theorem r_callL (d : Nat) (f : FuncId) (ss : List Sr) (r : List FO) (J : Env → Prop) : runOps P (⟨d, .callL f ss, none⟩ :: r) E J = ((ss.all fun s => !(E.look s).alias) = true ∧ FCallT P f (ss.map E.look) (fun v => runOps P r (E.upd d v) J) .mk) := propext Iff.rfl
@[go_sem ↓] theorem r_g (d : Nat) (k : FK) (t : Nat) (want : Bool) (r : List FO) (J : Env → Prop) : runOps P (⟨d, k, some (t, want)⟩ :: r) E J = runG P d k t want r J E (E.get t) .mk := by
  simp only [runOps, runG]
  cases hg : E.get t with
  | bool b =>
    have hf := fix_bool hg
    simp only
    cases b <;> cases want <;> simp [hf]
  | tup vs => cases vs <;> rfl
  | _ => rfl
@[go_sem] theorem rf_some (r : List FO) (J : Env → Prop) (t : Tag (r, J)) : runFrom P r J (some E) t = runOps P r E J := by
  unfold runFrom
  simp
@[go_sem] theorem rf_none (r : List FO) (J : Env → Prop) (t : Tag (r, J)) : runFrom P r J none t = False := by unfold runFrom; simp
@[go_sem] theorem rf_ite (r : List FO) (J : Env → Prop) (t : Tag (r, J)) (c : Prop) [Decidable c] (x : Option Env) : runFrom P r J (if c then x else none) t = (c ∧ runFrom P r J x t) := by
  by_cases h : c <;> simp [h, runFrom]
section
variable (d t : Nat) (k : FK) (r : List FO) (J : Env → Prop) (g : Tag (k, r, J))
@[go_sem] theorem rg_tt : runG P d k t true r J E (.bool true) g = runOps P (⟨d, k, none⟩ :: r) (E.fix t (.bool true)) J := by simp [runG]
@[go_sem] theorem rg_tf : runG P d k t true r J E (.bool false) g = runOps P r ((E.fix t (.bool false)).upd d skipped) J := by simp [runG]
@[go_sem] theorem rg_ft : runG P d k t false r J E (.bool true) g = runOps P r ((E.fix t (.bool true)).upd d skipped) J := by simp [runG]
@[go_sem] theorem rg_ff : runG P d k t false r J E (.bool false) g = runOps P (⟨d, k, none⟩ :: r) (E.fix t (.bool false)) J := by simp [runG]
@[go_sem] theorem rg_skip (w : Bool) : runG P d k t w r J E skipped g = runOps P r (E.upd d skipped) J := propext Iff.rfl
@[go_sem low] theorem rg_boolT (b : Bool) : runG P d k t true r J E (.bool b) g = ((b = true → runOps P (⟨d, k, none⟩ :: r) (E.fix t (.bool true)) J) ∧ (b = false → runOps P r ((E.fix t (.bool false)).upd d skipped) J)) := by simp [runG]
@[go_sem low] theorem rg_boolF (b : Bool) : runG P d k t false r J E (.bool b) g = ((b = true → runOps P r ((E.fix t (.bool true)).upd d skipped) J) ∧ (b = false → runOps P (⟨d, k, none⟩ :: r) (E.fix t (.bool false)) J)) := by simp [runG]
end
@[go_sem] theorem map_ite_none {α β : Type} (g : α → β) (c : Prop) [Decidable c] (x : Option α) : Option.map g (if c then x else none) = if c then Option.map g x else none := by split <;> rfl
@[go_sem] theorem bind_ite_none {α β : Type} (g : α → Option β) (c : Prop) [Decidable c] (x : Option α) : Option.bind (if c then x else none) g = if c then Option.bind x g else none := by split <;> rfl
attribute [go_sem] Option.map_some Option.map_none Option.bind_some Option.bind_none


/-! ### regions that draw -/
def detFrom (P : Program) (d : Nat) (r : List FO) (J : Env → Prop) (E : Env) (x : Option FV) (_ : Tag (r, J)) : Prop := ∃ v, x = some v ∧ v.notRoot d = true ∧ runDet P r (E.upd d v) J
def detCall (P : Program) (f : FuncId) (fs : List FV) (d : Nat) (r : List FO) (J : Env → Prop) (E : Env) (_ : Tag (r, J)) : Prop := ∃ v, FCall P f fs (· = v) ∧ runDet P r (E.upd d v) J
def detCallB (P : Program) (f : FuncId) (fs : List FV) (d : Nat) (r : List FO) (J : Env → Prop) (E : Env) (_ : Tag (r, J)) : Prop := ∃ v, FCall P f fs (· = v) ∧ v.free = true ∧ runDet P r (E.upd d v) J
def detGd (P : Program) (d : Nat) (k : FK) (t : Nat) (want : Bool) (r : List FO) (J : Env → Prop) (E : Env) (g : FV) (_ : Tag (k, r, J)) : Prop :=
  match g with
  | .bool b => (b = true → if want then runDet P (⟨d, k, none⟩ :: r) (E.fix t (.bool true)) J else runDet P r ((E.fix t (.bool true)).upd d skipped) J) ∧
      (b = false → if want then runDet P r ((E.fix t (.bool false)).upd d skipped) J else runDet P (⟨d, k, none⟩ :: r) (E.fix t (.bool false)) J)
  | .tup [] => runDet P r (E.upd d skipped) J
  | _ => False
@[go_sem ↓] theorem d_nil (J : Env → Prop) : runDet P [] E J = J E := propext Iff.rfl
@[go_sem ↓] theorem d_op (d : Nat) (f : FOp) (r : List FO) (J : Env → Prop) : runDet P (⟨d, .op f, none⟩ :: r) E J = detFrom P d r J E (f.val E) .mk := propext Iff.rfl
@[go_sem ↓] theorem d_callB (d : Nat) (f : FuncId) (ss : List Sr) (r : List FO) (J : Env → Prop) : runDet P (⟨d, .callB f ss, none⟩ :: r) E J = detCallB P f (ss.map E.lend) d r J E .mk := propext Iff.rfl
@[go_sem ↓] theorem d_callL (d : Nat) (f : FuncId) (ss : List Sr) (r : List FO) (J : Env → Prop) : runDet P (⟨d, .callL f ss, none⟩ :: r) E J = ((ss.all fun s => !(E.look s).alias) = true ∧ detCall P f (ss.map E.look) d r J E .mk) := propext Iff.rfl
@[go_sem ↓] theorem d_g (d : Nat) (k : FK) (t : Nat) (want : Bool) (r : List FO) (J : Env → Prop) : runDet P (⟨d, k, some (t, want)⟩ :: r) E J = detGd P d k t want r J E (E.get t) .mk := by
  simp only [runDet, detG, detGd]
  cases hg : E.get t with
  | bool b =>
    have hf := fix_bool hg
    simp only
    cases b <;> cases want <;> simp [hf]
  | tup vs => cases vs <;> rfl
  | _ => rfl
section
variable (d t : Nat) (k : FK) (r : List FO) (J : Env → Prop) (q : Tag (r, J)) (g : Tag (k, r, J))
@[go_sem] theorem df_some (v : FV) : detFrom P d r J E (some v) q = (v.notRoot d = true ∧ runDet P r (E.upd d v) J) := by
  unfold detFrom
  simp
@[go_sem] theorem df_none : detFrom P d r J E none q = False := by unfold detFrom; simp
@[go_sem] theorem df_ite (c : Prop) [Decidable c] (x : Option FV) : detFrom P d r J E (if c then x else none) q = (c ∧ detFrom P d r J E x q) := by
  by_cases h : c <;> simp [h, detFrom]
@[go_sem] theorem dg_tt : detGd P d k t true r J E (.bool true) g = runDet P (⟨d, k, none⟩ :: r) (E.fix t (.bool true)) J := by simp [detGd]
@[go_sem] theorem dg_tf : detGd P d k t true r J E (.bool false) g = runDet P r ((E.fix t (.bool false)).upd d skipped) J := by simp [detGd]
@[go_sem] theorem dg_ft : detGd P d k t false r J E (.bool true) g = runDet P r ((E.fix t (.bool true)).upd d skipped) J := by simp [detGd]
@[go_sem] theorem dg_ff : detGd P d k t false r J E (.bool false) g = runDet P (⟨d, k, none⟩ :: r) (E.fix t (.bool false)) J := by simp [detGd]
@[go_sem] theorem dg_skip (w : Bool) : detGd P d k t w r J E skipped g = runDet P r (E.upd d skipped) J := propext Iff.rfl
@[go_sem low] theorem dg_boolT (b : Bool) : detGd P d k t true r J E (.bool b) g = ((b = true → runDet P (⟨d, k, none⟩ :: r) (E.fix t (.bool true)) J) ∧ (b = false → runDet P r ((E.fix t (.bool false)).upd d skipped) J)) := by simp [detGd]
@[go_sem low] theorem dg_boolF (b : Bool) : detGd P d k t false r J E (.bool b) g = ((b = true → runDet P r ((E.fix t (.bool true)).upd d skipped) J) ∧ (b = false → runDet P (⟨d, k, none⟩ :: r) (E.fix t (.bool false)) J)) := by simp [detGd]
end
theorem detCall_of {f : FuncId} {fs : List FV} {d : Nat} {r : List FO} {J : Env → Prop} (v : FV) (h : FCall P f fs (· = v)) {t : Tag (r, J)} (hj : runDet P r (E.upd d v) J) : detCall P f fs d r J E t := ⟨v, h, hj⟩
theorem detCallB_of {f : FuncId} {fs : List FV} {d : Nat} {r : List FO} {J : Env → Prop} (v : FV) (h : FCall P f fs (· = v)) (hf : v.free = true) {t : Tag (r, J)} (hj : runDet P r (E.upd d v) J) : detCallB P f fs d r J E t := ⟨v, h, hf, hj⟩
@[go_sem] theorem ro_undef (D : List Nat)  : rootOk D .undef = true := rfl
@[go_sem] theorem ro_int (D : List Nat) (k : IntKind) (i : Int) : rootOk D (.int k i) = true := rfl
@[go_sem] theorem ro_bool (D : List Nat) (b : Bool) : rootOk D (.bool b) = true := rfl
@[go_sem] theorem ro_str (D : List Nat) (s : List UInt8) : rootOk D (.str s) = true := rfl
@[go_sem] theorem ro_sl (D : List Nat) (u : Bool) (es : List (List FV)) : rootOk D (.sl u es) = true := rfl
@[go_sem] theorem ro_arr (D : List Nat) (es : List (List FV)) : rootOk D (.arr es) = true := rfl
@[go_sem] theorem ro_buf (D : List Nat) (q : Nat) : rootOk D (.buf q) = true := rfl
@[go_sem] theorem ro_box (D : List Nat) (cs : List FV) : rootOk D (.box cs) = true := rfl
@[go_sem] theorem ro_ref (D : List Nat) (cs : List FV) : rootOk D (.ref cs) = true := rfl
@[go_sem] theorem ro_agg (D : List Nat) (cs : List FV) : rootOk D (.agg cs) = true := rfl
@[go_sem] theorem ro_tup (D : List Nat) (cs : List FV) : rootOk D (.tup cs) = true := rfl
@[go_sem] theorem ro_fn (D : List Nat) (f : FuncId) (cs : List FV) : rootOk D (.fn f cs) = true := rfl
@[go_sem] theorem ro_nilp (D : List Nat)  : rootOk D .nilp = true := rfl
@[go_sem] theorem ro_nilf (D : List Nat)  : rootOk D .nilf = true := rfl
@[go_sem] theorem ro_nili (D : List Nat)  : rootOk D .nili = true := rfl
@[go_sem] theorem ro_iface (D : List Nat) (t : TypeId) (v : FV) : rootOk D (.iface t v) = true := rfl
@[go_sem] theorem ro_al (D : List Nat) (r : Nat) (p : Path) : rootOk D (.al r p) = !D.contains r := rfl
@[go_sem] theorem ro_ptr (D : List Nat) (r : Nat) (p : Path) : rootOk D (.ptr r p) = !D.contains r := rfl
@[go_sem] theorem rootOk_skip (D : List Nat) : rootOk D skipped = true := rfl
attribute [go_sem] rootsOk freshOk dests List.take_succ_cons List.take_zero List.take_nil List.drop_succ_cons List.drop_zero List.drop_nil List.map_cons List.map_nil List.all_cons List.all_nil List.contains_cons List.contains_nil
end

/-! ### code -/
/-- what is asked ahead of a region that draws -/
def drawEnd (P : Program) (D : List Nat) (suf : List FO) (ks : List Nat) (K : Exit → Env → Prop) (Ef : Env) : Prop := rootsOk D Ef = true ∧ runOps P suf Ef (fun E' => K .normal (E'.kills ks))
def drawT (P : Program) (pre suf : List FO) (ks : List Nat) (E : Env) (K : Exit → Env → Prop) (_ : Tag K) : Prop := freshOk (dests pre) E = true ∧ runDet P pre E (drawEnd P (dests pre) suf ks K)
@[go_sem] theorem dr_t (P : Program) (pre suf : List FO) (ks : List Nat) (E : Env) (K : Exit → Env → Prop) (t : Tag K) : drawT P pre suf ks E K t = (freshOk (dests pre) E = true ∧ runDet P pre E (drawEnd P (dests pre) suf ks K)) := propext Iff.rfl
@[go_sem ↓] theorem dr_end (P : Program) (D : List Nat) (suf : List FO) (ks : List Nat) (E : Env) (K : Exit → Env → Prop) : drawEnd P D suf ks K E = (rootsOk D E = true ∧ runOps P suf E (fun E' => K .normal (E'.kills ks))) := propext Iff.rfl
def condOn (v : FV) (x y : Prop) (_ : Tag (x, y)) : Prop := ∃ b, v = .bool b ∧ (b = true → x) ∧ (b = false → y)
/-- what is asked of an environment ahead of code; loops stay as they are -/
def fw (P : Program) (N : Nat) : FC → Env → (Exit → Env → Prop) → Prop
  | .skip, E, K => K .normal E
  | .ret, E, K => K .ret E
  | .exit id, E, K => K (.exit id) E
  | .seq x y, E, K => fw P N x E (thenK (fun E' => fw P N y E' K) K)
  | .cond s x y, E, K => condOn (E.look s) (fw P N x E K) (fw P N y E K) .mk
  | .block id x, E, K => fw P N x E (blockK id K)
  | .loop x, E, K => FW P N (.loop x) E K
  | .reg none fs ks, E, K => runOps P fs E (fun E' => K .normal (E'.kills ks))
  | .reg (some n) fs ks, E, K => P.follows .mixedOrders = true ∧ (freshOk (dests (fs.take n)) E = true ∧ runDet P (fs.take n) E (fun Ef => rootsOk (dests (fs.take n)) Ef = true ∧ runOps P (fs.drop n) Ef (fun E' => K .normal (E'.kills ks))))

section
variable {P : Program} {N : Nat}
theorem fw_sound : ∀ {c : FC} {E : Env} {K : Exit → Env → Prop}, fw P N c E K → FW P N c E K
  | .skip, E, K, h => FW.skip h
  | .ret, E, K, h => FW.ret h
  | .exit id, E, K, h => FW.exit h
  | .seq x y, E, K, h => FW.seq ((fw_sound (c := x) h).mono fun e E' k => by
      cases e with
      | normal => exact fw_sound (c := y) k
      | _ => exact k)
  | .cond s x y, E, K, h => by
    obtain ⟨b, hb, h1, h2⟩ := h
    refine FW.cond hb ?_
    cases b
    · exact fw_sound (c := y) (h2 rfl)
    · exact fw_sound (c := x) (h1 rfl)
  | .block id x, E, K, h => FW.block (fw_sound (c := x) h)
  | .loop x, E, K, h => h
  | .reg none fs ks, E, K, h => FW.reg h
  | .reg (some n) fs ks, E, K, h => FW.draw h.1 h.2.1 h.2.2

variable {E : Env} {K : Exit → Env → Prop}
@[go_sem ↓] theorem f_skip : fw P N .skip E K = K .normal E := propext Iff.rfl
@[go_sem ↓] theorem f_ret : fw P N .ret E K = K .ret E := propext Iff.rfl
@[go_sem ↓] theorem f_exit (id : Nat) : fw P N (.exit id) E K = K (.exit id) E := propext Iff.rfl
@[go_sem ↓] theorem f_seq (x y : FC) : fw P N (.seq x y) E K = fw P N x E (thenK (fun E' => fw P N y E' K) K) := propext Iff.rfl
@[go_sem ↓] theorem f_cond (s : Sr) (x y : FC) : fw P N (.cond s x y) E K = condOn (E.look s) (fw P N x E K) (fw P N y E K) .mk := propext Iff.rfl
@[go_sem ↓] theorem f_block (id : Nat) (x : FC) : fw P N (.block id x) E K = fw P N x E (blockK id K) := propext Iff.rfl
@[go_sem ↓] theorem f_loop (x : FC) : fw P N (.loop x) E K = FWT P N (.loop x) E K .mk := propext Iff.rfl
@[go_sem ↓] theorem f_reg (fs : List FO) (ks : List Nat) : fw P N (.reg none fs ks) E K = runOps P fs E (fun E' => K .normal (E'.kills ks)) := propext Iff.rfl
@[go_sem ↓] theorem f_draw (n : Nat) (fs : List FO) (ks : List Nat) : fw P N (.reg (some n) fs ks) E K = (P.follows .mixedOrders = true ∧ drawT P (fs.take n) (fs.drop n) ks E K .mk) := propext Iff.rfl
theorem FWT.loopS {x : FC} {α : Type} {t : Tag (FC.loop x, K)} (I : α → Env) (μ : α → Nat) (G : α → Prop) (s : α) (h0 : I s = E) (hg : G s) (h : ∀ s, G s → fw P N x (I s) (thenK (fun E' => ∃ t, E' = I t ∧ G t ∧ μ t < μ s) K)) : FWT P N (.loop x) E K t :=
  FW.loopS I μ G s h0 hg fun s hs => fw_sound (h s hs)
theorem FWT.loopK {x : FC} {α : Type} {t : Tag (FC.loop x, K)} (ks : List Nat) (I : α → Env) (μ : α → Nat) (G : α → Prop) (s : α) (h0 : E.kills ks = I s) (hg : G s) (h : ∀ s, G s → fw P N x (I s) (thenK (fun E' => ∃ t, E'.kills ks = I t ∧ G t ∧ μ t < μ s) K)) : FWT P N (.loop x) E K t :=
  FW.loopK ks I μ G s h0 hg fun s hs => fw_sound (h s hs)
@[go_sem] theorem co_true (x y : Prop) (t : Tag (x, y)) : condOn (.bool true) x y t = x := by simp [condOn]
@[go_sem] theorem co_false (x y : Prop) (t : Tag (x, y)) : condOn (.bool false) x y t = y := by simp [condOn]
@[go_sem low] theorem co_bool (b : Bool) (x y : Prop) (t : Tag (x, y)) : condOn (.bool b) x y t = ((b = true → x) ∧ (b = false → y)) := by simp [condOn]
@[go_sem ↓] theorem t_normal (J : Env → Prop) (K : Exit → Env → Prop) : thenK J K .normal E = J E := propext Iff.rfl
@[go_sem ↓] theorem t_ret (J : Env → Prop) (K : Exit → Env → Prop) : thenK J K .ret E = K .ret E := propext Iff.rfl
@[go_sem ↓] theorem t_exit (J : Env → Prop) (K : Exit → Env → Prop) (id : Nat) : thenK J K (.exit id) E = K (.exit id) E := propext Iff.rfl
@[go_sem ↓] theorem b_normal (id : Nat) : blockK id K .normal E = K .normal E := propext Iff.rfl
@[go_sem ↓] theorem b_ret (id : Nat) : blockK id K .ret E = K .ret E := propext Iff.rfl
@[go_sem ↓] theorem b_exit (id id' : Nat) : blockK id K (.exit id') E = if id' = id then K .normal E else K (.exit id') E := propext Iff.rfl

/-- the end of a function -/
def finK (rs : List RV) (J : FV → Prop) (e : Exit) (E : Env) : Prop := (e = .normal ∨ e = .ret) ∧ ∃ x, outs E rs = some x ∧ J (one x.1)
def finX (J : FV → Prop) (x : Option (List FV × Env)) : Prop := ∃ y, x = some y ∧ J (one y.1)
@[go_sem ↓] theorem fin_ret (rs : List RV) (J : FV → Prop) : finK rs J .ret E = finX J (outs E rs) := by simp [finK, finX]
@[go_sem ↓] theorem fin_normal (rs : List RV) (J : FV → Prop) : finK rs J .normal E = finX J (outs E rs) := by simp [finK, finX]
@[go_sem] theorem finX_some (J : FV → Prop) (y : List FV × Env) : finX J (some y) = J (one y.1) := by simp [finX]
@[congr] theorem finX_congr {J : FV → Prop} {x y : Option (List FV × Env)} (h : x = y) : finX J x = finX J y := by rw [h]
attribute [go_sem] List.isEmpty_nil List.isEmpty_cons outs RV.out one entryFrom List.length_cons List.length_nil List.head?_cons Int.natCast_nonneg Nat.le_refl decide_true decide_false or_true or_false true_or false_or true_and and_true false_and and_false Bool.or_false Bool.false_or Bool.or_true Bool.true_or Bool.not_false Bool.not_true Bool.and_true Bool.true_and Bool.and_false Bool.false_and not_true_eq_false not_false_eq_true List.drop_zero List.drop_succ_cons List.append_nil List.nil_append List.cons_append List.getElem?_cons_zero List.getElem?_cons_succ List.set_cons_zero List.set_cons_succ forall_const implies_true true_implies false_implies List.replicate_zero List.replicate_succ

@[go_sem] theorem rowsOk_nil (n : Nat) : rowsOk n [] = true := rfl
@[go_sem] theorem rowsOk_cons (n : Nat) (r : List FV) (es : List (List FV)) : rowsOk n (r :: es) = ((r.length == n && r.all FV.one) && rowsOk n es) := rfl
theorem FCall.walk {f : FuncId} {fn : Func} {fc : FC} {fs : List FV} {na : Nat} {rs : List RV} {J : FV → Prop} (hf : P.funcs[f]? = some fn) (hc : fnOk P fn fc N na rs = true) (hl : fs.length = na)
    (h : fw P N fc (entryFrom 0 fs) (finK rs J)) : FCall P f fs J := FCall.of hf hc hl (fw_sound h)
end
end Go.Fm
/- Contracts of the library's functions, brought in. -/
set_option linter.unusedVariables false
set_option linter.unusedSimpArgs false
namespace Go.Fm
open Go

/-- nothing that was there has turned -/
structure Stood (w w' : World) : Prop where
  os : w'.os = w.os
  tape : w'.tape = w.tape
  output : w'.output = w.output
  size : w.heap.size ≤ w'.heap.size
  block : ∀ k, k < w.heap.size → w'.heap[k]? = w.heap[k]?
theorem Stood.refl (w : World) : Stood w w := ⟨rfl, rfl, rfl, Nat.le_refl _, fun _ _ => rfl⟩
theorem Stood.below {w w' : World} (h : RowKit.Below w.heap.size w w') : Stood w w' := ⟨h.os, h.tape, h.output, h.size, h.block⟩
theorem Stood.grow (w : World) (k : Nat) (os : Array Obj) : Stood w (Sort.grow (w.drewN k) os) := by
  refine ⟨rfl, rfl, rfl, ?_, fun i hi => ?_⟩
  · show w.heap.size ≤ (w.heap ++ os).size
    rw [Array.size_append]; omega
  · show (w.heap ++ os)[i]? = _
    rw [Array.getElem?_append_left hi]
theorem Stood.ext {w w' : World} (h : Stood w w') (S : Nat → Prop) (R : List Nat) : Ext w S R w' S [] :=
  ⟨fun _ h => h, fun _ h => .inl h, fun b hb _ => h.block b hb, h.size, by simp, h.os, h.tape, h.output, fun _ h => h⟩

/-- the value of a flat list -/
def FV.lit : FV → Option Value
  | .int k n => some (.int k n)
  | .bool b => some (.bool b)
  | .str s => some (.string ⟨s.toArray⟩)
  | _ => none
def lits : List FV → Option (List Value)
  | [] => some []
  | f :: fs => match f.lit, lits fs with
    | some v, some vs => some (v :: vs)
    | _, _ => none
theorem lits_rep {h : Array Obj} {S : Nat → Prop} : ∀ {fs : List FV} {us vs : List Value} {R : List Nat}, lits fs = some us → Rep h S vs fs R → vs = us ∧ R = []
  | [], us, vs, R, hl, r => by cases r; cases hl; exact ⟨rfl, rfl⟩
  | f :: fs, us, vs, R, hl, r => by
    cases vs with
    | nil => have := r.length; simp at this
    | cons v vs =>
    obtain ⟨R1, R2, h1, h2, rfl⟩ := r.cons_inv
    simp only [lits] at hl
    split at hl <;> try (cases hl; done)
    rename_i v0 vs0 hv hvs
    cases hl
    obtain ⟨rfl, rfl⟩ := lits_rep hvs h2
    cases f <;> simp only [FV.lit] at hv <;> cases hv <;> cases h1 <;> rename_i h3 <;> cases h3 <;> exact ⟨rfl, rfl⟩

theorem FCall.prim {P : Program} {f : FuncId} {fs : List FV} {us : List Value} {r : FV} {v : Value} (hl : lits fs = some us) (hv : constOk r v = true)
    (h : ∀ w S, Amb P w S → Calls P f us.toArray w (fun e w' => e = .returned v ∧ Stood w w')) : FCall P f fs (· = r) := by
  refine ⟨fun {w S R vs} hA hrep hnd hsep => ?_⟩
  obtain ⟨rfl, rfl⟩ := lits_rep hl hrep
  refine (h w S hA).mono ?_
  rintro e w' ⟨rfl, hw⟩
  exact ⟨v, r, S, [], rfl, rfl, constOk_rep _ _ _ _ hv, by simp, fun b hb => ⟨Nat.lt_of_lt_of_le (hsep b hb).1 hw.size, by simp⟩, hw.ext S []⟩

/-- a slice of strings -/
def strs (l : List (List UInt8)) : List (List FV) := l.map fun s => [.str s]
@[go_sem] theorem strs_length (l : List (List UInt8)) : (strs l).length = l.length := by simp [strs]
@[go_sem] theorem strs_rows (l : List (List UInt8)) : rowsOk 1 (strs l) = true := by
  unfold rowsOk strs
  rw [List.all_map, List.all_eq_true]
  intro x _
  rfl
theorem strs_snoc (l : List (List UInt8)) (s : List UInt8) : strs l ++ [[.str s]] = strs (l ++ [s]) := by simp [strs]
@[go_sem] theorem strs_sealed (l : List (List UInt8)) : sealedLL (strs l) = strs l := by
  induction l with
  | nil => rfl
  | cons s l ih => simp only [strs, List.map_cons, sealedLL, sealedL, FV.sealed] at ih ⊢; rw [ih]
theorem strs_get {l : List (List UInt8)} {i : Nat} (h : i < l.length) : (strs l)[i]? = some [.str l[i]] := by simp [strs, h]
def bytesOf (s : List UInt8) : ByteArray := ⟨s.toArray⟩
theorem strs_flatten (l : List (List UInt8)) : (strs l).flatten = l.map FV.str := by
  induction l with
  | nil => rfl
  | cons s l ih => simp only [strs, List.map_cons, List.flatten_cons] at ih ⊢; rw [ih]; rfl
theorem strs_rep {h : Array Obj} {S : Nat → Prop} : ∀ {l : List (List UInt8)} {cs : List Value} {R : List Nat}, Rep h S cs (l.map FV.str) R → cs = l.map (fun s => .string (bytesOf s)) ∧ R = []
  | [], cs, R, r => by cases r; exact ⟨rfl, rfl⟩
  | s :: l, cs, R, r => by
    cases cs with
    | nil => have := r.length; simp at this
    | cons c cs =>
    obtain ⟨R1, R2, h1, h2, rfl⟩ := r.cons_inv
    obtain ⟨rfl, rfl⟩ := strs_rep h2
    cases h1 with
    | str h => cases h; exact ⟨rfl, rfl⟩

/-- strings.Join -/
theorem FCall.join {P : Program} {f : FuncId} {full : Bool} {xs : List (List UInt8)} {sep : List UInt8}
    (h0 : ∀ (a : Option Addr) (c : Nat) (sep : ByteArray) (w : World), Calls P f #[.slice a 0 c, .string sep] w fun e w' => e = .returned (.string ⟨#[]⟩) ∧ w' = w)
    (h1 : ∀ (bk o c : Nat) (xs : List ByteArray) (sep : ByteArray) (w : World), (∀ (j : Nat) x, xs[j]? = some x → w.cell? ⟨bk, o + j, none⟩ = some (.string x)) → bk < w.heap.size → xs.length ≤ 140737488355328 → xs.length ≤ c →
      (Lib.join (xs.map (·.data.toList)) sep.data.toList).length ≤ 140737488355328 → Calls P f #[.slice (some ⟨bk, o, none⟩) xs.length c, .string sep] w fun e w' => e = .returned (.string ⟨(Lib.join (xs.map (·.data.toList)) sep.data.toList).toArray⟩) ∧ RowKit.Below w.heap.size w w')
    (hN : xs.length ≤ 140737488355328) (hl : (Lib.join xs sep).length ≤ 140737488355328) : FCall P f [.sl full (strs xs), .str sep] (· = .str (Lib.join xs sep)) := by
  refine ⟨fun {w S R vs} hA hrep hnd hsep => ?_⟩
  have hlen := hrep.length
  match vs, hlen with
  | [v1, v2], _ =>
  obtain ⟨R1, R2, r1, r2, rfl⟩ := hrep.cons_inv
  cases r2 with
  | str r2 =>
  cases r2
  have fin : ∀ {w' : World} {s : List UInt8}, Stood w w' → Rep w'.heap S [.string ⟨s.toArray⟩] [.str s] [] ∧ ([] : List Nat).Nodup ∧ (∀ b, S b → b < w'.heap.size ∧ b ∉ ([] : List Nat)) ∧ Ext w S (R1 ++ []) w' S [] := fun hw =>
    ⟨.str .nil, by simp, fun b hb => ⟨Nat.lt_of_lt_of_le (hsep b hb).1 hw.size, by simp⟩, hw.ext S _⟩
  generalize hes : strs xs = es at r1
  cases r1 with
  | slNil r1 =>
    have : xs = [] := by cases xs <;> simp [strs] at hes; rfl
    subst this
    refine (h0 _ 0 _ w).mono ?_
    rintro e w' ⟨rfl, rfl⟩
    exact ⟨_, .str (Lib.join [] sep), S, [], rfl, rfl, fin (Stood.refl _)⟩
  | @sl _ _ b o n cap st cs _ _ _ hn hst hS hlt hcs hc hcap hfull hpos hr ht =>
    subst hes
    rw [strs_flatten] at hr
    obtain ⟨rfl, _⟩ := strs_rep hr
    have hn' : xs.length = n := by rw [← hn]; simp [strs]
    by_cases hz : xs = []
    · subst hz
      simp at hn'
      subst hn'
      refine (h0 _ cap _ w).mono ?_
      rintro e w' ⟨rfl, rfl⟩
      exact ⟨_, .str (Lib.join [] sep), S, [], rfl, rfl, fin (Stood.refl _)⟩
    · have hst1 : st = 1 := by
        cases xs with
        | nil => exact absurd rfl hz
        | cons x xs => have := hst [.str x] (by simp [strs]); simpa using this.symm
      subst hst1
      have hmap : (xs.map bytesOf).map (fun x => x.data.toList) = xs := by simp [bytesOf, Function.comp_def]
      have hx := h1 b o cap (xs.map bytesOf) (bytesOf sep) w (fun j x hj => by
        have hj2 : j < xs.length := by
          rcases Nat.lt_or_ge j xs.length with h | h
          · exact h
          · rw [List.getElem?_eq_none (by simpa using h)] at hj; cases hj
        rw [cell?_eq, hc j (by omega)]
        rw [List.getElem?_map] at hj ⊢
        rw [List.getElem?_eq_getElem hj2] at hj ⊢
        simp only [Option.map_some, Option.some.injEq] at hj ⊢
        rw [hj]) hlt (by simpa using hN) (by simp; omega) (by rw [hmap]; exact hl)
      rw [hmap] at hx
      simp only [List.length_map] at hx
      rw [hn'] at hx
      refine hx.mono ?_
      rintro e w' ⟨rfl, hw⟩
      exact ⟨_, .str (Lib.join xs sep), S, [], rfl, rfl, fin (Stood.below hw)⟩
attribute [go_sem] List.headD_cons Option.some.injEq Int.cast_ofNat_Int decide_eq_true_eq decide_eq_false_iff_not Bool.not_eq_true' Bool.not_eq_false'
end Go.Fm
