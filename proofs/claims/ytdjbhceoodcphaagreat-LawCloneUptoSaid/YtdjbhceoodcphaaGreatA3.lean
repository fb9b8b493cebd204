/- Part of a proof: see the last text of the claim. -/
import Derived.Test.YtdjbhceoodcphaaGreatA2
import Derived.Below
import Derived.Deep.Draws
import Derived.Sort.Grow
import Derived.Lib.Join
set_option linter.unusedVariables false
set_option linter.unusedSimpArgs false
namespace Go.Fm
open Go
def Env.plainAt (E : Env) : Sr → Bool
  | .k v => true
  | .t n => (E.get n).plain
def FOp.val (E : Env) : FOp → Option FV
  | .mv s => some (E.look s)
  | .alloc cs => some (.box cs)
  | .pick c a b => match E.look c with
    | .bool v => match v with
      | true => some (E.look a)
      | false => some (E.look b)
    | _ => none
  | .box s => match s with
    | .k v => none
    | .t n => if (E.get n).plain then (match E.get n with
      | .undef => none
      | f => some (.box f.cells)) else none
  | .load s n agg => ldF E (E.look s) n agg
  | .fa s off => faF E (E.look s) off
  | .ia s i size => match E.look i with
    | .int _ n => iaF E (E.look s) n size
    | _ => none
  | .len s => match lenF E (E.look s) with
    | some n => some (.int .i64 (n : Int))
    | none => none
  | .lenS s => match E.look s with
    | .str b => some (.int .i64 b.length)
    | _ => none
  | .bin op a b => binF op (E.look a) (E.look b)
  | .eqS neg cs a b => eqF neg cs (E.look a) (E.look b)
  | .eqB neg a b => match E.look a, E.look b with
    | .bool x, .bool y => some (.bool (if neg then !(x == y) else x == y))
    | _, _ => none
  | .un op a => unF op (E.look a)
  | .cv k a => match E.look a with
    | .int _ n => some (.int k (k.wrap n))
    | _ => none
  | .nilCheck a => if (E.look a).nonNil = true then some (E.look a) else none
  | .subStr s lo hi => match E.look s with
    | .str b => match bnd E 0 lo, bnd E b.length hi with
      | some l, some h => Go.Fm.subStr b l h
      | _, _ => none
    | _ => none
  | .subSl s lo hi size => match E.look s with
    | .sl full es => match bnd E 0 lo, bnd E es.length hi with
      | some l, some h => if (es.all fun r => r.length == size) = true then Go.Fm.subSl full es l h none else none
      | _, _ => none
    | .al q p => match p with
      | [] => match bnd E 0 lo, bnd E (lenO E q) hi with
        | some l, some h => subO E q l h size
        | _, _ => none
      | y :: p => match bnd E 0 lo, bnd E (lenP E q (y :: p)) hi with
        | some l, some h => subP E q (y :: p) l h size
        | _, _ => none
    | _ => none
  | .field s off n agg => match E.look s with
    | .agg cs => fdF cs off n agg
    | _ => none
  | .index s i => match E.look s, E.look i with
    | .str b, .int _ n => if 0 ≤ n then match b[n.toNat]? with
        | some c => some (.int .u8 c.toNat)
        | none => none
      else none
    | _, _ => none
  | .iaA s i size n => match E.look i with
    | .int _ j => iaAF E (E.look s) j size n
    | _ => none
  | .cvStr s => match elemsAt E (E.look s) with
    | some es => (bytesF es).map .str
    | none => none
  | .mm isMax a b => match E.look a, E.look b with
    | .int k x, .int _ y => some (.int k (if isMax then max x y else min x y))
    | _, _ => none
  | .mkF f ns => mkFV E f ns
  | .extractL n i => match E.get n with
    | .tup vs => match vs[i]? with
      | some f => if f.flat = true ∧ f.alias = false then some f else none
      | none => none
    | _ => none
  | .build tmpl ps ss => if (ss.all E.plainAt) = true then (fillF tmpl ps (ss.map E.look)).map fun cs => .agg cs else none
  | .buildSl tmpl ln is ss => if (ss.all E.plainAt) = true then (setRows (List.replicate ln tmpl) tmpl.length is (ss.map E.look)).map fun rows => .arr rows else none
  | _ => none
def Sr.slots : Sr → List Nat
  | .t n => [n]
  | .k (.al r _) | .k (.ptr r _) => [r]
  | .k (.als r _ _ _) => [r]
  | .k (.alg r _ _) => [r]
  | .k _ => []
def slotsO : Option Sr → List Nat
  | some s => s.slots
  | none => []
def slotsL (ss : List Sr) : List Nat := ss.flatMap Sr.slots
def FOp.srcs : FOp → List Nat
  | .mv s | .box s | .load s _ _ | .fa s _ | .len s | .lenS s | .un _ s | .cv _ s | .cvStr s | .nilCheck s | .field s _ _ _ => s.slots
  | .pick c a b => slotsL [c, a, b]
  | .ia a b _ | .iaA a b _ _ | .mm _ a b | .bin _ a b | .eqS _ _ a b | .eqB _ a b | .index a b => slotsL [a, b]
  | .subStr s lo hi | .subSl s lo hi _ => s.slots ++ (slotsO lo ++ slotsO hi)
  | .build _ _ ss | .buildSl _ _ _ ss => slotsL ss
  | .mkF _ ns => ns
  | .extract n _ | .extractL n _ => [n]
  | .mvP _ s => s.slots
  | _ => []
def Agree (E E' : Env) (n : Nat) : Prop := E'.get n = E.get n ∧ (∀ r p, (E.get n = .al r p ∨ E.get n = .ptr r p) → E'.get r = E.get r) ∧ (∀ g rs, E.get n = .clo g rs → ∀ r ∈ rs, E'.get r = E.get r) ∧ (∀ q lo m sz, E.get n = .als q lo m sz → E'.get q = E.get q) ∧ ∀ q p m, E.get n = .alg q p m → E'.get q = E.get q
section
variable {E E' : Env}
theorem look_agree {s : Sr} (h : ∀ n ∈ s.slots, Agree E E' n) : E'.look s = E.look s := by
  cases s with
  | k v => rfl
  | t n => simp only [Env.look, (h n (by simp [Sr.slots])).1]
theorem root_agree {s : Sr} (h : ∀ n ∈ s.slots, Agree E E' n) : ∀ r p, (E.look s = .al r p ∨ E.look s = .ptr r p) → E'.get r = E.get r := by
  intro r p e
  cases s with
  | k v =>
    simp only [Env.look] at e
    rcases e with rfl | rfl
    · exact (h r (by simp [Sr.slots])).1
    · exact (h r (by simp [Sr.slots])).1
  | t n =>
    have h1 := h n (by simp [Sr.slots])
    simp only [Env.look] at e
    cases hg : E.get n <;> simp only [view, hg] at e
    case arr es => rcases e with e | e <;> cases e; exact h1.1
    case buf st => rcases e with e | e <;> cases e; exact h1.1
    case box cs =>
      cases cs with
      | nil => rcases e with e | e <;> cases e
      | cons c cs => rcases e with e | e <;> cases e; exact h1.1
    case al q p' => rcases e with e | e <;> cases e; exact h1.2.1 _ _ (.inl hg)
    case ptr q p' => rcases e with e | e <;> cases e; exact h1.2.1 _ _ (.inr hg)
    case agg cs => split at e <;> rcases e with e | e <;> cases e
    case tup cs => split at e <;> rcases e with e | e <;> cases e
    case fn f cap => split at e <;> rcases e with e | e <;> cases e
    all_goals (rcases e with e | e <;> cases e)
theorem at_agree {r : Nat} {p : Path} (h : E'.get r = E.get r) : E'.at r p = E.at r p := by unfold Env.at; cases p <;> simp [h]
theorem ldF_agree {f : FV} {n : Nat} {agg : Bool} (h : ∀ r p, f = .al r p ∨ f = .ptr r p → E'.get r = E.get r) : ldF E' f n agg = ldF E f n agg := by
  cases f with
  | ptr r p => simp only [ldF, h r p (.inr rfl)]
  | _ => rfl
theorem faF_agree {f : FV} {off : Nat} (h : ∀ r p, f = .al r p ∨ f = .ptr r p → E'.get r = E.get r) : faF E' f off = faF E f off := by
  cases f with
  | ptr r p => simp only [faF, h r p (.inr rfl)]
  | _ => rfl
theorem root_als {s : Sr} (h : ∀ n ∈ s.slots, Agree E E' n) : ∀ q lo m sz, E.look s = .als q lo m sz → E'.get q = E.get q := by
  intro q lo m sz e
  cases s with
  | k v =>
    simp only [Env.look] at e
    subst e
    exact (h q (by simp [Sr.slots])).1
  | t n =>
    have h1 := h n (by simp [Sr.slots])
    simp only [Env.look] at e
    cases hg : E.get n <;> simp only [view, hg] at e <;> try (cases e; done)
    case box cs => cases cs <;> cases e
    case agg cs => split at e <;> cases e
    case tup cs => split at e <;> cases e
    case fn f cap => split at e <;> cases e
    case als q' lo' m' sz' => cases e; exact h1.2.2.2.1 _ _ _ _ hg
theorem iaF_agree {f : FV} {i : Int} {size : Nat} (h : ∀ r p, f = .al r p ∨ f = .ptr r p → E'.get r = E.get r) (h2 : ∀ q lo m sz, f = .als q lo m sz → E'.get q = E.get q) : iaF E' f i size = iaF E f i size := by
  cases f with
  | als q lo m sz => simp only [iaF, h2 q lo m sz rfl]
  | al r p => simp only [iaF, at_agree (h r p (.inl rfl))]
  | _ => rfl
theorem lenF_agree {f : FV} (h : ∀ r p, f = .al r p ∨ f = .ptr r p → E'.get r = E.get r) : lenF E' f = lenF E f := by
  cases f with
  | al r p => simp only [lenF, at_agree (h r p (.inl rfl))]
  | arr es => cases es <;> rfl
  | _ => rfl
theorem iaAF_agree {f : FV} {i : Int} {size n : Nat} (h : ∀ r p, f = .al r p ∨ f = .ptr r p → E'.get r = E.get r) : iaAF E' f i size n = iaAF E f i size n := by
  simp only [iaAF, faF_agree h]
theorem elemsAt_agree {f : FV} (h : ∀ r p, f = .al r p ∨ f = .ptr r p → E'.get r = E.get r) : elemsAt E' f = elemsAt E f := by
  cases f with
  | al r p => simp only [elemsAt, at_agree (h r p (.inl rfl))]
  | _ => rfl
theorem bnd_agree {d : Nat} {s : Option Sr} (h : ∀ n ∈ slotsO s, Agree E E' n) : bnd E' d s = bnd E d s := by
  cases s with
  | none => rfl
  | some s => simp only [bnd, look_agree (s := s) (fun n hn => h n hn)]
theorem slotsL_mem {ss : List Sr} {s : Sr} (hs : s ∈ ss) {n : Nat} (hn : n ∈ s.slots) : n ∈ slotsL ss := List.mem_flatMap.2 ⟨s, hs, hn⟩
theorem looks_agree {ss : List Sr} (h : ∀ n ∈ slotsL ss, Agree E E' n) : ss.map E'.look = ss.map E.look :=
  List.map_congr_left fun s hs => look_agree fun n hn => h n (slotsL_mem hs hn)
theorem plainAt_agree {s : Sr} (h : ∀ n ∈ s.slots, Agree E E' n) : E'.plainAt s = E.plainAt s := by
  cases s with
  | k v => rfl
  | t n => simp only [Env.plainAt, (h n (by simp [Sr.slots])).1]
theorem plainAts_agree {ss : List Sr} (h : ∀ n ∈ slotsL ss, Agree E E' n) : ss.all E'.plainAt = ss.all E.plainAt := by
  induction ss with
  | nil => rfl
  | cons s ss ih =>
    simp only [List.all_cons]
    rw [plainAt_agree (s := s) fun n hn => h n (slotsL_mem (by simp) hn), ih fun n hn => h n (by
      simp only [slotsL, List.flatMap_cons, List.mem_append]; exact .inr hn)]
theorem FOp.val_agree {f : FOp} (h : ∀ n ∈ f.srcs, Agree E E' n) : f.val E' = f.val E := by
  cases f with
  | mv s => simp only [FOp.val, look_agree (s := s) h]
  | pick c a b =>
    have h1 := look_agree (s := c) fun n hn => h n (slotsL_mem (ss := [c, a, b]) (by simp) hn)
    have h2 := look_agree (s := a) fun n hn => h n (slotsL_mem (ss := [c, a, b]) (by simp) hn)
    have h3 := look_agree (s := b) fun n hn => h n (slotsL_mem (ss := [c, a, b]) (by simp) hn)
    simp only [FOp.val, h1, h2, h3]
  | box s =>
    cases s with
    | k v => rfl
    | t n => simp only [FOp.val, (h n (by simp [FOp.srcs, Sr.slots])).1]
  | load s n agg => simp only [FOp.val, look_agree (s := s) h, ldF_agree (root_agree (s := s) h)]
  | fa s off => simp only [FOp.val, look_agree (s := s) h, faF_agree (root_agree (s := s) h)]
  | ia s i size =>
    have h1 := fun n hn => h n (slotsL_mem (ss := [s, i]) (s := s) (by simp) hn)
    have h2 := fun n hn => h n (slotsL_mem (ss := [s, i]) (s := i) (by simp) hn)
    simp only [FOp.val, look_agree h1, look_agree h2, iaF_agree (root_agree h1) (root_als h1)]
  | iaA s i size n =>
    have h1 := fun n hn => h n (slotsL_mem (ss := [s, i]) (s := s) (by simp) hn)
    have h2 := fun n hn => h n (slotsL_mem (ss := [s, i]) (s := i) (by simp) hn)
    simp only [FOp.val, look_agree h1, look_agree h2, iaAF_agree (root_agree h1)]
  | cvStr s => simp only [FOp.val, look_agree (s := s) h, elemsAt_agree (root_agree (s := s) h)]
  | mm isMax a b =>
    have h1 := fun n hn => h n (slotsL_mem (ss := [a, b]) (s := a) (by simp) hn)
    have h2 := fun n hn => h n (slotsL_mem (ss := [a, b]) (s := b) (by simp) hn)
    simp only [FOp.val, look_agree h1, look_agree h2]
  | len s => simp only [FOp.val, look_agree (s := s) h, lenF_agree (root_agree (s := s) h)]
  | extractL n i => simp only [FOp.val, (h n (by simp [FOp.srcs])).1]
  | mkF f ns =>
    have h1 : ∀ n ∈ ns, E'.get n = E.get n := fun n hn => (h n hn).1
    have e1 : ∀ g : FV → Bool, (ns.all fun n => g (E'.get n)) = ns.all fun n => g (E.get n) := fun g => by
      rw [Bool.eq_iff_iff, List.all_eq_true, List.all_eq_true]
      exact ⟨fun hh n m => (h1 n m) ▸ hh n m, fun hh n m => (h1 n m).symm ▸ hh n m⟩
    simp only [FOp.val, mkFV, e1 FV.plain, e1 FV.isBox, List.map_congr_left h1]
  | lenS s => simp only [FOp.val, look_agree (s := s) h]
  | bin op a b =>
    have h1 := fun n hn => h n (slotsL_mem (ss := [a, b]) (s := a) (by simp) hn)
    have h2 := fun n hn => h n (slotsL_mem (ss := [a, b]) (s := b) (by simp) hn)
    simp only [FOp.val, look_agree h1, look_agree h2]
  | eqS neg cs a b =>
    have h1 := fun n hn => h n (slotsL_mem (ss := [a, b]) (s := a) (by simp) hn)
    have h2 := fun n hn => h n (slotsL_mem (ss := [a, b]) (s := b) (by simp) hn)
    simp only [FOp.val, look_agree h1, look_agree h2]
  | eqB neg a b =>
    have h1 := fun n hn => h n (slotsL_mem (ss := [a, b]) (s := a) (by simp) hn)
    have h2 := fun n hn => h n (slotsL_mem (ss := [a, b]) (s := b) (by simp) hn)
    simp only [FOp.val, look_agree h1, look_agree h2]
  | index a b =>
    have h1 := fun n hn => h n (slotsL_mem (ss := [a, b]) (s := a) (by simp) hn)
    have h2 := fun n hn => h n (slotsL_mem (ss := [a, b]) (s := b) (by simp) hn)
    simp only [FOp.val, look_agree h1, look_agree h2]
  | un op a => simp only [FOp.val, look_agree (s := a) h]
  | cv k a => simp only [FOp.val, look_agree (s := a) h]
  | nilCheck a => simp only [FOp.val, look_agree (s := a) h]
  | field s off n agg => simp only [FOp.val, look_agree (s := s) h]
  | subStr s lo hi =>
    have h1 := look_agree (s := s) fun n hn => h n (by simp [FOp.srcs, hn])
    have h2 := fun d => bnd_agree (d := d) (s := lo) fun n hn => h n (by simp [FOp.srcs, hn])
    have h3 := fun d => bnd_agree (d := d) (s := hi) fun n hn => h n (by simp [FOp.srcs, hn])
    simp only [FOp.val, h1, h2, h3]
  | subSl s lo hi size =>
    have h1 := look_agree (s := s) fun n hn => h n (by simp [FOp.srcs, hn])
    have h2 := fun d => bnd_agree (d := d) (s := lo) fun n hn => h n (by simp [FOp.srcs, hn])
    have h3 := fun d => bnd_agree (d := d) (s := hi) fun n hn => h n (by simp [FOp.srcs, hn])
    have hr := root_agree (s := s) fun n hn => h n (by simp [FOp.srcs, hn])
    simp only [FOp.val, h1, h2, h3]
    cases hl : E.look s <;> simp only
    rename_i q p
    have hq := hr q p (.inl hl)
    cases p <;> simp only [lenO, subO, hq, lenP, subP, at_agree hq]
  | build tmpl ps ss =>
    simp only [FOp.val, looks_agree (ss := ss) h, plainAts_agree (ss := ss) h]
  | buildSl tmpl ln is ss =>
    simp only [FOp.val, looks_agree (ss := ss) h, plainAts_agree (ss := ss) h]
  | _ => rfl
theorem plain_pass {s : Sr} {deep : Bool} (h : E.plainAt s = true) : E.pass deep s = (E.look s, E) := by
  cases s with
  | k v => rfl
  | t n =>
    simp only [Env.plainAt] at h
    simp only [Env.look, Env.pass]
    generalize E.get n = f at h
    cases f <;> simp only [FV.plain, Bool.false_eq_true] at h <;> try rfl
    rename_i g cap
    cases cap <;> simp at h
    rfl
theorem plain_passL {deep : Bool} : ∀ {ss : List Sr}, ss.all E.plainAt = true → E.passL deep ss = (ss.map E.look, E)
  | [], _ => rfl
  | s :: ss, h => by
    simp only [List.all_cons, Bool.and_eq_true] at h
    have h1 := plain_pass (deep := deep) h.1
    have h2 := plain_passL (deep := deep) h.2
    simp only [Env.passL, h1, h2, List.map_cons]
theorem FOp.val_eval {f : FOp} {d : Nat} {v : FV} (h : f.val E = some v) (hr : v.notRoot d = true) : f.eval E d = some (E.upd d v) := by
  have put : ∀ {x}, x = some v → x.bind (putIn E d) = some (E.upd d v) := fun {x} e => by subst e; simp [putIn, hr]
  have put1 : putIn E d v = some (E.upd d v) := by simp [putIn, hr]
  cases f <;> simp only [FOp.val] at h <;> try (cases h; done)
  case mv s => cases h; exact put1
  case alloc cs => cases h; rfl
  case extractL n i =>
    simp only [FOp.eval]
    rw [Option.map_eq_some_iff]
    exact ⟨v, h, rfl⟩
  case mkF g ns => exact put h
  case pick c a b =>
    simp only [FOp.eval]
    split at h <;> try (cases h; done)
    rename_i x hx
    rw [hx]
    cases x <;> simp only at h ⊢ <;> cases h <;> exact put1
  case box s =>
    cases s with
    | k v => cases h
    | t n =>
      simp only at h
      split at h <;> try (cases h; done)
      rename_i hp
      have := plain_pass (E := E) (s := .t n) (deep := false) (by simpa [Env.plainAt] using hp)
      simp only [FOp.eval, this, Env.look]
      generalize E.get n = f at h hp
      cases f <;> simp only [FV.plain, Bool.false_eq_true] at hp <;> simp only at h <;> try (cases h; done)
      all_goals try (cases h; rfl)
      rename_i g cap
      cases cap <;> simp at hp
      cases h; rfl
  case load s n agg => exact put h
  case fa s off => exact put h
  case ia s i size =>
    simp only [FOp.eval]
    split at h <;> try (cases h; done)
    rename_i hi
    rw [hi]
    exact put h
  case iaA s i size n =>
    simp only [FOp.eval]
    split at h <;> try (cases h; done)
    rename_i hi
    rw [hi]
    exact put h
  case cvStr s =>
    simp only [FOp.eval]
    split at h <;> try (cases h; done)
    rename_i hi
    rw [hi]
    rw [Option.map_eq_some_iff] at h
    obtain ⟨b, h1, rfl⟩ := h
    simp only [h1, Option.map_some]
  case mm isMax a b =>
    simp only [FOp.eval]
    split at h <;> try (cases h; done)
    rename_i h1 h2
    rw [h1, h2]
    cases h; rfl
  case len s =>
    simp only [FOp.eval]
    split at h <;> try (cases h; done)
    rename_i hi
    rw [hi]
    cases h; rfl
  case lenS s =>
    simp only [FOp.eval]
    split at h <;> try (cases h; done)
    rename_i hi
    rw [hi]
    cases h; rfl
  case bin op a b => simp only [FOp.eval, h, Option.map_some]
  case eqS => simp only [FOp.eval, h, Option.map_some]
  case un => simp only [FOp.eval, h, Option.map_some]
  case eqB neg a b =>
    simp only [FOp.eval]
    split at h <;> try (cases h; done)
    rename_i h1 h2
    rw [h1, h2]
    cases h; rfl
  case cv =>
    simp only [FOp.eval]
    split at h <;> try (cases h; done)
    rename_i h1
    rw [h1]
    cases h; rfl
  case nilCheck a =>
    simp only [FOp.eval]
    split at h <;> try (cases h; done)
    rename_i h1
    rw [if_pos h1]
    cases h; exact put1
  case subStr s lo hi =>
    simp only [FOp.eval]
    split at h <;> try (cases h; done)
    rename_i h1
    rw [h1]
    simp only
    split at h <;> try (cases h; done)
    rename_i h2 h3
    rw [h2, h3]
    simp only [h, Option.map_some]
  case subSl s lo hi size =>
    simp only [FOp.eval]
    cases hl : E.look s <;> rw [hl] at h <;> simp only at h ⊢ <;> try (cases h; done)
    · split at h <;> try (cases h; done)
      rename_i h2 h3
      rw [h2, h3]
      simp only
      split at h <;> try (cases h; done)
      rename_i h4
      rw [if_pos h4]
      simp only [h, Option.map_some]
    · rename_i q p
      cases p <;> simp only at h ⊢ <;> try (cases h; done)
      all_goals
        split at h <;> try (cases h; done)
        rename_i h2 h3
        rw [h2, h3]
        exact put h
  case field s off n agg =>
    simp only [FOp.eval]
    split at h <;> try (cases h; done)
    rename_i h1
    rw [h1]
    exact put h
  case index s i =>
    simp only [FOp.eval]
    split at h <;> try (cases h; done)
    rename_i h1 h2
    rw [h1, h2]
    simp only
    split at h <;> try (cases h; done)
    rename_i h3
    rw [if_pos h3]
    split at h <;> try (cases h; done)
    rename_i h4
    rw [h4]
    cases h; rfl
  case build tmpl ps ss =>
    split at h <;> try (cases h; done)
    rename_i hp
    simp only [FOp.eval, bdF, plain_passL hp]
    rw [Option.map_eq_some_iff] at h
    obtain ⟨cs, h1, rfl⟩ := h
    simp only [h1, Option.map_some]
  case buildSl tmpl ln is ss =>
    split at h <;> try (cases h; done)
    rename_i hp
    simp only [FOp.eval, bsF, plain_passL hp]
    rw [Option.map_eq_some_iff] at h
    obtain ⟨cs, h1, rfl⟩ := h
    simp only [h1, Option.map_some]
end
end Go.Fm
set_option linter.unusedVariables false
set_option linter.unusedSimpArgs false
namespace Go.Fm
open Go
def stepG (P : Program) (f : FO) (E : Env) (J : Env → Prop) : Prop :=
  match f.g with
  | none => runK P f.k f.d E J
  | some (t, want) => match E.get t with
    | .bool b => (b = want → runK P f.k f.d E J) ∧ (b ≠ want → J (E.upd f.d skipped))
    | .tup [] => J (E.upd f.d skipped)
    | _ => False
theorem runOps_cons (P : Program) (f : FO) (r : List FO) (E : Env) (J : Env → Prop) : runOps P (f :: r) E J = stepG P f E (fun E' => runOps P r E' J) := rfl
def rootOk (D : List Nat) : FV → Bool
  | .al r _ | .ptr r _ => !D.contains r
  | .clo _ rs => rs.all fun r => !D.contains r
  | .als q _ _ _ => !D.contains q
  | .alg q _ _ => !D.contains q
  | _ => true
def exF (g : FV) (i : Nat) : Option FV :=
  match g with
  | .tup vs => match vs[i]? with
    | some f => if f.alias = false then some f else none
    | none => none
  | _ => none
def exT (g : FV) (i : Nat) : FV :=
  match g with
  | .tup vs => .tup (vs.set i .undef)
  | g => g
def stV (m : Nat) (f : FV) (n : Nat) : Option FV := if m = n ∧ 0 < n ∧ f.alias = false ∧ f.cells.length = n ∧ f.cells.all FV.one = true then some (.box f.cells) else none
def stW (g f : FV) (n : Nat) : Option FV :=
  match g with
  | .box cs => stV cs.length f n
  | _ => none
def Env.noAl (E : Env) : Sr → Bool
  | .k _ => true
  | .t n => !(E.get n).alias
def FOp.wr (d : Nat) : FOp → List Nat
  | .build _ _ ss | .buildSl _ _ _ ss => d :: slotsL ss
  | .mvP _ s => d :: s.slots
  | .extract n _ => [d, n]
  | _ => [d]
def FK.wr (k : FK) (d : Nat) : List Nat :=
  match k with
  | .op f => f.wr d
  | _ => [d]
def FO.wr (f : FO) : List Nat := f.k.wr f.d
def detOp (E : Env) (d : Nat) (J : Env → Prop) : FOp → Prop
  | .build tmpl ps ss => (ss.all E.noAl) = true ∧ ∃ x, bdF E tmpl ps ss = some x ∧ J (x.2.put d x.1)
  | .buildSl tmpl ln is ss => (ss.all E.noAl) = true ∧ ∃ x, bsF E tmpl ln is ss = some x ∧ J (x.2.put d x.1)
  | .mvP deep s => E.noAl s = true ∧ J ((E.pass deep s).2.put d (E.pass deep s).1)
  | .extract n i => ∃ f, exF (E.get n) i = some f ∧ J ((if f.flat then E else E.put n (exT (E.get n) i)).put d f)
  | f => ∃ v, f.val E = some v ∧ v.notRoot d = true ∧ J (E.put d v)
def detK (P : Program) (k : FK) (d : Nat) (E : Env) (J : Env → Prop) : Prop :=
  match k with
  | .op f => detOp E d J f
  | .call _ _ => False
  | .callB f ss => ∃ v, FCall P f (ss.map E.lend) (· = v) ∧ v.free = true ∧ J (E.put d v)
  | .callL f ss => (ss.all fun s => !(E.look s).alias) = true ∧ ∃ v, FCall P f (ss.map E.look) (· = v) ∧ J (E.put d v)
  | .callV s ss => match E.lend s with
    | .fn g cap => isFn P g = true ∧ ∃ v, FCall P g (ss.map E.lend ++ cap) (· = v) ∧ v.free = true ∧ J (E.put d v)
    | _ => False
  | .callM _ _ _ | .isNil _ _ | .callF _ _ | .callX _ _ _ => False
  | .storeW s n => ∃ v, stW (E.get d) (E.look s) n = some v ∧ J (E.put d v)
def detG (P : Program) (f : FO) (E : Env) (J : Env → Prop) : Prop :=
  match f.g with
  | none => detK P f.k f.d E J
  | some (t, want) => match E.get t with
    | .bool b => (b = want → detK P f.k f.d E J) ∧ (b ≠ want → J (E.put f.d skipped))
    | .tup [] => J (E.put f.d skipped)
    | _ => False
def runDet (P : Program) (D : List Nat) : List FO → Env → (Env → Prop) → Prop
  | [], E, J => J E
  | f :: r, E, J => detG P f E (fun E' => rootOk D (E'.get f.d) = true ∧ runDet P D r E' J)
def FK.srcs : FK → List Nat
  | .op f => f.srcs
  | .call _ _ => []
  | .callB _ ss | .callL _ ss => slotsL ss
  | .callV s ss => slotsL (s :: ss)
  | .callM _ _ _ | .isNil _ _ | .callF _ _ | .callX _ _ _ => []
  | .storeW s _ => s.slots
def FO.srcs (f : FO) : List Nat := (match f.g with | some (t, _) => [t] | none => []) ++ f.k.srcs
theorem runK_mono {P : Program} {k : FK} {d : Nat} {E : Env} {J J' : Env → Prop} (h : runK P k d E J) (hj : ∀ E', J E' → J' E') : runK P k d E J' := by
  cases k with
  | op f => obtain ⟨E', h1, h2⟩ := h; exact ⟨E', h1, hj _ h2⟩
  | call f ss => exact FCall.mono h fun r k => hj _ k
  | callB f ss => exact FCall.mono h fun r k => ⟨k.1, hj _ k.2⟩
  | callL f ss => exact ⟨h.1, h.2.mono fun r k => hj _ k⟩
  | callV s ss =>
    simp only [runK] at h ⊢
    split at h
    · exact ⟨h.1, h.2.mono fun r k => ⟨k.1, hj _ k.2⟩⟩
    · exact h.elim
  | callF s ss =>
    simp only [runK] at h ⊢
    split at h
    · exact ⟨h.1, h.2.1, h.2.2.mono fun r k => hj _ k⟩
    · exact h.elim
  | callX f s ss => exact ⟨h.1, h.2.1, h.2.2.1, h.2.2.2.1, h.2.2.2.2.1, FMutB.mono h.2.2.2.2.2 fun c r _ k => hj _ k⟩
  | callM f s q =>
    obtain ⟨h1, es, h2, h3⟩ := h
    exact ⟨h1, es, h2, ⟨fun a1 a2 a3 a4 => (h3.out a1 a2 a3 a4).mono fun e w' ⟨es', a, b, c⟩ => ⟨es', a, hj _ b, c⟩⟩⟩
  | isNil neg s =>
    simp only [runK, nilOn] at h ⊢
    split at h <;> try exact h.elim
    · exact ⟨fun e b => hj _ (h.1 e b), fun e => hj _ (h.2 e)⟩
    · split at h <;> try exact h.elim
      · exact ⟨fun e b => hj _ (h.1 e b), fun e => hj _ (h.2 e)⟩
      · exact ⟨fun e b => hj _ (h.1 e b), fun e => hj _ (h.2 e)⟩
  | storeW s n => obtain ⟨E1, h1, h2, h3⟩ := h; exact ⟨E1, h1, h2, hj _ h3⟩
theorem stepG_mono {P : Program} {f : FO} {E : Env} {J J' : Env → Prop} (h : stepG P f E J) (hj : ∀ E', J E' → J' E') : stepG P f E J' := by
  unfold stepG at h ⊢
  cases hg : f.g with
  | none => rw [hg] at h; exact runK_mono h hj
  | some x =>
    obtain ⟨t, want⟩ := x
    rw [hg] at h
    simp only at h ⊢
    split at h
    · exact ⟨fun e => runK_mono (h.1 e) hj, fun e => hj _ (h.2 e)⟩
    · exact hj _ h
    · exact h.elim
section
variable {P : Program} {N : Nat} {xv : Nat → Value} {a : Act} {w : World} {S : Nat → Prop} {R : List Nat}
theorem step_ok {ops : List Oper} {f : FO} {o : Oper} {E : Env} {J : Env → Prop} {K : Act → World → Prop} {Q : Exit → Act → World → Prop} (hk : f.k.chk P N f.d o = true) (hg : guardOk N ops f o = true) (hA : Amb P w S) (r : Rel N xv E a w S R) (h : stepG P f E J)
    (hq : ∀ a' w', Post N xv J w S R a' w' → K a' w') :
    if Region.wanted o (yielded ops.toArray a.tmps) then o.wp P a w K Q ∨ (o.asks P a w ∧ LetsOut Q) else K (a.put o.dst undef) w := by
  have go : runK P f.k f.d E J → o.wp P a w K Q := fun h1 => wp_widen (runK_ok hk h1 hA r) hq
  have skip : o.dst = some f.d → f.d < N → J (E.upd f.d skipped) → K (a.put o.dst undef) w := fun h1 h2 h3 => by
    obtain ⟨R', h4, h5⟩ := r.skip h2
    rw [h1]
    exact hq _ _ ⟨_, S, R', h3, h4, h5⟩
  unfold guardOk at hg
  unfold stepG at h
  cases hfg : f.g with
  | none =>
    rw [hfg] at hg h
    cases hog : o.guard with
    | some x => rw [hog] at hg; cases hg
    | none =>
    simp only at h
    rw [if_pos (by simp [Region.wanted, hog])]
    exact .inl (go h)
  | some x =>
    obtain ⟨t, want⟩ := x
    rw [hfg] at hg h
    cases hog : o.guard with
    | none => rw [hog] at hg; cases hg
    | some y =>
    obtain ⟨j, want'⟩ := y
    rw [hog] at hg
    simp only [Bool.and_eq_true, beq_iff_eq, decide_eq_true_eq] at hg
    obtain ⟨rfl, ht, hj, _, hd, hdN⟩ := hg
    have hv : yielded ops.toArray a.tmps j = match a.tmps[t]? with | some (.bool b) => some b | _ => none := by
      unfold yielded
      have : (ops.toArray[j]?).bind (·.dst) = some t := by simpa using hj
      rw [this]
      rfl
    have hsz : t < a.tmps.size := by rw [r.size]; exact ht
    have hval := eval_val (a := a) (xv := xv) r.small ht
    have hget : a.tmps[t]? = some (valOf a xv t) := by
      rw [hval]
      simp [Act.eval, hsz]
    rw [hget] at hv
    simp only at h
    cases hE : E.get t with
    | bool b =>
      rw [hE] at h
      simp only at h
      obtain ⟨R1, _, h1, _⟩ := r.get0 t hE rfl
      have hb : valOf a xv t = .bool b := by
        generalize valOf a xv t = v at h1
        cases h1; rfl
      rw [hb] at hv
      simp only at hv
      by_cases hbw : b = want
      · rw [if_pos (by simp [Region.wanted, hog, hv, hbw])]
        exact .inl (go (h.1 hbw))
      · rw [if_neg (by simp [Region.wanted, hog, hv, hbw])]
        exact skip hd hdN (h.2 hbw)
    | tup vs =>
      rw [hE] at h
      cases vs with
      | cons _ _ => exact h.elim
      | nil =>
      simp only at h
      obtain ⟨R1, _, h1, _⟩ := r.get0 t hE rfl
      have hb : ∃ z, valOf a xv t = .tuple z := by
        generalize valOf a xv t = v at h1
        cases h1; exact ⟨_, rfl⟩
      obtain ⟨z, hb⟩ := hb
      rw [hb] at hv
      simp only at hv
      rw [if_neg (by simp [Region.wanted, hog, hv])]
      exact skip hd hdN h
    | _ => rw [hE] at h; exact h.elim
theorem lend_agree {E E' : Env} {s : Sr} (h : ∀ n ∈ s.slots, Agree E E' n) : E'.lend s = E.lend s := by
  cases s with
  | k v => rfl
  | t n =>
    have h1 := h n (by simp [Sr.slots])
    simp only [Env.lend, h1.1]
    cases hg : E.get n with
    | al r p => simp only [at_agree (h1.2.1 r p (.inl hg))]
    | clo g rs =>
      have : (rs.map fun r => (E'.get r).sealed) = rs.map fun r => (E.get r).sealed := List.map_congr_left fun r m => by rw [h1.2.2.1 g rs hg r m]
      simp only [this]
    | als q lo m sz => simp only [h1.2.2.2.1 q lo m sz hg]
    | alg q p m => simp only [h1.2.2.2.2 q p m hg, at_agree (h1.2.2.2.2 q p m hg)]
    | _ => rfl
theorem unroot_ok {d : Nat} {f : FV} (h : rootOk [d] f = true) : unroot d f = f := by
  cases f <;> simp only [rootOk, List.contains_cons, List.contains_nil, Bool.or_false, Bool.not_eq_true', beq_eq_false_iff_ne, ne_eq] at h <;> try rfl
  · simp only [unroot, if_neg h]
  · simp only [unroot, if_neg h]
  · rename_i g rs
    have : rs.contains d = false := by
      rw [Bool.eq_false_iff]
      intro hm
      have := List.all_eq_true.1 h d (by simpa using hm)
      simp at this
    simp only [unroot, this, Bool.false_eq_true, if_false]
  · simp only [unroot, if_neg h]
  · simp only [unroot, if_neg h]
theorem unpath_ok {d : Nat} {p : Path} {n : Nat} {f : FV} (h : rootOk [d] f = true) : unpath d p n f = f := by
  cases f <;> simp only [rootOk, List.contains_cons, List.contains_nil, Bool.or_false, Bool.not_eq_true', beq_eq_false_iff_ne, ne_eq] at h <;> try rfl
  · simp only [unpath, if_neg h]
  · simp only [unpath, if_neg h]
  · simp only [unpath, if_neg h]
theorem mapV_id {E : Env} {g : FV → FV} (h : ∀ x ∈ E, g x.2 = x.2) : E.mapV g = E := by
  unfold Env.mapV
  refine (List.map_congr_left fun x hx => ?_).trans (List.map_id _)
  rw [h x hx]; rfl
theorem upd_noroot {E : Env} {d : Nat} {v : FV} (h : ∀ x ∈ E, rootOk [d] x.2 = true) : E.upd d v = E.put d v := by
  unfold Env.upd Env.clear
  split
  · rw [mapV_id fun x hx => unroot_ok (h x hx)]
  · rfl
theorem stW_run {E : Env} {d n : Nat} {f v : FV} (h : ∀ x ∈ E, rootOk [d] x.2 = true) (hs : stW (E.get d) f n = some v) : stG E f (.t d) n = some (E.put d v) ∧ f.alias = false := by
  unfold stW at hs
  split at hs <;> try (cases hs; done)
  rename_i cs hg
  unfold stV at hs
  split at hs <;> try (cases hs; done)
  rename_i hc
  obtain ⟨h1, h2, h3, h4, h5⟩ := hc
  cases hs
  refine ⟨?_, h3⟩
  have hl : E.look (.t d) = .ptr d [(0, 0)] := by
    simp only [Env.look, hg]
    cases cs with
    | nil => simp only [List.length_nil] at h1; omega
    | cons c cs => rfl
  have hgn : getN (E.get d) [(0, 0)] n = some ((cs.drop 0).take n) := by
    rw [hg]
    simp only [getN, FV.kids]
    simp only [List.getElem?_cons_zero]
    rw [if_pos (by omega)]
  simp only [stG, hl, hgn]
  rw [if_pos ⟨h4, h5⟩]
  congr 1
  unfold Env.wr
  rw [mapV_id fun x hx => unpath_ok (h x hx), hg]
  congr 1
  simp only [setN, FV.kids, List.getElem?_cons_zero]
  simp only [List.take_zero, List.nil_append, Nat.zero_add, List.set_cons_zero]
  rw [List.drop_of_length_le (by omega), List.append_nil]
  rfl
def Env.opt : Env → Nat → Option FV
  | [], _ => none
  | (k, v) :: E, n => if k = n then some v else Env.opt E n
theorem get_opt : ∀ (E : Env) (n : Nat), E.get n = (E.opt n).getD .undef
  | [], n => rfl
  | (k, v) :: E, n => by
    simp only [Env.get, Env.opt]
    split
    · rfl
    · exact get_opt E n
theorem opt_put (d : Nat) (v : FV) : ∀ (E : Env) (n : Nat), E.Sorted → (E.put d v).opt n = if d = n then some v else E.opt n
  | [], n, _ => rfl
  | (k, u) :: E, n, hs => by
    have hs2 : Env.Sorted E := (List.pairwise_cons.1 hs).2
    simp only [Env.put]
    by_cases h1 : k = d
    · subst h1
      rw [if_pos rfl]
      simp only [Env.opt]
      split <;> rfl
    · rw [if_neg h1]
      by_cases h2 : d < k
      · rw [if_pos h2]
        simp only [Env.opt]
      · rw [if_neg h2]
        simp only [Env.opt]
        rw [opt_put d v E n hs2]
        by_cases h3 : k = n
        · subst h3
          rw [if_pos rfl, if_neg (fun e => h1 e.symm), if_pos rfl]
        · rw [if_neg h3, if_neg h3]
theorem opt_mem {E : Env} : ∀ {n : Nat} {v : FV}, E.opt n = some v → (n, v) ∈ E := by
  induction E with
  | nil => intro n v h; cases h
  | cons x E ih =>
    intro n v h
    obtain ⟨k, u⟩ := x
    simp only [Env.opt] at h
    split at h
    · rename_i e; subst e; cases h; simp
    · exact List.mem_cons_of_mem _ (ih h)
theorem opt_of_mem {E : Env} : ∀ {n : Nat} {v : FV}, E.Sorted → (n, v) ∈ E → E.opt n = some v := by
  induction E with
  | nil => intro n v _ h; cases h
  | cons x E ih =>
    intro n v hs h
    obtain ⟨k, u⟩ := x
    obtain ⟨h1, h2⟩ := List.pairwise_cons.1 hs
    simp only [Env.opt]
    rcases List.mem_cons.1 h with e | h
    · cases e; rw [if_pos rfl]
    · have := h1 _ h
      rw [if_neg (by simp only at this; omega)]
      exact ih h2 h
theorem opt_lt {E : Env} {k : Nat} : (∀ x ∈ E, k < x.1) → E.opt k = none := by
  intro h
  cases ho : E.opt k with
  | none => rfl
  | some v => have := h _ (opt_mem ho); simp only at this; omega
theorem opt_ext : ∀ {E E' : Env}, E.Sorted → E'.Sorted → (∀ n, E.opt n = E'.opt n) → E = E'
  | [], [], _, _, _ => rfl
  | [], (k, v) :: _, _, _, h => by have := h k; simp [Env.opt] at this
  | (k, v) :: _, [], _, _, h => by have := h k; simp [Env.opt] at this
  | (k, v) :: E, (k', v') :: E', hs, hs', h => by
    obtain ⟨h1, h2⟩ := List.pairwise_cons.1 hs
    obtain ⟨h1', h2'⟩ := List.pairwise_cons.1 hs'
    have hk : k = k' := by
      have e1 := h k
      have e2 := h k'
      simp only [Env.opt, if_true] at e1 e2
      by_cases e : k = k'
      · exact e
      · rw [if_neg (fun x => e x.symm)] at e1
        rw [if_neg e] at e2
        have a1 := h1' _ (opt_mem e1.symm)
        have a2 := h1 _ (opt_mem e2)
        simp only at a1 a2
        omega
    subst hk
    have hv : v = v' := by
      have := h k
      simpa [Env.opt] using this
    subst hv
    congr 1
    refine opt_ext h2 h2' fun n => ?_
    by_cases e : k = n
    · subst e
      rw [opt_lt h1, opt_lt h1']
    · have := h n
      simpa [Env.opt, e] using this
def NR (D : List Nat) (E : Env) : Prop := ∀ x ∈ E, rootOk D x.2 = true
theorem rootOk_sub {D D' : List Nat} (h : ∀ n ∈ D', n ∈ D) {v : FV} (hv : rootOk D v = true) : rootOk D' v = true := by
  have key : ∀ r, D.contains r = false → D'.contains r = false := fun r hr => by
    rw [Bool.eq_false_iff] at hr ⊢
    exact fun hm => hr (by simpa using h r (by simpa using hm))
  cases v <;> simp only [rootOk, Bool.not_eq_true'] at hv ⊢
  · exact key _ hv
  · exact key _ hv
  · rw [List.all_eq_true] at hv ⊢
    exact fun x hx => by
      have := hv x hx
      simp only [Bool.not_eq_true'] at this ⊢
      exact key _ this
  · exact key _ hv
  · exact key _ hv
theorem NR.one {D : List Nat} {E : Env} (h : NR D E) {d : Nat} (hd : d ∈ D) : ∀ x ∈ E, rootOk [d] x.2 = true := fun x hx =>
  rootOk_sub (fun n hn => by simp at hn; subst hn; exact hd) (h x hx)
theorem NR.put {D : List Nat} {E : Env} (h : NR D E) {d : Nat} {v : FV} (hv : rootOk D v = true) : NR D (E.put d v) := fun x hx => by
  rcases Env.mem_put hx with rfl | ⟨h1, _⟩ | h1
  · exact hv
  · exact h x h1
  · exact h x h1
theorem NR.get {D : List Nat} {E : Env} (h : NR D E) (n : Nat) : rootOk D (E.get n) = true := by
  by_cases hu : E.get n = .undef
  · rw [hu]; rfl
  · exact h _ (Env.get_mem hu)
theorem agree_of {D : List Nat} {E M : Env} (hE : NR D E) {n : Nat} (hn : M.opt n = E.opt n) (hr : ∀ x, x ∉ D → M.opt x = E.opt x) : Agree E M n := by
  have hg : ∀ x, M.opt x = E.opt x → M.get x = E.get x := fun x h => by rw [get_opt, get_opt, h]
  have root : ∀ r, D.contains r = false → M.get r = E.get r := fun r h => hg r (hr r fun hm => by
    have : D.contains r = true := by simpa using hm
    rw [h] at this; cases this)
  have hv := hE.get n
  refine ⟨hg n hn, fun r p h => ?_, fun g rs h r hm => ?_, fun q lo m sz h => ?_, fun q p m h => ?_⟩
  · rcases h with h | h <;> rw [h] at hv <;> simp only [rootOk, Bool.not_eq_true'] at hv <;> exact root r hv
  · rw [h] at hv
    have := List.all_eq_true.1 hv r hm
    exact root r (by simpa using this)
  · rw [h] at hv
    simp only [rootOk, Bool.not_eq_true'] at hv
    exact root q hv
  · rw [h] at hv
    simp only [rootOk, Bool.not_eq_true'] at hv
    exact root q hv
theorem pass_nr {D : List Nat} {E : Env} {s : Sr} {deep : Bool} (hE : NR D E) (hD : ∀ n ∈ s.slots, n ∈ D) (hn : E.noAl s = true) :
    E.pass deep s = (match s with
      | .k v => (v, E)
      | .t n => match E.get n with
        | .iter _ _ => (.undef, E)
        | f => if f.plain then (f, E) else (f, E.put n .undef)) := by
  cases s with
  | k v => rfl
  | t n =>
    have hu : E.upd n .undef = E.put n .undef := upd_noroot (hE.one (hD n (by simp [Sr.slots])))
    simp only [Env.noAl, Bool.not_eq_true'] at hn
    simp only [Env.pass]
    generalize hg : E.get n = g at hn
    cases g <;> simp only [FV.alias] at hn <;> first | rfl | (cases hn; done) | (simp only [hu])
theorem pass_loc {D : List Nat} {E M : Env} {s : Sr} {deep : Bool} (hsE : E.Sorted) (hsM : M.Sorted) (hE : NR D E) (hM : NR D M) (hD : ∀ n ∈ s.slots, n ∈ D) (hn : E.noAl s = true) (ha : ∀ n ∈ s.slots, M.opt n = E.opt n) :
    (M.pass deep s).1 = (E.pass deep s).1 ∧ (M.pass deep s).2.Sorted ∧ (E.pass deep s).2.Sorted ∧ NR D (M.pass deep s).2 ∧ NR D (E.pass deep s).2 ∧
      (∀ x, (M.pass deep s).2.opt x = if x ∈ s.slots then (E.pass deep s).2.opt x else M.opt x) ∧ (∀ x, x ∉ s.slots → (E.pass deep s).2.opt x = E.opt x) ∧ (∀ u, E.noAl u = true → (E.pass deep s).2.noAl u = true) := by
  cases s with
  | k v =>
    refine ⟨rfl, hsM, hsE, hM, hE, fun x => ?_, fun x _ => rfl, fun u h => h⟩
    show M.opt x = if x ∈ (Sr.k v).slots then E.opt x else M.opt x
    split
    · rename_i h; exact ha x h
    · rfl
  | t n =>
    have hgn : M.opt n = E.opt n := ha n (by simp [Sr.slots])
    have hg : M.get n = E.get n := by rw [get_opt, get_opt, hgn]
    have hnM : M.noAl (.t n) = true := by simpa only [Env.noAl, hg] using hn
    rw [pass_nr hE hD hn, pass_nr hM hD hnM]
    simp only [hg]
    have same : (∀ x, M.opt x = if x ∈ (Sr.t n).slots then E.opt x else M.opt x) := fun x => by
      simp only [Sr.slots, List.mem_singleton]
      split
      · rename_i h; subst h; exact hgn
      · rfl
    have putc : M.put n .undef |>.Sorted := Env.sorted_put hsM _ _
    have fin : (∀ x, (M.put n .undef).opt x = if x ∈ (Sr.t n).slots then (E.put n .undef).opt x else M.opt x) := fun x => by
      rw [opt_put _ _ _ _ hsM, opt_put _ _ _ _ hsE]
      simp only [Sr.slots, List.mem_singleton]
      by_cases h : x = n
      · subst h; simp
      · rw [if_neg h, if_neg (fun e => h e.symm)]
    have fin2 : (∀ x, x ∉ (Sr.t n).slots → (E.put n .undef).opt x = E.opt x) := fun x hx => by
      simp only [Sr.slots, List.mem_singleton] at hx
      rw [opt_put _ _ _ _ hsE, if_neg (fun e => hx e.symm)]
    have fin3 : ∀ u, E.noAl u = true → (E.put n .undef).noAl u = true := fun u h => by
      cases u with
      | k v => rfl
      | t m =>
        simp only [Env.noAl] at h ⊢
        rw [Env.get_put _ _ _ _ hsE]
        split
        · rfl
        · exact h
    split
    · exact ⟨rfl, hsM, hsE, hM, hE, same, fun x _ => rfl, fun u h => h⟩
    · split
      · exact ⟨rfl, hsM, hsE, hM, hE, same, fun x _ => rfl, fun u h => h⟩
      · exact ⟨rfl, putc, Env.sorted_put hsE _ _, hM.put rfl, hE.put rfl, fin, fin2, fin3⟩
theorem passL_loc {D : List Nat} {deep : Bool} : ∀ {ss : List Sr} {E M : Env}, E.Sorted → M.Sorted → NR D E → NR D M → (∀ n ∈ slotsL ss, n ∈ D) → (ss.all E.noAl) = true → (∀ n ∈ slotsL ss, M.opt n = E.opt n) →
    (M.passL deep ss).1 = (E.passL deep ss).1 ∧ (M.passL deep ss).2.Sorted ∧ (E.passL deep ss).2.Sorted ∧ NR D (M.passL deep ss).2 ∧ NR D (E.passL deep ss).2 ∧
      (∀ x, (M.passL deep ss).2.opt x = if x ∈ slotsL ss then (E.passL deep ss).2.opt x else M.opt x) ∧ (∀ x, x ∉ slotsL ss → (E.passL deep ss).2.opt x = E.opt x)
  | [], E, M, hsE, hsM, hE, hM, _, _, _ => ⟨rfl, hsM, hsE, hM, hE, fun x => by simp [slotsL, Env.passL], fun x _ => rfl⟩
  | s :: ss, E, M, hsE, hsM, hE, hM, hD, hn, ha => by
    simp only [List.all_cons, Bool.and_eq_true] at hn
    have in1 : ∀ n ∈ s.slots, n ∈ slotsL (s :: ss) := fun n h => slotsL_mem (by simp) h
    have in2 : ∀ n ∈ slotsL ss, n ∈ slotsL (s :: ss) := fun n h => by simp only [slotsL, List.flatMap_cons, List.mem_append]; exact .inr h
    obtain ⟨p1, p2, p3, p4, p5, p6, p7, p8⟩ := pass_loc (deep := deep) hsE hsM hE hM (fun n h => hD n (in1 n h)) hn.1 fun n h => ha n (in1 n h)
    have hn2 : (ss.all (E.pass deep s).2.noAl) = true := List.all_eq_true.2 fun u hu => p8 u (List.all_eq_true.1 hn.2 u hu)
    obtain ⟨q1, q2, q3, q4, q5, q6, q7⟩ := passL_loc (deep := deep) (ss := ss) p3 p2 p5 p4 (fun n h => hD n (in2 n h)) hn2 fun n h => by
      rw [p6]
      split
      · rfl
      · rename_i hx; rw [p7 n hx]; exact ha n (in2 n h)
    simp only [Env.passL]
    refine ⟨by rw [p1, q1], q2, q3, q4, q5, fun x => ?_, fun x hx => ?_⟩
    · rw [q6]
      by_cases h2 : x ∈ slotsL ss
      · rw [if_pos h2, if_pos (in2 x h2)]
      · rw [if_neg h2, p6]
        by_cases h1 : x ∈ s.slots
        · rw [if_pos h1, if_pos (in1 x h1), q7 x h2]
        · rw [if_neg h1, if_neg]
          simp only [slotsL, List.flatMap_cons, List.mem_append, not_or]
          exact ⟨h1, h2⟩
    · have h1 : x ∉ s.slots := fun h => hx (in1 x h)
      have h2 : x ∉ slotsL ss := fun h => hx (in2 x h)
      rw [q7 x h2, p7 x h1]
structure Loc (P : Program) (D : List Nat) (f : FO) (E E' : Env) : Prop where
  sorted : E'.Sorted
  old : ∀ x, x ∉ f.wr → E'.opt x = E.opt x
  nr : rootOk D (E'.get f.d) = true → NR D E'
  step : ∀ M : Env, M.Sorted → NR D M → (∀ x, (x ∈ f.srcs ∨ x ∈ f.wr ∨ x ∉ D) → M.opt x = E.opt x) → stepG P f M (fun M' => M'.Sorted ∧ ∀ x, M'.opt x = if x ∈ f.wr then E'.opt x else M.opt x)
theorem put_spec {D : List Nat} {E M : Env} (hsE : E.Sorted) (hsM : M.Sorted) (d : Nat) (v : FV) (wr : List Nat) (hd : d ∈ wr) (ha : ∀ x ∈ wr, M.opt x = E.opt x) :
    (M.put d v).Sorted ∧ ∀ x, (M.put d v).opt x = if x ∈ wr then (E.put d v).opt x else M.opt x :=
  ⟨Env.sorted_put hsM _ _, fun x => by
    rw [opt_put _ _ _ _ hsM, opt_put _ _ _ _ hsE]
    by_cases h : d = x
    · subst h; simp [hd]
    · rw [if_neg h, if_neg h]
      split
      · rename_i hx; exact ha x hx
      · rfl⟩
theorem nr_put {D : List Nat} {E : Env} (hs : E.Sorted) (hE : NR D E) {d : Nat} {v : FV} (h : rootOk D ((E.put d v).get d) = true) : NR D (E.put d v) := by
  rw [Env.get_put _ _ _ _ hs, if_pos rfl] at h
  exact hE.put h
theorem detK_loc {D : List Nat} {E : Env} {k : FK} {d : Nat} {J : Env → Prop} (hs : E.Sorted) (hE : NR D E) (hD : ∀ n ∈ k.wr d, n ∈ D) (h : detK P k d E J) :
    ∃ E', J E' ∧ E'.Sorted ∧ (∀ x, x ∉ k.wr d → E'.opt x = E.opt x) ∧ (rootOk D (E'.get d) = true → NR D E') ∧
      ∀ M : Env, M.Sorted → NR D M → (∀ x, (x ∈ k.srcs ∨ x ∈ k.wr d ∨ x ∉ D) → M.opt x = E.opt x) → runK P k d M (fun M' => M'.Sorted ∧ ∀ x, M'.opt x = if x ∈ k.wr d then E'.opt x else M.opt x) := by
  have hdw : d ∈ k.wr d := by
    cases k with
    | op f => cases f <;> simp [FK.wr, FOp.wr]
    | _ => simp [FK.wr]
  have hdD := hD d hdw
  have hu : ∀ {M : Env}, NR D M → ∀ v, M.upd d v = M.put d v := fun hM v => upd_noroot (hM.one hdD)
  -- what only writes its own slot
  have easy : ∀ v, k.wr d = [d] → J (E.put d v) → (∀ M : Env, M.Sorted → NR D M → (∀ x, (x ∈ k.srcs ∨ x ∈ k.wr d ∨ x ∉ D) → M.opt x = E.opt x) → runK P k d M (fun M' => M' = M.put d v)) →
      ∃ E', J E' ∧ E'.Sorted ∧ (∀ x, x ∉ k.wr d → E'.opt x = E.opt x) ∧ (rootOk D (E'.get d) = true → NR D E') ∧
        ∀ M : Env, M.Sorted → NR D M → (∀ x, (x ∈ k.srcs ∨ x ∈ k.wr d ∨ x ∉ D) → M.opt x = E.opt x) → runK P k d M (fun M' => M'.Sorted ∧ ∀ x, M'.opt x = if x ∈ k.wr d then E'.opt x else M.opt x) := fun v hw hj hrun => by
    refine ⟨E.put d v, hj, Env.sorted_put hs _ _, fun x hx => ?_, nr_put hs hE, fun M hsM hM ha => ?_⟩
    · rw [opt_put _ _ _ _ hs, if_neg]
      intro e; exact hx (e ▸ hdw)
    · exact runK_mono (hrun M hsM hM ha) fun M' e => by subst e; exact put_spec (D := D) hs hsM d v _ hdw fun x hx => ha x (.inr (.inl hx))
  have agr : ∀ {M : Env}, (∀ x, (x ∈ k.srcs ∨ x ∈ k.wr d ∨ x ∉ D) → M.opt x = E.opt x) → ∀ n ∈ k.srcs, Agree E M n := fun ha n hn => agree_of hE (ha n (.inl hn)) fun x hx => ha x (.inr (.inr hx))
  cases k with
  | op f =>
    have valc : f.wr d = [d] → (∃ v, f.val E = some v ∧ v.notRoot d = true ∧ J (E.put d v)) → _ := fun hw ⟨v, h1, h2, h3⟩ =>
      easy v hw h3 fun M hsM hM ha => ⟨_, FOp.val_eval ((FOp.val_agree (agr ha)).trans h1) h2, hu hM v⟩
    cases f with
    | build tmpl ps ss =>
      obtain ⟨h1, x, h2, h3⟩ := h
      unfold bdF at h2
      rw [Option.map_eq_some_iff] at h2
      obtain ⟨cs, h2, rfl⟩ := h2
      have hDs : ∀ n ∈ slotsL ss, n ∈ D := fun n hn => hD n (by simp [FK.wr, FOp.wr, hn])
      obtain ⟨a1, a2, a3, a4, a5, a6, a7⟩ := passL_loc (deep := false) (ss := ss) (E := E) (M := E) hs hs hE hE hDs h1 fun n _ => rfl
      refine ⟨_, h3, Env.sorted_put a3 _ _, fun x hx => ?_, nr_put a3 a5, fun M hsM hM ha => ?_⟩
      · simp only [FK.wr, FOp.wr, List.mem_cons, not_or] at hx
        rw [opt_put _ _ _ _ a3, if_neg (fun e => hx.1 e.symm), a7 x hx.2]
      · obtain ⟨b1, b2, b3, b4, b5, b6, b7⟩ := passL_loc (deep := false) (ss := ss) (E := E) (M := M) hs hsM hE hM hDs h1 fun n hn => ha n (.inr (.inl (by simp [FK.wr, FOp.wr, hn])))
        refine ⟨(M.passL false ss).2.upd d (.agg cs), ?_, ?_⟩
        · simp only [FOp.eval, bdF, b1, h2, Option.map_some]
        · rw [hu b4]
          refine ⟨Env.sorted_put b2 _ _, fun x => ?_⟩
          rw [opt_put _ _ _ _ b2, opt_put _ _ _ _ a3]
          simp only [FK.wr, FOp.wr, List.mem_cons]
          by_cases hx : d = x
          · subst hx; simp
          · rw [if_neg hx, if_neg hx, b6]
            have : ¬ x = d := fun e => hx e.symm
            simp only [this, false_or]
    | buildSl tmpl ln is ss =>
      obtain ⟨h1, x, h2, h3⟩ := h
      unfold bsF at h2
      rw [Option.map_eq_some_iff] at h2
      obtain ⟨cs, h2, rfl⟩ := h2
      have hDs : ∀ n ∈ slotsL ss, n ∈ D := fun n hn => hD n (by simp [FK.wr, FOp.wr, hn])
      obtain ⟨a1, a2, a3, a4, a5, a6, a7⟩ := passL_loc (deep := false) (ss := ss) (E := E) (M := E) hs hs hE hE hDs h1 fun n _ => rfl
      refine ⟨_, h3, Env.sorted_put a3 _ _, fun x hx => ?_, nr_put a3 a5, fun M hsM hM ha => ?_⟩
      · simp only [FK.wr, FOp.wr, List.mem_cons, not_or] at hx
        rw [opt_put _ _ _ _ a3, if_neg (fun e => hx.1 e.symm), a7 x hx.2]
      · obtain ⟨b1, b2, b3, b4, b5, b6, b7⟩ := passL_loc (deep := false) (ss := ss) (E := E) (M := M) hs hsM hE hM hDs h1 fun n hn => ha n (.inr (.inl (by simp [FK.wr, FOp.wr, hn])))
        refine ⟨(M.passL false ss).2.upd d (.arr cs), ?_, ?_⟩
        · simp only [FOp.eval, bsF, b1, h2, Option.map_some]
        · rw [hu b4]
          refine ⟨Env.sorted_put b2 _ _, fun x => ?_⟩
          rw [opt_put _ _ _ _ b2, opt_put _ _ _ _ a3]
          simp only [FK.wr, FOp.wr, List.mem_cons]
          by_cases hx : d = x
          · subst hx; simp
          · rw [if_neg hx, if_neg hx, b6]
            have : ¬ x = d := fun e => hx e.symm
            simp only [this, false_or]
    | mvP deep s =>
      obtain ⟨h1, h3⟩ := h
      have hDs : ∀ n ∈ s.slots, n ∈ D := fun n hn => hD n (by simp [FK.wr, FOp.wr, hn])
      obtain ⟨a1, a2, a3, a4, a5, a6, a7, a8⟩ := pass_loc (deep := deep) (s := s) (E := E) (M := E) hs hs hE hE hDs h1 fun n _ => rfl
      refine ⟨_, h3, Env.sorted_put a3 _ _, fun x hx => ?_, nr_put a3 a5, fun M hsM hM ha => ?_⟩
      · simp only [FK.wr, FOp.wr, List.mem_cons, not_or] at hx
        rw [opt_put _ _ _ _ a3, if_neg (fun e => hx.1 e.symm), a7 x hx.2]
      · obtain ⟨b1, b2, b3, b4, b5, b6, b7, b8⟩ := pass_loc (deep := deep) (s := s) (E := E) (M := M) hs hsM hE hM hDs h1 fun n hn => ha n (.inr (.inl (by simp [FK.wr, FOp.wr, hn])))
        refine ⟨_, rfl, ?_⟩
        rw [hu b4, b1]
        refine ⟨Env.sorted_put b2 _ _, fun x => ?_⟩
        rw [opt_put _ _ _ _ b2, opt_put _ _ _ _ a3]
        simp only [FK.wr, FOp.wr, List.mem_cons]
        by_cases hx : d = x
        · subst hx; simp
        · rw [if_neg hx, if_neg hx, b6]
          have : ¬ x = d := fun e => hx e.symm
          simp only [this, false_or]
    | extract n i =>
      obtain ⟨f, h1, h3⟩ := h
      have hnD : n ∈ D := hD n (by simp [FK.wr, FOp.wr])
      obtain ⟨vs, hg, hv, hal⟩ : ∃ vs, E.get n = .tup vs ∧ vs[i]? = some f ∧ f.alias = false := by
        unfold exF at h1
        split at h1 <;> try (cases h1; done)
        rename_i vs hg
        split at h1 <;> try (cases h1; done)
        rename_i f' hv
        split at h1 <;> cases h1
        rename_i ha
        exact ⟨vs, hg, hv, ha⟩
      simp only [hg, exT] at h3
      have run : ∀ M : Env, NR D M → M.get n = .tup vs → FOp.eval M d (.extract n i) = some ((if f.flat then M else M.put n (.tup (vs.set i .undef))).put d f) := fun M hM hMg => by
        simp only [FOp.eval, hMg, hv, hal, if_true]
        rw [upd_noroot (hM.one hnD)]
        congr 1
        refine upd_noroot (NR.one ?_ hdD)
        split
        · exact hM
        · exact hM.put rfl
      have hsE2 : (if f.flat then E else E.put n (.tup (vs.set i .undef))).Sorted := by split; exact hs; exact Env.sorted_put hs _ _
      have hE2 : NR D (if f.flat then E else E.put n (.tup (vs.set i .undef))) := by split; exact hE; exact hE.put rfl
      refine ⟨_, h3, Env.sorted_put hsE2 _ _, fun x hx => ?_, nr_put hsE2 hE2, fun M hsM hM ha => ?_⟩
      · simp only [FK.wr, FOp.wr, List.mem_cons, List.mem_nil_iff, or_false, not_or] at hx
        rw [opt_put _ _ _ _ hsE2, if_neg (fun e => hx.1 e.symm)]
        split
        · rfl
        · rw [opt_put _ _ _ _ hs, if_neg (fun e => hx.2 e.symm)]
      · have hMg : M.get n = .tup vs := by rw [← hg, get_opt, get_opt, ha n (.inr (.inl (by simp [FK.wr, FOp.wr])))]
        refine ⟨_, run M hM hMg, ?_⟩
        have hsM2 : (if f.flat then M else M.put n (.tup (vs.set i .undef))).Sorted := by split; exact hsM; exact Env.sorted_put hsM _ _
        refine ⟨Env.sorted_put hsM2 _ _, fun x => ?_⟩
        rw [opt_put _ _ _ _ hsM2, opt_put _ _ _ _ hsE2]
        by_cases hx : d = x
        · subst hx; simp [FK.wr, FOp.wr]
        · rw [if_neg hx, if_neg hx]
          by_cases hxn : n = x
          · subst hxn
            have hin : n ∈ (FK.op (.extract n i)).wr d := by simp [FK.wr, FOp.wr]
            rw [if_pos hin]
            split
            · exact ha n (.inr (.inl hin))
            · rw [opt_put _ _ _ _ hsM, opt_put _ _ _ _ hs, if_pos rfl, if_pos rfl]
          · have hout : x ∉ (FK.op (.extract n i)).wr d := by
              simp only [FK.wr, FOp.wr, List.mem_cons, List.mem_nil_iff, or_false, not_or]
              exact ⟨fun e => hx e.symm, fun e => hxn e.symm⟩
            rw [if_neg hout]
            split
            · rfl
            · rw [opt_put _ _ _ _ hsM, if_neg hxn]
    | _ => exact valc rfl h
  | call f ss => exact h.elim
  | callB f ss =>
    obtain ⟨v, h1, h2, h3⟩ := h
    refine easy v rfl h3 fun M hsM hM ha => ?_
    have e : ss.map M.lend = ss.map E.lend := List.map_congr_left fun s hs' => lend_agree fun n hn => agr ha n (slotsL_mem hs' hn)
    simp only [runK, e]
    exact h1.mono fun r hr => by subst hr; exact ⟨h2, hu hM _⟩
  | callL f ss =>
    obtain ⟨h0, v, h1, h3⟩ := h
    refine easy v rfl h3 fun M hsM hM ha => ?_
    have h2 : ss.map M.look = ss.map E.look := looks_agree (agr ha)
    have h4 : ∀ E : Env, (ss.all fun s => !(E.look s).alias) = (ss.map E.look).all fun f => !f.alias := fun E => by simp [List.all_map, Function.comp_def]
    rw [h4] at h0
    simp only [runK]
    rw [h4, h2]
    exact ⟨h0, h1.mono fun r hr => by subst hr; exact hu hM _⟩
  | callV s ss =>
    simp only [detK] at h
    split at h
    · rename_i g cap hg
      obtain ⟨h0, v, h1, h2, h3⟩ := h
      refine easy v rfl h3 fun M hsM hM ha => ?_
      have e1 : ss.map M.lend = ss.map E.lend := List.map_congr_left fun u hu => lend_agree fun n hn => agr ha n (slotsL_mem (ss := s :: ss) (by simp [hu]) hn)
      have e2 : M.lend s = E.lend s := lend_agree fun n hn => agr ha n (slotsL_mem (ss := s :: ss) (by simp) hn)
      simp only [runK, e1, e2, hg]
      exact ⟨h0, h1.mono fun r hr => by subst hr; exact ⟨h2, hu hM _⟩⟩
    · exact h.elim
  | callM f s q => exact h.elim
  | callX f s ss => exact h.elim
  | callF s ss => exact h.elim
  | isNil n s => exact h.elim
  | storeW s n =>
    obtain ⟨v, h1, h3⟩ := h
    refine easy v rfl h3 fun M hsM hM ha => ?_
    have e1 : M.look s = E.look s := look_agree (agr ha)
    have e2 : M.get d = E.get d := by rw [get_opt, get_opt, ha d (.inr (.inl hdw))]
    have h4 : stW (M.get d) (M.look s) n = some v := by rw [e1, e2]; exact h1
    obtain ⟨h5, h6⟩ := stW_run (hM.one hdD) h4
    exact ⟨_, h5, h6, rfl⟩
theorem detG_loc {D : List Nat} {E : Env} {f : FO} {J : Env → Prop} (hs : E.Sorted) (hE : NR D E) (hD : ∀ n ∈ f.wr, n ∈ D) (h : detG P f E J) : ∃ E', J E' ∧ Loc P D f E E' := by
  have hdw : f.d ∈ f.wr := by
    unfold FO.wr
    cases f.k with
    | op f => cases f <;> simp [FK.wr, FOp.wr]
    | _ => simp [FK.wr]
  have hu : ∀ {M : Env}, NR D M → ∀ v, M.upd f.d v = M.put f.d v := fun hM v => upd_noroot (hM.one (hD _ hdw))
  unfold detG at h
  cases hg : f.g with
  | none =>
    rw [hg] at h
    obtain ⟨E', h1, h2, h3, h4, h5⟩ := detK_loc hs hE hD h
    refine ⟨E', h1, h2, h3, h4, fun M hsM hM ha => ?_⟩
    unfold stepG
    rw [hg]
    exact h5 M hsM hM fun x hx => ha x (by rcases hx with hx | hx | hx; exact .inl (by simp [FO.srcs, hx]); exact .inr (.inl hx); exact .inr (.inr hx))
  | some x =>
    obtain ⟨t, want⟩ := x
    rw [hg] at h
    simp only at h
    have hgt : ∀ {M : Env}, (∀ x, (x ∈ f.srcs ∨ x ∈ f.wr ∨ x ∉ D) → M.opt x = E.opt x) → M.get t = E.get t := fun ha => by
      rw [get_opt, get_opt, ha t (.inl (by simp [FO.srcs, hg]))]
    have skip : J (E.put f.d skipped) → (∀ M : Env, M.Sorted → NR D M → (∀ x, (x ∈ f.srcs ∨ x ∈ f.wr ∨ x ∉ D) → M.opt x = E.opt x) → stepG P f M (fun M' => M' = M.upd f.d skipped)) → ∃ E', J E' ∧ Loc P D f E E' := fun hj hst => by
      refine ⟨_, hj, Env.sorted_put hs _ _, fun x hx => ?_, nr_put hs hE, fun M hsM hM ha => ?_⟩
      · rw [opt_put _ _ _ _ hs, if_neg]
        intro e; exact hx (e ▸ hdw)
      · refine stepG_mono (hst M hsM hM ha) fun M' e => ?_
        subst e
        rw [hu hM]
        exact put_spec (D := D) hs hsM f.d skipped _ hdw fun x hx => ha x (.inr (.inl hx))
    cases hEt : E.get t with
    | bool b =>
      rw [hEt] at h
      by_cases hb : b = want
      · obtain ⟨E', h1, h2, h3, h4, h5⟩ := detK_loc hs hE hD (h.1 hb)
        refine ⟨E', h1, h2, h3, h4, fun M hsM hM ha => ?_⟩
        unfold stepG
        rw [hg]
        simp only [hgt ha, hEt]
        exact ⟨fun _ => h5 M hsM hM fun x hx => ha x (by rcases hx with hx | hx | hx; exact .inl (by simp [FO.srcs, hx]); exact .inr (.inl hx); exact .inr (.inr hx)), fun hn => absurd hb hn⟩
      · refine skip (h.2 hb) fun M hsM hM ha => ?_
        unfold stepG
        rw [hg]
        simp only [hgt ha, hEt]
        exact ⟨fun e => absurd e hb, fun _ => trivial⟩
    | tup vs =>
      rw [hEt] at h
      cases vs with
      | nil =>
        refine skip h fun M hsM hM ha => ?_
        unfold stepG
        rw [hg]
        simp only [hgt ha, hEt]
      | cons _ _ => exact h.elim
    | _ => rw [hEt] at h; exact h.elim
end
end Go.Fm
set_option linter.unusedVariables false
set_option linter.unusedSimpArgs false
namespace Go.Fm
open Go
section
variable {P : Program} {N : Nat} {xv : Nat → Value} {a : Act} {w : World} {S : Nat → Prop} {R : List Nat}
theorem runDet_chain {D : List Nat} : ∀ {fs : List FO} {E : Env} {J : Env → Prop}, E.Sorted → NR D E → (∀ f ∈ fs, ∀ n ∈ f.wr, n ∈ D) → runDet P D fs E J →
    ∃ es : Nat → Env, es 0 = E ∧ J (es fs.length) ∧ (∀ i, i ≤ fs.length → (es i).Sorted ∧ NR D (es i)) ∧ ∀ i f, fs[i]? = some f → Loc P D f (es i) (es (i + 1))
  | [], E, J, hs, hE, _, h => ⟨fun _ => E, rfl, h, fun _ _ => ⟨hs, hE⟩, fun i f h => by simp at h⟩
  | f :: r, E, J, hs, hE, hD, h => by
    obtain ⟨E', ⟨h1, h2⟩, l⟩ := detG_loc hs hE (fun n hn => hD f (by simp) n hn) h
    obtain ⟨es, i1, i2, i3, i4⟩ := runDet_chain (fs := r) l.sorted (l.nr h1) (fun g hg => hD g (by simp [hg])) h2
    refine ⟨fun i => match i with | 0 => E | i + 1 => es i, rfl, i2, fun i hi => ?_, fun i g hg => ?_⟩
    · cases i with
      | zero => exact ⟨hs, hE⟩
      | succ i => exact i3 i (by simpa using hi)
    · cases i with
      | zero =>
        simp at hg
        subst hg
        simp only [i1]
        exact l
      | succ i => exact i4 i g (by simpa using hg)
def stO (es : Nat → Env) (wr : Nat → List Nat) (L : Nat → Bool) : Nat → Nat → Option FV
  | 0, x => (es 0).opt x
  | i + 1, x => if L i = true ∧ x ∈ wr i then (es (i + 1)).opt x else stO es wr L i x
variable {es : Nat → Env} {wr : Nat → List Nat}
theorem stO_all {L : Nat → Bool} {x : Nat} : ∀ (n : Nat), (∀ i, i < n → x ∈ wr i → L i = true) → (∀ i, i < n → x ∉ wr i → (es (i + 1)).opt x = (es i).opt x) → stO es wr L n x = (es n).opt x
  | 0, _, _ => rfl
  | n + 1, h1, h2 => by
    simp only [stO]
    by_cases hx : x ∈ wr n
    · rw [if_pos ⟨h1 n (by omega) hx, hx⟩]
    · rw [if_neg (fun h => hx h.2), h2 n (by omega) hx]
      exact stO_all n (fun i hi => h1 i (by omega)) fun i hi => h2 i (by omega)
theorem stO_cut {L : Nat → Bool} {x i : Nat} : ∀ (n : Nat), i ≤ n → (∀ j, i ≤ j → j < n → x ∈ wr j → L j = false) → stO es wr L n x = stO es wr L i x
  | 0, hi, _ => by
    have : i = 0 := by omega
    subst this; rfl
  | n + 1, hi, h => by
    rcases Nat.lt_or_ge n i with h1 | h1
    · have : i = n + 1 := by omega
      subst this; rfl
    · simp only [stO]
      rw [if_neg]
      · exact stO_cut n h1 fun j a b => h j a (by omega)
      · intro hc
        have := h n h1 (by omega) hc.2
        rw [hc.1] at this; cases this
theorem stO_congr {L L' : Nat → Bool} {x : Nat} : ∀ (n : Nat), (∀ j, j < n → x ∈ wr j → L j = L' j) → stO es wr L n x = stO es wr L' n x
  | 0, _ => rfl
  | n + 1, h => by
    simp only [stO]
    rw [stO_congr n fun j hj => h j (by omega)]
    by_cases hx : x ∈ wr n
    · rw [h n (by omega) hx]
    · rw [if_neg (fun h => hx h.2), if_neg (fun h => hx h.2)]
theorem stO_at {L : Nat → Bool} {x i n : Nat} (hi : i < n) (h1 : ∀ j, j < i → x ∈ wr j → L j = true) (h2 : ∀ j, i ≤ j → j < n → x ∈ wr j → L j = false) (h3 : ∀ j, j < n → x ∉ wr j → (es (j + 1)).opt x = (es j).opt x) :
    stO es wr L n x = (es i).opt x := by
  rw [stO_cut n (by omega) h2]
  exact stO_all i h1 fun j hj => h3 j (by omega)
theorem stO_behind {L L' : Nat → Bool} {x i n : Nat} (hi : i < n) (hL : ∀ j, L' j = (L j || (j == i))) (h2 : x ∈ wr i → ∀ j, i < j → j < n → x ∈ wr j → L j = false) :
    stO es wr L' n x = if x ∈ wr i then (es (i + 1)).opt x else stO es wr L n x := by
  split
  · rename_i hx
    rw [stO_cut n (show i + 1 ≤ n by omega) fun j a b c => by
      rw [hL, h2 hx j (by omega) b c, Bool.false_or]
      simp; omega]
    simp only [stO]
    rw [if_pos ⟨by rw [hL]; simp, hx⟩]
  · rename_i hx
    refine stO_congr n fun j hj hxj => ?_
    rw [hL]
    have : (j == i) = false := by
      simp only [beq_eq_false_iff_ne, ne_eq]
      intro e; subst e; exact hx hxj
    rw [this, Bool.or_false]
end
end Go.Fm
set_option linter.unusedVariables false
set_option linter.unusedSimpArgs false
namespace Go.Fm
open Go
def bnds (o : Oper) : List Nat := (o.after.toList.filter (Region.binds .any)).map (·.on)
def mask (acc : List Nat) (o : Oper) : Nat := (bnds o).foldl (fun m e => m ||| (1 <<< e ||| acc.getD e 0)) 0
def masks : List Oper → List Nat → List Nat
  | [], acc => acc
  | o :: os, acc => masks os (acc ++ [mask acc o])
def edgesOk : Nat → List Oper → Bool
  | _, [] => true
  | i, o :: os => (bnds o).all (fun e => decide (e < i)) && edgesOk (i + 1) os
def tailOk (ms : List Nat) : Nat → Nat → Bool
  | i, 0 => true
  | i, k + 1 => ((List.range i).all fun j => (ms.getD i 0).testBit j) && tailOk ms (i + 1) k
def confl (f g : FO) : Bool := f.wr.any (fun x => g.wr.contains x || g.srcs.contains x) || f.srcs.any (fun x => g.wr.contains x)
def hazOk (ms : List Nat) (fs : List FO) : Bool :=
  (List.range fs.length).all fun j => (List.range j).all fun i => match fs[i]?, fs[j]? with
    | some f, some g => !confl f g || (ms.getD j 0).testBit i
    | _, _ => true
def isTmp (d : Nat) : Operand → Bool
  | .tmp t => t == d
  | _ => false
def appFree (d : Nat) : Op → Bool
  | .call { callee := .builtin .append, args := ⟨[x, y]⟩, argTypes := _ } => !isTmp d x && !isTmp d y
  | .store _ x y => !isTmp d x && !isTmp d y
  | _ => false
def dstFree (d s : Nat) (o : Oper) : Bool :=
  match o.dst with
  | none => true
  | some e => !(d == e) && !(s == e)
def fltSrc : FK → Option (Nat × Option Nat)
  | .op (.mv (.t s)) => some (s, none)
  | .op (.extractL s i) => some (s, some i)
  | _ => none
def floatOk (ms : List Nat) (n j : Nat) (fs : List FO) (ops : List Oper) : Bool :=
  match fs[j]?, fs[n]?, ops[n]? with
  | some ⟨dj, kj, none⟩, some ⟨_, _, none⟩, some on => match fltSrc kj with
    | some x => decide (j < n) && ((List.range n).all (fun i => i == j || (ms.getD n 0).testBit i) && (tailOk ms (n + 1) (fs.length - (n + 1)) && (dstFree dj x.1 on && appFree dj on.op)))
    | none => false
  | _, _, _ => false
def wrs (fs : List FO) : List Nat := fs.flatMap FO.wr
def drawChk (n : Nat) (fs : List FO) (ops : List Oper) : Bool :=
  decide (n ≤ fs.length) && (edgesOk 0 ops && (hazOk (masks ops []) (fs.take n) && (tailOk (masks ops []) n (fs.length - n) || (List.range n).any (fun j => floatOk (masks ops []) n j fs ops))))
def rootsOk (D : List Nat) (E : Env) : Bool := E.all fun x => rootOk D x.2
section
theorem edgesOk_spec : ∀ {os : List Oper} {i k : Nat} {o : Oper}, edgesOk i os = true → os[k]? = some o → ∀ e ∈ bnds o, e < i + k
  | [], i, k, o, _, h => by simp at h
  | o' :: os, i, k, o, h, hk => by
    simp only [edgesOk, Bool.and_eq_true, List.all_eq_true, decide_eq_true_eq] at h
    cases k with
    | zero => simp at hk; subst hk; exact h.1
    | succ k => intro e he; have := edgesOk_spec h.2 (by simpa using hk) e he; omega
theorem hazOk_spec {ms : List Nat} {fs : List FO} (h : hazOk ms fs = true) {i j : Nat} {f g : FO} (hij : i < j) (hf : fs[i]? = some f) (hg : fs[j]? = some g) :
    (∀ x, x ∈ f.wr → (x ∈ g.wr ∨ x ∈ g.srcs) → (ms.getD j 0).testBit i = true) ∧ (∀ x, x ∈ f.srcs → x ∈ g.wr → (ms.getD j 0).testBit i = true) := by
  have hj := (List.getElem?_eq_some_iff.1 hg).1
  have h1 := List.all_eq_true.1 (List.all_eq_true.1 h j (List.mem_range.2 hj)) i (List.mem_range.2 hij)
  rw [hf, hg] at h1
  simp only [Bool.or_eq_true, Bool.not_eq_true'] at h1
  have key : confl f g = true → (ms.getD j 0).testBit i = true := fun hc => by
    rcases h1 with h1 | h1
    · rw [hc] at h1; cases h1
    · exact h1
  refine ⟨fun x hx hy => key ?_, fun x hx hy => key ?_⟩
  · unfold confl
    rw [Bool.or_eq_true]
    refine .inl (List.any_eq_true.2 ⟨x, hx, ?_⟩)
    rcases hy with hy | hy
    · simp [hy]
    · simp [hy]
  · unfold confl
    rw [Bool.or_eq_true]
    exact .inr (List.any_eq_true.2 ⟨x, hx, by simp [hy]⟩)
def Closed (ops : List Oper) (L : Nat → Prop) : Prop := ∀ i o, ops[i]? = some o → L i → ∀ e ∈ bnds o, L e
theorem mask_spec {L : Nat → Prop} {acc : List Nat} : ∀ (es : List Nat) (m0 : Nat), (∀ j, m0.testBit j = true → L j) → (∀ e ∈ es, L e ∧ ∀ j, (acc.getD e 0).testBit j = true → L j) →
    ∀ j, (es.foldl (fun m e => m ||| (1 <<< e ||| acc.getD e 0)) m0).testBit j = true → L j
  | [], m0, h, _ => h
  | e :: es, m0, h, he => by
    simp only [List.foldl_cons]
    refine mask_spec es _ (fun j hj => ?_) fun e' m => he e' (by simp [m])
    simp only [Nat.testBit_or, Bool.or_eq_true] at hj
    rcases hj with hj | hj | hj
    · exact h j hj
    · rw [Nat.shiftLeft_eq, Nat.one_mul, Nat.testBit_two_pow] at hj
      have : e = j := by simpa using hj
      subst this
      exact (he e (by simp)).1
    · exact (he e (by simp)).2 j hj
theorem masks_spec {ops : List Oper} {L : Nat → Prop} (hc : Closed ops L) : ∀ (os : List Oper) (pre : List Oper) (acc : List Nat), ops = pre ++ os → acc.length = pre.length →
    (∀ i o, pre[i]? = some o → (∀ e ∈ bnds o, L e) → ∀ j, (acc.getD i 0).testBit j = true → L j) →
    ∀ i o, ops[i]? = some o → (∀ e ∈ bnds o, L e) → ∀ j, ((masks os acc).getD i 0).testBit j = true → L j
  | [], pre, acc, e, hl, h => by simp at e; subst e; exact h
  | o :: os, pre, acc, e, hl, h => by
    simp only [masks]
    refine masks_spec hc os (pre ++ [o]) _ (by simp [e]) (by simp [hl]) fun i o' hi he j hj => ?_
    rcases Nat.lt_or_ge i pre.length with hlt | hge
    · rw [List.getElem?_append_left hlt] at hi
      refine h i o' hi he j ?_
      rw [List.getD_eq_getElem?_getD, List.getElem?_append_left (by omega), ← List.getD_eq_getElem?_getD] at hj
      exact hj
    · rw [List.getElem?_append_right hge] at hi
      have : i = pre.length := by
        rcases Nat.lt_or_ge (i - pre.length) 1 with h1 | h1
        · omega
        · rw [List.getElem?_eq_none (by simpa using h1)] at hi; cases hi
      subst this
      simp at hi
      subst hi
      rw [List.getD_eq_getElem?_getD, List.getElem?_append_right (by omega), hl, Nat.sub_self] at hj
      refine mask_spec (bnds o) 0 (by simp) (fun e' m => ⟨he e' m, fun j' hj' => ?_⟩) j (by simpa [mask] using hj)
      -- an edge leads to one ahead, whose own edges are listed
      cases ho : pre[e']? with
      | some o2 => exact h e' o2 ho (hc e' o2 (by rw [e, List.getElem?_append_left (List.getElem?_eq_some_iff.1 ho).1]; exact ho) (he e' m)) j' hj'
      | none =>
        have : acc.getD e' 0 = 0 := by
          rw [List.getD_eq_getElem?_getD, List.getElem?_eq_none (by rw [hl]; exact List.getElem?_eq_none_iff.1 ho)]; rfl
        rw [this] at hj'
        simp at hj'
theorem tailOk_spec {ms : List Nat} : ∀ {k i : Nat}, tailOk ms i k = true → ∀ q, i ≤ q → q < i + k → ∀ j, j < q → (ms.getD q 0).testBit j = true
  | 0, i, _, q, h1, h2 => by omega
  | k + 1, i, h, q, h1, h2 => by
    simp only [tailOk, Bool.and_eq_true, List.all_eq_true, List.mem_range] at h
    by_cases e : q = i
    · subst e; exact h.1
    · exact tailOk_spec h.2 q (by omega) (by omega)
end
section
variable {P : Program} {N : Nat} {xv : Nat → Value} {a : Act} {w : World} {S : Nat → Prop} {R : List Nat}
theorem chkL_get {ops : List Oper} : ∀ {fs : List FO} {l : List Oper}, chkL P N ops fs l = true → fs.length = l.length ∧ ∀ (i : Nat) (f : FO) (o : Oper), fs[i]? = some f → l[i]? = some o → f.chk P N ops o = true
  | [], [], _ => ⟨rfl, by simp⟩
  | _ :: _, [], h => by simp [chkL] at h
  | [], _ :: _, h => by simp [chkL] at h
  | f :: fs, o :: l, h => by
    simp only [chkL, Bool.and_eq_true] at h
    obtain ⟨h1, h2⟩ := chkL_get h.2
    refine ⟨by simp [h1], fun i f' o' hf ho => ?_⟩
    cases i with
    | zero => simp at hf ho; subst hf; subst ho; exact h.1
    | succ i => exact h2 i f' o' (by simpa using hf) (by simpa using ho)
def wrAt (fs : List FO) (i : Nat) : List Nat := match fs[i]? with | some f => f.wr | none => []
structure IsSt (es : Nat → Env) (fs : List FO) (L : Nat → Bool) (M : Env) : Prop where
  sorted : M.Sorted
  opt : ∀ x, M.opt x = stO es (wrAt fs) L fs.length x
inductive Phase (P : Program) (N : Nat) (xv : Nat → Value) (w0 : World) (S0 : Nat → Prop) (R0 : List Nat) (n : Nat) (fs : List FO) (es : Nat → Env) (J : Env → Prop) (listed : Array Bool) (a : Act) (w : World) : Prop
  | light (S : Nat → Prop) (R : List Nat) (h1 : ∀ i, n ≤ i → i < fs.length → listed.getD i true = false) (M : Env) (m : IsSt es (fs.take n) (fun i => listed.getD i true) M) (r : Rel N xv M a w S R) (e : Ext w0 S0 R0 w S R)
  | tail (k : Nat) (S : Nat → Prop) (R : List Nat) (E : Env) (h0 : n ≤ k) (h1 : k ≤ fs.length) (h2 : ∀ i, i < fs.length → listed.getD i true = decide (i < k)) (r : Rel N xv E a w S R) (e : Ext w0 S0 R0 w S R) (h : runOps P (fs.drop k) E J)
theorem ready_iff {ops : List Oper} {listed : Array Bool} {i : Nat} : i ∈ Region.ready .any ops.toArray listed ↔ ∃ o, ops[i]? = some o ∧ listed.getD i true = false ∧ ∀ e ∈ bnds o, listed.getD e false = true := by
  have key : ∀ o : Oper, (o.after.all fun e => !Region.binds .any e || listed.getD e.on false) = true ↔ ∀ e ∈ bnds o, listed.getD e false = true := fun o => by
    rw [← Array.all_toList, List.all_eq_true]
    simp only [bnds, List.mem_map, List.mem_filter]
    constructor
    · rintro h e ⟨x, ⟨hx, hb⟩, rfl⟩
      have := h x hx
      simpa [hb] using this
    · intro h x hx
      cases hb : Region.binds .any x
      · rfl
      · simpa using h x.on ⟨x, ⟨hx, hb⟩, rfl⟩
  unfold Region.ready
  simp only [List.mem_filter, List.mem_range, List.size_toArray, Bool.and_eq_true, Bool.not_eq_true']
  constructor
  · rintro ⟨hi, h1, h2⟩
    have hg : ops[i]? = some ops[i] := List.getElem?_eq_getElem hi
    refine ⟨_, hg, h1, (key _).1 ?_⟩
    rw [List.getElem?_toArray, hg] at h2
    exact h2
  · rintro ⟨o, ho, h1, h2⟩
    have hi := (List.getElem?_eq_some_iff.1 ho).1
    refine ⟨hi, h1, ?_⟩
    rw [List.getElem?_toArray, ho]
    exact (key o).2 h2
theorem getD_set {listed : Array Bool} {i j : Nat} {b d : Bool} (hi : i < listed.size) : (listed.setIfInBounds i b).getD j d = if i = j then b else listed.getD j d := by
  rw [Array.getD_eq_getD_getElem?, Array.getElem?_setIfInBounds, Array.getD_eq_getD_getElem?]
  split
  · rename_i e; subst e; simp [hi]
  · rfl
theorem getD_dflt {l : Array Bool} {i : Nat} (h : i < l.size) (b b' : Bool) : l.getD i b = l.getD i b' := by
  rw [Array.getD_eq_getD_getElem?, Array.getD_eq_getD_getElem?]; simp [h]
def toCome (m : Nat) (listed : Array Bool) : Nat := ((List.range m).filter fun i => !listed.getD i true).length
theorem toCome_set {m : Nat} {listed : Array Bool} {i : Nat} (hi : i < listed.size) (him : i < m) (h : listed.getD i true = false) : toCome m (listed.setIfInBounds i true) < toCome m listed := by
  unfold toCome
  have h1 : ((List.range m).filter fun j => !(listed.setIfInBounds i true).getD j true) = ((List.range m).filter fun j => !listed.getD j true).filter fun j => j != i := by
    rw [List.filter_filter]
    refine List.filter_congr fun j _ => ?_
    rw [getD_set hi]
    by_cases e : i = j
    · subst e; simp
    · have : (j != i) = true := by simpa using fun h => e h.symm
      rw [if_neg e, this, Bool.true_and]
  rw [h1]
  have hmem : i ∈ (List.range m).filter fun j => !listed.getD j true := List.mem_filter.2 ⟨List.mem_range.2 him, by rw [h]; rfl⟩
  exact List.length_filter_lt_length_iff_exists.2 ⟨i, hmem, by simp⟩
structure Drawn (P : Program) (N : Nat) (ops : List Oper) (n : Nat) (fs : List FO) (es : Nat → Env) (J : Env → Prop) : Prop where
  chk : chkL P N ops fs ops = true
  draw : drawChk n fs ops = true
  good : ∀ i, i ≤ n → (es i).Sorted ∧ NR (wrs (fs.take n)) (es i)
  loc : ∀ i f, (fs.take n)[i]? = some f → Loc P (wrs (fs.take n)) f (es i) (es (i + 1))
  rest : runOps P (fs.drop n) (es n) J
theorem drawn_any {ops : List Oper} {n : Nat} {fs : List FO} {es : Nat → Env} {J : Env → Prop} {Q : Exit → Act → World → Prop} {w0 : World} {S0 : Nat → Prop} {R0 : List Nat} (hA0 : Amb P w0 S0) (hs0 : ∀ b, S0 b → b < w0.heap.size ∧ b ∉ R0) (D : Drawn P N ops n fs es J) (htail : tailOk (masks ops []) n (fs.length - n) = true)
    (hq : ∀ a' w', Post N xv J w0 S0 R0 a' w' → Q .normal a' w') : ∀ (fuel : Nat) (listed : Array Bool) (a : Act) (w : World), listed.size = ops.length → toCome ops.length listed ≤ fuel → Closed ops (fun i => listed.getD i false = true) →
    Phase P N xv w0 S0 R0 n fs es J listed a w → wpAny P .any ops.toArray Q fuel listed a w := by
  have hd := D.draw
  simp only [drawChk, Bool.and_eq_true, decide_eq_true_eq] at hd
  obtain ⟨hn, hedges, hhaz, _⟩ := hd
  obtain ⟨hlen, hget⟩ := chkL_get D.chk
  have hTlen : (fs.take n).length = n := by simp; omega
  let wr : Nat → List Nat := wrAt (fs.take n)
  have hwr : ∀ {i : Nat} {f : FO}, (fs.take n)[i]? = some f → wr i = f.wr := fun {i f} h => by simp only [wr, wrAt, h]
  have hwrD : ∀ i x, x ∈ wr i → x ∈ wrs (fs.take n) := fun i x hx => by
    simp only [wr, wrAt] at hx
    split at hx
    · rename_i f hf
      exact List.mem_flatMap.2 ⟨f, List.mem_iff_getElem?.2 ⟨i, hf⟩, hx⟩
    · cases hx
  have hold : ∀ x j, j < n → x ∉ wr j → (es (j + 1)).opt x = (es j).opt x := fun x j hj hx => by
    have hf : (fs.take n)[j]? = some ((fs.take n)[j]'(by omega)) := List.getElem?_eq_getElem (by omega)
    rw [hwr hf] at hx
    exact (D.loc j _ hf).old x hx
  have fsome : ∀ {i : Nat} {o : Oper}, ops[i]? = some o → ∃ f, fs[i]? = some f ∧ f.chk P N ops o = true := fun {i o} ho => by
    have hi := (List.getElem?_eq_some_iff.1 ho).1
    have hf : fs[i]? = some (fs[i]'(by omega)) := List.getElem?_eq_getElem (by omega)
    exact ⟨_, hf, hget i _ o hf ho⟩
  have allDone : ∀ {listed : Array Bool}, (∀ i, i < n → listed.getD i true = true) → ∀ M, IsSt es (fs.take n) (fun i => listed.getD i true) M → M = es n := fun {listed} hall M m =>
    opt_ext m.sorted (D.good n (Nat.le_refl _)).1 fun x => by
      rw [m.opt, hTlen]
      exact stO_all (wr := wr) n (fun i hi _ => hall i hi) (hold x)
  -- all is done
  have done : ∀ {listed a w}, listed.size = ops.length → (∀ i, i < ops.length → listed.getD i true = true) → Phase P N xv w0 S0 R0 n fs es J listed a w → Q .normal a w := by
    intro listed a w hsz hall ph
    cases ph with
    | light S R h1 M m r e =>
      have hnn : n = fs.length := by
        rcases Nat.lt_or_ge n fs.length with h | h
        · have := h1 n (Nat.le_refl _) h
          rw [hall n (by omega)] at this; cases this
        · omega
      have := allDone (fun i hi => hall i (by omega)) M m
      subst this
      have hrest := D.rest
      rw [show fs.drop n = [] by rw [hnn, List.drop_length]] at hrest
      exact hq a w ⟨_, S, R, hrest, r, e⟩
    | tail k S R E h0 h1 h2 r e h =>
      have : k = fs.length := by
        rcases Nat.lt_or_ge k fs.length with hk | hk
        · have := h2 k hk
          rw [hall k (by omega)] at this
          simp at this
        · omega
      subst this
      rw [List.drop_length] at h
      exact hq a w ⟨E, S, R, h, r, e⟩
  intro fuel
  induction fuel with
  | zero =>
    intro listed a w hsz hcnt hcl ph
    have hall : ∀ i, i < ops.length → listed.getD i true = true := fun i hi => by
      have h0 : ((List.range ops.length).filter fun i => !listed.getD i true) = [] := List.length_eq_zero_iff.1 (Nat.le_zero.1 hcnt)
      have := List.filter_eq_nil_iff.1 h0 i (List.mem_range.2 hi)
      simpa only [Bool.not_eq_true', Bool.not_eq_false] using this
    refine ⟨?_, done hsz hall ph⟩
    rw [List.eq_nil_iff_forall_not_mem]
    intro i hi
    obtain ⟨o, ho, h1, _⟩ := ready_iff.1 hi
    rw [hall i (List.getElem?_eq_some_iff.1 ho).1] at h1
    cases h1
  | succ fuel ih =>
    intro listed a w hsz hcnt hcl ph
    refine ⟨fun hre => done hsz (fun i => ?_) ph, fun i hi => ?_⟩
    · induction i using Nat.strongRecOn with
      | _ i ihi =>
      intro hi
      cases hl : listed.getD i true with
      | true => rfl
      | false =>
        exfalso
        have ho : ops[i]? = some (ops[i]'hi) := List.getElem?_eq_getElem hi
        have : i ∈ Region.ready .any ops.toArray listed := ready_iff.2 ⟨_, ho, hl, fun e he => by
          have := edgesOk_spec hedges ho e he
          rw [getD_dflt (by omega) false true]
          exact ihi e (by omega) (by omega)⟩
        rw [hre] at this
        cases this
    · obtain ⟨o, ho, hun, hed⟩ := ready_iff.1 hi
      have hil := (List.getElem?_eq_some_iff.1 ho).1
      obtain ⟨f, hf, hchk⟩ := fsome ho
      simp only [FO.chk, Bool.and_eq_true] at hchk
      -- the state behind
      have hsz' : (listed.setIfInBounds i true).size = ops.length := by rw [Array.size_setIfInBounds]; exact hsz
      have hcnt' : toCome ops.length (listed.setIfInBounds i true) ≤ fuel := by have := toCome_set (by omega) hil hun; omega
      have hcl' : Closed ops (fun j => (listed.setIfInBounds i true).getD j false = true) := fun j oj hj hlj e he => by
        have hlj : (listed.setIfInBounds i true).getD j false = true := hlj
        show (listed.setIfInBounds i true).getD e false = true
        rw [getD_set (by omega)] at hlj ⊢
        split
        · rfl
        · split at hlj
          · rename_i h; subst h
            rw [ho] at hj; cases hj
            exact hed e he
          · exact hcl j oj hj hlj e he
      unfold wpOp
      rw [List.getElem?_toArray, ho]
      simp only
      -- what comes ahead of what is listed
      have maskOf : ∀ {j : Nat} {oj : Oper}, ops[j]? = some oj → (∀ e ∈ bnds oj, listed.getD e false = true) → ∀ q, ((masks ops []).getD j 0).testBit q = true → q < ops.length → listed.getD q true = true := fun hj hb q hq hql => by
        have h1 := masks_spec hcl ops [] [] rfl rfl (fun i o h => by simp at h) _ _ hj hb q hq
        have h1 : listed.getD q false = true := h1
        rw [getD_dflt (by omega) true false]
        exact h1
      -- what lies behind the first n comes one after the other
      have ahead : n ≤ i → ∀ j, j < i → listed.getD j true = true := fun hni j hj => by
        have h1 := masks_spec hcl ops [] [] rfl rfl (fun i o h => by simp at h) i o ho hed j
        rw [getD_dflt (by omega) true false]
        refine h1 ?_
        rw [← tailOk_spec htail i hni (by omega) j hj]
      cases ph with
      | light S R h1 M m r e =>
        rcases Nat.lt_or_ge i n with hin | hin
        · -- one of those that may come in any order
          have hft : (fs.take n)[i]? = some f := by rw [List.getElem?_take, if_pos hin]; exact hf
          have l := D.loc i f hft
          -- the operations whose slots meet those of this one
          have before : ∀ j x, j < i → x ∈ wr j → (x ∈ f.wr ∨ x ∈ f.srcs) → listed.getD j true = true := fun j x hj hx hy => by
            have hfj : (fs.take n)[j]? = some ((fs.take n)[j]'(by omega)) := List.getElem?_eq_getElem (by omega)
            rw [hwr hfj] at hx
            exact maskOf ho hed j ((hazOk_spec hhaz hj hfj hft).1 x hx hy) (by omega)
          have behind : ∀ j x, i < j → j < n → x ∈ wr j → (x ∈ f.wr ∨ x ∈ f.srcs) → listed.getD j true = false := fun j x hj hjn hx hy => by
            have hfj : (fs.take n)[j]? = some ((fs.take n)[j]'(by omega)) := List.getElem?_eq_getElem (by omega)
            rw [hwr hfj] at hx
            cases hl : listed.getD j true with
            | false => rfl
            | true =>
              exfalso
              have hz := hazOk_spec hhaz hj hft hfj
              have hm : ((masks ops []).getD j 0).testBit i = true := by
                rcases hy with hy | hy
                · exact hz.1 x hy (.inl hx)
                · exact hz.2 x hy hx
              have hoj : ops[j]? = some (ops[j]'(by omega)) := List.getElem?_eq_getElem (by omega)
              rw [getD_dflt (by omega) true false] at hl
              have := maskOf hoj (fun e he => hcl j _ hoj hl e he) i hm hil
              rw [hun] at this; cases this
          have at_ : ∀ x, (x ∈ f.srcs ∨ x ∈ f.wr ∨ x ∉ wrs (fs.take n)) → M.opt x = (es i).opt x := fun x hx => by
            rw [m.opt, hTlen]
            refine stO_at (wr := wr) hin (fun j hj hxj => ?_) (fun j hj hjn hxj => ?_) (hold x)
            · rcases hx with hx | hx | hx
              · exact before j x hj hxj (.inr hx)
              · exact before j x hj hxj (.inl hx)
              · exact absurd (hwrD j x hxj) hx
            · rcases Nat.lt_or_ge i j with h | h
              · rcases hx with hx | hx | hx
                · exact behind j x h hjn hxj (.inr hx)
                · exact behind j x h hjn hxj (.inl hx)
                · exact absurd (hwrD j x hxj) hx
              · have : j = i := by omega
                subst this
                exact hun
          have hMnr : NR (wrs (fs.take n)) M := fun x hx => by
            have hox := opt_of_mem m.sorted (show (x.1, x.2) ∈ M from hx)
            rw [m.opt, hTlen] at hox
            have : ∀ k, k ≤ n → stO es wr (fun i => listed.getD i true) k x.1 = some x.2 → rootOk (wrs (fs.take n)) x.2 = true := fun k => by
              induction k with
              | zero => intro _ h; exact (D.good 0 (by omega)).2 _ (opt_mem h)
              | succ k ihk =>
                intro hk h
                simp only [stO] at h
                split at h
                · exact (D.good (k + 1) hk).2 _ (opt_mem h)
                · exact ihk (by omega) h
            exact this n (Nat.le_refl _) hox
          have hst := l.step M m.sorted hMnr at_
          refine step_ok hchk.1 hchk.2 (hA0.ext e hs0) r hst fun a' w' hp => ?_
          obtain ⟨E', S', R', ⟨hs', ho'⟩, r', e'⟩ := hp
          refine ih _ a' w' hsz' hcnt' hcl' (.light S' R' (fun j hj1 hj2 => ?_) E' ⟨hs', fun x => ?_⟩ r' (e.trans e'))
          · rw [getD_set (by omega), if_neg (by omega)]; exact h1 j hj1 hj2
          · rw [ho' x, hTlen, stO_behind (wr := wr) (L := fun i => listed.getD i true) hin (fun j => ?_) (fun hx j hj hjn hxj => ?_)]
            · rw [hwr hft, m.opt, hTlen]
            · rw [getD_set (by omega)]
              by_cases hij : i = j
              · subst hij; simp
              · rw [if_neg hij]
                have : (j == i) = false := by simpa using fun e => hij e.symm
                rw [this, Bool.or_false]
            · rw [hwr hft] at hx
              exact behind j x hj hjn hxj (.inl hx)
        · have hni : i = n := by
            rcases Nat.lt_or_ge n i with h | h
            · have h2 := ahead hin n h
              rw [h1 n (Nat.le_refl _) (by omega)] at h2; cases h2
            · omega
          subst hni
          have := allDone (fun j hj => ahead hin j hj) M m
          subst this
          have hrest := D.rest
          have hdrop : fs.drop i = f :: fs.drop (i + 1) := by
            obtain ⟨hfi, hfe⟩ := List.getElem?_eq_some_iff.1 hf
            rw [← hfe, ← List.drop_eq_getElem_cons hfi]
          rw [hdrop, runOps_cons] at hrest
          refine step_ok hchk.1 hchk.2 (hA0.ext e hs0) r hrest fun a' w' hp => ?_
          obtain ⟨E', S', R', k, r', e'⟩ := hp
          refine ih _ a' w' hsz' hcnt' hcl' (.tail (i + 1) S' R' E' (by omega) (by omega) (fun j hj => ?_) r' (e.trans e') k)
          rw [getD_set (by omega)]
          split
          · simp; omega
          · rcases Nat.lt_or_ge j i with h | h
            · rw [ahead hin j h]; simp; omega
            · rw [h1 j h hj]; simp; omega
      | tail k S R E h0 h1 h2 r e h =>
        have hik : i = k := by
          have h3 := h2 i (by omega)
          rw [hun] at h3
          have h4 : ¬ i < k := by simpa using h3.symm
          rcases Nat.lt_or_ge k i with h5 | h5
          · have h6 := ahead (by omega) k h5
            rw [h2 k (by omega)] at h6
            simp at h6
          · omega
        subst hik
        have hdrop : fs.drop i = f :: fs.drop (i + 1) := by
          obtain ⟨hfi, hfe⟩ := List.getElem?_eq_some_iff.1 hf
          rw [← hfe, ← List.drop_eq_getElem_cons hfi]
        rw [hdrop, runOps_cons] at h
        refine step_ok hchk.1 hchk.2 (hA0.ext e hs0) r h fun a' w' hp => ?_
        obtain ⟨E', S', R', k', r', e'⟩ := hp
        refine ih _ a' w' hsz' hcnt' hcl' (.tail (i + 1) S' R' E' (by omega) (by omega) (fun j hj => ?_) r' (e.trans e') k')
        rw [getD_set (by omega)]
        split
        · simp; omega
        · rw [h2 j hj]
          by_cases h5 : j < i
          · simp [h5]; omega
          · simp [h5]; omega
end
end Go.Fm
set_option linter.unusedVariables false
set_option linter.unusedSimpArgs false
namespace Go.Fm
open Go
def selV (sel : Option Nat) (v : Value) : Value := match sel with
  | none => v
  | some i => match v with
    | .tuple vs => vs[i]?.getD undef
    | _ => undef
def selOk (sel : Option Nat) (v : Value) : Prop := match sel with
  | none => True
  | some i => ∃ vs u, v = .tuple vs ∧ vs[i]? = some u
def flo (dj s : Nat) (sel : Option Nat) (a : Act) : Act := a.put (some dj) (selV sel (a.eval (.tmp s)))
structure FloatAt (ops : List Oper) (n : Nat) (fs : List FO) (j0 dj s0 : Nat) (sel : Option Nat) (kj : FK) : Prop where
  lt : j0 < n
  ln : n < fs.length
  fj : fs[j0]? = some ⟨dj, kj, none⟩
  kj : fltSrc kj = some (s0, sel)
  fa : ∃ da ka, fs[n]? = some ⟨da, ka, none⟩
  bits : ∀ j, j < n → j ≠ j0 → ((masks ops []).getD n 0).testBit j = true
  tail : tailOk (masks ops []) (n + 1) (fs.length - (n + 1)) = true
  dst : ∀ o, ops[n]? = some o → dstFree dj s0 o = true
  free : ∀ o, ops[n]? = some o → appFree dj o.op = true
theorem floatOk_spec {ops : List Oper} {n j : Nat} {fs : List FO} (h : floatOk (masks ops []) n j fs ops = true) : ∃ dj s0 sel kj, FloatAt ops n fs j dj s0 sel kj := by
  unfold floatOk at h
  split at h
  · rename_i dj kj da ka on h1 h2 h3
    cases hk : fltSrc kj with
    | none => rw [hk] at h; cases h
    | some x =>
      obtain ⟨s, sel⟩ := x
      rw [hk] at h
      simp only [Bool.and_eq_true, decide_eq_true_eq, List.all_eq_true, List.mem_range, Bool.or_eq_true, beq_iff_eq] at h
      obtain ⟨a1, a2, a3, a4, a6⟩ := h
      exact ⟨dj, s, sel, kj, a1, (List.getElem?_eq_some_iff.1 h2).1, h1, hk, ⟨da, ka, h2⟩, fun i hi hne => (a2 i hi).resolve_left hne, a3, fun o ho => by rw [h3] at ho; cases ho; exact a4, fun o ho => by rw [h3] at ho; cases ho; exact a6⟩
  · cases h
theorem eval_put_ne {a : Act} {d : Nat} {v : Value} {x : Operand} (h : isTmp d x = false) : (a.put (some d) v).eval x = a.eval x := by
  cases x with
  | tmp t =>
    have hne : t ≠ d := by simpa [isTmp] using h
    simp only [Act.eval, Act.put, Array.getD_eq_getD_getElem?]
    rw [Array.getElem?_setIfInBounds_ne (fun e => hne e.symm)]
  | _ => rfl
theorem put_comm {a : Act} {d e : Nat} {u v : Value} (h : d ≠ e) : (a.put (some d) u).put (some e) v = (a.put (some e) v).put (some d) u := by
  simp only [Act.put]
  congr 1
  exact Array.setIfInBounds_comm u v h
theorem eval_dst {dj s : Nat} {o : Oper} (h : dstFree dj s o = true) (a : Act) (v : Value) : (a.put o.dst v).eval (.tmp s) = a.eval (.tmp s) := by
  unfold dstFree at h
  cases hd : o.dst with
  | none => rfl
  | some e =>
    rw [hd] at h
    simp only [Bool.and_eq_true, Bool.not_eq_true'] at h
    exact eval_put_ne (by simpa [isTmp] using h.2)
theorem flo_put {dj s : Nat} {sel : Option Nat} {o : Oper} (h : dstFree dj s o = true) (a : Act) (v : Value) : flo dj s sel (a.put o.dst v) = (flo dj s sel a).put o.dst v := by
  unfold flo
  rw [eval_dst h]
  unfold dstFree at h
  cases hd : o.dst with
  | none => rfl
  | some e =>
    rw [hd] at h
    simp only [Bool.and_eq_true, Bool.not_eq_true', beq_eq_false_iff_ne] at h
    rw [put_comm (fun e => h.1 e.symm)]
theorem app_exec {P : Program} {o : Oper} {d : Nat} (h : appFree d o.op = true) (a : Act) (v : Value) : execOp (a.put (some d) v).eval o = execOp a.eval o := by
  unfold appFree at h
  split at h
  · rename_i x y ts ho
    simp only [Bool.and_eq_true, Bool.not_eq_true'] at h
    simp [execOp, ho, resolve, eval_put_ne h.1, eval_put_ne h.2]
  · rename_i t x y ho
    simp only [Bool.and_eq_true, Bool.not_eq_true'] at h
    simp [execOp, ho, eval_put_ne h.1, eval_put_ne h.2]
  · cases h
theorem wp_float {P : Program} {o : Oper} {a : Act} {w : World} {dj s : Nat} {sel : Option Nat} {K K' : Act → World → Prop} {Q : Exit → Act → World → Prop} (hf : appFree dj o.op = true) (hd : dstFree dj s o = true)
    (h : o.wp P (flo dj s sel a) w K (fun _ _ _ => False)) (hk : ∀ a' w', a'.eval (.tmp s) = a.eval (.tmp s) → K (flo dj s sel a') w' → K' a' w') : o.wp P a w K' Q := by
  unfold Oper.wp at *
  have he : execOp (flo dj s sel a).eval o = execOp a.eval o := app_exec (P := P) hf a _
  rw [he] at h
  revert h
  generalize (execOp a.eval o).run P w = x
  intro h
  have fp : ∀ v, flo dj s sel (a.put o.dst v) = (flo dj s sel a).put o.dst v := fun v => flo_put hd a v
  have ev : ∀ v, (a.put o.dst v).eval (.tmp s) = a.eval (.tmp s) := fun v => eval_dst hd a v
  cases x with
  | ok n w' =>
    cases n <;> simp only [Oper.upon] at h ⊢
    case enter f args =>
      refine h.mono fun e w'' he => ?_
      cases e with
      | returned v => exact hk _ _ (ev _) (by rw [fp]; exact he)
      | panicked c => exact he.elim
      | outgrown => obtain ⟨_, _, he⟩ := he; exact he.elim
    case row row args => exact h.mono fun v w'' he => hk _ _ (ev _) (by rw [fp]; exact he)
    case value v => exact hk _ _ (ev _) (by rw [fp]; exact h)
    case skip => exact hk _ _ (ev _) (by rw [fp]; exact h)
    case defer d =>
      refine hk _ _ (eval_dst hd { a with defers := d :: a.defers } undef) ?_
      have : flo dj s sel ({ a with defers := d :: a.defers }.put o.dst undef) = { flo dj s sel a with defers := d :: (flo dj s sel a).defers }.put o.dst undef := by
        rw [flo_put hd]; rfl
      rw [this]; exact h
    all_goals exact h.elim
  | halt x w' => cases x <;> simp only [Oper.upon] at h ⊢
section
variable {P : Program} {N : Nat} {xv : Nat → Value} {a : Act} {w : World} {S : Nat → Prop} {R : List Nat}
theorem mv_exec {ops : List Oper} {o : Oper} {dj s0 : Nat} {sel : Option Nat} {kj : FK} (hkj : fltSrc kj = some (s0, sel)) (hs : selOk sel (a.eval (.tmp s0))) (hc : FO.chk P N ops ⟨dj, kj, none⟩ o = true) :
    (execOp a.eval o).run P w = .ok (.value (selV sel (a.eval (.tmp s0)))) w ∧ o.dst = some dj ∧ o.guard = none := by
  simp only [FO.chk, Bool.and_eq_true] at hc
  obtain ⟨h1, h3⟩ := hc
  have hg : o.guard = none := by
    unfold guardOk at h3
    cases hog : o.guard with
    | none => rfl
    | some y => rw [hog] at h3; simp at h3
  unfold fltSrc at hkj
  split at hkj
  · cases hkj
    simp only [FK.chk, FOp.chk, Bool.and_eq_true] at h1
    obtain ⟨h1, h2⟩ := h1
    split at h1
    · rename_i x hx
      have hx2 : x = .tmp s0 := by
        cases x <;> simp [Sr.fits] at h1
        rw [h1.1]
      subst hx2
      simp only [dstOk, FOp.isStore, Bool.false_eq_true, if_false, Bool.and_eq_true, beq_iff_eq, decide_eq_true_eq] at h2
      refine ⟨?_, h2.1, hg⟩
      rcases isAssign_some hx with h | h <;> simp [execOp, h, selV]
    · cases h1
  · cases hkj
    rename_i i
    simp only [FK.chk, Bool.and_eq_true] at h1
    obtain ⟨h1, h2⟩ := h1
    simp only [dstOk, FOp.isStore, Bool.false_eq_true, if_false, Bool.and_eq_true, beq_iff_eq, decide_eq_true_eq] at h2
    refine ⟨?_, h2.1, hg⟩
    generalize hop : o.op = op at h1
    cases op <;> simp only [FOp.chk, isAssign, Bool.false_eq_true] at h1
    rename_i x i'
    simp only [Bool.and_eq_true, beq_iff_eq] at h1
    obtain ⟨rfl, h1⟩ := h1
    have hx2 : x = .tmp s0 := by
      cases x <;> simp [Sr.fits] at h1
      rw [h1.1]
    subst hx2
    obtain ⟨vs, u, e1, e2⟩ := hs
    simp [execOp, hop, Instr.extract, e1, e2, selV]
  · cases hkj
theorem sel_ok {ops : List Oper} {o : Oper} {dj s0 : Nat} {sel : Option Nat} {kj : FK} {M : Env} {J : Env → Prop} (hkj : fltSrc kj = some (s0, sel)) (hc : FO.chk P N ops ⟨dj, kj, none⟩ o = true) (r : Rel N xv M a w S R) (h : stepG P ⟨dj, kj, none⟩ M J) : selOk sel (a.eval (.tmp s0)) := by
  unfold fltSrc at hkj
  split at hkj
  · cases hkj; trivial
  · cases hkj
    rename_i i
    simp only [FO.chk, Bool.and_eq_true, FK.chk] at hc
    obtain ⟨⟨h1, _⟩, _⟩ := hc
    generalize hop : o.op = op at h1
    cases op <;> simp only [FOp.chk, isAssign, Bool.false_eq_true] at h1
    rename_i x i'
    simp only [Bool.and_eq_true, beq_iff_eq] at h1
    obtain ⟨rfl, h1⟩ := h1
    have hn : s0 < N := by
      cases x <;> simp [Sr.fits] at h1
      exact h1.2
    obtain ⟨E', h2, _⟩ := h
    simp only [FOp.eval, Option.map_eq_some_iff] at h2
    obtain ⟨f, h2, _⟩ := h2
    split at h2 <;> try (cases h2; done)
    rename_i vs hv
    split at h2 <;> try (cases h2; done)
    rename_i g hf
    have hval := eval_val (a := a) (xv := xv) r.small hn
    obtain ⟨R1, R2, h3, _⟩ := r.get0 s0 hv rfl
    rw [hval] at h3
    generalize a.eval (.tmp s0) = v at h3
    cases h3 with
    | @tup cs gs _ _ R1 R0 hr ht =>
      obtain ⟨vx, _, _, _, hvx, _, _, _⟩ := hr.at hf
      exact ⟨_, vx, rfl, by simpa using hvx⟩
  · cases hkj
theorem mv_post {ops : List Oper} {o : Oper} {dj s0 : Nat} {sel : Option Nat} {kj : FK} {M : Env} {J : Env → Prop} (hkj : fltSrc kj = some (s0, sel)) (hc : FO.chk P N ops ⟨dj, kj, none⟩ o = true) (hA : Amb P w S) (r : Rel N xv M a w S R) (h : stepG P ⟨dj, kj, none⟩ M J) : Post N xv J w S R (flo dj s0 sel a) w := by
  obtain ⟨h1, h2, h3⟩ := mv_exec (a := a) (w := w) hkj (sel_ok hkj hc r h) hc
  have hk : FK.chk P N kj dj o = true := by simp only [FO.chk, Bool.and_eq_true] at hc; exact hc.1
  have := runK_ok hk h hA r
  unfold Oper.wp at this
  rw [h1, Oper.upon_value, h2] at this
  exact this
theorem mv_run {ops : List Oper} {o : Oper} {dj s0 : Nat} {sel : Option Nat} {kj : FK} {K : Act → World → Prop} {Q : Exit → Act → World → Prop} {y : Nat → Option Bool} (hkj : fltSrc kj = some (s0, sel)) (hs : selOk sel (a.eval (.tmp s0))) (hc : FO.chk P N ops ⟨dj, kj, none⟩ o = true) (h : K (flo dj s0 sel a) w) :
    if Region.wanted o y then o.wp P a w K Q ∨ (o.asks P a w ∧ LetsOut Q) else K (a.put o.dst undef) w := by
  obtain ⟨h1, h2, h3⟩ := mv_exec (a := a) (w := w) hkj hs hc
  rw [if_pos (by simp [Region.wanted, h3])]
  refine .inl (wp_value h1 ?_)
  rw [h2]; exact h
inductive PhaseF (P : Program) (N : Nat) (xv : Nat → Value) (w0 : World) (S0 : Nat → Prop) (R0 : List Nat) (n : Nat) (fs : List FO) (es : Nat → Env) (J : Env → Prop) (j0 dj s0 : Nat) (sel : Option Nat) (listed : Array Bool) (a : Act) (w : World) : Prop
  | light (S : Nat → Prop) (R : List Nat) (h1 : ∀ i, n ≤ i → i < fs.length → listed.getD i true = false) (M : Env) (m : IsSt es (fs.take n) (fun i => listed.getD i true) M) (r : Rel N xv M a w S R) (e : Ext w0 S0 R0 w S R)
  | mid (S : Nat → Prop) (R : List Nat) (E : Env) (hL : ∀ i, i < n → i ≠ j0 → listed.getD i true = true) (hj : listed.getD j0 true = false) (hN : listed.getD n true = true) (hgt : ∀ i, n < i → i < fs.length → listed.getD i true = false)
      (r : Rel N xv E (flo dj s0 sel a) w S R) (e : Ext w0 S0 R0 w S R) (h : runOps P (fs.drop (n + 1)) E J) (hsel : selOk sel (a.eval (.tmp s0)))
  | tail (k : Nat) (S : Nat → Prop) (R : List Nat) (E : Env) (h0 : n < k) (h1 : k ≤ fs.length) (h2 : ∀ i, i < fs.length → listed.getD i true = decide (i < k)) (r : Rel N xv E a w S R) (e : Ext w0 S0 R0 w S R) (h : runOps P (fs.drop k) E J)
theorem drawn_anyF {ops : List Oper} {n : Nat} {fs : List FO} {es : Nat → Env} {J : Env → Prop} {Q : Exit → Act → World → Prop} {w0 : World} {S0 : Nat → Prop} {R0 : List Nat} (hA0 : Amb P w0 S0) (hs0 : ∀ b, S0 b → b < w0.heap.size ∧ b ∉ R0) (D : Drawn P N ops n fs es J) {j0 dj s0 : Nat} {sel : Option Nat} {kj : FK} (hfl : FloatAt ops n fs j0 dj s0 sel kj)
    (hq : ∀ a' w', Post N xv J w0 S0 R0 a' w' → Q .normal a' w') : ∀ (fuel : Nat) (listed : Array Bool) (a : Act) (w : World), listed.size = ops.length → toCome ops.length listed ≤ fuel → Closed ops (fun i => listed.getD i false = true) →
    PhaseF P N xv w0 S0 R0 n fs es J j0 dj s0 sel listed a w → wpAny P .any ops.toArray Q fuel listed a w := by
  have hd := D.draw
  simp only [drawChk, Bool.and_eq_true, decide_eq_true_eq] at hd
  obtain ⟨hn, hedges, hhaz, _⟩ := hd
  obtain ⟨hlen, hget⟩ := chkL_get D.chk
  have hTlen : (fs.take n).length = n := by simp; omega
  let wr : Nat → List Nat := wrAt (fs.take n)
  have hwr : ∀ {i : Nat} {f : FO}, (fs.take n)[i]? = some f → wr i = f.wr := fun {i f} h => by simp only [wr, wrAt, h]
  have hwrD : ∀ i x, x ∈ wr i → x ∈ wrs (fs.take n) := fun i x hx => by
    simp only [wr, wrAt] at hx
    split at hx
    · rename_i f hf
      exact List.mem_flatMap.2 ⟨f, List.mem_iff_getElem?.2 ⟨i, hf⟩, hx⟩
    · cases hx
  have hold : ∀ x j, j < n → x ∉ wr j → (es (j + 1)).opt x = (es j).opt x := fun x j hj hx => by
    have hf : (fs.take n)[j]? = some ((fs.take n)[j]'(by omega)) := List.getElem?_eq_getElem (by omega)
    rw [hwr hf] at hx
    exact (D.loc j _ hf).old x hx
  have fsome : ∀ {i : Nat} {o : Oper}, ops[i]? = some o → ∃ f, fs[i]? = some f ∧ f.chk P N ops o = true := fun {i o} ho => by
    have hi := (List.getElem?_eq_some_iff.1 ho).1
    have hf : fs[i]? = some (fs[i]'(by omega)) := List.getElem?_eq_getElem (by omega)
    exact ⟨_, hf, hget i _ o hf ho⟩
  have allDone : ∀ {listed : Array Bool}, (∀ i, i < n → listed.getD i true = true) → ∀ M, IsSt es (fs.take n) (fun i => listed.getD i true) M → M = es n := fun {listed} hall M m =>
    opt_ext m.sorted (D.good n (Nat.le_refl _)).1 fun x => by
      rw [m.opt, hTlen]
      exact stO_all (wr := wr) n (fun i hi _ => hall i hi) (hold x)
  -- all is done
  have done : ∀ {listed a w}, listed.size = ops.length → (∀ i, i < ops.length → listed.getD i true = true) → PhaseF P N xv w0 S0 R0 n fs es J j0 dj s0 sel listed a w → Q .normal a w := by
    intro listed a w hsz hall ph
    cases ph with
    | light S R h1 M m r e =>
      have hnn : n = fs.length := by
        rcases Nat.lt_or_ge n fs.length with h | h
        · have := h1 n (Nat.le_refl _) h
          rw [hall n (by omega)] at this; cases this
        · omega
      have := allDone (fun i hi => hall i (by omega)) M m
      subst this
      have hrest := D.rest
      rw [show fs.drop n = [] by rw [hnn, List.drop_length]] at hrest
      exact hq a w ⟨_, S, R, hrest, r, e⟩
    | mid S R E hL hj hN hgt r e h hsel => rw [hall j0 (by have := hfl.lt; omega)] at hj; cases hj
    | tail k S R E h0 h1 h2 r e h =>
      have : k = fs.length := by
        rcases Nat.lt_or_ge k fs.length with hk | hk
        · have := h2 k hk
          rw [hall k (by omega)] at this
          simp at this
        · omega
      subst this
      rw [List.drop_length] at h
      exact hq a w ⟨E, S, R, h, r, e⟩
  intro fuel
  induction fuel with
  | zero =>
    intro listed a w hsz hcnt hcl ph
    have hall : ∀ i, i < ops.length → listed.getD i true = true := fun i hi => by
      have h0 : ((List.range ops.length).filter fun i => !listed.getD i true) = [] := List.length_eq_zero_iff.1 (Nat.le_zero.1 hcnt)
      have := List.filter_eq_nil_iff.1 h0 i (List.mem_range.2 hi)
      simpa only [Bool.not_eq_true', Bool.not_eq_false] using this
    refine ⟨?_, done hsz hall ph⟩
    rw [List.eq_nil_iff_forall_not_mem]
    intro i hi
    obtain ⟨o, ho, h1, _⟩ := ready_iff.1 hi
    rw [hall i (List.getElem?_eq_some_iff.1 ho).1] at h1
    cases h1
  | succ fuel ih =>
    intro listed a w hsz hcnt hcl ph
    refine ⟨fun hre => done hsz (fun i => ?_) ph, fun i hi => ?_⟩
    · induction i using Nat.strongRecOn with
      | _ i ihi =>
      intro hi
      cases hl : listed.getD i true with
      | true => rfl
      | false =>
        exfalso
        have ho : ops[i]? = some (ops[i]'hi) := List.getElem?_eq_getElem hi
        have : i ∈ Region.ready .any ops.toArray listed := ready_iff.2 ⟨_, ho, hl, fun e he => by
          have := edgesOk_spec hedges ho e he
          rw [getD_dflt (by omega) false true]
          exact ihi e (by omega) (by omega)⟩
        rw [hre] at this
        cases this
    · obtain ⟨o, ho, hun, hed⟩ := ready_iff.1 hi
      have hil := (List.getElem?_eq_some_iff.1 ho).1
      obtain ⟨f, hf, hchk⟩ := fsome ho
      simp only [FO.chk, Bool.and_eq_true] at hchk
      -- the state behind
      have hsz' : (listed.setIfInBounds i true).size = ops.length := by rw [Array.size_setIfInBounds]; exact hsz
      have hcnt' : toCome ops.length (listed.setIfInBounds i true) ≤ fuel := by have := toCome_set (by omega) hil hun; omega
      have hcl' : Closed ops (fun j => (listed.setIfInBounds i true).getD j false = true) := fun j oj hj hlj e he => by
        have hlj : (listed.setIfInBounds i true).getD j false = true := hlj
        show (listed.setIfInBounds i true).getD e false = true
        rw [getD_set (by omega)] at hlj ⊢
        split
        · rfl
        · split at hlj
          · rename_i h; subst h
            rw [ho] at hj; cases hj
            exact hed e he
          · exact hcl j oj hj hlj e he
      unfold wpOp
      rw [List.getElem?_toArray, ho]
      simp only
      -- what comes ahead of what is listed
      have maskOf : ∀ {j : Nat} {oj : Oper}, ops[j]? = some oj → (∀ e ∈ bnds oj, listed.getD e false = true) → ∀ q, ((masks ops []).getD j 0).testBit q = true → q < ops.length → listed.getD q true = true := fun hj hb q hq hql => by
        have h1 := masks_spec hcl ops [] [] rfl rfl (fun i o h => by simp at h) _ _ hj hb q hq
        have h1 : listed.getD q false = true := h1
        rw [getD_dflt (by omega) true false]
        exact h1
      have aheadN : i = n → ∀ j, j < n → j ≠ j0 → listed.getD j true = true := fun hni j hj hne => by
        have h1 := masks_spec hcl ops [] [] rfl rfl (fun i o h => by simp at h) i o ho hed j
        rw [getD_dflt (by omega) true false]
        refine h1 ?_
        rw [hni]
        exact hfl.bits j hj hne
      have ahead : n < i → ∀ j, j < i → listed.getD j true = true := fun hni j hj => by
        have h1 := masks_spec hcl ops [] [] rfl rfl (fun i o h => by simp at h) i o ho hed j
        rw [getD_dflt (by omega) true false]
        refine h1 ?_
        rw [← tailOk_spec hfl.tail i hni (by omega) j hj]
      cases ph with
      | light S R h1 M m r e =>
        rcases Nat.lt_or_ge i n with hin | hin
        · -- one of those that may come in any order
          have hft : (fs.take n)[i]? = some f := by rw [List.getElem?_take, if_pos hin]; exact hf
          have l := D.loc i f hft
          -- the operations whose slots meet those of this one
          have before : ∀ j x, j < i → x ∈ wr j → (x ∈ f.wr ∨ x ∈ f.srcs) → listed.getD j true = true := fun j x hj hx hy => by
            have hfj : (fs.take n)[j]? = some ((fs.take n)[j]'(by omega)) := List.getElem?_eq_getElem (by omega)
            rw [hwr hfj] at hx
            exact maskOf ho hed j ((hazOk_spec hhaz hj hfj hft).1 x hx hy) (by omega)
          have behind : ∀ j x, i < j → j < n → x ∈ wr j → (x ∈ f.wr ∨ x ∈ f.srcs) → listed.getD j true = false := fun j x hj hjn hx hy => by
            have hfj : (fs.take n)[j]? = some ((fs.take n)[j]'(by omega)) := List.getElem?_eq_getElem (by omega)
            rw [hwr hfj] at hx
            cases hl : listed.getD j true with
            | false => rfl
            | true =>
              exfalso
              have hz := hazOk_spec hhaz hj hft hfj
              have hm : ((masks ops []).getD j 0).testBit i = true := by
                rcases hy with hy | hy
                · exact hz.1 x hy (.inl hx)
                · exact hz.2 x hy hx
              have hoj : ops[j]? = some (ops[j]'(by omega)) := List.getElem?_eq_getElem (by omega)
              rw [getD_dflt (by omega) true false] at hl
              have := maskOf hoj (fun e he => hcl j _ hoj hl e he) i hm hil
              rw [hun] at this; cases this
          have at_ : ∀ x, (x ∈ f.srcs ∨ x ∈ f.wr ∨ x ∉ wrs (fs.take n)) → M.opt x = (es i).opt x := fun x hx => by
            rw [m.opt, hTlen]
            refine stO_at (wr := wr) hin (fun j hj hxj => ?_) (fun j hj hjn hxj => ?_) (hold x)
            · rcases hx with hx | hx | hx
              · exact before j x hj hxj (.inr hx)
              · exact before j x hj hxj (.inl hx)
              · exact absurd (hwrD j x hxj) hx
            · rcases Nat.lt_or_ge i j with h | h
              · rcases hx with hx | hx | hx
                · exact behind j x h hjn hxj (.inr hx)
                · exact behind j x h hjn hxj (.inl hx)
                · exact absurd (hwrD j x hxj) hx
              · have : j = i := by omega
                subst this
                exact hun
          have hMnr : NR (wrs (fs.take n)) M := fun x hx => by
            have hox := opt_of_mem m.sorted (show (x.1, x.2) ∈ M from hx)
            rw [m.opt, hTlen] at hox
            have : ∀ k, k ≤ n → stO es wr (fun i => listed.getD i true) k x.1 = some x.2 → rootOk (wrs (fs.take n)) x.2 = true := fun k => by
              induction k with
              | zero => intro _ h; exact (D.good 0 (by omega)).2 _ (opt_mem h)
              | succ k ihk =>
                intro hk h
                simp only [stO] at h
                split at h
                · exact (D.good (k + 1) hk).2 _ (opt_mem h)
                · exact ihk (by omega) h
            exact this n (Nat.le_refl _) hox
          have hst := l.step M m.sorted hMnr at_
          refine step_ok hchk.1 hchk.2 (hA0.ext e hs0) r hst fun a' w' hp => ?_
          obtain ⟨E', S', R', ⟨hs', ho'⟩, r', e'⟩ := hp
          refine ih _ a' w' hsz' hcnt' hcl' (.light S' R' (fun j hj1 hj2 => ?_) E' ⟨hs', fun x => ?_⟩ r' (e.trans e'))
          · rw [getD_set (by omega), if_neg (by omega)]; exact h1 j hj1 hj2
          · rw [ho' x, hTlen, stO_behind (wr := wr) (L := fun i => listed.getD i true) hin (fun j => ?_) (fun hx j hj hjn hxj => ?_)]
            · rw [hwr hft, m.opt, hTlen]
            · rw [getD_set (by omega)]
              by_cases hij : i = j
              · subst hij; simp
              · rw [if_neg hij]
                have : (j == i) = false := by simpa using fun e => hij e.symm
                rw [this, Bool.or_false]
            · rw [hwr hft] at hx
              exact behind j x hj hjn hxj (.inl hx)
        · have hni : i = n := by
            rcases Nat.lt_or_ge n i with h | h
            · have h2 := ahead h n h
              rw [h1 n (Nat.le_refl _) (by omega)] at h2; cases h2
            · omega
          subst hni
          have hdrop : fs.drop i = f :: fs.drop (i + 1) := by
            obtain ⟨hfi, hfe⟩ := List.getElem?_eq_some_iff.1 hf
            rw [← hfe, ← List.drop_eq_getElem_cons hfi]
          cases hj0 : listed.getD j0 true with
          | true =>
            have := allDone (fun j hj => by
              by_cases e : j = j0
              · rw [e]; exact hj0
              · exact aheadN rfl j hj e) M m
            subst this
            have hrest := D.rest
            rw [hdrop, runOps_cons] at hrest
            refine step_ok hchk.1 hchk.2 (hA0.ext e hs0) r hrest fun a' w' hp => ?_
            obtain ⟨E', S', R', k, r', e'⟩ := hp
            refine ih _ a' w' hsz' hcnt' hcl' (.tail (i + 1) S' R' E' (by omega) (by omega) (fun j hj => ?_) r' (e.trans e') k)
            rw [getD_set (by omega)]
            split
            · simp; omega
            · rcases Nat.lt_or_ge j i with h | h
              · by_cases e2 : j = j0
                · rw [e2, hj0]; simp; omega
                · rw [aheadN rfl j h e2]; simp; omega
              · rw [h1 j h hj]; simp; omega
          | false =>
            -- the move is still to come: as if it were done
            obtain ⟨oj, hoj⟩ : ∃ oj, ops[j0]? = some oj := ⟨_, List.getElem?_eq_getElem (by have := hfl.lt; omega)⟩
            have hfj := hfl.fj
            have hckj := hget j0 _ oj hfj hoj
            have hftj : (fs.take i)[j0]? = some ⟨dj, kj, none⟩ := by rw [List.getElem?_take, if_pos hfl.lt]; exact hfj
            have l := D.loc j0 _ hftj
            have before : ∀ j x, j < j0 → x ∈ wr j → (x ∈ (⟨dj, kj, none⟩ : FO).wr ∨ x ∈ (⟨dj, kj, none⟩ : FO).srcs) → listed.getD j true = true := fun j x hj hx hy => aheadN rfl j (by have := hfl.lt; omega) (by omega)
            have behind : ∀ j x, j0 < j → j < i → x ∈ wr j → (x ∈ (⟨dj, kj, none⟩ : FO).wr ∨ x ∈ (⟨dj, kj, none⟩ : FO).srcs) → listed.getD j true = false := fun j x hj hjn hx hy => by
              have hfj2 : (fs.take i)[j]? = some ((fs.take i)[j]'(by omega)) := List.getElem?_eq_getElem (by omega)
              rw [hwr hfj2] at hx
              cases hl : listed.getD j true with
              | false => rfl
              | true =>
                exfalso
                have hz := hazOk_spec hhaz hj hftj hfj2
                have hm : ((masks ops []).getD j 0).testBit j0 = true := by
                  rcases hy with hy | hy
                  · exact hz.1 x hy (.inl hx)
                  · exact hz.2 x hy hx
                have hoj2 : ops[j]? = some (ops[j]'(by omega)) := List.getElem?_eq_getElem (by omega)
                rw [getD_dflt (by omega) true false] at hl
                have := maskOf hoj2 (fun e he => hcl j _ hoj2 hl e he) j0 hm (by omega)
                rw [hj0] at this; cases this
            have at_ : ∀ x, (x ∈ (⟨dj, kj, none⟩ : FO).srcs ∨ x ∈ (⟨dj, kj, none⟩ : FO).wr ∨ x ∉ wrs (fs.take i)) → M.opt x = (es j0).opt x := fun x hx => by
              rw [m.opt, hTlen]
              refine stO_at (wr := wr) hfl.lt (fun j hj hxj => ?_) (fun j hj hjn hxj => ?_) (hold x)
              · rcases hx with hx | hx | hx
                · exact before j x hj hxj (.inr hx)
                · exact before j x hj hxj (.inl hx)
                · exact absurd (hwrD j x hxj) hx
              · rcases Nat.lt_or_ge j0 j with h | h
                · rcases hx with hx | hx | hx
                  · exact behind j x h hjn hxj (.inr hx)
                  · exact behind j x h hjn hxj (.inl hx)
                  · exact absurd (hwrD j x hxj) hx
                · have : j = j0 := by omega
                  subst this
                  exact hj0
            have hMnr : NR (wrs (fs.take i)) M := fun x hx => by
              have hox := opt_of_mem m.sorted (show (x.1, x.2) ∈ M from hx)
              rw [m.opt, hTlen] at hox
              have : ∀ k, k ≤ i → stO es wr (fun i => listed.getD i true) k x.1 = some x.2 → rootOk (wrs (fs.take i)) x.2 = true := fun k => by
                induction k with
                | zero => intro _ h; exact (D.good 0 (by omega)).2 _ (opt_mem h)
                | succ k ihk =>
                  intro hk h
                  simp only [stO] at h
                  split at h
                  · exact (D.good (k + 1) hk).2 _ (opt_mem h)
                  · exact ihk (by omega) h
              exact this i (Nat.le_refl _) hox
            have hst := l.step M m.sorted hMnr at_
            have hsl := sel_ok hfl.kj hckj r hst
            obtain ⟨E', S', R', ⟨hs', ho'⟩, r', e'⟩ := mv_post hfl.kj hckj (hA0.ext e hs0) r hst
            -- the state is that behind all of the first n
            have hE : E' = es i := opt_ext hs' (D.good i (Nat.le_refl _)).1 fun x => by
              rw [ho' x]
              have h3 := stO_behind (es := es) (wr := wr) (x := x) (L := fun q => listed.getD q true) (L' := fun q => (listed.setIfInBounds j0 true).getD q true) (n := i) (i := j0) hfl.lt (fun j => by
                rw [getD_set (by have := hfl.lt; omega)]
                by_cases hij : j0 = j
                · subst hij; simp
                · rw [if_neg hij]
                  have : (j == j0) = false := by simpa using fun e => hij e.symm
                  rw [this, Bool.or_false]) (fun hx j hj hjn hxj => by rw [hwr hftj] at hx; exact behind j x hj hjn hxj (.inl hx))
              rw [hwr hftj] at h3
              have h4 := stO_all (es := es) (wr := wr) (x := x) (L := fun q => (listed.setIfInBounds j0 true).getD q true) i (fun q hq _ => by
                show (listed.setIfInBounds j0 true).getD q true = true
                rw [getD_set (by have := hfl.lt; omega)]
                split
                · rfl
                · rename_i hne; exact aheadN rfl q hq (fun e => hne e.symm)) (hold x)
              rw [← h4, h3, m.opt, hTlen]
            subst hE
            have hrest := D.rest
            rw [hdrop, runOps_cons] at hrest
            obtain ⟨da, ka, hfa0⟩ := hfl.fa
            have hfa : f = ⟨da, ka, none⟩ := Option.some.inj (hf.symm.trans hfa0)
            subst hfa
            have hog : o.guard = none := by
              have := hchk.2
              unfold guardOk at this
              cases hog : o.guard with
              | none => rfl
              | some y => rw [hog] at this; simp at this
            rw [if_pos (by simp [Region.wanted, hog])]
            refine .inl (wp_float (hfl.free o ho) (hfl.dst o ho) (runK_ok hchk.1 hrest ((hA0.ext e hs0).ext e' r.sep) r') fun a' w' hev hp => ?_)
            obtain ⟨E2, S2, R2, k2, r2, e2⟩ := hp
            refine ih _ a' w' hsz' hcnt' hcl' (.mid S2 R2 E2 (fun j hj hne => ?_) ?_ ?_ (fun j hj hjl => ?_) r2 ((e.trans e').trans e2) k2 (by rw [hev]; exact hsl))
            · rw [getD_set (by omega)]
              split
              · rfl
              · exact aheadN rfl j hj hne
            · rw [getD_set (by omega), if_neg (by have := hfl.lt; omega)]; exact hj0
            · rw [getD_set (by omega), if_pos rfl]
            · rw [getD_set (by omega), if_neg (by omega)]; exact h1 j (by omega) hjl
      | mid S R E hL hj0 hN hgt r e h hsel =>
        have hij : i = j0 := by
          rcases Nat.lt_or_ge n i with h3 | h3
          · have := ahead h3 j0 (by have := hfl.lt; omega)
            rw [hj0] at this; cases this
          · rcases Nat.lt_or_ge i n with h4 | h4
            · exact Classical.byContradiction fun hne => by
                rw [hL i h4 hne] at hun; cases hun
            · have : i = n := by omega
              rw [this, hN] at hun; cases hun
        subst hij
        have hff : f = ⟨dj, kj, none⟩ := Option.some.inj (hf.symm.trans hfl.fj)
        subst hff
        refine mv_run (Q := Q) hfl.kj hsel (K := fun a' w' => wpAny P .any ops.toArray Q fuel (listed.setIfInBounds i true) a' w') (by simp only [FO.chk, Bool.and_eq_true]; exact hchk) ?_
        refine ih _ _ w hsz' hcnt' hcl' (.tail (n + 1) S R E (by omega) (by have := hfl.ln; omega) (fun j hj => ?_) r e h)
        rw [getD_set (by omega)]
        split
        · rename_i e3; subst e3; have := hfl.lt; simp; omega
        · rename_i hne
          rcases Nat.lt_or_ge j n with h5 | h5
          · rw [hL j h5 (fun e => hne e.symm)]; simp; omega
          · by_cases h6 : j = n
            · rw [h6, hN]; simp
            · rw [hgt j (by omega) hj]; simp; omega
      | tail k S R E h0 h1 h2 r e h =>
        have hik : i = k := by
          have h3 := h2 i (by omega)
          rw [hun] at h3
          have h4 : ¬ i < k := by simpa using h3.symm
          rcases Nat.lt_or_ge k i with h5 | h5
          · have h6 := ahead (by omega) k h5
            rw [h2 k (by omega)] at h6
            simp at h6
          · omega
        subst hik
        have hdrop : fs.drop i = f :: fs.drop (i + 1) := by
          obtain ⟨hfi, hfe⟩ := List.getElem?_eq_some_iff.1 hf
          rw [← hfe, ← List.drop_eq_getElem_cons hfi]
        rw [hdrop, runOps_cons] at h
        refine step_ok hchk.1 hchk.2 (hA0.ext e hs0) r h fun a' w' hp => ?_
        obtain ⟨E', S', R', k', r', e'⟩ := hp
        refine ih _ a' w' hsz' hcnt' hcl' (.tail (i + 1) S' R' E' (by omega) (by omega) (fun j hj => ?_) r' (e.trans e') k')
        rw [getD_set (by omega)]
        split
        · simp; omega
        · rw [h2 j hj]
          by_cases h5 : j < i
          · simp [h5]; omega
          · simp [h5]; omega
end
end Go.Fm
set_option linter.unusedVariables false
set_option linter.unusedSimpArgs false
namespace Go.Fm
open Go
inductive FC where
  | skip
  /-- (dr: the first so many operations draw their order) -/
  | reg (dr : Option Nat) (fs : List FO) (ks : List Nat)
  | seq (x y : FC)
  | cond (s : Sr) (x y : FC)
  | block (id : Nat) (x : FC)
  | loop (x : FC)
  | exit (id : Nat)
  | ret
def FC.chk (P : Program) (N : Nat) : FC → Code → Bool
  | .skip, .skip => true
  | .reg none fs _, .region _ ⟨ops⟩ false => chkL P N ops fs ops
  | .reg (some n) fs _, .region _ ⟨ops⟩ true => chkL P N ops fs ops && drawChk n fs ops
  | .seq x y, .seq x' y' => x.chk P N x' && y.chk P N y'
  | .cond s x y, .cond s' x' y' => s.fits N s' && (x.chk P N x' && y.chk P N y')
  | .block id x, .block id' x' => id == id' && x.chk P N x'
  | .loop x, .loop x' => x.chk P N x'
  | .exit id, .exit id' => id == id'
  | .ret, .ret => true
  | _, _ => false
def FW (P : Program) (N : Nat) (c : FC) (E : Env) (K : Exit → Env → Prop) : Prop := ∀ c', c.chk P N c' = true → CodeOk P N c' E K
section
variable {P : Program} {N : Nat} {E : Env} {K : Exit → Env → Prop}
theorem FW.mono {c : FC} {K' : Exit → Env → Prop} (h : FW P N c E K) (hk : ∀ e E', K e E' → K' e E') : FW P N c E K' := fun c' hc => CodeOk.mono (fun hA r => h c' hc hA r) hk
theorem FW.skip (h : K .normal E) : FW P N .skip E K := fun c' hc => by
  cases c' <;> simp only [FC.chk, Bool.false_eq_true] at hc
  exact fun hA r => CodeOk.skip h hA r
theorem FW.ret (h : K .ret E) : FW P N .ret E K := fun c' hc => by
  cases c' <;> simp only [FC.chk, Bool.false_eq_true] at hc
  exact fun hA r => CodeOk.ret h hA r
theorem FW.exit {id : Nat} (h : K (.exit id) E) : FW P N (.exit id) E K := fun c' hc => by
  cases c' <;> simp only [FC.chk, Bool.false_eq_true] at hc
  simp only [beq_iff_eq] at hc
  subst hc
  exact fun hA r => CodeOk.exit h hA r
theorem FW.seq {x y : FC} (h : FW P N x E (thenK (fun E' => FW P N y E' K) K)) : FW P N (.seq x y) E K := fun c' hc => by
  cases c' <;> simp only [FC.chk, Bool.false_eq_true] at hc
  simp only [Bool.and_eq_true] at hc
  refine fun hA r => CodeOk.seq (fun hA r => CodeOk.mono (fun hA r => h _ hc.1 hA r) (fun e E' k => ?_) hA r) hA r
  cases e with
  | normal => exact fun hA r => k _ hc.2 hA r
  | _ => exact k
theorem FW.cond {s : Sr} {x y : FC} {b : Bool} (hb : E.look s = .bool b) (h : FW P N (if b then x else y) E K) : FW P N (.cond s x y) E K := fun c' hc => by
  cases c' <;> simp only [FC.chk, Bool.false_eq_true] at hc
  simp only [Bool.and_eq_true] at hc
  refine fun hA r => CodeOk.cond hc.1 hb (fun hA r => ?_) hA r
  cases b
  · exact h _ hc.2.2 hA r
  · exact h _ hc.2.1 hA r
theorem FW.block {id : Nat} {x : FC} (h : FW P N x E (blockK id K)) : FW P N (.block id x) E K := fun c' hc => by
  cases c' <;> simp only [FC.chk, Bool.false_eq_true] at hc
  simp only [Bool.and_eq_true, beq_iff_eq] at hc
  obtain ⟨rfl, hc⟩ := hc
  exact fun hA r => CodeOk.block (fun hA r => h _ hc hA r) hA r
theorem FW.loop {x : FC} (I : Nat → Env → Prop) (n : Nat) (h0 : I n E) (h : ∀ n E, I n E → FW P N x E (thenK (fun E' => ∃ m, m < n ∧ I m E') K)) : FW P N (.loop x) E K := fun c' hc => by
  cases c' <;> simp only [FC.chk, Bool.false_eq_true] at hc
  exact fun hA r => CodeOk.loop I n h0 (fun n E' hi => by intro xv a w S R hA2 r2; exact h n E' hi _ hc hA2 r2) hA r
theorem FW.kill {c : FC} (ks : List Nat) (h : FW P N c (E.kills ks) K) : FW P N c E K := fun c' hc => by
  intro xv a w S R hA r
  exact CodeOk.kill ks (fun hA r => h c' hc hA r) hA r
theorem FW.loopK {x : FC} {α : Type} (ks : List Nat) (I : α → Env) (μ : α → Nat) (G : α → Prop) (s : α) (h0 : E.kills ks = I s) (hg : G s) (h : ∀ s, G s → FW P N x (I s) (thenK (fun E' => ∃ t, E'.kills ks = I t ∧ G t ∧ μ t < μ s) K)) : FW P N (.loop x) E K := by
  refine FW.loop (fun n E' => ∃ t, E'.kills ks = I t ∧ G t ∧ μ t = n) (μ s) ⟨s, h0, hg, rfl⟩ ?_
  rintro n E' ⟨t, he, hg', rfl⟩
  refine FW.kill ks ?_
  rw [he]
  refine (h t hg').mono fun e E2 k => ?_
  cases e with
  | normal => obtain ⟨u, h1, h2, h3⟩ := k; exact ⟨μ u, h3, u, h1, h2, rfl⟩
  | _ => exact k
theorem reg_inv {fs : List FO} {ks : List Nat} : ∀ c' : Code, FC.chk P N (.reg none fs ks) c' = true → ∃ id ops, c' = .region id (List.toArray ops) false ∧ chkL P N ops fs ops = true
  | .region id ⟨ops⟩ false, hc => ⟨id, ops, rfl, hc⟩
theorem FW.reg {fs : List FO} {ks : List Nat} (h : runOps P fs E (fun E' => K .normal (E'.kills ks))) : FW P N (.reg none fs ks) E K := fun c' hc => by
  obtain ⟨id, ops, rfl, hc⟩ := reg_inv c' hc
  intro xv a w S R hA r
  refine wp_mono (CodeOk.region (id := id) (K := fun e E' => match e with | .normal => K .normal (E'.kills ks) | _ => False) hc h hA r) fun e a' w' p => ?_
  obtain ⟨E', S', R', k, r', e1⟩ := p
  cases e <;> simp only at k <;> try exact k.elim
  obtain ⟨R2, r2, h2⟩ := r'.kills ks
  exact ⟨_, S', R2, k, r2, e1.trans (Ext.refl _ _ _ _ h2)⟩
theorem draw_inv {n : Nat} {fs : List FO} {ks : List Nat} : ∀ c' : Code, FC.chk P N (.reg (some n) fs ks) c' = true → ∃ id ops, c' = .region id (List.toArray ops) true ∧ chkL P N ops fs ops = true ∧ drawChk n fs ops = true
  | .region id ⟨ops⟩ true, hc => ⟨id, ops, rfl, by simpa only [FC.chk, Bool.and_eq_true] using hc⟩
theorem repl_getD (m i : Nat) : (Array.replicate m false).getD i false = false := by
  rw [Array.getD_eq_getD_getElem?, Array.getElem?_replicate]; split <;> rfl
theorem FW.draw {n : Nat} {fs : List FO} {ks : List Nat} (hm : P.follows .mixedOrders = true) (hf : rootsOk (wrs (fs.take n)) E = true)
    (h : runDet P (wrs (fs.take n)) (fs.take n) E (fun Ef => runOps P (fs.drop n) Ef (fun E' => K .normal (E'.kills ks)))) : FW P N (.reg (some n) fs ks) E K := fun c' hc => by
  obtain ⟨id, ops, rfl, hc, hdr⟩ := draw_inv c' hc
  intro xv a w S R hA r
  have hdr0 := hdr
  simp only [drawChk, Bool.and_eq_true, decide_eq_true_eq] at hdr0
  have hTlen : (fs.take n).length = n := by simp; omega
  obtain ⟨es, i1, i2, i3, i4⟩ := runDet_chain r.sorted (fun x hx => List.all_eq_true.1 hf x hx) (fun f hf n hn => List.mem_flatMap.2 ⟨f, hf, hn⟩) h
  rw [hTlen] at i2 i3
  refine wp_region_any hm ?_
  have r1 : Rel N xv E a { w with drawn := w.drawn + 1 } S R := r.world (Nat.le_refl _) (fun _ _ _ => rfl) (fun _ _ => rfl)
  have e1 : Ext w S R { w with drawn := w.drawn + 1 } S R := ⟨fun _ h => h, fun _ h => .inl h, fun _ _ _ => rfl, Nat.le_refl _, fun b m => .inl m, rfl, rfl, rfl, fun _ h => h⟩
  obtain ⟨hn0, -, -, hT⟩ := hdr0
  rw [Bool.or_eq_true] at hT
  rcases hT with hT | hT
  · refine @drawn_any P N xv ops n fs es (fun E' => K .normal (E'.kills ks)) (Rests N xv K w S R) w S R hA r.sep ⟨hc, hdr, i3, i4, i2⟩ hT (fun a' w' hp => ?_) _ _ a _ (by simp) ?_ ?_ (.light S R ?_ E ⟨r.sorted, fun x => ?_⟩ r1 e1)
    · obtain ⟨E', S', R', k, r', e'⟩ := hp
      obtain ⟨R2, r2, h2⟩ := r'.kills ks
      exact ⟨_, S', R2, k, r2, e'.trans (Ext.refl _ _ _ _ h2)⟩
    · unfold toCome
      refine Nat.le_trans (List.length_filter_le _ _) ?_
      simp
    · intro i o _ hl
      exfalso
      have hl : (Array.replicate (List.toArray ops).size false).getD i false = true := hl
      rw [repl_getD] at hl
      cases hl
    · intro i hi hil
      have : fs.length = ops.length := (chkL_get hc).1
      rw [getD_dflt (by simp; omega) true false, repl_getD]
    · rw [hTlen, stO_cut n (Nat.zero_le _)]
      · show E.opt x = (es 0).opt x
        rw [i1]
      · intro j _ hj _
        have : fs.length = ops.length := (chkL_get hc).1
        rw [getD_dflt (by simp; omega) true false, repl_getD]
  · obtain ⟨j0, -, hF⟩ := List.any_eq_true.1 hT
    obtain ⟨dj, s0, sel, kj, hF⟩ := floatOk_spec hF
    refine @drawn_anyF P N xv ops n fs es (fun E' => K .normal (E'.kills ks)) (Rests N xv K w S R) w S R hA r.sep ⟨hc, hdr, i3, i4, i2⟩ j0 dj s0 sel kj hF (fun a' w' hp => ?_) _ _ a _ (by simp) ?_ ?_ (.light S R ?_ E ⟨r.sorted, fun x => ?_⟩ r1 e1)
    · obtain ⟨E', S', R', k, r', e'⟩ := hp
      obtain ⟨R2, r2, h2⟩ := r'.kills ks
      exact ⟨_, S', R2, k, r2, e'.trans (Ext.refl _ _ _ _ h2)⟩
    · unfold toCome
      refine Nat.le_trans (List.length_filter_le _ _) ?_
      simp
    · intro i o _ hl
      exfalso
      have hl : (Array.replicate (List.toArray ops).size false).getD i false = true := hl
      rw [repl_getD] at hl
      cases hl
    · intro i hi hil
      have : fs.length = ops.length := (chkL_get hc).1
      rw [getD_dflt (by simp; omega) true false, repl_getD]
    · rw [hTlen, stO_cut n (Nat.zero_le _)]
      · show E.opt x = (es 0).opt x
        rw [i1]
      · intro j _ hj _
        have : fs.length = ops.length := (chkL_get hc).1
        rw [getD_dflt (by simp; omega) true false, repl_getD]
def fnOk (P : Program) (fn : Func) (fc : FC) (N na : Nat) (rs : List RV) : Bool :=
  match fn.body with
  | some c => fc.chk P N c && (fn.ntmps == N && (decide (N ≤ X0) && (decide (na ≤ N) && (decide (fn.results.size ≤ 4) && (rs.length == fn.results.toList.length && List.all (rs.zip fn.results.toList) (fun y => y.1.chk P N y.2))))))
  | none => false
theorem FCall.of {f : FuncId} {fn : Func} {fc : FC} {fs : List FV} {na : Nat} {rs : List RV} {J : FV → Prop} (hf : P.funcs[f]? = some fn) (hc : fnOk P fn fc N na rs = true) (hl : fs.length = na)
    (h : FW P N fc (entryFrom 0 fs) (fun e E' => (e = .normal ∨ e = .ret) ∧ ∃ x, outs E' rs = some x ∧ J (one x.1))) : FCall P f fs J := by
  unfold fnOk at hc
  cases hb : fn.body with
  | none => rw [hb] at hc; cases hc
  | some c =>
  rw [hb] at hc
  simp only [Bool.and_eq_true, beq_iff_eq, decide_eq_true_eq] at hc
  obtain ⟨h1, h2, h3, h4, h5, h6, h7⟩ := hc
  exact FCall.body hf hb h2 h3 (by omega) h7 h6 h5 (fun hA r => h c h1 hA r)
end
end Go.Fm
set_option linter.unusedVariables false
set_option linter.unusedSimpArgs false
namespace Go.Fm
open Go
inductive Tag {α : Type} (a : α) : Type
  | mk
def FCallT (P : Program) (f : FuncId) (fs : List FV) (K : FV → Prop) (_ : Tag K) : Prop := FCall P f fs K
def FWT (P : Program) (N : Nat) (c : FC) (E : Env) (K : Exit → Env → Prop) (_ : Tag (c, K)) : Prop := FW P N c E K
section
variable {P : Program} {N : Nat} {E : Env} {K : Exit → Env → Prop}
theorem FCallT.of {f : FuncId} {fs : List FV} {K J : FV → Prop} {t : Tag K} (h : FCall P f fs J) (hk : ∀ r, J r → K r) : FCallT P f fs K t := h.mono hk
@[go_sem] theorem e_get_nil (t : Nat) : Env.get [] t = .undef := rfl
@[go_sem] theorem e_get_cons (k t : Nat) (v : FV) (E : Env) : Env.get ((k, v) :: E) t = if k = t then v else Env.get E t := rfl
@[go_sem] theorem e_put_nil (t : Nat) (f : FV) : Env.put [] t f = [(t, f)] := rfl
@[go_sem] theorem e_put_cons (k t : Nat) (v f : FV) (E : Env) : Env.put ((k, v) :: E) t f = if k = t then (t, f) :: E else if t < k then (t, f) :: (k, v) :: E else (k, v) :: Env.put E t f := rfl
@[go_sem] theorem e_del_nil (t : Nat) : Env.del [] t = [] := rfl
@[go_sem] theorem e_del_cons (k t : Nat) (v : FV) (E : Env) : Env.del ((k, v) :: E) t = if k = t then E else (k, v) :: Env.del E t := rfl
@[go_sem] theorem e_mapV_nil (g : FV → FV) : Env.mapV [] g = [] := rfl
@[go_sem] theorem e_mapV_cons (k : Nat) (v : FV) (E : Env) (g : FV → FV) : Env.mapV ((k, v) :: E) g = (k, g v) :: Env.mapV E g := rfl
def Env.clearB (E : Env) (d : Nat) : Bool → Env
  | true => E.mapV (unroot d)
  | false => E
@[go_sem] theorem e_upd (d : Nat) (f : FV) : E.upd d f = (E.clearB d (E.get d).owned).put d f := by
  unfold Env.upd Env.clear Env.clearB
  cases (E.get d).owned <;> rfl
@[go_sem] theorem e_kill (d : Nat) : E.kill d = (E.clearB d (E.get d).owned).del d := by
  unfold Env.kill Env.clear Env.clearB
  cases (E.get d).owned <;> rfl
@[go_sem] theorem e_clearB_true (d : Nat) : E.clearB d true = E.mapV (unroot d) := rfl
@[go_sem] theorem e_clearB_false (d : Nat) : E.clearB d false = E := rfl
@[go_sem] theorem e_kills_nil : E.kills [] = E := rfl
@[go_sem] theorem e_kills_cons (k : Nat) (ks : List Nat) : E.kills (k :: ks) = (E.kill k).kills ks := rfl
@[go_sem] theorem e_look_k (v : FV) : E.look (.k v) = v := rfl
@[go_sem] theorem e_look_t (n : Nat) : E.look (.t n) = view n (E.get n) := rfl
@[go_sem] theorem e_at_nil (r : Nat) : E.at r [] = E.get r := rfl
section values
variable (n r q d : Nat) (p : Path) (k : IntKind) (i : Int) (b : Bool) (s : List UInt8) (u : Bool) (es : List (List FV)) (c : FV) (cs : List FV) (f : FuncId) (t : TypeId)
@[go_sem] theorem v_undef : view n .undef = .undef := rfl
@[go_sem] theorem v_int : view n (.int k i) = .int k i := rfl
@[go_sem] theorem v_bool : view n (.bool b) = .bool b := rfl
@[go_sem] theorem v_str : view n (.str s) = .str s := rfl
@[go_sem] theorem v_sl : view n (.sl u es) = .sl u es := rfl
@[go_sem] theorem v_arr : view n (.arr es) = .al n [] := rfl
@[go_sem] theorem v_buf : view n (.buf q) = .al n [] := rfl
@[go_sem] theorem v_box : view n (.box (c :: cs)) = .ptr n [(0, 0)] := rfl
@[go_sem] theorem v_ref : view n (.ref cs) = .ref cs := rfl
@[go_sem] theorem v_al : view n (.al r p) = .al r p := rfl
@[go_sem] theorem v_ptr : view n (.ptr r p) = .ptr r p := rfl
@[go_sem] theorem v_als (q lo m sz : Nat) : view n (.als q lo m sz) = .als q lo m sz := rfl
@[go_sem] theorem v_alg (q : Nat) (m : AK) (p : Path) : view n (.alg q p m) = .alg q p m := rfl
@[go_sem] theorem v_clo (rs : List Nat) : view n (.clo f rs) = .clo f rs := rfl
@[go_sem] theorem v_agg : view n (.agg cs) = if cs.all FV.plain then .agg cs else .undef := rfl
@[go_sem] theorem v_tup : view n (.tup cs) = if cs.all FV.flat then .tup cs else .undef := rfl
@[go_sem] theorem v_fn : view n (.fn f cs) = if cs.all FV.plain then .fn f cs else .undef := rfl
@[go_sem] theorem v_iface : view n (.iface t c) = .undef := rfl
@[go_sem] theorem v_nilp : view n .nilp = .nilp := rfl
@[go_sem] theorem v_nilf : view n .nilf = .nilf := rfl
@[go_sem] theorem v_nili : view n .nili = .nili := rfl
@[go_sem] theorem o_undef : FV.undef.owned = false := rfl
@[go_sem] theorem o_int : (FV.int k i).owned = false := rfl
@[go_sem] theorem o_bool : (FV.bool b).owned = false := rfl
@[go_sem] theorem o_str : (FV.str s).owned = false := rfl
@[go_sem] theorem o_sl : (FV.sl u es).owned = false := rfl
@[go_sem] theorem o_arr : (FV.arr es).owned = true := rfl
@[go_sem] theorem o_buf : (FV.buf q).owned = true := rfl
@[go_sem] theorem o_box : (FV.box cs).owned = true := rfl
@[go_sem] theorem o_ref : (FV.ref cs).owned = false := rfl
@[go_sem] theorem o_al : (FV.al r p).owned = false := rfl
@[go_sem] theorem o_ptr : (FV.ptr r p).owned = false := rfl
@[go_sem] theorem o_als (q lo m sz : Nat) : (FV.als q lo m sz).owned = false := rfl
@[go_sem] theorem o_alg (q : Nat) (m : AK) (p : Path) : (FV.alg q p m).owned = false := rfl
@[go_sem] theorem o_clo (rs : List Nat) : (FV.clo f rs).owned = false := rfl
@[go_sem] theorem o_agg : (FV.agg cs).owned = false := rfl
@[go_sem] theorem o_tup : (FV.tup cs).owned = false := rfl
@[go_sem] theorem o_fn : (FV.fn f cs).owned = false := rfl
@[go_sem] theorem o_iface : (FV.iface t c).owned = false := rfl
@[go_sem] theorem o_nilp : FV.nilp.owned = false := rfl
@[go_sem] theorem o_nilf : FV.nilf.owned = false := rfl
@[go_sem] theorem o_nili : FV.nili.owned = false := rfl
@[go_sem] theorem o_skip : skipped.owned = false := rfl
@[go_sem] theorem u_undef : unroot d .undef = .undef := rfl
@[go_sem] theorem u_int : unroot d (.int k i) = .int k i := rfl
@[go_sem] theorem u_bool : unroot d (.bool b) = .bool b := rfl
@[go_sem] theorem u_str : unroot d (.str s) = .str s := rfl
@[go_sem] theorem u_sl : unroot d (.sl u es) = .sl u es := rfl
@[go_sem] theorem u_arr : unroot d (.arr es) = .arr es := rfl
@[go_sem] theorem u_buf : unroot d (.buf q) = .buf q := rfl
@[go_sem] theorem u_box : unroot d (.box cs) = .box cs := rfl
@[go_sem] theorem u_ref : unroot d (.ref cs) = .ref cs := rfl
@[go_sem] theorem u_al : unroot d (.al r p) = if r = d then .undef else .al r p := rfl
@[go_sem] theorem u_ptr : unroot d (.ptr r p) = if r = d then .undef else .ptr r p := rfl
@[go_sem] theorem u_als (q lo m sz : Nat) : unroot d (.als q lo m sz) = if q = d then .undef else .als q lo m sz := rfl
@[go_sem] theorem u_alg (q : Nat) (m : AK) (p : Path) : unroot d (.alg q p m) = if q = d then .undef else .alg q p m := rfl
@[go_sem] theorem u_clo (rs : List Nat) : unroot d (.clo f rs) = if rs.contains d then .undef else .clo f rs := rfl
@[go_sem] theorem u_agg : unroot d (.agg cs) = .agg cs := rfl
@[go_sem] theorem u_tup : unroot d (.tup cs) = .tup cs := rfl
@[go_sem] theorem u_fn : unroot d (.fn f cs) = .fn f cs := rfl
@[go_sem] theorem u_iface : unroot d (.iface t c) = .iface t c := rfl
@[go_sem] theorem u_nilp : unroot d .nilp = .nilp := rfl
@[go_sem] theorem u_nilf : unroot d .nilf = .nilf := rfl
@[go_sem] theorem u_nili : unroot d .nili = .nili := rfl
@[go_sem] theorem u_skip : unroot d skipped = skipped := rfl
@[go_sem] theorem w_undef : unpath d p n .undef = .undef := rfl
@[go_sem] theorem w_int : unpath d p n (.int k i) = .int k i := rfl
@[go_sem] theorem w_bool : unpath d p n (.bool b) = .bool b := rfl
@[go_sem] theorem w_str : unpath d p n (.str s) = .str s := rfl
@[go_sem] theorem w_sl : unpath d p n (.sl u es) = .sl u es := rfl
@[go_sem] theorem w_arr : unpath d p n (.arr es) = .arr es := rfl
@[go_sem] theorem w_buf : unpath d p n (.buf q) = .buf q := rfl
@[go_sem] theorem w_box : unpath d p n (.box cs) = .box cs := rfl
@[go_sem] theorem w_ref : unpath d p n (.ref cs) = .ref cs := rfl
@[go_sem] theorem w_al (p' : Path) : unpath d p n (.al r p') = if r = d then (if hits p' p n then .undef else .al r p') else .al r p' := rfl
@[go_sem] theorem w_als (q lo m sz : Nat) : unpath d p n (.als q lo m sz) = .als q lo m sz := rfl
@[go_sem] theorem w_alg (q : Nat) (m : AK) (p' : Path) : unpath d p n (.alg q p' m) = if q = d then .undef else .alg q p' m := rfl
@[go_sem] theorem w_clo (rs : List Nat) : unpath d p n (.clo f rs) = .clo f rs := rfl
@[go_sem] theorem w_ptr (p' : Path) : unpath d p n (.ptr r p') = if r = d then (if thru p' p n then .undef else .ptr r p') else .ptr r p' := rfl
@[go_sem] theorem w_agg : unpath d p n (.agg cs) = .agg cs := rfl
@[go_sem] theorem w_tup : unpath d p n (.tup cs) = .tup cs := rfl
@[go_sem] theorem w_fn : unpath d p n (.fn f cs) = .fn f cs := rfl
@[go_sem] theorem w_iface : unpath d p n (.iface t c) = .iface t c := rfl
@[go_sem] theorem w_nilp : unpath d p n .nilp = .nilp := rfl
@[go_sem] theorem w_nilf : unpath d p n .nilf = .nilf := rfl
@[go_sem] theorem w_nili : unpath d p n .nili = .nili := rfl
@[go_sem] theorem w_skip : unpath d p n skipped = skipped := rfl
end values
attribute [go_sem] hits thru FV.notRoot FV.plain FV.flat FV.alias FV.cells FV.nonNil FV.one FV.sealed sealedL sealedLL FV.free freeL freeLL FV.isSl FV.isBox FV.rows lenO subO mkFV FV.kids FV.setKids getN setN addOff
@[go_sem] theorem op_putIn (d : Nat) (f : FV) : putIn E d f = if f.notRoot d = true then some (E.upd d f) else none := rfl
attribute [go_sem] stS stG FOp.eval FOp.val Env.pass Env.passL Env.passM Env.setAt Env.wr Env.lend Env.plainAt ldF ldM stF faF iaF lenF apF binF intF strF isShift eqF eqL unF bdF fillF bsF mkSlF subStr subSl subP lenP cpF fdF bnd iaAF elemsAt elemsOf bytesF byteRow apBase apOut setRows
def Env.fix : Env → Nat → FV → Env
  | [], _, _ => []
  | (k, v) :: E, t, f => if k = t then (k, f) :: E else (k, v) :: Env.fix E t f
@[go_sem] theorem e_fix_nil (t : Nat) (f : FV) : Env.fix [] t f = [] := rfl
@[go_sem] theorem e_fix_cons (k t : Nat) (v f : FV) (E : Env) : Env.fix ((k, v) :: E) t f = if k = t then (k, f) :: E else (k, v) :: Env.fix E t f := rfl
theorem fix_get : ∀ (E : Env) (t : Nat), E.fix t (E.get t) = E
  | [], _ => rfl
  | (k, v) :: E, t => by
    simp only [Env.fix, Env.get]
    split
    · rfl
    · rw [fix_get E t]
theorem fix_bool {t : Nat} {b : Bool} (h : E.get t = .bool b) : E.fix t (.bool b) = E := by rw [← h]; exact fix_get E t
def runFrom (P : Program) (r : List FO) (J : Env → Prop) (x : Option Env) (_ : Tag (r, J)) : Prop := ∃ E', x = some E' ∧ runOps P r E' J
def runG (P : Program) (d : Nat) (k : FK) (t : Nat) (want : Bool) (r : List FO) (J : Env → Prop) (E : Env) (g : FV) (_ : Tag (k, r, J)) : Prop :=
  match g with
  | .bool b => (b = true → if want then runOps P (⟨d, k, none⟩ :: r) (E.fix t (.bool true)) J else runOps P r ((E.fix t (.bool true)).upd d skipped) J) ∧
      (b = false → if want then runOps P r ((E.fix t (.bool false)).upd d skipped) J else runOps P (⟨d, k, none⟩ :: r) (E.fix t (.bool false)) J)
  | .tup [] => runOps P r (E.upd d skipped) J
  | _ => False
@[go_sem ↓] theorem r_nil (J : Env → Prop) : runOps P [] E J = J E := propext Iff.rfl
@[go_sem ↓] theorem r_op (d : Nat) (f : FOp) (r : List FO) (J : Env → Prop) : runOps P (⟨d, .op f, none⟩ :: r) E J = runFrom P r J (f.eval E d) .mk := propext Iff.rfl
def nilKT (P : Program) (es : List (List FV)) (neg : Bool) (d : Nat) (r : List FO) (J : Env → Prop) (E : Env) (_ : Tag (r, J)) : Prop := nilK es neg fun b => runOps P r (E.upd d (.bool b)) J
def nilT (P : Program) (E : Env) (f : FV) (neg : Bool) (d : Nat) (r : List FO) (J : Env → Prop) (_ : Tag (r, J)) : Prop := nilOn E f neg fun b => runOps P r (E.upd d (.bool b)) J
@[go_sem] theorem nl_sl (u : Bool) (es : List (List FV)) (neg : Bool) (d : Nat) (r : List FO) (J : Env → Prop) (t : Tag (r, J)) : nilT P E (.sl u es) neg d r J t = nilKT P es neg d r J E .mk := propext Iff.rfl
theorem nilKT_of {es : List (List FV)} {neg : Bool} {d : Nat} {r : List FO} {J : Env → Prop} {t : Tag (r, J)} (h : ∀ b, (es = [] ∨ b = neg) → runOps P r (E.upd d (.bool b)) J) : nilKT P es neg d r J E t := ⟨fun he b => h b (.inl he), fun _ => h neg (.inr rfl)⟩
def callVT (P : Program) (g : FV) (fs : List FV) (J : FV → Prop) (_ : Tag J) : Prop :=
  match g with
  | .fn g cap => isFn P g = true ∧ FCall P g (fs ++ cap) J
  | _ => False
@[go_sem] theorem cv_fn (g : FuncId) (cap fs : List FV) (J : FV → Prop) (t : Tag J) : callVT P (.fn g cap) fs J t = (isFn P g = true ∧ FCallT P g (fs ++ cap) J .mk) := propext Iff.rfl
@[go_sem ↓] theorem r_callV (d : Nat) (s : Sr) (ss : List Sr) (r : List FO) (J : Env → Prop) : runOps P (⟨d, .callV s ss, none⟩ :: r) E J = callVT P (E.lend s) (ss.map E.lend) (fun v => v.free = true ∧ runOps P r (E.upd d v) J) .mk := by
  simp only [runOps, runK, callVT] <;> cases E.lend s <;> rfl
theorem FMut.mono {f : FuncId} {es : List (List FV)} {K K' : List (List FV) → Prop} (h : FMut P f es K) (hk : ∀ r, K r → K' r) : FMut P f es K' :=
  ⟨fun h1 h2 h3 h4 => (h.out h1 h2 h3 h4).mono fun e w' ⟨es', a, b, c⟩ => ⟨es', a, hk _ b, c⟩⟩
@[go_sem ↓] theorem r_isNil (d : Nat) (neg : Bool) (s : Sr) (r : List FO) (J : Env → Prop) : runOps P (⟨d, .isNil neg s, none⟩ :: r) E J = nilT P E (E.look s) neg d r J .mk := propext Iff.rfl
@[go_sem ↓] theorem r_callB (d : Nat) (f : FuncId) (ss : List Sr) (r : List FO) (J : Env → Prop) : runOps P (⟨d, .callB f ss, none⟩ :: r) E J = FCallT P f (ss.map E.lend) (fun v => v.free = true ∧ runOps P r (E.upd d v) J) .mk := propext Iff.rfl
@[go_sem ↓] theorem r_callL (d : Nat) (f : FuncId) (ss : List Sr) (r : List FO) (J : Env → Prop) : runOps P (⟨d, .callL f ss, none⟩ :: r) E J = ((ss.all fun s => !(E.look s).alias) = true ∧ FCallT P f (ss.map E.look) (fun v => runOps P r (E.upd d v) J) .mk) := propext Iff.rfl
@[go_sem ↓] theorem r_g (d : Nat) (k : FK) (t : Nat) (want : Bool) (r : List FO) (J : Env → Prop) : runOps P (⟨d, k, some (t, want)⟩ :: r) E J = runG P d k t want r J E (E.get t) .mk := by
  simp only [runOps, runG]
  cases hg : E.get t with
  | bool b =>
    have hf := fix_bool hg
    simp only
    cases b <;> cases want <;> simp [hf]
  | tup vs => cases vs <;> rfl
  | _ => rfl
@[go_sem] theorem rf_some (r : List FO) (J : Env → Prop) (t : Tag (r, J)) : runFrom P r J (some E) t = runOps P r E J := by
  unfold runFrom
  simp
@[go_sem] theorem rf_ite (r : List FO) (J : Env → Prop) (t : Tag (r, J)) (c : Prop) [Decidable c] (x : Option Env) : runFrom P r J (if c then x else none) t = (c ∧ runFrom P r J x t) := by
  by_cases h : c <;> simp [h, runFrom]
section
variable (d t : Nat) (k : FK) (r : List FO) (J : Env → Prop) (g : Tag (k, r, J))
@[go_sem] theorem rg_tt : runG P d k t true r J E (.bool true) g = runOps P (⟨d, k, none⟩ :: r) (E.fix t (.bool true)) J := by simp [runG]
@[go_sem] theorem rg_tf : runG P d k t true r J E (.bool false) g = runOps P r ((E.fix t (.bool false)).upd d skipped) J := by simp [runG]
@[go_sem] theorem rg_ft : runG P d k t false r J E (.bool true) g = runOps P r ((E.fix t (.bool true)).upd d skipped) J := by simp [runG]
@[go_sem] theorem rg_ff : runG P d k t false r J E (.bool false) g = runOps P (⟨d, k, none⟩ :: r) (E.fix t (.bool false)) J := by simp [runG]
@[go_sem low] theorem rg_boolT (b : Bool) : runG P d k t true r J E (.bool b) g = ((b = true → runOps P (⟨d, k, none⟩ :: r) (E.fix t (.bool true)) J) ∧ (b = false → runOps P r ((E.fix t (.bool false)).upd d skipped) J)) := by simp [runG]
@[go_sem low] theorem rg_boolF (b : Bool) : runG P d k t false r J E (.bool b) g = ((b = true → runOps P r ((E.fix t (.bool true)).upd d skipped) J) ∧ (b = false → runOps P (⟨d, k, none⟩ :: r) (E.fix t (.bool false)) J)) := by simp [runG]
end
@[go_sem] theorem map_ite_none {α β : Type} (g : α → β) (c : Prop) [Decidable c] (x : Option α) : Option.map g (if c then x else none) = if c then Option.map g x else none := by split <;> rfl
attribute [go_sem] Option.map_some Option.map_none Option.bind_some Option.bind_none
def detFrom (P : Program) (D : List Nat) (d : Nat) (r : List FO) (J : Env → Prop) (E : Env) (x : Option FV) (_ : Tag (r, J)) : Prop := ∃ v, x = some v ∧ v.notRoot d = true ∧ rootOk D v = true ∧ runDet P D r (E.put d v) J
def detEv (P : Program) (D : List Nat) (d : Nat) (r : List FO) (J : Env → Prop) (x : Option (FV × Env)) (_ : Tag (r, J)) : Prop := ∃ y, x = some y ∧ rootOk D y.1 = true ∧ runDet P D r (y.2.put d y.1) J
def detCall (P : Program) (D : List Nat) (f : FuncId) (fs : List FV) (d : Nat) (r : List FO) (J : Env → Prop) (E : Env) (_ : Tag (r, J)) : Prop := ∃ v, FCall P f fs (· = v) ∧ rootOk D v = true ∧ runDet P D r (E.put d v) J
def detCallB (P : Program) (D : List Nat) (f : FuncId) (fs : List FV) (d : Nat) (r : List FO) (J : Env → Prop) (E : Env) (_ : Tag (r, J)) : Prop := ∃ v, FCall P f fs (· = v) ∧ v.free = true ∧ rootOk D v = true ∧ runDet P D r (E.put d v) J
def detGd (P : Program) (D : List Nat) (d : Nat) (k : FK) (t : Nat) (want : Bool) (r : List FO) (J : Env → Prop) (E : Env) (g : FV) (_ : Tag (k, r, J)) : Prop :=
  match g with
  | .bool b => (b = true → if want then runDet P D (⟨d, k, none⟩ :: r) (E.fix t (.bool true)) J else runDet P D r ((E.fix t (.bool true)).put d skipped) J) ∧
      (b = false → if want then runDet P D r ((E.fix t (.bool false)).put d skipped) J else runDet P D (⟨d, k, none⟩ :: r) (E.fix t (.bool false)) J)
  | .tup [] => runDet P D r (E.put d skipped) J
  | _ => False
theorem get_put_self : ∀ (E : Env) (d : Nat) (v : FV), (E.put d v).get d = v
  | [], d, v => by simp [Env.put, Env.get]
  | (k, u) :: E, d, v => by
    simp only [Env.put]
    split
    · simp [Env.get]
    · split
      · simp [Env.get]
      · rename_i h _; simp only [Env.get, if_neg h]; exact get_put_self E d v
@[go_sem ↓] theorem d_nil (D : List Nat) (J : Env → Prop) : runDet P D [] E J = J E := propext Iff.rfl
section
variable (D : List Nat) (d : Nat) (r : List FO) (J : Env → Prop)
theorem d_opv (f : FOp) (h : detOp E d (fun E' => rootOk D (E'.get d) = true ∧ runDet P D r E' J) f = (∃ v, f.val E = some v ∧ v.notRoot d = true ∧ rootOk D ((E.put d v).get d) = true ∧ runDet P D r (E.put d v) J)) :
    runDet P D (⟨d, .op f, none⟩ :: r) E J = detFrom P D d r J E (f.val E) .mk := by
  simp only [get_put_self] at h
  exact h
@[go_sem ↓] theorem d_mv (s : Sr) : runDet P D (⟨d, .op (.mv s), none⟩ :: r) E J = detFrom P D d r J E (FOp.val E (.mv s)) .mk := d_opv D d r J _ rfl
@[go_sem ↓] theorem d_pick (c a b : Sr) : runDet P D (⟨d, .op (.pick c a b), none⟩ :: r) E J = detFrom P D d r J E (FOp.val E (.pick c a b)) .mk := d_opv D d r J _ rfl
@[go_sem ↓] theorem d_alloc (cs : List FV) : runDet P D (⟨d, .op (.alloc cs), none⟩ :: r) E J = detFrom P D d r J E (FOp.val E (.alloc cs)) .mk := d_opv D d r J _ rfl
@[go_sem ↓] theorem d_load (s : Sr) (n : Nat) (agg : Bool) : runDet P D (⟨d, .op (.load s n agg), none⟩ :: r) E J = detFrom P D d r J E (FOp.val E (.load s n agg)) .mk := d_opv D d r J _ rfl
@[go_sem ↓] theorem d_fa (s : Sr) (off : Nat) : runDet P D (⟨d, .op (.fa s off), none⟩ :: r) E J = detFrom P D d r J E (FOp.val E (.fa s off)) .mk := d_opv D d r J _ rfl
@[go_sem ↓] theorem d_ia (s i : Sr) (n : Nat) : runDet P D (⟨d, .op (.ia s i n), none⟩ :: r) E J = detFrom P D d r J E (FOp.val E (.ia s i n)) .mk := d_opv D d r J _ rfl
@[go_sem ↓] theorem d_len (s : Sr) : runDet P D (⟨d, .op (.len s), none⟩ :: r) E J = detFrom P D d r J E (FOp.val E (.len s)) .mk := d_opv D d r J _ rfl
@[go_sem ↓] theorem d_bin (op : _) (a b : Sr) : runDet P D (⟨d, .op (.bin op a b), none⟩ :: r) E J = detFrom P D d r J E (FOp.val E (.bin op a b)) .mk := d_opv D d r J _ rfl
@[go_sem ↓] theorem d_eqS (neg : _) (cs : _) (a b : Sr) : runDet P D (⟨d, .op (.eqS neg cs a b), none⟩ :: r) E J = detFrom P D d r J E (FOp.val E (.eqS neg cs a b)) .mk := d_opv D d r J _ rfl
@[go_sem ↓] theorem d_eqB (neg : _) (a b : Sr) : runDet P D (⟨d, .op (.eqB neg a b), none⟩ :: r) E J = detFrom P D d r J E (FOp.val E (.eqB neg a b)) .mk := d_opv D d r J _ rfl
@[go_sem ↓] theorem d_un (op : _) (a : Sr) : runDet P D (⟨d, .op (.un op a), none⟩ :: r) E J = detFrom P D d r J E (FOp.val E (.un op a)) .mk := d_opv D d r J _ rfl
@[go_sem ↓] theorem d_build (tmpl : List FV) (ps : List (Nat × Nat)) (ss : List Sr) : runDet P D (⟨d, .op (.build tmpl ps ss), none⟩ :: r) E J = ((ss.all E.noAl) = true ∧ detEv P D d r J (bdF E tmpl ps ss) .mk) := by
  simp only [runDet, detG, detK, detOp, detEv, get_put_self]
@[go_sem ↓] theorem d_buildSl (tmpl : List FV) (ln : Nat) (is : List Nat) (ss : List Sr) : runDet P D (⟨d, .op (.buildSl tmpl ln is ss), none⟩ :: r) E J = ((ss.all E.noAl) = true ∧ detEv P D d r J (bsF E tmpl ln is ss) .mk) := by
  simp only [runDet, detG, detK, detOp, detEv, get_put_self]
@[go_sem ↓] theorem d_callB (f : FuncId) (ss : List Sr) : runDet P D (⟨d, .callB f ss, none⟩ :: r) E J = detCallB P D f (ss.map E.lend) d r J E .mk := by
  simp only [runDet, detG, detK, detCallB, get_put_self]
@[go_sem ↓] theorem d_callL (f : FuncId) (ss : List Sr) : runDet P D (⟨d, .callL f ss, none⟩ :: r) E J = ((ss.all fun s => !(E.look s).alias) = true ∧ detCall P D f (ss.map E.look) d r J E .mk) := by
  simp only [runDet, detG, detK, detCall, get_put_self]
@[go_sem ↓] theorem d_g (k : FK) (t : Nat) (want : Bool) : runDet P D (⟨d, k, some (t, want)⟩ :: r) E J = detGd P D d k t want r J E (E.get t) .mk := by
  simp only [runDet, detG, detGd, get_put_self]
  cases hg : E.get t with
  | bool b =>
    have hf := fix_bool hg
    simp only
    cases b <;> cases want <;> simp [hf, rootOk, skipped]
  | tup vs => cases vs <;> simp [rootOk, skipped]
  | _ => rfl
end
@[go_sem] theorem stW_box (cs : List FV) (f : FV) (n : Nat) : stW (.box cs) f n = if cs.length = n ∧ 0 < n ∧ f.alias = false ∧ f.cells.length = n ∧ f.cells.all FV.one = true then some (.box f.cells) else none := rfl
section
variable (D : List Nat) (d t : Nat) (k : FK) (r : List FO) (J : Env → Prop) (q : Tag (r, J)) (g : Tag (k, r, J))
@[go_sem] theorem dev_some (y : FV × Env) : detEv P D d r J (some y) q = (rootOk D y.1 = true ∧ runDet P D r (y.2.put d y.1) J) := by
  unfold detEv
  simp
@[go_sem] theorem df_some (v : FV) : detFrom P D d r J E (some v) q = (v.notRoot d = true ∧ rootOk D v = true ∧ runDet P D r (E.put d v) J) := by
  unfold detFrom
  simp
@[go_sem] theorem dg_ff : detGd P D d k t false r J E (.bool false) g = runDet P D (⟨d, k, none⟩ :: r) (E.fix t (.bool false)) J := by simp [detGd]
end
theorem detCall_of {D : List Nat} {f : FuncId} {fs : List FV} {d : Nat} {r : List FO} {J : Env → Prop} (v : FV) (h : FCall P f fs (· = v)) {t : Tag (r, J)} (hj : rootOk D v = true ∧ runDet P D r (E.put d v) J) : detCall P D f fs d r J E t := ⟨v, h, hj⟩
theorem detCallB_of {D : List Nat} {f : FuncId} {fs : List FV} {d : Nat} {r : List FO} {J : Env → Prop} (v : FV) (h : FCall P f fs (· = v)) (hf : v.free = true) {t : Tag (r, J)} (hj : rootOk D v = true ∧ runDet P D r (E.put d v) J) : detCallB P D f fs d r J E t := ⟨v, h, hf, hj⟩
@[go_sem] theorem ro_undef (D : List Nat)  : rootOk D .undef = true := rfl
@[go_sem] theorem ro_int (D : List Nat) (k : IntKind) (i : Int) : rootOk D (.int k i) = true := rfl
@[go_sem] theorem ro_bool (D : List Nat) (b : Bool) : rootOk D (.bool b) = true := rfl
@[go_sem] theorem ro_str (D : List Nat) (s : List UInt8) : rootOk D (.str s) = true := rfl
@[go_sem] theorem ro_sl (D : List Nat) (u : Bool) (es : List (List FV)) : rootOk D (.sl u es) = true := rfl
@[go_sem] theorem ro_arr (D : List Nat) (es : List (List FV)) : rootOk D (.arr es) = true := rfl
@[go_sem] theorem ro_buf (D : List Nat) (q : Nat) : rootOk D (.buf q) = true := rfl
@[go_sem] theorem ro_box (D : List Nat) (cs : List FV) : rootOk D (.box cs) = true := rfl
@[go_sem] theorem ro_ref (D : List Nat) (cs : List FV) : rootOk D (.ref cs) = true := rfl
@[go_sem] theorem ro_agg (D : List Nat) (cs : List FV) : rootOk D (.agg cs) = true := rfl
@[go_sem] theorem ro_tup (D : List Nat) (cs : List FV) : rootOk D (.tup cs) = true := rfl
@[go_sem] theorem ro_fn (D : List Nat) (f : FuncId) (cs : List FV) : rootOk D (.fn f cs) = true := rfl
@[go_sem] theorem ro_nilp (D : List Nat)  : rootOk D .nilp = true := rfl
@[go_sem] theorem ro_nilf (D : List Nat)  : rootOk D .nilf = true := rfl
@[go_sem] theorem ro_nili (D : List Nat)  : rootOk D .nili = true := rfl
@[go_sem] theorem ro_iface (D : List Nat) (t : TypeId) (v : FV) : rootOk D (.iface t v) = true := rfl
@[go_sem] theorem ro_al (D : List Nat) (r : Nat) (p : Path) : rootOk D (.al r p) = !D.contains r := rfl
@[go_sem] theorem ro_als (D : List Nat) (q lo m sz : Nat) : rootOk D (.als q lo m sz) = !D.contains q := rfl
@[go_sem] theorem ro_alg (D : List Nat) (q : Nat) (m : AK) (p : Path) : rootOk D (.alg q p m) = !D.contains q := rfl
@[go_sem] theorem ro_clo (D : List Nat) (f : FuncId) (rs : List Nat) : rootOk D (.clo f rs) = rs.all (fun r => !D.contains r) := rfl
@[go_sem] theorem ro_ptr (D : List Nat) (r : Nat) (p : Path) : rootOk D (.ptr r p) = !D.contains r := rfl
@[go_sem] theorem rootOk_skip (D : List Nat) : rootOk D skipped = true := rfl
attribute [go_sem] wrs FO.wr FK.wr FOp.wr slotsL Sr.slots Env.noAl List.flatMap_cons List.flatMap_nil rootsOk List.take_succ_cons List.take_zero List.take_nil List.drop_succ_cons List.drop_zero List.drop_nil List.map_cons List.map_nil List.all_cons List.all_nil List.contains_cons List.contains_nil
end
def drawT (P : Program) (pre suf : List FO) (ks : List Nat) (E : Env) (K : Exit → Env → Prop) (_ : Tag K) : Prop := rootsOk (wrs pre) E = true ∧ runDet P (wrs pre) pre E (fun Ef => runOps P suf Ef (fun E' => K .normal (E'.kills ks)))
@[go_sem] theorem dr_t (P : Program) (pre suf : List FO) (ks : List Nat) (E : Env) (K : Exit → Env → Prop) (t : Tag K) : drawT P pre suf ks E K t = (rootsOk (wrs pre) E = true ∧ runDet P (wrs pre) pre E (fun Ef => runOps P suf Ef (fun E' => K .normal (E'.kills ks)))) := propext Iff.rfl
def condOn (v : FV) (x y : Prop) (_ : Tag (x, y)) : Prop := ∃ b, v = .bool b ∧ (b = true → x) ∧ (b = false → y)
def gh : List Nat → Bool
  | k :: _ => k == 1000001
  | [] => false
@[go_sem] theorem gh_nil : gh [] = false := rfl
@[go_sem] theorem gh_cons (k : Nat) (ks : List Nat) : gh (k :: ks) = (k == 1000001) := rfl
def fw (P : Program) (N : Nat) : FC → Env → (Exit → Env → Prop) → Prop
  | .skip, E, K => K .normal E
  | .ret, E, K => K .ret E
  | .exit id, E, K => K (.exit id) E
  | .seq x y, E, K => fw P N x E (thenK (fun E' => fw P N y E' K) K)
  | .cond s x y, E, K => condOn (E.look s) (fw P N x E K) (fw P N y E K) .mk
  | .block id x, E, K => fw P N x E (blockK id K)
  | .loop x, E, K => FW P N (.loop x) E K
  | .reg none fs ks, E, K => runOps P fs E (fun E' => K .normal (E'.kills ks))
  | .reg (some n) fs ks, E, K => if gh ks = true then FW P N (.reg (some n) fs ks) E K else P.follows .mixedOrders = true ∧ (rootsOk (wrs (fs.take n)) E = true ∧ runDet P (wrs (fs.take n)) (fs.take n) E (fun Ef => runOps P (fs.drop n) Ef (fun E' => K .normal (E'.kills ks))))
section
variable {P : Program} {N : Nat}
theorem fw_sound : ∀ {c : FC} {E : Env} {K : Exit → Env → Prop}, fw P N c E K → FW P N c E K
  | .skip, E, K, h => FW.skip h
  | .ret, E, K, h => FW.ret h
  | .exit id, E, K, h => FW.exit h
  | .seq x y, E, K, h => FW.seq ((fw_sound (c := x) h).mono fun e E' k => by
      cases e with
      | normal => exact fw_sound (c := y) k
      | _ => exact k)
  | .cond s x y, E, K, h => by
    obtain ⟨b, hb, h1, h2⟩ := h
    refine FW.cond hb ?_
    cases b
    · exact fw_sound (c := y) (h2 rfl)
    · exact fw_sound (c := x) (h1 rfl)
  | .block id x, E, K, h => FW.block (fw_sound (c := x) h)
  | .loop x, E, K, h => h
  | .reg none fs ks, E, K, h => FW.reg h
  | .reg (some n) fs ks, E, K, h => by
    unfold fw at h
    split at h
    · exact h
    · exact FW.draw h.1 h.2.1 h.2.2
variable {E : Env} {K : Exit → Env → Prop}
@[go_sem ↓] theorem f_skip : fw P N .skip E K = K .normal E := propext Iff.rfl
@[go_sem ↓] theorem f_ret : fw P N .ret E K = K .ret E := propext Iff.rfl
@[go_sem ↓] theorem f_exit (id : Nat) : fw P N (.exit id) E K = K (.exit id) E := propext Iff.rfl
@[go_sem ↓] theorem f_seq (x y : FC) : fw P N (.seq x y) E K = fw P N x E (thenK (fun E' => fw P N y E' K) K) := propext Iff.rfl
@[go_sem ↓] theorem f_cond (s : Sr) (x y : FC) : fw P N (.cond s x y) E K = condOn (E.look s) (fw P N x E K) (fw P N y E K) .mk := propext Iff.rfl
@[go_sem ↓] theorem f_block (id : Nat) (x : FC) : fw P N (.block id x) E K = fw P N x E (blockK id K) := propext Iff.rfl
@[go_sem ↓] theorem f_loop (x : FC) : fw P N (.loop x) E K = FWT P N (.loop x) E K .mk := propext Iff.rfl
@[go_sem ↓] theorem f_reg (fs : List FO) (ks : List Nat) : fw P N (.reg none fs ks) E K = runOps P fs E (fun E' => K .normal (E'.kills ks)) := propext Iff.rfl
@[go_sem ↓] theorem f_draw (n : Nat) (fs : List FO) (ks : List Nat) : fw P N (.reg (some n) fs ks) E K = if gh ks = true then FWT P N (.reg (some n) fs ks) E K .mk else (P.follows .mixedOrders = true ∧ drawT P (fs.take n) (fs.drop n) ks E K .mk) := propext Iff.rfl
@[go_sem] theorem co_true (x y : Prop) (t : Tag (x, y)) : condOn (.bool true) x y t = x := by simp [condOn]
@[go_sem] theorem co_false (x y : Prop) (t : Tag (x, y)) : condOn (.bool false) x y t = y := by simp [condOn]
@[go_sem low] theorem co_bool (b : Bool) (x y : Prop) (t : Tag (x, y)) : condOn (.bool b) x y t = ((b = true → x) ∧ (b = false → y)) := by simp [condOn]
@[go_sem ↓] theorem t_normal (J : Env → Prop) (K : Exit → Env → Prop) : thenK J K .normal E = J E := propext Iff.rfl
@[go_sem ↓] theorem t_ret (J : Env → Prop) (K : Exit → Env → Prop) : thenK J K .ret E = K .ret E := propext Iff.rfl
@[go_sem ↓] theorem t_exit (J : Env → Prop) (K : Exit → Env → Prop) (id : Nat) : thenK J K (.exit id) E = K (.exit id) E := propext Iff.rfl
@[go_sem ↓] theorem b_normal (id : Nat) : blockK id K .normal E = K .normal E := propext Iff.rfl
@[go_sem ↓] theorem b_ret (id : Nat) : blockK id K .ret E = K .ret E := propext Iff.rfl
@[go_sem ↓] theorem b_exit (id id' : Nat) : blockK id K (.exit id') E = if id' = id then K .normal E else K (.exit id') E := propext Iff.rfl
def finK (rs : List RV) (J : FV → Prop) (e : Exit) (E : Env) : Prop := (e = .normal ∨ e = .ret) ∧ ∃ x, outs E rs = some x ∧ J (one x.1)
def finX (J : FV → Prop) (x : Option (List FV × Env)) : Prop := ∃ y, x = some y ∧ J (one y.1)
@[go_sem ↓] theorem fin_ret (rs : List RV) (J : FV → Prop) : finK rs J .ret E = finX J (outs E rs) := by simp [finK, finX]
@[go_sem] theorem finX_some (J : FV → Prop) (y : List FV × Env) : finX J (some y) = J (one y.1) := by simp [finX]
attribute [go_sem] List.isEmpty_nil List.isEmpty_cons outs RV.out one entryFrom List.length_cons List.length_nil List.head?_cons Int.natCast_nonneg Nat.le_refl decide_true decide_false or_true or_false true_or false_or true_and and_true false_and and_false Bool.or_false Bool.false_or Bool.or_true Bool.true_or Bool.not_false Bool.not_true Bool.and_true Bool.true_and Bool.and_false Bool.false_and not_true_eq_false not_false_eq_true List.drop_zero List.drop_succ_cons List.append_nil List.nil_append List.cons_append List.getElem?_cons_zero List.getElem?_cons_succ List.set_cons_zero List.set_cons_succ forall_const implies_true true_implies false_implies List.replicate_zero List.replicate_succ
@[go_sem] theorem rowsOk_nil (n : Nat) : rowsOk n [] = true := rfl
@[go_sem] theorem rowsOk_cons (n : Nat) (r : List FV) (es : List (List FV)) : rowsOk n (r :: es) = ((r.length == n && r.all FV.one) && rowsOk n es) := rfl
theorem FCall.walk {f : FuncId} {fn : Func} {fc : FC} {fs : List FV} {na : Nat} {rs : List RV} {J : FV → Prop} (hf : P.funcs[f]? = some fn) (hc : fnOk P fn fc N na rs = true) (hl : fs.length = na)
    (h : fw P N fc (entryFrom 0 fs) (finK rs J)) : FCall P f fs J := FCall.of hf hc hl (fw_sound h)
end
end Go.Fm
set_option linter.unusedVariables false
set_option linter.unusedSimpArgs false
namespace Go.Fm
open Go
structure Stood (w w' : World) : Prop where
  os : w'.os = w.os
  tape : w'.tape = w.tape
  output : w'.output = w.output
  size : w.heap.size ≤ w'.heap.size
  block : ∀ k, k < w.heap.size → w'.heap[k]? = w.heap[k]?
theorem Stood.refl (w : World) : Stood w w := ⟨rfl, rfl, rfl, Nat.le_refl _, fun _ _ => rfl⟩
theorem Stood.ext {w w' : World} (h : Stood w w') (S : Nat → Prop) (R : List Nat) : Ext w S R w' S [] :=
  ⟨fun _ h => h, fun _ h => .inl h, fun b hb _ => h.block b hb, h.size, by simp, h.os, h.tape, h.output, fun _ h => h⟩
def FV.lit : FV → Option Value
  | .int k n => some (.int k n)
  | .bool b => some (.bool b)
  | .str s => some (.string ⟨s.toArray⟩)
  | _ => none
def lits : List FV → Option (List Value)
  | [] => some []
  | f :: fs => match f.lit, lits fs with
    | some v, some vs => some (v :: vs)
    | _, _ => none
theorem lits_rep {h : Array Obj} {S : Nat → Prop} : ∀ {fs : List FV} {us vs : List Value} {R : List Nat}, lits fs = some us → Rep h S vs fs R → vs = us ∧ R = []
  | [], us, vs, R, hl, r => by cases r; cases hl; exact ⟨rfl, rfl⟩
  | f :: fs, us, vs, R, hl, r => by
    cases vs with
    | nil => have := r.length; simp at this
    | cons v vs =>
    obtain ⟨R1, R2, h1, h2, rfl⟩ := r.cons_inv
    simp only [lits] at hl
    split at hl <;> try (cases hl; done)
    rename_i v0 vs0 hv hvs
    cases hl
    obtain ⟨rfl, rfl⟩ := lits_rep hvs h2
    cases f <;> simp only [FV.lit] at hv <;> cases hv <;> cases h1 <;> rename_i h3 <;> cases h3 <;> exact ⟨rfl, rfl⟩
theorem FCall.prim {P : Program} {f : FuncId} {fs : List FV} {us : List Value} {r : FV} {v : Value} (hl : lits fs = some us) (hv : constOk r v = true)
    (h : ∀ w S, Amb P w S → Calls P f us.toArray w (fun e w' => e = .returned v ∧ Stood w w')) : FCall P f fs (· = r) := by
  refine ⟨fun {w S R vs} hA hrep hnd hsep => ?_⟩
  obtain ⟨rfl, rfl⟩ := lits_rep hl hrep
  refine (h w S hA).mono ?_
  rintro e w' ⟨rfl, hw⟩
  exact ⟨v, r, S, [], rfl, rfl, constOk_rep _ _ _ _ hv, by simp, fun b hb => ⟨Nat.lt_of_lt_of_le (hsep b hb).1 hw.size, by simp⟩, hw.ext S []⟩
def strs (l : List (List UInt8)) : List (List FV) := l.map fun s => [.str s]
@[go_sem] theorem strs_length (l : List (List UInt8)) : (strs l).length = l.length := by simp [strs]
@[go_sem] theorem strs_rows (l : List (List UInt8)) : rowsOk 1 (strs l) = true := by
  unfold rowsOk strs
  rw [List.all_map, List.all_eq_true]
  intro x _
  rfl
theorem strs_get {l : List (List UInt8)} {i : Nat} (h : i < l.length) : (strs l)[i]? = some [.str l[i]] := by simp [strs, h]
def bytesOf (s : List UInt8) : ByteArray := ⟨s.toArray⟩
attribute [go_sem] List.headD_cons Option.some.injEq Int.cast_ofNat_Int decide_eq_true_eq decide_eq_false_iff_not Bool.not_eq_true' Bool.not_eq_false'
end Go.Fm
set_option linter.unusedVariables false
set_option linter.unusedSimpArgs false
namespace Go.Fm
open Go
def Env.puts (E : Env) : List (Nat × FV) → Env
  | [] => E
  | (k, v) :: us => (E.put k v).puts us
section
variable {P : Program} {N : Nat} {E : Env} {K : Exit → Env → Prop}
@[go_sem] theorem e_puts_nil : E.puts [] = E := rfl
@[go_sem] theorem e_puts_cons (k : Nat) (v : FV) (us : List (Nat × FV)) : E.puts ((k, v) :: us) = (E.put k v).puts us := rfl
theorem FWT.count {x : FC} {t : Tag (FC.loop x, K)} (ks : List Nat) (n : Nat) (U : Nat → List (Nat × FV)) (G : Nat → Prop) (h0 : (E.kills ks) = (E.kills ks).puts (U 0)) (hg : G 0)
    (h : ∀ i, i ≤ n → G i → fw P N x ((E.kills ks).puts (U i)) (thenK (fun E' => E'.kills ks = (E.kills ks).puts (U (i + 1)) ∧ G (i + 1) ∧ i < n) K)) : FWT P N (.loop x) E K t :=
  FW.loopK ks (fun i => (E.kills ks).puts (U i)) (fun i => n - i) (fun i => i ≤ n ∧ G i) 0 h0 ⟨Nat.zero_le _, hg⟩ fun i hi => (fw_sound (h i hi.1 hi.2)).mono fun e E' k => by
    cases e with
    | normal => obtain ⟨h1, h2, h3⟩ := k; exact ⟨i + 1, h1, ⟨h3, h2⟩, by omega⟩
    | _ => exact k
theorem all_take_succ {α : Type} {l : List α} {p : α → Prop} {i : Nat} (h : i < l.length) : (∀ x ∈ l.take (i + 1), p x) ↔ (∀ x ∈ l.take i, p x) ∧ p l[i] := by
  rw [List.take_succ_eq_append_getElem h]
  simp only [List.mem_append, List.mem_singleton]
  exact ⟨fun hh => ⟨fun x m => hh x (.inl m), hh _ (.inr rfl)⟩, fun hh x m => by rcases m with m | rfl; exact hh.1 x m; exact hh.2⟩
end
end Go.Fm
namespace Go.Fm.Q
abbrev z : FV := .int .i64 0
abbrev y (n : Int) : FV := .int .i64 n
abbrev e : FV := .sl true []
abbrev o : FV := .str []
abbrev t (n : Nat) : Sr := .t n
abbrev K (n : Int) : Sr := .k (.int .i64 n)
abbrev O (d : Nat) (f : FOp) : FO := ⟨d, .op f, none⟩
abbrev F (d s k : Nat) : FO := ⟨d, .op (.fa (.t s) k), none⟩
abbrev L (d s : Nat) : FO := ⟨d, .op (.load (.t s) 1 false), none⟩
abbrev M (d s n : Nat) : FO := ⟨d, .op (.load (.t s) n true), none⟩
abbrev V (d s : Nat) : FO := ⟨d, .op (.mv (.t s)), none⟩
abbrev W (d : Nat) (n : Int) : FO := ⟨d, .op (.mv (.k (.int .i64 n))), none⟩
abbrev S (a s n : Nat) : FO := ⟨0, .op (.store (.t a) (.t s) n true), none⟩
abbrev Sk (a : Nat) (n : Int) : FO := ⟨0, .op (.store (.t a) (.k (.int .i64 n)) 1 true), none⟩
abbrev J (d s i n : Nat) : FO := ⟨d, .op (.ia (.t s) (.t i) n), none⟩
abbrev N (d s : Nat) : FO := ⟨d, .op (.len (.t s)), none⟩
abbrev U (d s : Nat) : FO := ⟨d, .op (.un .not (.t s)), none⟩
abbrev A (d : Nat) (l : List FV) : FO := ⟨d, .op (.alloc l), none⟩
abbrev X (d s : Nat) : FO := ⟨d, .op (.box (.t s)), none⟩
abbrev P (d a b c : Nat) : FO := ⟨d, .op (.pick (.t a) (.t b) (.t c)), none⟩
abbrev Po (d a b : Nat) : FO := ⟨d, .op (.pick (.t a) (.k (.bool true)) (.t b)), none⟩
abbrev Pa (d a b : Nat) : FO := ⟨d, .op (.pick (.t a) (.t b) (.k (.bool false))), none⟩
abbrev C (d : Nat) (f : FuncId) (l : List Sr) : FO := ⟨d, .callL f l, none⟩
abbrev B (d : Nat) (f : FuncId) (l : List Sr) : FO := ⟨d, .callB f l, none⟩
abbrev G (i : Nat) (x : FO) : FO := ⟨x.d, x.k, some (i, true)⟩
abbrev H (i : Nat) (x : FO) : FO := ⟨x.d, x.k, some (i, false)⟩
abbrev R (l : List FO) (k : List Nat) (x : FC) : FC := .seq (.reg none l k) x
abbrev r (l : List FO) (k : List Nat) : FC := .reg none l k
abbrev D (n : Nat) (l : List FO) (k : List Nat) (x : FC) : FC := .seq (.reg (some n) l k) x
abbrev d (n : Nat) (l : List FO) (k : List Nat) : FC := .reg (some n) l k
abbrev I (l : List FO) (k : List Nat) (c : Nat) (x y : FC) : FC := .seq (.seq (.reg none l k) (.cond (.t c) x .skip)) y
abbrev E (l : List FO) (k : List Nat) (c : Nat) (x v y : FC) : FC := .seq (.seq (.reg none l k) (.cond (.t c) x v)) y
abbrev Q (x y : FC) : FC := .seq x y
abbrev bN (d a b : Nat) : FO := ⟨d, .op (.bin .neq (.t a) (.t b)), none⟩
abbrev bNk (d a : Nat) (n : Int) : FO := ⟨d, .op (.bin .neq (.t a) (.k (.int .i64 n))), none⟩
abbrev bE (d a b : Nat) : FO := ⟨d, .op (.bin .eql (.t a) (.t b)), none⟩
abbrev bEk (d a : Nat) (n : Int) : FO := ⟨d, .op (.bin .eql (.t a) (.k (.int .i64 n))), none⟩
abbrev bL (d a b : Nat) : FO := ⟨d, .op (.bin .lss (.t a) (.t b)), none⟩
abbrev bLk (d a : Nat) (n : Int) : FO := ⟨d, .op (.bin .lss (.t a) (.k (.int .i64 n))), none⟩
abbrev bG (d a b : Nat) : FO := ⟨d, .op (.bin .gtr (.t a) (.t b)), none⟩
abbrev bGk (d a : Nat) (n : Int) : FO := ⟨d, .op (.bin .gtr (.t a) (.k (.int .i64 n))), none⟩
abbrev bM (d a b : Nat) : FO := ⟨d, .op (.bin .leq (.t a) (.t b)), none⟩
abbrev bMk (d a : Nat) (n : Int) : FO := ⟨d, .op (.bin .leq (.t a) (.k (.int .i64 n))), none⟩
abbrev bH (d a b : Nat) : FO := ⟨d, .op (.bin .geq (.t a) (.t b)), none⟩
abbrev bHk (d a : Nat) (n : Int) : FO := ⟨d, .op (.bin .geq (.t a) (.k (.int .i64 n))), none⟩
abbrev bA (d a b : Nat) : FO := ⟨d, .op (.bin .add (.t a) (.t b)), none⟩
abbrev bAk (d a : Nat) (n : Int) : FO := ⟨d, .op (.bin .add (.t a) (.k (.int .i64 n))), none⟩
abbrev bS (d a b : Nat) : FO := ⟨d, .op (.bin .sub (.t a) (.t b)), none⟩
abbrev bSk (d a : Nat) (n : Int) : FO := ⟨d, .op (.bin .sub (.t a) (.k (.int .i64 n))), none⟩
abbrev bX (d a b : Nat) : FO := ⟨d, .op (.bin .mul (.t a) (.t b)), none⟩
abbrev bXk (d a : Nat) (n : Int) : FO := ⟨d, .op (.bin .mul (.t a) (.k (.int .i64 n))), none⟩
attribute [go_sem] z y e o t K O F L M V W S Sk J N U A X P Po Pa C B G H R r D d I E Q bN bNk bE bEk bL bLk bG bGk bM bMk bH bHk bA bAk bS bSk bX bXk
end Go.Fm.Q
