/- Code: regions, control, calls. -/
import Derived.Test.YthfkhokmgolabaaDoorFmOp
import Derived.Deep.LoopGhost
import Derived.Lib.LaidTab
import Derived.Shelf.Strconv.Itoa3
set_option linter.unusedVariables false
set_option linter.unusedSimpArgs false
namespace Go.Fm
open Go

/-- what is shown behind a statement -/
def Rests (N : Nat) (xv : Nat → Value) (K : Exit → Env → Prop) (w : World) (S : Nat → Prop) (R : List Nat) (e : Exit) (a' : Act) (w' : World) : Prop :=
  Post N xv (K e) w S R a' w'
/-- the tables of Go's library that the code reads -/
def ambTabs : List (String × IntKind × List Int) := [("internal/strconv.uint64pow10", .u64, Lib.pow10Tab)]
/-- they lie in sealed memory -/
def Amb (P : Program) (w : World) (S : Nat → Prop) : Prop := ∀ x ∈ ambTabs, ∀ g, P.globalNamed x.1 = some g → S g ∧ Lib.TabIs P w x.1 x.2.1 x.2.2
theorem Amb.ext {P : Program} {w w' : World} {S S' : Nat → Prop} {R R' : List Nat} (h : Amb P w S) (e : Ext w S R w' S' R') (hs : ∀ b, S b → b < w.heap.size ∧ b ∉ R) : Amb P w' S' := by
  intro x hx g hg
  obtain ⟨h1, h2⟩ := h x hx g hg
  refine ⟨e.seals g h1, ?_⟩
  obtain ⟨h3, h4⟩ := hs g h1
  have h5 := e.keep g h3 h4
  unfold Lib.TabIs World.var? at h2 ⊢
  rw [hg] at h2 ⊢
  simp only [Option.bind_some] at h2 ⊢
  rw [h5]
  exact h2
theorem Amb.seals {P : Program} {w : World} {S S' : Nat → Prop} (h : Amb P w S) (hS : ∀ b, S b → S' b) : Amb P w S' := fun x hx g hg => ⟨hS g (h x hx g hg).1, (h x hx g hg).2⟩
def CodeOk (P : Program) (N : Nat) (c : Code) (E : Env) (K : Exit → Env → Prop) : Prop :=
  ∀ {xv : Nat → Value} {a : Act} {w : World} {S : Nat → Prop} {R : List Nat}, Amb P w S → Rel N xv E a w S R → c.wp P (Rests N xv K w S R) a w
/-- the same of an operation -/
def OpOkA (P : Program) (N : Nat) (o : Oper) (E : Env) (K : Env → Prop) : Prop :=
  ∀ {xv : Nat → Value} {a : Act} {w : World} {S : Nat → Prop} {R : List Nat}, Amb P w S → Rel N xv E a w S R → o.wp P a w (Post N xv K w S R) (fun _ _ _ => False)

/-- what a call of function f with these arguments hands back -/
structure FCall (P : Program) (f : FuncId) (fs : List FV) (K : FV → Prop) : Prop where
  out : ∀ {w : World} {S : Nat → Prop} {R : List Nat} {vs : List Value}, Amb P w S → Rep w.heap S vs fs R → R.Nodup → (∀ b, S b → b < w.heap.size ∧ b ∉ R) →
    Calls P f vs.toArray w (fun e w' => ∃ v r S' R', e = .returned v ∧ K r ∧ Rep w'.heap S' [v] [r] R' ∧ R'.Nodup ∧ (∀ b, S' b → b < w'.heap.size ∧ b ∉ R') ∧ Ext w S R w' S' R')

theorem FCall.mono {P : Program} {f : FuncId} {fs : List FV} {K K' : FV → Prop} (h : FCall P f fs K) (hk : ∀ r, K r → K' r) : FCall P f fs K' := by
  refine ⟨fun {w S R vs} hA h1 h2 h3 => ?_⟩
  exact (h.out hA h1 h2 h3).mono fun e w' ⟨v, r, S', R', he, hr, rest⟩ => ⟨v, r, S', R', he, hk r hr, rest⟩

section
variable {P : Program} {N : Nat} {E : Env} {K : Exit → Env → Prop}

theorem CodeOk.mono {c : Code} {K' : Exit → Env → Prop} (h : CodeOk P N c E K) (hk : ∀ e E', K e E' → K' e E') : CodeOk P N c E K' := by
  intro xv a w S R hA r
  exact wp_mono (h hA r) fun e a w ⟨E', S', R', k, rest⟩ => ⟨E', S', R', hk _ _ k, rest⟩

theorem Post.trans {xv : Nat → Value} {w w1 w2 : World} {S S1 : Nat → Prop} {R R1 : List Nat} {a2 : Act} {J : Env → Prop} (e : Ext w S R w1 S1 R1) (p : Post N xv J w1 S1 R1 a2 w2) : Post N xv J w S R a2 w2 := by
  obtain ⟨E', S', R', k, r, e2⟩ := p
  exact ⟨E', S', R', k, r, e.trans e2⟩

theorem CodeOk.skip (h : K .normal E) : CodeOk P N .skip E K := fun _ r => wp_skip ⟨E, _, _, h, r, Ext.refl _ _ _ _ fun _ h => h⟩
theorem CodeOk.label {l : Nat} (h : K .normal E) : CodeOk P N (.label l) E K := fun _ r => wp_label ⟨E, _, _, h, r, Ext.refl _ _ _ _ fun _ h => h⟩
theorem CodeOk.exit {id : Nat} (h : K (.exit id) E) : CodeOk P N (.exit id) E K := fun _ r => wp_exit ⟨E, _, _, h, r, Ext.refl _ _ _ _ fun _ h => h⟩
theorem CodeOk.ret (h : K .ret E) : CodeOk P N .ret E K := fun _ r => wp_ret ⟨E, _, _, h, r, Ext.refl _ _ _ _ fun _ h => h⟩

/-- what stands behind, at the normal exit -/
def thenK (J : Env → Prop) (K : Exit → Env → Prop) : Exit → Env → Prop
  | .normal, E => J E
  | e, E => K e E

theorem CodeOk.seq {x y : Code} (h : CodeOk P N x E (thenK (fun E' => CodeOk P N y E' K) K)) : CodeOk P N (.seq x y) E K := by
  intro xv a w S R hA r
  refine wp_seq (wp_mono (h hA r) fun e a1 w1 hp => ?_)
  obtain ⟨E', S', R', k, r', e1⟩ := hp
  cases e with
  | normal => exact wp_mono (k (hA.ext e1 r.sep) r') fun e a2 w2 p => Post.trans e1 p
  | _ => exact ⟨E', S', R', k, r', e1⟩

theorem CodeOk.cond {c : Operand} {x y : Code} {s : Sr} {b : Bool} (hs : s.fits N c = true) (hb : E.look s = .bool b) (h : CodeOk P N (if b then x else y) E K) : CodeOk P N (.cond c x y) E K := by
  intro xv a w S R hA r
  have lk := looked r hs
  rw [hb] at lk
  exact wp_cond lk.bool (h hA r)

def blockK (id : Nat) (K : Exit → Env → Prop) : Exit → Env → Prop
  | .exit id', E => if id' = id then K .normal E else K (.exit id') E
  | e, E => K e E
theorem CodeOk.block {id : Nat} {c : Code} (h : CodeOk P N c E (blockK id K)) : CodeOk P N (.block id c) E K := by
  intro xv a w S R hA r
  refine wp_block (wp_mono (h hA r) fun e a1 w1 hp => ?_)
  obtain ⟨E', S', R', k, r', e1⟩ := hp
  cases e with
  | exit id' =>
    simp only [blockK] at k
    simp only [Exit.inBlock]
    split <;> rename_i hid
    · rw [if_pos hid] at k; exact ⟨E', S', R', k, r', e1⟩
    · rw [if_neg hid] at k; exact ⟨E', S', R', k, r', e1⟩
  | _ => exact ⟨E', S', R', k, r', e1⟩

theorem CodeOk.loop {c : Code} (I : Nat → Env → Prop) (n : Nat) (h0 : I n E) (h : ∀ n E, I n E → CodeOk P N c E (thenK (fun E' => ∃ m, m < n ∧ I m E') K)) : CodeOk P N (.loop c) E K := by
  intro xv a w S R hA r
  refine wp_loop_ghost (fun n a' w' => ∃ E' S' R', I n E' ∧ Rel N xv E' a' w' S' R' ∧ Ext w S R w' S' R') n ⟨E, S, R, h0, r, Ext.refl _ _ _ _ fun _ h => h⟩ ?_
  rintro m a1 w1 ⟨E1, S1, R1, i1, r1, e1⟩
  refine wp_mono (h m E1 i1 (hA.ext e1 r.sep) r1) fun e a2 w2 p => ?_
  obtain ⟨E', S', R', k, r', e2⟩ := Post.trans e1 p
  cases e with
  | normal => obtain ⟨m', hlt, hi⟩ := k; exact ⟨m', hlt, E', S', R', hi, r', e2⟩
  | _ => exact ⟨E', S', R', k, r', e2⟩

end
end Go.Fm
