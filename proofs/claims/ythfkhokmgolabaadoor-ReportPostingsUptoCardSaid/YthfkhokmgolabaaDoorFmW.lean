/- Code as data, and what is asked of it. -/
import Derived.Test.YthfkhokmgolabaaDoorFmDraw4
set_option linter.unusedVariables false
set_option linter.unusedSimpArgs false
namespace Go.Fm
open Go

inductive FC where
  | skip
  /-- (dr: the first so many operations draw their order) -/
  | reg (dr : Option Nat) (fs : List FO) (ks : List Nat)
  | seq (x y : FC)
  | cond (s : Sr) (x y : FC)
  | block (id : Nat) (x : FC)
  | loop (x : FC)
  | exit (id : Nat)
  | ret

def FC.chk (P : Program) (N : Nat) : FC → Code → Bool
  | .skip, .skip => true
  | .reg none fs _, .region _ ⟨ops⟩ false => chkL P N ops fs ops
  | .reg (some n) fs _, .region _ ⟨ops⟩ true => chkL P N ops fs ops && drawChk n fs ops
  | .seq x y, .seq x' y' => x.chk P N x' && y.chk P N y'
  | .cond s x y, .cond s' x' y' => s.fits N s' && (x.chk P N x' && y.chk P N y')
  | .block id x, .block id' x' => id == id' && x.chk P N x'
  | .loop x, .loop x' => x.chk P N x'
  | .exit id, .exit id' => id == id'
  | .ret, .ret => true
  | _, _ => false

def FW (P : Program) (N : Nat) (c : FC) (E : Env) (K : Exit → Env → Prop) : Prop := ∀ c', c.chk P N c' = true → CodeOk P N c' E K

section
variable {P : Program} {N : Nat} {E : Env} {K : Exit → Env → Prop}

theorem FW.mono {c : FC} {K' : Exit → Env → Prop} (h : FW P N c E K) (hk : ∀ e E', K e E' → K' e E') : FW P N c E K' := fun c' hc => CodeOk.mono (fun hA r => h c' hc hA r) hk
theorem FW.skip (h : K .normal E) : FW P N .skip E K := fun c' hc => by
  cases c' <;> simp only [FC.chk, Bool.false_eq_true] at hc
  exact fun hA r => CodeOk.skip h hA r
theorem FW.ret (h : K .ret E) : FW P N .ret E K := fun c' hc => by
  cases c' <;> simp only [FC.chk, Bool.false_eq_true] at hc
  exact fun hA r => CodeOk.ret h hA r
theorem FW.exit {id : Nat} (h : K (.exit id) E) : FW P N (.exit id) E K := fun c' hc => by
  cases c' <;> simp only [FC.chk, Bool.false_eq_true] at hc
  simp only [beq_iff_eq] at hc
  subst hc
  exact fun hA r => CodeOk.exit h hA r
theorem FW.seq {x y : FC} (h : FW P N x E (thenK (fun E' => FW P N y E' K) K)) : FW P N (.seq x y) E K := fun c' hc => by
  cases c' <;> simp only [FC.chk, Bool.false_eq_true] at hc
  simp only [Bool.and_eq_true] at hc
  refine fun hA r => CodeOk.seq (fun hA r => CodeOk.mono (fun hA r => h _ hc.1 hA r) (fun e E' k => ?_) hA r) hA r
  cases e with
  | normal => exact fun hA r => k _ hc.2 hA r
  | _ => exact k
theorem FW.seq_k {x y : FC} (h : ∀ J : Env → Prop, (∀ E', FW P N y E' K → J E') → FW P N x E (thenK J K)) : FW P N (.seq x y) E K := FW.seq (h _ fun _ h => h)
theorem FW.cond {s : Sr} {x y : FC} {b : Bool} (hb : E.look s = .bool b) (h : FW P N (if b then x else y) E K) : FW P N (.cond s x y) E K := fun c' hc => by
  cases c' <;> simp only [FC.chk, Bool.false_eq_true] at hc
  simp only [Bool.and_eq_true] at hc
  refine fun hA r => CodeOk.cond hc.1 hb (fun hA r => ?_) hA r
  cases b
  · exact h _ hc.2.2 hA r
  · exact h _ hc.2.1 hA r
theorem FW.block {id : Nat} {x : FC} (h : FW P N x E (blockK id K)) : FW P N (.block id x) E K := fun c' hc => by
  cases c' <;> simp only [FC.chk, Bool.false_eq_true] at hc
  simp only [Bool.and_eq_true, beq_iff_eq] at hc
  obtain ⟨rfl, hc⟩ := hc
  exact fun hA r => CodeOk.block (fun hA r => h _ hc hA r) hA r
theorem FW.loop {x : FC} (I : Nat → Env → Prop) (n : Nat) (h0 : I n E) (h : ∀ n E, I n E → FW P N x E (thenK (fun E' => ∃ m, m < n ∧ I m E') K)) : FW P N (.loop x) E K := fun c' hc => by
  cases c' <;> simp only [FC.chk, Bool.false_eq_true] at hc
  exact fun hA r => CodeOk.loop I n h0 (fun n E' hi => by intro xv a w S R hA2 r2; exact h n E' hi _ hc hA2 r2) hA r
/-- a loop over states: what stands in the slots is a function of the state -/
theorem FW.loopS {x : FC} {α : Type} (I : α → Env) (μ : α → Nat) (G : α → Prop) (s : α) (h0 : I s = E) (hg : G s) (h : ∀ s, G s → FW P N x (I s) (thenK (fun E' => ∃ t, E' = I t ∧ G t ∧ μ t < μ s) K)) : FW P N (.loop x) E K := by
  refine FW.loop (fun n E' => ∃ t, E' = I t ∧ G t ∧ μ t = n) (μ s) ⟨s, h0.symm, hg, rfl⟩ ?_
  rintro n E' ⟨t, rfl, hg', rfl⟩
  refine (h t hg').mono fun e E2 k => ?_
  cases e with
  | normal => obtain ⟨u, h1, h2, h3⟩ := k; exact ⟨μ u, h3, u, h1, h2, rfl⟩
  | _ => exact k
theorem FW.kill {c : FC} (ks : List Nat) (h : FW P N c (E.kills ks) K) : FW P N c E K := fun c' hc => by
  intro xv a w S R hA r
  exact CodeOk.kill ks (fun hA r => h c' hc hA r) hA r
/-- the same, with slots that are dead at the head of a round -/
theorem FW.loopK {x : FC} {α : Type} (ks : List Nat) (I : α → Env) (μ : α → Nat) (G : α → Prop) (s : α) (h0 : E.kills ks = I s) (hg : G s) (h : ∀ s, G s → FW P N x (I s) (thenK (fun E' => ∃ t, E'.kills ks = I t ∧ G t ∧ μ t < μ s) K)) : FW P N (.loop x) E K := by
  refine FW.loop (fun n E' => ∃ t, E'.kills ks = I t ∧ G t ∧ μ t = n) (μ s) ⟨s, h0, hg, rfl⟩ ?_
  rintro n E' ⟨t, he, hg', rfl⟩
  refine FW.kill ks ?_
  rw [he]
  refine (h t hg').mono fun e E2 k => ?_
  cases e with
  | normal => obtain ⟨u, h1, h2, h3⟩ := k; exact ⟨μ u, h3, u, h1, h2, rfl⟩
  | _ => exact k
theorem reg_inv {fs : List FO} {ks : List Nat} : ∀ c' : Code, FC.chk P N (.reg none fs ks) c' = true → ∃ id ops, c' = .region id (List.toArray ops) false ∧ chkL P N ops fs ops = true
  | .region id ⟨ops⟩ false, hc => ⟨id, ops, rfl, hc⟩
theorem FW.reg {fs : List FO} {ks : List Nat} (h : runOps P fs E (fun E' => K .normal (E'.kills ks))) : FW P N (.reg none fs ks) E K := fun c' hc => by
  obtain ⟨id, ops, rfl, hc⟩ := reg_inv c' hc
  intro xv a w S R hA r
  refine wp_mono (CodeOk.region (id := id) (K := fun e E' => match e with | .normal => K .normal (E'.kills ks) | _ => False) hc h hA r) fun e a' w' p => ?_
  obtain ⟨E', S', R', k, r', e1⟩ := p
  cases e <;> simp only at k <;> try exact k.elim
  obtain ⟨R2, r2, h2⟩ := r'.kills ks
  exact ⟨_, S', R2, k, r2, e1.trans (Ext.refl _ _ _ _ h2)⟩

theorem draw_inv {n : Nat} {fs : List FO} {ks : List Nat} : ∀ c' : Code, FC.chk P N (.reg (some n) fs ks) c' = true → ∃ id ops, c' = .region id (List.toArray ops) true ∧ chkL P N ops fs ops = true ∧ drawChk n fs ops = true
  | .region id ⟨ops⟩ true, hc => ⟨id, ops, rfl, by simpa only [FC.chk, Bool.and_eq_true] using hc⟩
theorem repl_getD (m i : Nat) : (Array.replicate m false).getD i false = false := by
  rw [Array.getD_eq_getD_getElem?, Array.getElem?_replicate]; split <;> rfl
theorem FW.draw {n : Nat} {fs : List FO} {ks : List Nat} (hm : P.follows .mixedOrders = true) (hf : freshOk (dests (fs.take n)) E = true)
    (h : runDet P (fs.take n) E (fun Ef => rootsOk (dests (fs.take n)) Ef = true ∧ runOps P (fs.drop n) Ef (fun E' => K .normal (E'.kills ks)))) : FW P N (.reg (some n) fs ks) E K := fun c' hc => by
  obtain ⟨id, ops, rfl, hc, hdr⟩ := draw_inv c' hc
  intro xv a w S R hA r
  have hdr0 := hdr
  simp only [drawChk, Bool.and_eq_true, decide_eq_true_eq] at hdr0
  obtain ⟨Ef, ⟨i1, i1'⟩, i2, i3, i4, i5⟩ := runDet_table r.sorted (nodupB_spec hdr0.1) (fun f hf' x hx e => by
    have := List.all_eq_true.1 hf x hx
    rw [e] at this
    have hm : (dests (fs.take n)).contains f.d = true := List.contains_iff_mem.2 (List.mem_map.2 ⟨f, hf', rfl⟩)
    rw [hm] at this; cases this) h
  refine wp_region_any hm ?_
  have r1 : Rel N xv E a { w with drawn := w.drawn + 1 } S R := r.world (Nat.le_refl _) (fun _ _ _ => rfl) (fun _ _ => rfl)
  have e1 : Ext w S R { w with drawn := w.drawn + 1 } S R := ⟨fun _ h => h, fun _ h => .inl h, fun _ _ _ => rfl, Nat.le_refl _, fun b m => .inl m, rfl, rfl, rfl, fun _ h => h⟩
  refine @drawn_any P N xv ops n fs Ef (fun E' => K .normal (E'.kills ks)) (Rests N xv K w S R) w S R hA r.sep ⟨hc, hdr, i2, i1, i4, i5, i1'⟩ (fun a' w' hp => ?_) _ _ a _ (by simp) ?_ ?_ (.light S R ?_ ?_ e1)
  -- (J := fun E' => K .normal (E'.kills ks)) (w0 := w) (S0 := S) (R0 := R) ⟨hc, hdr, i2, i1, i4, i5, i1'⟩ (fun a' w' hp => ?_) _ _ a _ (by simp) ?_ ?_ (.light S R ?_ ?_ e1)
  · obtain ⟨E', S', R', k, r', e'⟩ := hp
    obtain ⟨R2, r2, h2⟩ := r'.kills ks
    exact ⟨_, S', R2, k, r2, e'.trans (Ext.refl _ _ _ _ h2)⟩
  · unfold toCome
    refine Nat.le_trans (List.length_filter_le _ _) ?_
    simp
  · intro i o _ hl
    exfalso
    have hl : (Array.replicate (List.toArray ops).size false).getD i false = true := hl
    rw [repl_getD] at hl
    cases hl
  · intro i hi hil
    have : fs.length = ops.length := (chkL_get hc).1
    rw [getD_dflt (by simp; omega) true false, repl_getD]
  · have : Ef.only (vis (dests (fs.take n)) (Array.replicate (List.toArray ops).size false)) = E := by
      rw [← i3]
      refine only_congr fun x _ => ?_
      unfold vis
      rw [repl_getD, Bool.or_false]
    rw [this]
    exact r1

/-- the function's body is this code -/
def fnOk (P : Program) (fn : Func) (fc : FC) (N na : Nat) (rs : List RV) : Bool :=
  match fn.body with
  | some c => fc.chk P N c && (fn.ntmps == N && (decide (N ≤ X0) && (decide (na ≤ N) && (decide (fn.results.size ≤ 4) && (rs.length == fn.results.toList.length && List.all (rs.zip fn.results.toList) (fun y => y.1.chk P N y.2))))))
  | none => false

theorem FCall.of {f : FuncId} {fn : Func} {fc : FC} {fs : List FV} {na : Nat} {rs : List RV} {J : FV → Prop} (hf : P.funcs[f]? = some fn) (hc : fnOk P fn fc N na rs = true) (hl : fs.length = na)
    (h : FW P N fc (entryFrom 0 fs) (fun e E' => (e = .normal ∨ e = .ret) ∧ ∃ x, outs E' rs = some x ∧ J (one x.1))) : FCall P f fs J := by
  unfold fnOk at hc
  cases hb : fn.body with
  | none => rw [hb] at hc; cases hc
  | some c =>
  rw [hb] at hc
  simp only [Bool.and_eq_true, beq_iff_eq, decide_eq_true_eq] at hc
  obtain ⟨h1, h2, h3, h4, h5, h6, h7⟩ := hc
  exact FCall.body hf hb h2 h3 (by omega) h7 h6 h5 (fun hA r => h c h1 hA r)
end
end Go.Fm
