/- Regions in their written order; a function's body. -/
import Derived.Test.YthfkhokmgolabaaDoorFmCall
import Derived.Orders
set_option linter.unusedVariables false
set_option linter.unusedSimpArgs false
namespace Go.Fm
open Go

inductive FK where
  | op (f : FOp)
  | call (f : FuncId) (ss : List (Bool × Sr))
  | callB (f : FuncId) (ss : List Sr)
  | callL (f : FuncId) (ss : List Sr)
structure FO where
  d : Nat
  k : FK
  /-- the slot that says whether it is done -/
  g : Option (Nat × Bool) := none

/-- an operation is passed over -/
def skipped : FV := .tup []

def FK.isStore : FK → Bool
  | .op f => f.isStore
  | _ => false
def FK.chk (P : Program) (N : Nat) (k : FK) (d : Nat) (o : Oper) : Bool :=
  match k with
  | .op f => f.chk P N o.op && dstOk N f d o
  | .call f ss => match o.op with
    | .call { callee := .value (.func g), args, argTypes := _ } => f == g && (isFn P f && (ss.length == args.toList.length && (List.all (ss.zip args.toList) (fun y => y.1.2.fits N y.2) && (o.dst == some d && decide (d < N)))))
    | _ => false
  | .callB f ss | .callL f ss => match o.op with
    | .call { callee := .value (.func g), args, argTypes := _ } => f == g && (isFn P f && (ss.length == args.toList.length && (List.all (ss.zip args.toList) (fun y => y.1.fits N y.2) && (o.dst == some d && decide (d < N)))))
    | _ => false
def guardOk (N : Nat) (ops : List Oper) (f : FO) (o : Oper) : Bool :=
  match f.g, o.guard with
  | none, none => true
  | some (t, want), some (j, want') => want == want' && (decide (t < N) && ((ops[j]?).bind (·.dst) == some t && (!f.k.isStore && (o.dst == some f.d && decide (f.d < N)))))
  | _, _ => false
def FO.chk (P : Program) (N : Nat) (ops : List Oper) (f : FO) (o : Oper) : Bool := f.k.chk P N f.d o && guardOk N ops f o
def chkL (P : Program) (N : Nat) (ops : List Oper) : List FO → List Oper → Bool
  | [], [] => true
  | f :: fs, o :: os => f.chk P N ops o && chkL P N ops fs os
  | _, _ => false

/-- what is asked of an environment ahead of an operation -/
def runK (P : Program) (k : FK) (d : Nat) (E : Env) (J : Env → Prop) : Prop :=
  match k with
  | .op f => ∃ E', f.eval E d = some E' ∧ J E'
  | .call f ss => FCall P f (E.passM ss).1 (fun r => J ((E.passM ss).2.upd d r))
  | .callB f ss => FCall P f (ss.map E.lend) (fun r => r.free = true ∧ J (E.upd d r))
  | .callL f ss => (ss.all fun s => !(E.look s).alias) = true ∧ FCall P f (ss.map E.look) (fun r => J (E.upd d r))
def runOps (P : Program) : List FO → Env → (Env → Prop) → Prop
  | [], E, J => J E
  | f :: r, E, J => match f.g with
    | none => runK P f.k f.d E (fun E' => runOps P r E' J)
    | some (t, want) => match E.get t with
      | .bool b => (b = want → runK P f.k f.d E (fun E' => runOps P r E' J)) ∧ (b ≠ want → runOps P r (E.upd f.d skipped) J)
      | .tup [] => runOps P r (E.upd f.d skipped) J
      | _ => False

section
variable {P : Program} {N : Nat} {E : Env} {xv : Nat → Value} {a : Act} {w : World} {S : Nat → Prop} {R : List Nat}

theorem runK_ok {k : FK} {d : Nat} {o : Oper} {J : Env → Prop} (hc : k.chk P N d o = true) (h : runK P k d E J) : OpOkA P N o E J := by
  cases k with
  | op f =>
    simp only [FK.chk, Bool.and_eq_true] at hc
    obtain ⟨E', h1, h2⟩ := h
    exact fun _ r => OpOk.mono (fun r => FOp.sound hc.1 hc.2 h1 r) (fun E'' e => e ▸ h2) r
  | call f ss =>
    simp only [FK.chk] at hc
    split at hc <;> try (cases hc; done)
    rename_i g args ts heq
    simp only [Bool.and_eq_true, beq_iff_eq, decide_eq_true_eq] at hc
    obtain ⟨rfl, h1, h2, h3, h4, h5⟩ := hc
    exact ok_call heq h4 h5 h1 h3 h2 h
  | callB f ss =>
    simp only [FK.chk] at hc
    split at hc <;> try (cases hc; done)
    rename_i g args ts heq
    simp only [Bool.and_eq_true, beq_iff_eq, decide_eq_true_eq] at hc
    obtain ⟨rfl, h1, h2, h3, h4, h5⟩ := hc
    exact ok_callB heq h4 h5 h1 h3 h2 h
  | callL f ss =>
    simp only [FK.chk] at hc
    split at hc <;> try (cases hc; done)
    rename_i g args ts heq
    simp only [Bool.and_eq_true, beq_iff_eq, decide_eq_true_eq] at hc
    obtain ⟨rfl, h1, h2, h3, h4, h5⟩ := hc
    exact ok_callL heq h4 h5 h1 h3 h2 h.1 h.2

theorem wp_widen {o : Oper} {K K' : Act → World → Prop} {Q : Exit → Act → World → Prop} (h : o.wp P a w K (fun _ _ _ => False)) (hk : ∀ a w, K a w → K' a w) : o.wp P a w K' Q := by
  unfold Oper.wp at *
  revert h
  generalize (execOp a.eval o).run P w = x
  intro h1
  cases x with
  | ok n w' =>
    cases n <;> simp only [Oper.upon] at h1 ⊢
    case enter f args =>
      refine h1.mono fun e w'' he => ?_
      cases e with
      | returned v => exact hk _ _ he
      | panicked c => exact he.elim
      | outgrown => obtain ⟨_, _, he⟩ := he; exact he.elim
    case row row args => exact h1.mono fun v w'' he => hk _ _ he
    all_goals first | exact hk _ _ h1 | exact h1.elim
  | halt x w' => cases x <;> simp only [Oper.upon] at h1 ⊢

theorem Rel.skip (r : Rel N xv E a w S R) {d : Nat} (hd : d < N) : ∃ R', Rel N xv (E.upd d skipped) (a.put (some d) undef) w S R' ∧ Ext w S R w S R' := by
  obtain ⟨R', h1, h2⟩ := r.upd hd (v := undef) (f := skipped) (Rf := []) (by
    have : Rep w.heap S [.tuple (List.toArray [])] [.tup []] ([] ++ []) := .tup .nil .nil
    exact this) (by simp) (by simp)
  exact ⟨R', h1, Ext.refl _ _ _ _ fun b m => by rcases h2 b m with h | h; simp at h; exact h⟩

theorem reg_ok {ops : List Oper} {Q : Exit → Act → World → Prop} {J : Env → Prop} : ∀ {fs : List FO} {l : List Oper} {E : Env} {a : Act} {w : World} {S : Nat → Prop} {R : List Nat}, Amb P w S → Rel N xv E a w S R → chkL P N ops fs l = true → runOps P fs E J →
    (∀ a' w', Post N xv J w S R a' w' → Q .normal a' w') → wpList P ops.toArray Q l a w
  | [], [], E, a, w, S, R, _, r, _, h, hq => hq a w ⟨E, S, R, h, r, Ext.refl _ _ _ _ fun _ h => h⟩
  | _ :: _, [], _, _, _, _, _, _, _, hc, _, _ => by simp [chkL] at hc
  | [], _ :: _, _, _, _, _, _, _, _, hc, _, _ => by simp [chkL] at hc
  | f :: fs, o :: l, E, a, w, S, R, hA, r, hc, h, hq => by
    simp only [chkL, FO.chk, Bool.and_eq_true] at hc
    obtain ⟨⟨hk, hg⟩, hc⟩ := hc
    have go : runK P f.k f.d E (fun E' => runOps P fs E' J) → o.wp P a w (wpList P ops.toArray Q l) Q := fun h1 => by
      refine wp_widen (runK_ok hk h1 hA r) fun a' w' hp => ?_
      obtain ⟨E', S', R', k, r', e⟩ := hp
      exact reg_ok (hA.ext e r.sep) r' hc k fun a2 w2 p => hq a2 w2 (Post.trans e p)
    have skip : o.dst = some f.d → f.d < N → runOps P fs (E.upd f.d skipped) J → wpList P ops.toArray Q l (a.put o.dst undef) w := fun h1 h2 h3 => by
      obtain ⟨R', h4, h5⟩ := r.skip h2
      rw [h1]
      exact reg_ok hA h4 hc h3 fun a2 w2 p => hq a2 w2 (Post.trans h5 p)
    unfold wpList
    unfold guardOk at hg
    unfold runOps at h
    cases hfg : f.g with
    | none =>
      rw [hfg] at hg h
      cases hog : o.guard with
      | some x => rw [hog] at hg; cases hg
      | none =>
      simp only at h
      rw [if_pos (by simp [Region.wanted, hog])]
      exact .inl (go h)
    | some x =>
      obtain ⟨t, want⟩ := x
      rw [hfg] at hg h
      cases hog : o.guard with
      | none => rw [hog] at hg; cases hg
      | some y =>
      obtain ⟨j, want'⟩ := y
      rw [hog] at hg
      simp only [Bool.and_eq_true, beq_iff_eq, decide_eq_true_eq] at hg
      obtain ⟨rfl, ht, hj, _, hd, hdN⟩ := hg
      have hv : yielded ops.toArray a.tmps j = match a.tmps[t]? with | some (.bool b) => some b | _ => none := by
        unfold yielded
        have : (ops.toArray[j]?).bind (·.dst) = some t := by simpa using hj
        rw [this]
        rfl
      have hsz : t < a.tmps.size := by rw [r.size]; exact ht
      have hval := eval_val (a := a) (xv := xv) r.small ht
      have hget : a.tmps[t]? = some (valOf a xv t) := by
        rw [hval]
        simp [Act.eval, hsz]
      rw [hget] at hv
      simp only at h
      cases hE : E.get t with
      | bool b =>
        rw [hE] at h
        simp only at h
        obtain ⟨R1, _, h1, _⟩ := r.get0 t hE rfl
        have hb : valOf a xv t = .bool b := by
          generalize valOf a xv t = v at h1
          cases h1; rfl
        rw [hb] at hv
        simp only at hv
        by_cases hbw : b = want
        · rw [if_pos (by simp [Region.wanted, hog, hv, hbw])]
          exact .inl (go (h.1 hbw))
        · rw [if_neg (by simp [Region.wanted, hog, hv, hbw])]
          exact skip hd hdN (h.2 hbw)
      | tup vs =>
        rw [hE] at h
        cases vs with
        | cons _ _ => exact h.elim
        | nil =>
        simp only at h
        obtain ⟨R1, _, h1, _⟩ := r.get0 t hE rfl
        have hb : ∃ z, valOf a xv t = .tuple z := by
          generalize valOf a xv t = v at h1
          cases h1; exact ⟨_, rfl⟩
        obtain ⟨z, hb⟩ := hb
        rw [hb] at hv
        simp only at hv
        rw [if_neg (by simp [Region.wanted, hog, hv])]
        exact skip hd hdN h
      | _ => rw [hE] at h; exact h.elim

theorem CodeOk.region {id : Nat} {ops : List Oper} {fs : List FO} {K : Exit → Env → Prop} (hc : chkL P N ops fs ops = true) (h : runOps P fs E (K .normal)) : CodeOk P N (.region id ops.toArray false) E K := by
  intro xv a w S R hA r
  exact wp_region_lit (reg_ok hA r hc h fun a' w' p => p)

/-! ### slots that are dead -/
def Env.kill (E : Env) (k : Nat) : Env := (E.clear k).del k
def Env.kills (E : Env) (ks : List Nat) : Env := ks.foldl Env.kill E

theorem Rel.kill (r : Rel N xv E a w S R) (d : Nat) : ∃ R', Rel N xv (E.kill d) a w S R' ∧ ∀ b ∈ R', b ∈ R := by
  have hso := r.sorted
  have hclr := Env.clear_mem hso r.env d
  have e1 : REnv w.heap S (valOf a xv) E (E.clear d) R := by
    unfold Env.clear
    split
    · exact r.env.mapV _ (fun f h => unroot_alias d f h) (fun f h => unroot_alias2 d f h)
    · exact r.env
  obtain ⟨R1, R2, h2, hp, _, _⟩ := e1.del d
  have hsd := Env.sorted_del (Env.clear_sorted hso d) d
  have hgetq : ∀ q, q ≠ d → (E.get q).owned = true → (E.kill d).get q = E.get q := fun q hq ho => by
    unfold Env.kill
    rw [Env.get_del _ _ _ (Env.clear_sorted hso d), if_neg (fun e => hq e.symm), Env.clear_get]
    cases hg : E.get q <;> rw [hg] at ho <;> first | rfl | cases ho
  have h3 : REnv w.heap S (valOf a xv) (E.kill d) (E.kill d) R2 := by
    refine h2.change (fun _ h => h) (Nat.le_refl _) (fun _ _ _ => rfl) (fun _ _ => rfl) (fun x hx => rfl) ?_ ?_
    · intro t q p hm he
      have := (hclr.1 t q p (hsd.2 _ hm).1).1
      rw [hdrAt_congr p (hgetq q this (hdrAt_owned he)) rfl, he]
    · intro t q p hm he
      have := (hclr.2 t q p (hsd.2 _ hm).1).1
      rw [ptrAt_congr p (hgetq q this (ptrAt_owned he)) rfl, he]
  have hnd2 : (R1 ++ R2).Nodup := hp.nodup_iff.1 r.nodup
  have hsub : ∀ b ∈ R2, b ∈ R := fun b m => hp.mem_iff.2 (by simp [m])
  exact ⟨R2, ⟨h3, hsd.1, (List.nodup_append.1 hnd2).2.1, fun b hb => ⟨(r.sep b hb).1, fun m => (r.sep b hb).2 (hsub b m)⟩, r.size, r.small, r.nodef⟩, hsub⟩

theorem Rel.kills : ∀ (ks : List Nat) {E : Env} {R : List Nat} (r : Rel N xv E a w S R), ∃ R', Rel N xv (E.kills ks) a w S R' ∧ ∀ b ∈ R', b ∈ R
  | [], E, R, r => ⟨R, r, fun _ h => h⟩
  | k :: ks, E, R, r => by
    obtain ⟨R1, r1, h1⟩ := r.kill k
    obtain ⟨R2, r2, h2⟩ := Rel.kills ks r1
    exact ⟨R2, r2, fun b m => h1 b (h2 b m)⟩

theorem CodeOk.kill {c : Code} {K : Exit → Env → Prop} (ks : List Nat) (h : CodeOk P N c (E.kills ks) K) : CodeOk P N c E K := by
  intro xv a w S R hA r
  obtain ⟨R', r', hs⟩ := r.kills ks
  exact wp_mono (h hA r') fun e a' w' p => Post.trans (Ext.refl _ _ _ _ hs) p
end
end Go.Fm
