/- Regions that draw their order: the theorem. -/
import Derived.Test.YthfkhokmgolabaaDoorFmDraw
set_option linter.unusedVariables false
set_option linter.unusedSimpArgs false
namespace Go.Fm
open Go

/-- one step with its guard -/
def stepG (P : Program) (f : FO) (E : Env) (J : Env → Prop) : Prop :=
  match f.g with
  | none => runK P f.k f.d E J
  | some (t, want) => match E.get t with
    | .bool b => (b = want → runK P f.k f.d E J) ∧ (b ≠ want → J (E.upd f.d skipped))
    | .tup [] => J (E.upd f.d skipped)
    | _ => False
theorem runOps_cons (P : Program) (f : FO) (r : List FO) (E : Env) (J : Env → Prop) : runOps P (f :: r) E J = stepG P f E (fun E' => runOps P r E' J) := rfl

def detK (P : Program) (k : FK) (d : Nat) (E : Env) (J : FV → Prop) : Prop :=
  match k with
  | .op f => ∃ v, f.val E = some v ∧ v.notRoot d = true ∧ J v
  | .call _ _ => False
  | .callB f ss => ∃ v, FCall P f (ss.map E.lend) (· = v) ∧ v.free = true ∧ J v
  | .callL f ss => (ss.all fun s => !(E.look s).alias) = true ∧ ∃ v, FCall P f (ss.map E.look) (· = v) ∧ J v
def detG (P : Program) (f : FO) (E : Env) (J : FV → Prop) : Prop :=
  match f.g with
  | none => detK P f.k f.d E J
  | some (t, want) => match E.get t with
    | .bool b => (b = want → detK P f.k f.d E J) ∧ (b ≠ want → J skipped)
    | .tup [] => J skipped
    | _ => False
def runDet (P : Program) : List FO → Env → (Env → Prop) → Prop
  | [], E, J => J E
  | f :: r, E, J => detG P f E (fun v => runDet P r (E.upd f.d v) J)

def FK.srcs : FK → List Nat
  | .op f => f.srcs
  | .call _ _ => []
  | .callB _ ss | .callL _ ss => slotsL ss
def FO.srcs (f : FO) : List Nat := (match f.g with | some (t, _) => [t] | none => []) ++ f.k.srcs

section
variable {P : Program} {N : Nat} {xv : Nat → Value} {a : Act} {w : World} {S : Nat → Prop} {R : List Nat}

theorem step_ok {ops : List Oper} {f : FO} {o : Oper} {E : Env} {J : Env → Prop} {K : Act → World → Prop} {Q : Exit → Act → World → Prop} (hk : f.k.chk P N f.d o = true) (hg : guardOk N ops f o = true) (hA : Amb P w S) (r : Rel N xv E a w S R) (h : stepG P f E J)
    (hq : ∀ a' w', Post N xv J w S R a' w' → K a' w') :
    if Region.wanted o (yielded ops.toArray a.tmps) then o.wp P a w K Q ∨ (o.asks P a w ∧ LetsOut Q) else K (a.put o.dst undef) w := by
  have go : runK P f.k f.d E J → o.wp P a w K Q := fun h1 => wp_widen (runK_ok hk h1 hA r) hq
  have skip : o.dst = some f.d → f.d < N → J (E.upd f.d skipped) → K (a.put o.dst undef) w := fun h1 h2 h3 => by
    obtain ⟨R', h4, h5⟩ := r.skip h2
    rw [h1]
    exact hq _ _ ⟨_, S, R', h3, h4, h5⟩
  unfold guardOk at hg
  unfold stepG at h
  cases hfg : f.g with
  | none =>
    rw [hfg] at hg h
    cases hog : o.guard with
    | some x => rw [hog] at hg; cases hg
    | none =>
    simp only at h
    rw [if_pos (by simp [Region.wanted, hog])]
    exact .inl (go h)
  | some x =>
    obtain ⟨t, want⟩ := x
    rw [hfg] at hg h
    cases hog : o.guard with
    | none => rw [hog] at hg; cases hg
    | some y =>
    obtain ⟨j, want'⟩ := y
    rw [hog] at hg
    simp only [Bool.and_eq_true, beq_iff_eq, decide_eq_true_eq] at hg
    obtain ⟨rfl, ht, hj, _, hd, hdN⟩ := hg
    have hv : yielded ops.toArray a.tmps j = match a.tmps[t]? with | some (.bool b) => some b | _ => none := by
      unfold yielded
      have : (ops.toArray[j]?).bind (·.dst) = some t := by simpa using hj
      rw [this]
      rfl
    have hsz : t < a.tmps.size := by rw [r.size]; exact ht
    have hval := eval_val (a := a) (xv := xv) r.small ht
    have hget : a.tmps[t]? = some (valOf a xv t) := by
      rw [hval]
      simp [Act.eval, hsz]
    rw [hget] at hv
    simp only at h
    cases hE : E.get t with
    | bool b =>
      rw [hE] at h
      simp only at h
      obtain ⟨R1, _, h1, _⟩ := r.get0 t hE rfl
      have hb : valOf a xv t = .bool b := by
        generalize valOf a xv t = v at h1
        cases h1; rfl
      rw [hb] at hv
      simp only at hv
      by_cases hbw : b = want
      · rw [if_pos (by simp [Region.wanted, hog, hv, hbw])]
        exact .inl (go (h.1 hbw))
      · rw [if_neg (by simp [Region.wanted, hog, hv, hbw])]
        exact skip hd hdN (h.2 hbw)
    | tup vs =>
      rw [hE] at h
      cases vs with
      | cons _ _ => exact h.elim
      | nil =>
      simp only at h
      obtain ⟨R1, _, h1, _⟩ := r.get0 t hE rfl
      have hb : ∃ z, valOf a xv t = .tuple z := by
        generalize valOf a xv t = v at h1
        cases h1; exact ⟨_, rfl⟩
      obtain ⟨z, hb⟩ := hb
      rw [hb] at hv
      simp only at hv
      rw [if_neg (by simp [Region.wanted, hog, hv])]
      exact skip hd hdN h
    | _ => rw [hE] at h; exact h.elim

theorem lend_agree {E E' : Env} {s : Sr} (h : ∀ n ∈ s.slots, Agree E E' n) : E'.lend s = E.lend s := by
  cases s with
  | k v => rfl
  | t n =>
    have h1 := h n (by simp [Sr.slots])
    simp only [Env.lend, h1.1]
    cases hg : E.get n with
    | al r p => simp only [at_agree (h1.2 r p (.inl hg))]
    | _ => rfl

theorem detK_agree {E E' : Env} {k : FK} {d : Nat} {J : FV → Prop} (h : ∀ n ∈ k.srcs, Agree E E' n) (hd : detK P k d E J) : detK P k d E' J := by
  cases k with
  | op f => simpa only [detK, FOp.val_agree (f := f) h] using hd
  | call f ss => exact hd
  | callB f ss =>
    have : ss.map E'.lend = ss.map E.lend := List.map_congr_left fun s hs => lend_agree fun n hn => h n (slotsL_mem hs hn)
    simpa only [detK, this] using hd
  | callL f ss =>
    have h1 : ss.map E'.look = ss.map E.look := looks_agree h
    have h3 : ∀ E : Env, (ss.all fun s => !(E.look s).alias) = (ss.map E.look).all fun f => !f.alias := fun E => by simp [List.all_map, Function.comp_def]
    simp only [detK] at hd ⊢
    rw [h3] at hd ⊢
    rw [h1]
    exact hd

theorem detG_agree {E E' : Env} {f : FO} {J : FV → Prop} (h : ∀ n ∈ f.srcs, Agree E E' n) (hd : detG P f E J) : detG P f E' J := by
  unfold detG at hd ⊢
  unfold FO.srcs at h
  cases hg : f.g with
  | none =>
    rw [hg] at hd h
    exact detK_agree (fun n hn => h n (by simp [hn])) hd
  | some x =>
    obtain ⟨t, want⟩ := x
    rw [hg] at hd h
    simp only at hd ⊢
    rw [(h t (by simp)).1]
    cases hE : E.get t with
    | bool b =>
      rw [hE] at hd
      exact ⟨fun hb => detK_agree (fun n hn => h n (by simp [hn])) (hd.1 hb), hd.2⟩
    | tup vs =>
      rw [hE] at hd
      cases vs with
      | nil => exact hd
      | cons _ _ => exact hd
    | _ => rw [hE] at hd; exact hd.elim

theorem detK_run {E : Env} {k : FK} {d : Nat} {J : FV → Prop} (h : detK P k d E J) : runK P k d E (fun E' => ∃ v, E' = E.upd d v ∧ J v) := by
  cases k with
  | op f =>
    obtain ⟨v, h1, h2, h3⟩ := h
    exact ⟨_, FOp.val_eval h1 h2, v, rfl, h3⟩
  | call f ss => exact h.elim
  | callB f ss =>
    obtain ⟨v, h1, h2, h3⟩ := h
    exact h1.mono fun r hr => by subst hr; exact ⟨h2, _, rfl, h3⟩
  | callL f ss =>
    obtain ⟨h0, v, h1, h3⟩ := h
    exact ⟨h0, h1.mono fun r hr => by subst hr; exact ⟨_, rfl, h3⟩⟩
theorem detG_step {E : Env} {f : FO} {J : FV → Prop} (h : detG P f E J) : stepG P f E (fun E' => ∃ v, E' = E.upd f.d v ∧ J v) := by
  unfold detG at h
  unfold stepG
  cases hg : f.g with
  | none => rw [hg] at h; exact detK_run h
  | some x =>
    obtain ⟨t, want⟩ := x
    rw [hg] at h
    simp only at h ⊢
    cases hE : E.get t with
    | bool b =>
      rw [hE] at h
      exact ⟨fun hb => detK_run (h.1 hb), fun hb => ⟨_, rfl, h.2 hb⟩⟩
    | tup vs =>
      rw [hE] at h
      cases vs with
      | nil => exact ⟨_, rfl, h⟩
      | cons _ _ => exact h
    | _ => rw [hE] at h; exact h.elim
theorem detG_mono {E : Env} {f : FO} {J J' : FV → Prop} (h : detG P f E J) (hj : ∀ v, J v → J' v) : detG P f E J' := by
  have mk : detK P f.k f.d E J → detK P f.k f.d E J' := fun h => by
    cases hk : f.k <;> rw [hk] at h
    · obtain ⟨v, h1, h2, h3⟩ := h; exact ⟨v, h1, h2, hj v h3⟩
    · exact h
    · obtain ⟨v, h1, h2, h3⟩ := h; exact ⟨v, h1, h2, hj v h3⟩
    · obtain ⟨h0, v, h1, h3⟩ := h; exact ⟨h0, v, h1, hj v h3⟩
  unfold detG at h ⊢
  cases hg : f.g with
  | none => rw [hg] at h; exact mk h
  | some x =>
    obtain ⟨t, want⟩ := x
    rw [hg] at h
    simp only at h ⊢
    cases hE : E.get t with
    | bool b => rw [hE] at h; exact ⟨fun hb => mk (h.1 hb), fun hb => hj _ (h.2 hb)⟩
    | tup vs =>
      rw [hE] at h
      cases vs with
      | nil => exact hj _ h
      | cons _ _ => exact h
    | _ => rw [hE] at h; exact h.elim
end
end Go.Fm
