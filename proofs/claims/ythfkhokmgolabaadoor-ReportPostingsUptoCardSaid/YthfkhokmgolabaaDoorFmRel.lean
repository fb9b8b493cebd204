/- The relation between an abstract environment and the model's frame and world, and what single changes do to it. -/
import Derived.Test.YthfkhokmgolabaaDoorFmEnv
set_option linter.unusedVariables false
set_option linter.unusedSimpArgs false
namespace Go.Fm
open Go

/-- slots from here on are no temporaries: they stand for what a pointer that was handed in leads to -/
def X0 : Nat := 1000000
def valOf (a : Act) (xv : Nat → Value) (t : Nat) : Value := if t < X0 then a.tmps.getD t undef else xv t

structure Rel (N : Nat) (xv : Nat → Value) (E : Env) (a : Act) (w : World) (S : Nat → Prop) (R : List Nat) : Prop where
  env : REnv w.heap S (valOf a xv) E E R
  sorted : E.Sorted
  nodup : R.Nodup
  sep : ∀ b, S b → b < w.heap.size ∧ b ∉ R
  size : a.tmps.size = N
  small : N ≤ X0
  nodef : a.defers = []

/-- what a piece of code may do to the world -/
structure Ext (w0 : World) (S0 : Nat → Prop) (R0 : List Nat) (w : World) (S : Nat → Prop) (R : List Nat) : Prop where
  seals : ∀ b, S0 b → S b
  news : ∀ b, S b → S0 b ∨ b ∈ R0 ∨ w0.heap.size ≤ b
  keep : ∀ b, b < w0.heap.size → b ∉ R0 → w.heap[b]? = w0.heap[b]?
  grow : w0.heap.size ≤ w.heap.size
  owns : ∀ b ∈ R, b ∈ R0 ∨ w0.heap.size ≤ b
  os : w.os = w0.os
  tape : w.tape = w0.tape
  output : w.output = w0.output
  spare : Addr → True → True

theorem Ext.refl (w : World) (S : Nat → Prop) (R : List Nat) (R' : List Nat) (h : ∀ b ∈ R', b ∈ R) : Ext w S R w S R' :=
  ⟨fun _ h => h, fun _ h => .inl h, fun _ _ _ => rfl, Nat.le_refl _, fun b m => .inl (h b m), rfl, rfl, rfl, fun _ h => h⟩

theorem Ext.trans {w0 S0 R0 w1 S1 R1 w2 S2 R2} (h : Ext w0 S0 R0 w1 S1 R1) (k : Ext w1 S1 R1 w2 S2 R2) : Ext w0 S0 R0 w2 S2 R2 where
  seals b hb := k.seals b (h.seals b hb)
  news b hb := by
    rcases k.news b hb with h1 | h1 | h1
    · exact h.news b h1
    · rcases h.owns b h1 with h2 | h2
      · exact .inr (.inl h2)
      · exact .inr (.inr h2)
    · exact .inr (.inr (Nat.le_trans h.grow h1))
  keep b hb hn := by
    have h1 := h.keep b hb hn
    rw [← h1]
    refine k.keep b (Nat.lt_of_lt_of_le hb h.grow) fun m => ?_
    rcases h.owns b m with h2 | h2
    · exact hn h2
    · omega
  grow := Nat.le_trans h.grow k.grow
  owns b hb := by
    rcases k.owns b hb with h1 | h1
    · exact h.owns b h1
    · exact .inr (Nat.le_trans h.grow h1)
  os := k.os.trans h.os
  tape := k.tape.trans h.tape
  output := k.output.trans h.output
  spare x hx := k.spare x (h.spare x hx)

section
variable {N : Nat} {xv : Nat → Value} {E : Env} {a : Act} {w : World} {S : Nat → Prop} {R : List Nat}

theorem owned_of_kids {f : FV} {i : Nat} {row : List FV} (h : f.kids[i]? = some row) : f.owned = true := by
  cases f <;> first | rfl | simp [FV.kids] at h
theorem owned_of_getN {f : FV} {p : Path} {n : Nat} {xs : List FV} (h : getN f p n = some xs) : f.owned = true := by
  cases p with
  | nil => simp [getN] at h
  | cons x p =>
    obtain ⟨i, o⟩ := x
    cases hk : f.kids[i]? with
    | none => simp only [getN, hk] at h; cases h
    | some row => exact owned_of_kids hk
theorem hdrAt_owned {h : Array Obj} {val : Nat → Value} {r : Nat} {p : Path} {v : Value} (e : hdrAt h val E r p = some v) : (E.get r).owned = true := by
  cases p with
  | nil =>
    simp only [hdrAt] at e
    cases hg : E.get r <;> rw [hg] at e <;> simp only [FV.isSl] at e <;> first | rfl | (cases e; done)
  | cons q p =>
    simp only [hdrAt] at e
    cases hg : getN (E.get r) (q :: p) 1 with
    | none => rw [hg] at e; cases e
    | some xs => exact owned_of_getN hg
theorem ptrAt_owned {h : Array Obj} {val : Nat → Value} {r : Nat} {p : Path} {v : Value} (e : ptrAt h val E r p = some v) : (E.get r).owned = true := by
  simp only [ptrAt] at e
  cases hg : getN (E.get r) p 1 with
  | none => rw [hg] at e; cases e
  | some xs => exact owned_of_getN hg
theorem hdrAt_congr {h : Array Obj} {val val' : Nat → Value} {E' : Env} {r : Nat} (p : Path) (h1 : E'.get r = E.get r) (h2 : val' r = val r) : hdrAt h val' E' r p = hdrAt h val E r p := by
  cases p <;> simp only [hdrAt, h1, h2]
theorem ptrAt_congr {h : Array Obj} {val val' : Nat → Value} {E' : Env} {r : Nat} (p : Path) (h1 : E'.get r = E.get r) (h2 : val' r = val r) : ptrAt h val' E' r p = ptrAt h val E r p := by
  simp only [ptrAt, h1, h2]

/-- the value in a slot -/
theorem Rel.get (r : Rel N xv E a w S R) (t : Nat) (hal : (E.get t).alias = false) :
    ∃ R1 R2, Rep w.heap S [valOf a xv t] [E.get t] R1 ∧ R.Perm (R1 ++ R2) := by
  obtain ⟨R1, R2, _, h2, h3, _⟩ := r.env.del t
  exact ⟨R1, R2, h3 hal, h2⟩
theorem Rel.get0 (r : Rel N xv E a w S R) (t : Nat) {f : FV} (hg : E.get t = f) (hal : f.alias = false) :
    ∃ R1 R2, Rep w.heap S [valOf a xv t] [f] R1 ∧ R.Perm (R1 ++ R2) := by subst hg; exact r.get t hal

theorem REnv.mem_al {h : Array Obj} {val : Nat → Value} {env R} (r : REnv h S val E env R) : (∀ t q p, (t, FV.al q p) ∈ env → hdrAt h val E q p = some (val t)) ∧ (∀ t q p, (t, FV.ptr q p) ∈ env → ptrAt h val E q p = some (val t)) := by
  induction r with
  | nil => simp
  | @own t f env R1 R r1 _ ih =>
    have hna := r1.noalias f (by simp)
    refine ⟨fun t q p m => ?_, fun t q p m => ?_⟩
    · rcases List.mem_cons.1 m with e | m
      · cases e; cases hna
      · exact ih.1 t q p m
    · rcases List.mem_cons.1 m with e | m
      · cases e; cases hna
      · exact ih.2 t q p m
  | @al t q p env R r1 _ ih =>
    refine ⟨fun t q p m => ?_, fun t q p m => ?_⟩
    · rcases List.mem_cons.1 m with e | m
      · cases e; exact r1
      · exact ih.1 t q p m
    · rcases List.mem_cons.1 m with e | m
      · cases e
      · exact ih.2 t q p m
  | @ptr t q p env R r1 _ ih =>
    refine ⟨fun t q p m => ?_, fun t q p m => ?_⟩
    · rcases List.mem_cons.1 m with e | m
      · cases e
      · exact ih.1 t q p m
    · rcases List.mem_cons.1 m with e | m
      · cases e; exact r1
      · exact ih.2 t q p m

theorem Rel.get_al (r : Rel N xv E a w S R) {t q : Nat} {p : Path} (hg : E.get t = .al q p) : hdrAt w.heap (valOf a xv) E q p = some (valOf a xv t) :=
  r.env.mem_al.1 t q p (hg ▸ Env.get_mem (by rw [hg]; simp))
theorem Rel.get_ptr (r : Rel N xv E a w S R) {t q : Nat} {p : Path} (hg : E.get t = .ptr q p) : ptrAt w.heap (valOf a xv) E q p = some (valOf a xv t) :=
  r.env.mem_al.2 t q p (hg ▸ Env.get_mem (by rw [hg]; simp))

/-- slot d is written anew: nothing leans on it any more -/
def Env.clear (E : Env) (d : Nat) : Env := if (E.get d).owned then E.mapV (unroot d) else E
def Env.upd (E : Env) (d : Nat) (f : FV) : Env := (E.clear d).put d f

theorem unroot_alias (d : Nat) (f : FV) (h : f.alias = false) : unroot d f = f := by cases f <;> first | rfl | cases h
theorem unroot_alias2 (d : Nat) (f : FV) (h : f.alias = true) : unroot d f = f ∨ unroot d f = .undef := by
  cases f <;> simp only [FV.alias] at h <;> first | cases h | skip
  · simp only [unroot]; split; exact .inr rfl; exact .inl rfl
  · simp only [unroot]; split; exact .inr rfl; exact .inl rfl

theorem Env.clear_get (E : Env) (d u : Nat) (h : (E.get u).alias = false) : (E.clear d).get u = E.get u := by
  unfold Env.clear
  split
  · rw [Env.get_mapV _ _ rfl, unroot_alias _ _ h]
  · rfl
theorem Env.clear_sorted (hs : E.Sorted) (d : Nat) : (E.clear d).Sorted := by
  unfold Env.clear; split; exact Env.sorted_mapV hs _; exact hs
/-- behind 'clear' no alias has the root d -/
theorem Env.clear_mem {h : Array Obj} {val : Nat → Value} (hs : E.Sorted) (r : REnv h S val E E R) (d : Nat) : (∀ t q p, (t, FV.al q p) ∈ E.clear d → q ≠ d ∧ (t, FV.al q p) ∈ E) ∧ (∀ t q p, (t, FV.ptr q p) ∈ E.clear d → q ≠ d ∧ (t, FV.ptr q p) ∈ E) := by
  unfold Env.clear
  split
  · refine ⟨fun t q p m => ?_, fun t q p m => ?_⟩
    · obtain ⟨⟨t', f⟩, hm, e⟩ := List.mem_map.1 m
      simp only [Prod.mk.injEq] at e
      obtain ⟨rfl, e⟩ := e
      cases f <;> simp only [unroot] at e <;> first | cases e | skip
      · split at e <;> cases e
      · rename_i q' p'
        split at e
        · cases e
        · rename_i hne; injection e with e1 e2; subst e1; subst e2; exact ⟨hne, hm⟩
    · obtain ⟨⟨t', f⟩, hm, e⟩ := List.mem_map.1 m
      simp only [Prod.mk.injEq] at e
      obtain ⟨rfl, e⟩ := e
      cases f <;> simp only [unroot] at e <;> first | cases e | skip
      · rename_i q' p'
        split at e
        · cases e
        · rename_i hne; injection e with e1 e2; subst e1; subst e2; exact ⟨hne, hm⟩
      · split at e <;> cases e
  · rename_i ho
    obtain ⟨h1, h2⟩ := r.mem_al
    refine ⟨fun t q p m => ⟨fun e => ?_, m⟩, fun t q p m => ⟨fun e => ?_, m⟩⟩
    · subst e; exact ho (hdrAt_owned (h1 t q p m))
    · subst e; exact ho (ptrAt_owned (h2 t q p m))

theorem valOf_put {d : Nat} {v : Value} (hd : d < N) (hN : N ≤ X0) (hs : a.tmps.size = N) : valOf (a.put (some d) v) xv d = v := by
  unfold valOf Act.put
  rw [if_pos (by omega)]
  simp [Array.getElem?_setIfInBounds, hs, hd]
theorem valOf_put_ne {d t : Nat} {v : Value} (h : t ≠ d) : valOf (a.put (some d) v) xv t = valOf a xv t := by
  unfold valOf Act.put
  split
  · simp only [Array.getD_eq_getD_getElem?]
    rw [Array.getElem?_setIfInBounds_ne (fun e => h e.symm)]
  · rfl
theorem put_size {d : Option Tmp} {v : Value} : (a.put d v).tmps.size = a.tmps.size := by cases d <;> simp [Act.put]
theorem put_defers {d : Option Tmp} {v : Value} : (a.put d v).defers = a.defers := by cases d <;> rfl

/-- the world turns, but what is owned and what is sealed stands -/
theorem Rel.world (r : Rel N xv E a w S R) {w' : World} (hsz : w.heap.size ≤ w'.heap.size) (hs : ∀ b, b < w.heap.size → S b → w'.heap[b]? = w.heap[b]?) (hR : ∀ b ∈ R, w'.heap[b]? = w.heap[b]?) :
    Rel N xv E a w' S R := by
  have key : ∀ q, (E.get q).owned = true → ∃ R1, Rep w.heap S [valOf a xv q] [E.get q] R1 ∧ ∀ b ∈ R1, w'.heap[b]? = w.heap[b]? := fun q ho => by
    obtain ⟨R1, R2, h1, h2⟩ := r.get q (by cases hg : E.get q <;> rw [hg] at ho <;> first | rfl | cases ho)
    exact ⟨R1, h1, fun b m => hR b (h2.mem_iff.2 (by simp [m]))⟩
  refine ⟨r.env.change (fun _ h => h) hsz (fun b h1 h2 => hs b h2 h1) hR (fun _ _ => rfl) ?_ ?_, r.sorted, r.nodup, fun b hb => ⟨by have := (r.sep b hb).1; omega, (r.sep b hb).2⟩, r.size, r.small, r.nodef⟩
  · intro t q p _ he
    obtain ⟨R1, h1, h2⟩ := key q (hdrAt_owned he)
    rw [← he]
    cases p with
    | nil => rfl
    | cons x p =>
      simp only [hdrAt]
      cases hg : getN (E.get q) (x :: p) 1 with
      | none => rfl
      | some xs =>
        simp only [locate_keep h1 h2]
        have hnd : R1.Nodup := by
          obtain ⟨R1', R2', g1, g2⟩ := r.get q (by have := hdrAt_owned he; cases hg : E.get q <;> rw [hg] at this <;> first | rfl | cases this)
          rw [← h1.uniq g1]
          exact (List.nodup_append.1 (g2.nodup_iff.1 r.nodup)).1
        obtain ⟨b, o, _, _, _, _, F⟩ := focus h1 hnd hg
        simp only [F.loc]
        have : cellAt w'.heap b o = cellAt w.heap b o := cellAt_congr (h2 b (F.perm.mem_iff.2 (by simp [F.mem]))) o
        rw [this]
  · intro t q p _ he
    obtain ⟨R1, h1, h2⟩ := key q (ptrAt_owned he)
    rw [← he]
    simp only [ptrAt, locate_keep h1 h2]

/-- a slot gets a new value, which owns nothing that was owned -/
theorem Rel.upd (r : Rel N xv E a w S R) {d : Nat} (hd : d < N) {v : Value} {f : FV} {Rf : List Nat} (hf : Rep w.heap S [v] [f] Rf) (hfr : ∀ b ∈ Rf, b ∉ R ∧ ¬ S b) (hnd : Rf.Nodup) :
    ∃ R', Rel N xv (E.upd d f) (a.put (some d) v) w S R' ∧ ∀ b ∈ R', b ∈ Rf ∨ b ∈ R := by
  have hso := r.sorted
  have hclr := Env.clear_mem hso r.env d
  -- drop the old value
  have e1 : REnv w.heap S (valOf a xv) E (E.clear d) R := by
    unfold Env.clear
    split
    · exact r.env.mapV _ (fun f h => unroot_alias d f h) (fun f h => unroot_alias2 d f h)
    · exact r.env
  obtain ⟨R1, R2, h2, hp, _, _⟩ := e1.del d
  have hsd := Env.sorted_del (Env.clear_sorted hso d) d
  have hgetq : ∀ q, q ≠ d → (E.get q).owned = true → (E.upd d f).get q = E.get q := fun q hq ho => by
    unfold Env.upd
    rw [Env.get_put _ _ _ _ (Env.clear_sorted hso d), if_neg (fun e => hq e.symm), Env.clear_get]
    cases hg : E.get q <;> rw [hg] at ho <;> first | rfl | cases ho
  have h3 : REnv w.heap S (valOf (a.put (some d) v) xv) (E.upd d f) (Env.del (E.clear d) d) R2 := by
    refine h2.change (fun _ h => h) (Nat.le_refl _) (fun _ _ _ => rfl) (fun _ _ => rfl) (fun x hx => valOf_put_ne (hsd.2 x hx).2) ?_ ?_
    · intro t q p hm he
      have := (hclr.1 t q p (hsd.2 _ hm).1).1
      rw [hdrAt_congr p (hgetq q this (hdrAt_owned he)) (valOf_put_ne this), he]
    · intro t q p hm he
      have := (hclr.2 t q p (hsd.2 _ hm).1).1
      rw [ptrAt_congr p (hgetq q this (ptrAt_owned he)) (valOf_put_ne this), he]
  obtain ⟨R', h4, h5⟩ := REnv.put (Env.clear_sorted hso d) h3 (t := d) (f := f) (R1 := Rf) (.inl ⟨Rf, by rw [valOf_put hd r.small r.size]; exact hf, rfl⟩)
  have hnd2 : (R1 ++ R2).Nodup := hp.nodup_iff.1 r.nodup
  have hsub : ∀ b ∈ R2, b ∈ R := fun b m => hp.mem_iff.2 (by simp [m])
  refine ⟨R', ⟨h4, Env.sorted_put (Env.clear_sorted hso d) _ _, ?_, ?_, by rw [put_size]; exact r.size, r.small, by rw [put_defers]; exact r.nodef⟩, ?_⟩
  · rw [h5.nodup_iff, List.nodup_append]
    exact ⟨hnd, (List.nodup_append.1 hnd2).2.1, fun x hx y hy e => (hfr x hx).1 (e ▸ hsub y hy)⟩
  · intro b hb
    refine ⟨(r.sep b hb).1, fun m => ?_⟩
    rcases List.mem_append.1 (h5.mem_iff.1 m) with m | m
    · exact (hfr b m).2 hb
    · exact (r.sep b hb).2 (hsub b m)
  · intro b m
    rcases List.mem_append.1 (h5.mem_iff.1 m) with m | m
    · exact .inl m
    · exact .inr (hsub b m)

theorem get_clear_put {d : Nat} {f : FV} (hso : E.Sorted) {q : Nat} (hq : q ≠ d) (ho : (E.get q).owned = true) : (E.upd d f).get q = E.get q := by
  unfold Env.upd
  rw [Env.get_put _ _ _ _ (Env.clear_sorted hso d), if_neg (fun e => hq e.symm), Env.clear_get]
  cases hg : E.get q <;> rw [hg] at ho <;> first | rfl | cases ho

/-- a slot gets an alias -/
theorem Rel.updA (r : Rel N xv E a w S R) {d : Nat} (hd : d < N) {v : Value} {f : FV} (hf : ∃ q p, q ≠ d ∧ ((f = .al q p ∧ hdrAt w.heap (valOf a xv) E q p = some v) ∨ (f = .ptr q p ∧ ptrAt w.heap (valOf a xv) E q p = some v))) :
    ∃ R', Rel N xv (E.upd d f) (a.put (some d) v) w S R' ∧ ∀ b ∈ R', b ∈ R := by
  have hso := r.sorted
  have hclr := Env.clear_mem hso r.env d
  have e1 : REnv w.heap S (valOf a xv) E (E.clear d) R := by
    unfold Env.clear
    split
    · exact r.env.mapV _ (fun f h => unroot_alias d f h) (fun f h => unroot_alias2 d f h)
    · exact r.env
  obtain ⟨R1, R2, h2, hp, _, _⟩ := e1.del d
  have hsd := Env.sorted_del (Env.clear_sorted hso d) d
  have h3 : REnv w.heap S (valOf (a.put (some d) v) xv) (E.upd d f) (Env.del (E.clear d) d) R2 := by
    refine h2.change (fun _ h => h) (Nat.le_refl _) (fun _ _ _ => rfl) (fun _ _ => rfl) (fun x hx => valOf_put_ne (hsd.2 x hx).2) ?_ ?_
    · intro t q p hm he
      have := (hclr.1 t q p (hsd.2 _ hm).1).1
      rw [hdrAt_congr p (get_clear_put hso this (hdrAt_owned he)) (valOf_put_ne this), he]
    · intro t q p hm he
      have := (hclr.2 t q p (hsd.2 _ hm).1).1
      rw [ptrAt_congr p (get_clear_put hso this (ptrAt_owned he)) (valOf_put_ne this), he]
  have hf' : (∃ R0, Rep w.heap S [valOf (a.put (some d) v) xv d] [f] R0 ∧ ([] : List Nat) = R0) ∨ (([] : List Nat) = [] ∧ ((∃ q p, f = .al q p ∧ hdrAt w.heap (valOf (a.put (some d) v) xv) (E.upd d f) q p = some (valOf (a.put (some d) v) xv d)) ∨
      (∃ q p, f = .ptr q p ∧ ptrAt w.heap (valOf (a.put (some d) v) xv) (E.upd d f) q p = some (valOf (a.put (some d) v) xv d)))) := by
    right
    refine ⟨rfl, ?_⟩
    rw [valOf_put hd r.small r.size]
    obtain ⟨q, p, hq, ⟨rfl, he⟩ | ⟨rfl, he⟩⟩ := hf
    · left; exact ⟨q, p, rfl, by rw [hdrAt_congr p (get_clear_put hso hq (hdrAt_owned he)) (valOf_put_ne hq), he]⟩
    · right; exact ⟨q, p, rfl, by rw [ptrAt_congr p (get_clear_put hso hq (ptrAt_owned he)) (valOf_put_ne hq), he]⟩
  obtain ⟨R', h4, h5⟩ := REnv.put (Env.clear_sorted hso d) h3 (t := d) (f := f) (R1 := []) hf'
  have hnd2 : (R1 ++ R2).Nodup := hp.nodup_iff.1 r.nodup
  have hsub : ∀ b ∈ R', b ∈ R := fun b m => hp.mem_iff.2 (by have := h5.mem_iff.1 m; simp at this; simp [this])
  refine ⟨R', ⟨h4, Env.sorted_put (Env.clear_sorted hso d) _ _, ?_, fun b hb => ⟨(r.sep b hb).1, fun m => (r.sep b hb).2 (hsub b m)⟩, by rw [put_size]; exact r.size, r.small, by rw [put_defers]; exact r.nodef⟩, hsub⟩
  rw [h5.nodup_iff]
  simpa using (List.nodup_append.1 hnd2).2.1

/-- what a slot owns is taken out of it, or sealed: the slot's value is replaced, the memory stands -/
theorem Rel.swap (r : Rel N xv E a w S R) {d : Nat} (hal : (E.get d).alias = false) :
    ∃ Rf R2, Rep w.heap S [valOf a xv d] [E.get d] Rf ∧ R.Perm (Rf ++ R2) ∧ ∀ {S' : Nat → Prop} {f : FV} {Rg : List Nat}, Rep w.heap S' [valOf a xv d] [f] Rg → (∀ b, S b → S' b) → (∀ b, S' b → b < w.heap.size ∧ b ∉ Rg ∧ b ∉ R2) →
      Rg.Nodup → (∀ b ∈ Rg, b ∉ R2) → ∃ R', Rel N xv (E.upd d f) a w S' R' ∧ R'.Perm (Rg ++ R2) := by
  have hso := r.sorted
  have hclr := Env.clear_mem hso r.env d
  have e1 : REnv w.heap S (valOf a xv) E (E.clear d) R := by
    unfold Env.clear
    split
    · exact r.env.mapV _ (fun f h => unroot_alias d f h) (fun f h => unroot_alias2 d f h)
    · exact r.env
  obtain ⟨R1, R2, h2, hp, h3, _⟩ := e1.del d
  have hsd := Env.sorted_del (Env.clear_sorted hso d) d
  rw [Env.clear_get _ _ _ hal] at h3
  refine ⟨R1, R2, h3 hal, hp, ?_⟩
  intro S' f Rg hg hS hS' hnd hdis
  have h4 : REnv w.heap S' (valOf a xv) (E.upd d f) (Env.del (E.clear d) d) R2 := by
    refine h2.change hS (Nat.le_refl _) (fun _ _ _ => rfl) (fun _ _ => rfl) (fun x hx => rfl) ?_ ?_
    · intro t q p hm he
      have := (hclr.1 t q p (hsd.2 _ hm).1).1
      rw [hdrAt_congr p (get_clear_put hso this (hdrAt_owned he)) rfl, he]
    · intro t q p hm he
      have := (hclr.2 t q p (hsd.2 _ hm).1).1
      rw [ptrAt_congr p (get_clear_put hso this (ptrAt_owned he)) rfl, he]
  obtain ⟨R', h5, h6⟩ := REnv.put (Env.clear_sorted hso d) h4 (t := d) (f := f) (R1 := Rg) (.inl ⟨Rg, hg, rfl⟩)
  have hnd2 : (R1 ++ R2).Nodup := hp.nodup_iff.1 r.nodup
  refine ⟨R', ⟨h5, Env.sorted_put (Env.clear_sorted hso d) _ _, ?_, ?_, r.size, r.small, r.nodef⟩, h6⟩
  · rw [h6.nodup_iff, List.nodup_append]
    exact ⟨hnd, (List.nodup_append.1 hnd2).2.1, fun x hx y hy e => hdis x hx (e ▸ hy)⟩
  · intro b hb
    refine ⟨(hS' b hb).1, fun m => ?_⟩
    rcases List.mem_append.1 (h6.mem_iff.1 m) with m | m
    · exact (hS' b hb).2.1 m
    · exact (hS' b hb).2.2 m

theorem thru_hits : ∀ {q p : Path} {n : Nat}, hits q p n = false → thru q p n = false
  | [], p, n, h => by cases p <;> rfl
  | (i, o) :: q, [], n, h => rfl
  | (i, o) :: q, [(i', o')], n, h => by
    simp only [hits, thru] at h ⊢
    cases h1 : decide (o' ≤ o) && decide (o < o' + n) with
    | false => simp
    | true => rw [h1] at h; simp only [Bool.true_and] at h ⊢; simp [h]
  | (i, o) :: q, (i', o') :: p2 :: p, n, h => by
    have e1 : hits ((i, o) :: q) ((i', o') :: p2 :: p) n = (decide (o = o') && (decide (i = i') && hits q (p2 :: p) n)) := rfl
    have e2 : thru ((i, o) :: q) ((i', o') :: p2 :: p) n = (decide (o = o') && (decide (i = i') && thru q (p2 :: p) n)) := rfl
    rw [e1] at h
    rw [e2]
    by_cases h1 : o = o'
    · by_cases h2 : i = i'
      · subst h1; subst h2
        simp only [decide_true, Bool.true_and] at h ⊢
        exact thru_hits h
      · simp [h2]
    · simp [h1]

theorem unpath_alias (d : Nat) (p : Path) (n : Nat) (f : FV) (h : f.alias = false) : unpath d p n f = f := by cases f <;> first | rfl | cases h
theorem unpath_alias2 (d : Nat) (p : Path) (n : Nat) (f : FV) (h : f.alias = true) : unpath d p n f = f ∨ unpath d p n f = .undef := by
  cases f <;> simp only [FV.alias] at h <;> first | cases h | skip
  · simp only [unpath]; split
    · split; exact .inr rfl; exact .inl rfl
    · exact .inl rfl
  · simp only [unpath]; split
    · split; exact .inr rfl; exact .inl rfl
    · exact .inl rfl

theorem unpath_mem {d : Nat} {p : Path} {n : Nat} : (∀ t q p', (t, FV.al q p') ∈ E.mapV (unpath d p n) → (t, FV.al q p') ∈ E ∧ (q = d → hits p' p n = false)) ∧
    (∀ t q p', (t, FV.ptr q p') ∈ E.mapV (unpath d p n) → (t, FV.ptr q p') ∈ E ∧ (q = d → thru p' p n = false)) := by
  refine ⟨fun t q p' m => ?_, fun t q p' m => ?_⟩
  · obtain ⟨⟨t', f⟩, hm, e⟩ := List.mem_map.1 m
    simp only [Prod.mk.injEq] at e
    obtain ⟨rfl, e⟩ := e
    cases f <;> simp only [unpath] at e <;> first | cases e | skip
    · split at e
      · split at e <;> cases e
      · cases e
    · split at e
      · split at e
        · cases e
        · rename_i hne; injection e with e1 e2; subst e1; subst e2; exact ⟨hm, fun _ => by simpa using hne⟩
      · rename_i hne; injection e with e1 e2; subst e1; subst e2; exact ⟨hm, fun e => absurd e hne⟩
  · obtain ⟨⟨t', f⟩, hm, e⟩ := List.mem_map.1 m
    simp only [Prod.mk.injEq] at e
    obtain ⟨rfl, e⟩ := e
    cases f <;> simp only [unpath] at e <;> first | cases e | skip
    · split at e
      · split at e
        · cases e
        · rename_i hne; injection e with e1 e2; subst e1; subst e2; exact ⟨hm, fun _ => by simpa using hne⟩
      · rename_i hne; injection e with e1 e2; subst e1; subst e2; exact ⟨hm, fun e => absurd e hne⟩
    · split at e
      · split at e <;> cases e
      · cases e

/-- the n cells at path p of slot q are written (or their values replaced) -/
def Env.wr (E : Env) (q : Nat) (p : Path) (xs : List FV) : Env := (E.mapV (unpath q p xs.length)).put q (setN (E.get q) p xs)

theorem Rel.tree (r : Rel N xv E a w S R) {q : Nat} {p : Path} {n : Nat} {xs : List FV} (hg : getN (E.get q) p n = some xs) :
    ∃ b o c T Rx R2, locate w.heap (valOf a xv q) (E.get q) p = some (b, o) ∧ w.heap[b]? = some (.cells c T (0, 0)) ∧ o + n ≤ c.size ∧ Rep w.heap S ((c.toList.drop o).take n) xs Rx ∧ R.Perm (Rx ++ R2) ∧ b ∈ R2 ∧
      ∀ {w' : World} {S' : Nat → Prop} {c' : Array Value} {cs' : List Value} {xs' : List FV} {Rx' : List Nat}, cs'.length = n → xs'.length = n → w'.heap[b]? = some (.cells c' T (0, 0)) → c'.toList = c.toList.take o ++ cs' ++ c.toList.drop (o + n) →
        (∀ b' ∈ R2, b' ≠ b → w'.heap[b']? = w.heap[b']?) → (∀ b' ∈ Rx, w'.heap[b']? = w.heap[b']?) → (∀ b, S b → S' b) → w.heap.size ≤ w'.heap.size → (∀ b, S b → b < w.heap.size → w'.heap[b]? = w.heap[b]?) →
        Rep w'.heap S' cs' xs' Rx' → Rx'.Nodup → (∀ b ∈ Rx', b ∉ R2) → (∀ b, S' b → b < w'.heap.size ∧ b ∉ Rx' ∧ b ∉ R2) →
        ∃ R', Rel N xv (E.wr q p xs') a w' S' R' ∧ R'.Perm (Rx' ++ R2) := by
  have hso := r.sorted
  have ho := owned_of_getN hg
  have hal : (E.get q).alias = false := by cases hq : E.get q <;> rw [hq] at ho <;> first | rfl | cases ho
  have e1 : REnv w.heap S (valOf a xv) E (E.mapV (unpath q p n)) R := r.env.mapV _ (fun f h => unpath_alias q p n f h) (fun f h => unpath_alias2 q p n f h)
  obtain ⟨Rq, Rr, hrest, hp, hq0, _⟩ := e1.del q
  have hgq : (E.mapV (unpath q p n)).get q = E.get q := by rw [Env.get_mapV _ _ rfl, unpath_alias _ _ _ _ hal]
  rw [hgq] at hq0
  have hq := hq0 hal
  have hnd : (Rq ++ Rr).Nodup := hp.nodup_iff.1 r.nodup
  have hndq := (List.nodup_append.1 hnd).1
  obtain ⟨b, o, c, T, Rx, Rf, F⟩ := focus hq hndq hg
  have hperm : R.Perm (Rx ++ (Rf ++ Rr)) := by
    refine hp.trans ?_
    rw [← List.append_assoc]
    exact List.Perm.append_right _ F.perm
  refine ⟨b, o, c, T, Rx, Rf ++ Rr, F.loc, F.blk, F.fits, F.rep, hperm, by simp [F.mem], ?_⟩
  intro w' S' c' cs' xs' Rx' hcl hxl hb' hc' hR hRx hS hsz hs hrep hndx hdis hsep
  obtain ⟨R'', hrq, hpq⟩ := F.back hcl hxl hb' hc' (fun b' m e => hR b' (by simp [m]) e) hS hsz hs hrep
  have hbq : b ∈ Rq := F.perm.mem_iff.2 (by simp [F.mem])
  have hbr : b ∉ Rr := fun m => (List.nodup_append.1 hnd).2.2 b hbq b m rfl
  have hRr : ∀ b' ∈ Rr, w'.heap[b']? = w.heap[b']? := fun b' m => hR b' (by simp [m]) (fun e => hbr (e ▸ m))
  have hsd := Env.sorted_del (Env.sorted_mapV hso (unpath q p n)) q
  have hmem := unpath_mem (E := E) (d := q) (p := p) (n := n)
  have hget : ∀ u, u ≠ q → (E.get u).owned = true → (E.wr q p xs').get u = E.get u := fun u hu ho => by
    unfold Env.wr
    rw [Env.get_put _ _ _ _ (Env.sorted_mapV hso _), if_neg (fun e => hu e.symm), Env.get_mapV _ _ rfl, unpath_alias]
    cases hg : E.get u <;> rw [hg] at ho <;> first | rfl | cases ho
  have hgetq : (E.wr q p xs').get q = setN (E.get q) p xs' := by
    unfold Env.wr
    rw [Env.get_put _ _ _ _ (Env.sorted_mapV hso _), if_pos rfl]
  -- the other roots
  have other : ∀ u, u ≠ q → (E.get u).owned = true → ∃ R1, Rep w.heap S [valOf a xv u] [E.get u] R1 ∧ (∀ b' ∈ R1, b' ∈ Rr) ∧ R1.Nodup := fun u hu ho => by
    obtain ⟨Ra, Rb, _, g2, g3, _⟩ := hrest.del u
    have hal' : (E.get u).alias = false := by cases hq : E.get u <;> rw [hq] at ho <;> first | rfl | cases ho
    have : (Env.del (E.mapV (unpath q p n)) q).get u = E.get u := by
      rw [Env.get_del _ _ _ (Env.sorted_mapV hso _), if_neg (fun e => hu e.symm), Env.get_mapV _ _ rfl, unpath_alias _ _ _ _ hal']
    rw [this] at g3
    exact ⟨Ra, g3 hal', fun b' m => g2.mem_iff.2 (by simp [m]), (List.nodup_append.1 (g2.nodup_iff.1 (List.nodup_append.1 hnd).2.1)).1⟩
  have h3 : REnv w'.heap S' (valOf a xv) (E.wr q p xs') (Env.del (E.mapV (unpath q p n)) q) Rr := by
    refine hrest.change hS hsz hs hRr (fun _ _ => rfl) ?_ ?_
    · intro t u p' hm he
      have hm2 := hmem.1 t u p' (hsd.2 _ hm).1
      by_cases hu : u = q
      · subst hu
        have hh := hm2.2 rfl
        cases p' with
        | nil =>
          simp only [hdrAt] at he ⊢
          rw [hgetq, (setN_like (E.get u) p xs').isSl]
          exact he
        | cons x p' =>
          simp only [hdrAt] at he ⊢
          cases hg1 : getN (E.get u) (x :: p') 1 with
          | none => rw [hg1] at he; cases he
          | some ys =>
            have hl1 := getN_len hg1
            match ys, hl1 with
            | [y], hly =>
            rw [hg1] at he
            obtain ⟨i1, ⟨y', i2, i3⟩, i4⟩ := path_set F.blk hb' hc' hcl F.fits hxl hq hndq hg F.loc (fun b1 m e => by
              rcases List.mem_append.1 (F.perm.mem_iff.1 m) with m' | m'
              · -- a block of the cells that are replaced: it stands, for nothing but b turns among what was owned
                exact hRx b1 m'
              · exact hR b1 (by simp [m']) e) hg1 (thru_hits hh)
            rw [hgetq, i2, i1]
            have hlike := i3 hh
            simp only at he ⊢
            rw [hlike.isSl]
            cases hs : y.isSl with
            | false => rw [hs] at he; cases he
            | true =>
            rw [hs] at he
            simp only [if_true] at he ⊢
            cases hl : locate w.heap (valOf a xv u) (E.get u) (x :: p') with
            | none => rw [hl] at he; cases he
            | some bo =>
              rw [hl] at he
              simp only at he ⊢
              rw [i4 hh _ _ hl]
              exact he
      · obtain ⟨R1, h1, h2, h4⟩ := other u hu (hdrAt_owned he)
        rw [← he]
        cases p' with
        | nil => simp only [hdrAt, hget u hu (hdrAt_owned he)]
        | cons x p' =>
          simp only [hdrAt, hget u hu (hdrAt_owned he)]
          cases hg1 : getN (E.get u) (x :: p') 1 with
          | none => rfl
          | some xs =>
            simp only [locate_keep h1 (fun b' m => hRr b' (h2 b' m))]
            obtain ⟨b1, o1, _, _, _, _, F1⟩ := focus h1 h4 hg1
            simp only [F1.loc]
            rw [show cellAt w'.heap b1 o1 = cellAt w.heap b1 o1 from cellAt_congr (hRr b1 (h2 b1 (F1.perm.mem_iff.2 (by simp [F1.mem])))) o1]
    · intro t u p' hm he
      have hm2 := hmem.2 t u p' (hsd.2 _ hm).1
      by_cases hu : u = q
      · subst hu
        have hh := hm2.2 rfl
        simp only [ptrAt] at he ⊢
        cases hg1 : getN (E.get u) p' 1 with
        | none => rw [hg1] at he; cases he
        | some ys =>
          have hl1 := getN_len hg1
          match ys, hl1 with
          | [y], _ =>
          rw [hg1] at he
          obtain ⟨i1, ⟨y', i2, _⟩, _⟩ := path_set F.blk hb' hc' hcl F.fits hxl hq hndq hg F.loc (fun b1 m e => by
              rcases List.mem_append.1 (F.perm.mem_iff.1 m) with m' | m'
              · exact hRx b1 m'
              · exact hR b1 (by simp [m']) e) hg1 hh
          rw [hgetq, i2, i1]
          exact he
      · obtain ⟨R1, h1, h2, _⟩ := other u hu (ptrAt_owned he)
        rw [← he]
        simp only [ptrAt, hget u hu (ptrAt_owned he), locate_keep h1 (fun b' m => hRr b' (h2 b' m))]
  obtain ⟨R', h4, h5⟩ := REnv.put (Env.sorted_mapV hso _) h3 (t := q) (f := setN (E.get q) p xs') (R1 := R'') (.inl ⟨R'', hrq, rfl⟩)
  have hpf : R'.Perm (Rx' ++ (Rf ++ Rr)) := by
    refine h5.trans ?_
    rw [← List.append_assoc]
    exact List.Perm.append_right _ hpq
  have hwr : E.wr q p xs' = (E.mapV (unpath q p n)).put q (setN (E.get q) p xs') := by unfold Env.wr; rw [hxl]
  have hndR2 : (Rf ++ Rr).Nodup := by
    have := hperm.nodup_iff.1 r.nodup
    exact (List.nodup_append.1 this).2.1
  refine ⟨R', ⟨by rw [hwr] at h4 ⊢; exact h4, by rw [hwr]; exact Env.sorted_put (Env.sorted_mapV hso _) _ _, ?_, ?_, r.size, r.small, r.nodef⟩, hpf⟩
  · rw [hpf.nodup_iff, List.nodup_append]
    exact ⟨hndx, hndR2, fun x hx y hy e => hdis x hx (e ▸ hy)⟩
  · intro b1 hb1
    refine ⟨(hsep b1 hb1).1, fun m => ?_⟩
    rcases List.mem_append.1 (hpf.mem_iff.1 m) with m | m
    · exact (hsep b1 hb1).2.1 m
    · exact (hsep b1 hb1).2.2 m

end
end Go.Fm
