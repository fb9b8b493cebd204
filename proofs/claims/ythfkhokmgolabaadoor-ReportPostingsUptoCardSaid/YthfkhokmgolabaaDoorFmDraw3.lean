/- Regions that draw their order: every order gives what the written order gives. -/
import Derived.Test.YthfkhokmgolabaaDoorFmDraw2
set_option linter.unusedVariables false
set_option linter.unusedSimpArgs false
namespace Go.Fm
open Go

/-! ### environments in part -/
def Env.only (E : Env) (p : Nat → Bool) : Env := List.filter (fun x => p x.1) E
theorem only_cons (p : Nat → Bool) (k : Nat) (v : FV) (E : Env) : Env.only ((k, v) :: E) p = if p k then (k, v) :: Env.only E p else Env.only E p := by
  simp only [Env.only, List.filter_cons]
theorem only_mem {p : Nat → Bool} {E : Env} {x : Nat × FV} : x ∈ E.only p ↔ x ∈ E ∧ p x.1 = true := List.mem_filter
theorem only_only (p q : Nat → Bool) (E : Env) : (E.only p).only q = E.only fun n => p n && q n := by
  simp only [Env.only, List.filter_filter]
  exact List.filter_congr fun x _ => by rw [Bool.and_comm]
theorem only_congr {p q : Nat → Bool} {E : Env} (h : ∀ x ∈ E, p x.1 = q x.1) : E.only p = E.only q := List.filter_congr h
theorem only_all {p : Nat → Bool} {E : Env} (h : ∀ x ∈ E, p x.1 = true) : E.only p = E := List.filter_eq_self.2 h
theorem get_only (p : Nat → Bool) : ∀ (E : Env) (n : Nat), (E.only p).get n = if p n then E.get n else .undef
  | [], n => by simp [Env.get, Env.only]
  | (k, v) :: E, n => by
    rw [only_cons]
    by_cases hk : p k = true
    · rw [if_pos hk]
      simp only [Env.get]
      by_cases e : k = n
      · subst e; simp [hk]
      · rw [if_neg e, if_neg e]; exact get_only p E n
    · rw [if_neg hk, get_only p E n]
      simp only [Env.get]
      by_cases e : k = n
      · subst e; simp [hk]
      · rw [if_neg e]
theorem put_only_ne (d : Nat) (v : FV) : ∀ (E : Env), (∀ x ∈ E, x.1 ≠ d) → (E.put d v).only (fun n => n != d) = E
  | [], _ => by simp [Env.put, Env.only]
  | (k, u) :: E, h => by
    have hk : k ≠ d := h (k, u) (by simp)
    have hkb : (k != d) = true := by simpa using hk
    have all : Env.only E (fun n => n != d) = E := only_all fun x hx => by simpa using h x (by simp [hx])
    simp only [Env.put, if_neg hk]
    split
    · rw [only_cons, only_cons, all]; simp [hk]
    · rw [only_cons, if_pos hkb, put_only_ne d v E fun x hx => h x (by simp [hx])]
theorem upd_fresh {E : Env} {d : Nat} {v : FV} (h : ∀ x ∈ E, x.1 ≠ d) : E.upd d v = E.put d v := by
  unfold Env.upd Env.clear
  rw [Env.get_notmem h]
  rfl
theorem put_mem {d : Nat} {v : FV} : ∀ (E : Env), (d, v) ∈ E.put d v
  | [] => by simp [Env.put]
  | (k, u) :: E => by
    simp only [Env.put]
    split
    · simp
    · split
      · simp
      · exact List.mem_cons_of_mem _ (put_mem E)
theorem put_head {d : Nat} {v : FV} {l : Env} (h : ∀ y ∈ l, d < y.1) : l.put d v = (d, v) :: l := by
  cases l with
  | nil => rfl
  | cons y l =>
    obtain ⟨y1, y2⟩ := y
    have := h (y1, y2) (by simp)
    simp only at this
    simp only [Env.put]
    rw [if_neg (by omega), if_pos this]
theorem only_put (p : Nat → Bool) (d : Nat) (v : FV) (hp : p d = false) : ∀ (E : Env), E.Sorted → (d, v) ∈ E → (E.only p).put d v = E.only fun n => p n || n == d
  | [], _, h => by simp at h
  | (k, u) :: E, hs, h => by
    obtain ⟨h1, h2⟩ := List.pairwise_cons.1 hs
    rw [only_cons, only_cons]
    by_cases e : k = d
    · subst e
      have hu : u = v := by
        rcases List.mem_cons.1 h with h | h
        · cases h; rfl
        · have := h1 _ h; simp at this
      subst hu
      rw [if_neg (by rw [hp]; simp), if_pos (by simp)]
      have h3 : Env.only E (fun n => p n || n == k) = Env.only E p := only_congr fun x hx => by
        have := h1 x hx
        simp only at this
        have : (x.1 == k) = false := by simp; omega
        simp [this]
      rw [h3, put_head fun y hy => h1 y (only_mem.1 hy).1]
    · have hm : (d, v) ∈ E := by
        rcases List.mem_cons.1 h with h | h
        · cases h; exact absurd rfl e
        · exact h
      have hlt := h1 _ hm
      simp only at hlt
      have ih := only_put p d v hp E h2 hm
      by_cases hk : p k = true
      · rw [if_pos hk, if_pos (by simp [hk])]
        simp only [Env.put]
        rw [if_neg e, if_neg (by omega), ih]
      · rw [if_neg hk, if_neg (by simp [hk, e]), ih]

def dests (fs : List FO) : List Nat := fs.map (·.d)

section
variable {P : Program} {N : Nat} {xv : Nat → Value} {a : Act} {w : World} {S : Nat → Prop} {R : List Nat}

theorem detG_pick {E : Env} {f : FO} {J : FV → Prop} (h : detG P f E J) : ∃ v, detG P f E (· = v) ∧ J v := by
  have mk : detK P f.k f.d E J → ∃ v, detK P f.k f.d E (· = v) ∧ J v := fun h => by
    cases hk : f.k <;> rw [hk] at h
    · obtain ⟨v, h1, h2, h3⟩ := h; exact ⟨v, ⟨v, h1, h2, rfl⟩, h3⟩
    · exact h.elim
    · obtain ⟨v, h1, h2, h3⟩ := h; exact ⟨v, ⟨v, h1, h2, rfl⟩, h3⟩
    · obtain ⟨h0, v, h1, h3⟩ := h; exact ⟨v, ⟨h0, v, h1, rfl⟩, h3⟩
  unfold detG at h ⊢
  cases hg : f.g with
  | none => rw [hg] at h; exact mk h
  | some x =>
    obtain ⟨t, want⟩ := x
    rw [hg] at h
    simp only at h ⊢
    cases hE : E.get t with
    | bool b =>
      rw [hE] at h
      by_cases hb : b = want
      · obtain ⟨v, h1, h2⟩ := mk (h.1 hb)
        exact ⟨v, ⟨fun _ => h1, fun hn => absurd hb hn⟩, h2⟩
      · exact ⟨skipped, ⟨fun h => absurd h hb, fun _ => rfl⟩, h.2 hb⟩
    | tup vs =>
      rw [hE] at h
      cases vs with
      | nil => exact ⟨skipped, rfl, h⟩
      | cons _ _ => exact h.elim
    | _ => rw [hE] at h; exact h.elim

theorem runDet_table : ∀ {fs : List FO} {E : Env} {J : Env → Prop}, E.Sorted → (dests fs).Nodup → (∀ f ∈ fs, ∀ x ∈ E, x.1 ≠ f.d) → runDet P fs E J →
    ∃ Ef, J Ef ∧ Ef.Sorted ∧ (Ef.only fun n => !(dests fs).contains n) = E ∧ (∀ f ∈ fs, (f.d, Ef.get f.d) ∈ Ef) ∧
      ∀ pre f post, fs = pre ++ f :: post → detG P f (Ef.only fun n => !(dests (f :: post)).contains n) (· = Ef.get f.d)
  | [], E, J, hs, _, _, h => ⟨E, h, hs, only_all (by simp [dests]), by simp, fun pre f post e => by simp at e⟩
  | f :: r, E, J, hs, hnd, hfr, h => by
    obtain ⟨v, h1, h2⟩ := detG_pick h
    simp only [dests, List.map_cons, List.nodup_cons] at hnd
    have hE := upd_fresh (v := v) (hfr f (by simp))
    rw [hE] at h2
    obtain ⟨Ef, i1, i2, i3, i4, i5⟩ := runDet_table (fs := r) (E := E.put f.d v) (Env.sorted_put hs _ _) hnd.2 (fun g hg x hx => by
      rcases Env.mem_put hx with rfl | ⟨hx, _⟩ | hx
      · exact fun e => hnd.1 (by simp only at e; rw [e]; exact List.mem_map.2 ⟨g, hg, rfl⟩)
      · exact hfr g (by simp [hg]) x hx
      · exact hfr g (by simp [hg]) x hx) h2
    have hc : (dests r).contains f.d = false := by simpa [dests] using hnd.1
    have hv : Ef.get f.d = v := by
      have h3 := congrArg (fun E => Env.get E f.d) i3
      rw [get_only, Env.get_put _ _ _ _ hs, if_pos rfl, if_pos (by rw [hc]; rfl)] at h3
      exact h3
    have hall : (Ef.only fun n => !(dests (f :: r)).contains n) = E := by
      have h3 := congrArg (fun E => Env.only E (fun n => n != f.d)) i3
      rw [put_only_ne _ _ _ (hfr f (by simp)), only_only] at h3
      rw [← h3]
      refine only_congr fun x _ => ?_
      simp only [dests, List.map_cons, List.contains_cons]
      cases h4 : (x.1 == f.d) <;> simp [h4, bne]
    refine ⟨Ef, i1, i2, hall, ?_, ?_⟩
    · intro g hg
      rcases List.mem_cons.1 hg with rfl | hg
      · have := put_mem (d := g.d) (v := v) E
        rw [← i3] at this
        rw [hv]
        exact (only_mem.1 this).1
      · exact i4 g hg
    · intro pre g post e
      cases pre with
      | nil =>
        simp only [List.nil_append, List.cons.injEq] at e
        obtain ⟨rfl, rfl⟩ := e
        rw [hall, hv]
        exact h1
      | cons x pre =>
        simp only [List.cons_append, List.cons.injEq] at e
        exact i5 pre g post e.2
end
end Go.Fm
