/- Environments: slots with abstract values, among them pointers into and copies of headers of what other slots own. -/
import Derived.Test.YthfkhokmgolabaaDoorFmTree
set_option linter.unusedVariables false
set_option linter.unusedSimpArgs false
namespace Go.Fm
open Go

abbrev Env := List (Nat × FV)

def Env.get : Env → Nat → FV
  | [], _ => .undef
  | (k, v) :: r, t => if k = t then v else Env.get r t
def Env.put : Env → Nat → FV → Env
  | [], t, f => [(t, f)]
  | (k, v) :: r, t, f => if k = t then (t, f) :: r else if t < k then (t, f) :: (k, v) :: r else (k, v) :: Env.put r t f
def Env.del : Env → Nat → Env
  | [], _ => []
  | (k, v) :: r, t => if k = t then r else (k, v) :: Env.del r t

/-- the path q goes on behind a cell among the n at p -/
def thru : Path → Path → Nat → Bool
  | (i, o) :: q, (i', o') :: p, n =>
    match p with
    | [] => (decide (o' ≤ o) && decide (o < o' + n)) && (decide (i = i') && !q.isEmpty)
    | _ :: _ => decide (o = o') && (decide (i = i') && thru q p n)
  | _, _, _ => false
/-- the path q ends at a cell among the n at p -/
def hits : Path → Path → Nat → Bool
  | (i, o) :: q, (i', o') :: p, n =>
    match p with
    | [] => (decide (o' ≤ o) && decide (o < o' + n)) && decide (i = i')
    | _ :: _ => decide (o = o') && (decide (i = i') && hits q p n)
  | _, _, _ => false

/-- without what leans on slot d -/
def unroot (d : Nat) : FV → FV
  | .al r p => if r = d then .undef else .al r p
  | .ptr r p => if r = d then .undef else .ptr r p
  | f => f
/-- without what leans on the n cells at path p of slot d -/
def unpath (d : Nat) (p : Path) (n : Nat) : FV → FV
  | .al r q => if r = d then (if hits q p n then .undef else .al r q) else .al r q
  | .ptr r q => if r = d then (if thru q p n then .undef else .ptr r q) else .ptr r q
  | f => f
def Env.mapV (E : Env) (g : FV → FV) : Env := List.map (fun x => (x.1, g x.2)) E

def FV.owned : FV → Bool
  | .arr _ | .box _ | .buf _ => true
  | _ => false
def FV.alias : FV → Bool
  | .al _ _ | .ptr _ _ => true
  | _ => false

def FV.isSl : FV → Bool
  | .arr _ | .buf _ => true
  | _ => false
/-- a copy of a header -/
def hdrAt (h : Array Obj) (val : Nat → Value) (E : Env) (r : Nat) (p : Path) : Option Value :=
  match p with
  | [] => if (E.get r).isSl then some (val r) else none
  | q :: p' => match getN (E.get r) (q :: p') 1 with
    | some [x] => if x.isSl then (match locate h (val r) (E.get r) (q :: p') with
      | some (b, o) => cellAt h b o
      | none => none) else none
    | _ => none
/-- a pointer to a cell -/
def ptrAt (h : Array Obj) (val : Nat → Value) (E : Env) (r : Nat) (p : Path) : Option Value :=
  match getN (E.get r) p 1 with
  | some _ => match locate h (val r) (E.get r) p with
    | some (b, o) => some (.pointer (some ⟨b, o, none⟩))
    | none => none
  | none => none

inductive REnv (h : Array Obj) (S : Nat → Prop) (val : Nat → Value) (E : Env) : Env → List Nat → Prop
  | nil : REnv h S val E [] []
  | own {t f env R1 R} : Rep h S [val t] [f] R1 → REnv h S val E env R → REnv h S val E ((t, f) :: env) (R1 ++ R)
  | al {t r p env R} : hdrAt h val E r p = some (val t) → REnv h S val E env R → REnv h S val E ((t, .al r p) :: env) R
  | ptr {t r p env R} : ptrAt h val E r p = some (val t) → REnv h S val E env R → REnv h S val E ((t, .ptr r p) :: env) R

theorem Rep.noalias {h S vs fs R} (r : Rep h S vs fs R) : ∀ f ∈ fs, f.alias = false := by
  induction r with
  | nil => simp
  | undef _ ih | int _ ih | bool _ ih | str _ ih | nilp _ ih | nilf _ ih | nili _ ih | slNil _ ih | arrNil _ ih => intro f m; rcases List.mem_cons.1 m with rfl | m; rfl; exact ih f m
  | iface _ _ _ ih | agg _ _ _ ih | tup _ _ _ ih | fn _ _ _ ih => intro f m; rcases List.mem_cons.1 m with rfl | m; rfl; exact ih f m
  | sl _ _ _ _ _ _ _ _ _ _ _ _ ih => intro f m; rcases List.mem_cons.1 m with rfl | m; rfl; exact ih f m
  | ref _ _ _ _ _ _ ih => intro f m; rcases List.mem_cons.1 m with rfl | m; rfl; exact ih f m
  | arr _ _ _ _ _ _ _ _ _ ih => intro f m; rcases List.mem_cons.1 m with rfl | m; rfl; exact ih f m
  | box _ _ _ _ ih => intro f m; rcases List.mem_cons.1 m with rfl | m; rfl; exact ih f m
  | iter _ _ ih => intro f m; rcases List.mem_cons.1 m with rfl | m; rfl; exact ih f m
  | buf _ _ _ ih => intro f m; rcases List.mem_cons.1 m with rfl | m; rfl; exact ih f m

def Env.Sorted (E : Env) : Prop := List.Pairwise (fun a b => a.1 < b.1) E

theorem Env.get_mem {E : Env} : ∀ {t : Nat}, E.get t ≠ .undef → (t, E.get t) ∈ E := by
  induction E with
  | nil => intro t h; simp [Env.get] at h
  | cons x E ih =>
    obtain ⟨k, v⟩ := x
    intro t h
    simp only [Env.get] at h ⊢
    split
    · rename_i e; subst e; simp
    · rename_i e; rw [if_neg e] at h; exact List.mem_cons_of_mem _ (ih h)

theorem Env.get_of_mem {E : Env} (hs : E.Sorted) {t : Nat} {f : FV} (h : (t, f) ∈ E) : E.get t = f := by
  induction E with
  | nil => simp at h
  | cons x E ih =>
    obtain ⟨k, v⟩ := x
    have hs' := List.pairwise_cons.1 hs
    simp only [Env.get]
    rcases List.mem_cons.1 h with h | h
    · cases h; simp
    · have := hs'.1 _ h
      simp only at this
      rw [if_neg (by omega)]
      exact ih hs'.2 h

theorem Env.mem_put {E : Env} {t : Nat} {f : FV} {x : Nat × FV} (h : x ∈ E.put t f) : x = (t, f) ∨ (x ∈ E ∧ x.1 ≠ t) ∨ (x ∈ E) := by
  induction E with
  | nil => simp [Env.put] at h; exact .inl h
  | cons y E ih =>
    obtain ⟨k, v⟩ := y
    simp only [Env.put] at h
    split at h
    · rcases List.mem_cons.1 h with h | h
      · exact .inl h
      · exact .inr (.inr (by simp [h]))
    · split at h
      · rcases List.mem_cons.1 h with h | h
        · exact .inl h
        · exact .inr (.inr h)
      · rcases List.mem_cons.1 h with h | h
        · exact .inr (.inr (by simp [h]))
        · rcases ih h with h | h | h
          · exact .inl h
          · exact .inr (.inr (by simp [h.1]))
          · exact .inr (.inr (by simp [h]))

theorem Env.sorted_put {E : Env} (hs : E.Sorted) (t : Nat) (f : FV) : (E.put t f).Sorted := by
  induction E with
  | nil => simp [Env.put, Env.Sorted]
  | cons x E ih =>
    obtain ⟨k, v⟩ := x
    have hs' := List.pairwise_cons.1 hs
    simp only [Env.put]
    split
    · rename_i e; subst e
      exact List.pairwise_cons.2 ⟨hs'.1, hs'.2⟩
    · split
      · rename_i e1 e2
        refine List.pairwise_cons.2 ⟨?_, hs⟩
        intro a ha
        rcases List.mem_cons.1 ha with rfl | ha
        · exact e2
        · have := hs'.1 _ ha; simp only at this ⊢; omega
      · rename_i e1 e2
        refine List.pairwise_cons.2 ⟨?_, ih hs'.2⟩
        intro a ha
        have hkt : k < t := by omega
        rcases Env.mem_put ha with rfl | h | h
        · exact hkt
        · exact hs'.1 _ h.1
        · exact hs'.1 _ h

theorem Env.sorted_del {E : Env} (hs : E.Sorted) (t : Nat) : (E.del t).Sorted ∧ ∀ x ∈ E.del t, x ∈ E ∧ x.1 ≠ t := by
  induction E with
  | nil => simp [Env.del, Env.Sorted]
  | cons x E ih =>
    obtain ⟨k, v⟩ := x
    have hs' := List.pairwise_cons.1 hs
    simp only [Env.del]
    split
    · rename_i e; subst e
      exact ⟨hs'.2, fun x hx => ⟨by simp [hx], by have := hs'.1 _ hx; simp only at this; omega⟩⟩
    · rename_i e
      obtain ⟨i1, i2⟩ := ih hs'.2
      refine ⟨List.pairwise_cons.2 ⟨fun a ha => hs'.1 _ (i2 a ha).1, i1⟩, ?_⟩
      intro a ha
      rcases List.mem_cons.1 ha with rfl | ha
      · exact ⟨by simp, e⟩
      · exact ⟨by simp [(i2 a ha).1], (i2 a ha).2⟩

theorem Env.sorted_mapV {E : Env} (hs : E.Sorted) (g : FV → FV) : (E.mapV g).Sorted := by
  unfold Env.Sorted Env.mapV at *
  rw [List.pairwise_map]
  exact hs

theorem Env.get_put (E : Env) (t : Nat) (f : FV) (u : Nat) (hs : E.Sorted) : (E.put t f).get u = if t = u then f else E.get u := by
  induction E with
  | nil => simp [Env.put, Env.get]
  | cons x E ih =>
    obtain ⟨k, v⟩ := x
    have hs' := List.pairwise_cons.1 hs
    simp only [Env.put]
    split
    · rename_i e; subst e
      simp only [Env.get]
      split <;> rfl
    · split
      · simp only [Env.get]
      · rename_i e1 e2
        simp only [Env.get, ih hs'.2]
        by_cases h1 : k = u
        · subst h1; rw [if_pos rfl, if_neg (fun e => e1 e.symm), if_pos rfl]
        · rw [if_neg h1, if_neg h1]

theorem Env.get_notmem {E : Env} {u : Nat} (h : ∀ x ∈ E, x.1 ≠ u) : E.get u = .undef := by
  induction E with
  | nil => rfl
  | cons x E ih =>
    obtain ⟨k, v⟩ := x
    simp only [Env.get]
    rw [if_neg (h (k, v) (by simp))]
    exact ih fun x hx => h x (by simp [hx])

theorem Env.get_del (E : Env) (t : Nat) (u : Nat) (hs : E.Sorted) : (E.del t).get u = if t = u then .undef else E.get u := by
  induction E with
  | nil => simp [Env.del, Env.get]
  | cons x E ih =>
    obtain ⟨k, v⟩ := x
    have hs' := List.pairwise_cons.1 hs
    simp only [Env.del]
    split
    · rename_i e; subst e
      simp only [Env.get]
      split
      · rename_i e; subst e
        exact Env.get_notmem fun x hx => by have := hs'.1 _ hx; simp only at this; omega
      · rfl
    · rename_i e
      simp only [Env.get, ih hs'.2]
      by_cases h1 : k = u
      · subst h1; rw [if_pos rfl, if_neg (fun e' => e e'.symm), if_pos rfl]
      · rw [if_neg h1, if_neg h1]

theorem Env.get_mapV (E : Env) (g : FV → FV) (hg : g .undef = .undef) (u : Nat) : (E.mapV g).get u = g (E.get u) := by
  induction E with
  | nil => simp [Env.mapV, Env.get, hg]
  | cons x E ih =>
    obtain ⟨k, v⟩ := x
    simp only [Env.mapV, List.map_cons, Env.get]
    split
    · rfl
    · exact ih

section
variable {h : Array Obj} {S : Nat → Prop} {val : Nat → Value} {E : Env}

theorem REnv.lt {env R} (r : REnv h S val E env R) : ∀ b ∈ R, b < h.size := by
  induction r with
  | nil => simp
  | own r1 _ ih => intro b m; rcases List.mem_append.1 m with m | m; exact r1.lt b m; exact ih b m
  | al _ _ ih => exact ih
  | ptr _ _ ih => exact ih

/-- the whole relation in another world -/
theorem REnv.change {env R} (r : REnv h S val E env R) {h' : Array Obj} {S' : Nat → Prop} {val' : Nat → Value} {E' : Env}
    (hS : ∀ b, S b → S' b) (hsz : h.size ≤ h'.size) (hs : ∀ b, S b → b < h.size → h'[b]? = h[b]?) (hR : ∀ b ∈ R, h'[b]? = h[b]?)
    (hv : ∀ x ∈ env, val' x.1 = val x.1)
    (hal : ∀ t q p, (t, FV.al q p) ∈ env → hdrAt h val E q p = some (val t) → hdrAt h' val' E' q p = some (val t))
    (hpt : ∀ t q p, (t, FV.ptr q p) ∈ env → ptrAt h val E q p = some (val t) → ptrAt h' val' E' q p = some (val t)) : REnv h' S' val' E' env R := by
  induction r with
  | nil => exact .nil
  | @own t f env R1 R r1 _ ih =>
    refine .own (by rw [hv (t, f) (by simp)]; exact r1.mono hS hsz hs fun b m => hR b (by simp [m])) ?_
    exact ih (fun b m => hR b (by simp [m])) (fun x hx => hv x (by simp [hx])) (fun t q p m => hal t q p (by simp [m])) (fun t q p m => hpt t q p (by simp [m]))
  | @al t q p env R r1 _ ih =>
    refine .al (by rw [hv (t, .al q p) (by simp)]; exact hal t q p (by simp) r1) ?_
    exact ih hR (fun x hx => hv x (by simp [hx])) (fun t q p m => hal t q p (by simp [m])) (fun t q p m => hpt t q p (by simp [m]))
  | @ptr t q p env R r1 _ ih =>
    refine .ptr (by rw [hv (t, .ptr q p) (by simp)]; exact hpt t q p (by simp) r1) ?_
    exact ih hR (fun x hx => hv x (by simp [hx])) (fun t q p m => hal t q p (by simp [m])) (fun t q p m => hpt t q p (by simp [m]))

/-- without one slot -/
theorem REnv.del {env R} (r : REnv h S val E env R) (t : Nat) :
    ∃ R1 R2, REnv h S val E (env.del t) R2 ∧ R.Perm (R1 ++ R2) ∧ ((env.get t).alias = false → Rep h S [val t] [env.get t] R1) ∧ ((env.get t).alias = true → R1 = []) := by
  induction r with
  | nil => exact ⟨[], [], .nil, by simp, fun _ => .undef .nil, fun _ => rfl⟩
  | @own u f env R1 R r1 r2 ih =>
    simp only [Env.del, Env.get]
    split
    · rename_i e; subst e
      refine ⟨R1, R, r2, List.Perm.refl _, fun _ => r1, fun ha => ?_⟩
      rw [r1.noalias f (by simp)] at ha; cases ha
    · obtain ⟨Ra, Rb, i1, i2, i3, i4⟩ := ih
      refine ⟨Ra, R1 ++ Rb, .own r1 i1, ?_, i3, i4⟩
      have := List.Perm.append_left R1 i2
      refine this.trans ?_
      rw [← List.append_assoc, ← List.append_assoc]
      exact List.Perm.append_right _ List.perm_append_comm
  | @al u q p env R r1 r2 ih =>
    simp only [Env.del, Env.get]
    split
    · rename_i e; subst e
      exact ⟨[], R, r2, List.Perm.refl _, fun ha => by simp [FV.alias] at ha, fun _ => rfl⟩
    · obtain ⟨Ra, Rb, i1, i2, i3, i4⟩ := ih
      exact ⟨Ra, Rb, .al r1 i1, i2, i3, i4⟩
  | @ptr u q p env R r1 r2 ih =>
    simp only [Env.del, Env.get]
    split
    · rename_i e; subst e
      exact ⟨[], R, r2, List.Perm.refl _, fun ha => by simp [FV.alias] at ha, fun _ => rfl⟩
    · obtain ⟨Ra, Rb, i1, i2, i3, i4⟩ := ih
      exact ⟨Ra, Rb, .ptr r1 i1, i2, i3, i4⟩

theorem Env.del_notmem {env : Env} {t : Nat} (h : ∀ x ∈ env, x.1 ≠ t) : env.del t = env := by
  induction env with
  | nil => rfl
  | cons x env ih =>
    obtain ⟨k, v⟩ := x
    simp only [Env.del]
    rw [if_neg (h (k, v) (by simp)), ih fun x hx => h x (by simp [hx])]

theorem REnv.cons {env R t f R1} (hf : (∃ R0, Rep h S [val t] [f] R0 ∧ R1 = R0) ∨ (R1 = [] ∧ ((∃ q p, f = .al q p ∧ hdrAt h val E q p = some (val t)) ∨ (∃ q p, f = .ptr q p ∧ ptrAt h val E q p = some (val t)))))
    (r : REnv h S val E env R) : REnv h S val E ((t, f) :: env) (R1 ++ R) := by
  rcases hf with ⟨_, h1, rfl⟩ | ⟨rfl, ⟨q, p, rfl, h1⟩ | ⟨q, p, rfl, h1⟩⟩
  · exact .own h1 r
  · exact .al h1 r
  · exact .ptr h1 r

/-- one slot more, or another value in it -/
theorem REnv.put {env R2 t f R1} (hso : Env.Sorted env) (r : REnv h S val E (Env.del env t) R2)
    (hf : (∃ R0, Rep h S [val t] [f] R0 ∧ R1 = R0) ∨ (R1 = [] ∧ ((∃ q p, f = .al q p ∧ hdrAt h val E q p = some (val t)) ∨ (∃ q p, f = .ptr q p ∧ ptrAt h val E q p = some (val t))))) :
    ∃ R', REnv h S val E (Env.put env t f) R' ∧ R'.Perm (R1 ++ R2) := by
  induction env generalizing R2 with
  | nil => exact ⟨R1 ++ R2, .cons hf r, List.Perm.refl _⟩
  | cons x env ih =>
    obtain ⟨k, v⟩ := x
    have hs' := List.pairwise_cons.1 hso
    simp only [Env.del] at r
    simp only [Env.put]
    by_cases e : k = t
    · subst e
      rw [if_pos rfl] at r ⊢
      exact ⟨_, .cons hf r, List.Perm.refl _⟩
    · rw [if_neg e] at r ⊢
      split
      · rename_i hlt
        rw [Env.del_notmem (fun x hx => by have := hs'.1 _ hx; simp only at this; omega)] at r
        exact ⟨_, .cons hf r, List.Perm.refl _⟩
      · cases r with
        | @own _ _ _ Ra Rb r1 r2 =>
          obtain ⟨R', i1, i2⟩ := ih hs'.2 r2
          refine ⟨Ra ++ R', .own r1 i1, ?_⟩
          refine (List.Perm.append_left Ra i2).trans ?_
          rw [← List.append_assoc, ← List.append_assoc]
          exact List.Perm.append_right _ List.perm_append_comm
        | al r1 r2 =>
          obtain ⟨R', i1, i2⟩ := ih hs'.2 r2
          exact ⟨R', .al r1 i1, i2⟩
        | ptr r1 r2 =>
          obtain ⟨R', i1, i2⟩ := ih hs'.2 r2
          exact ⟨R', .ptr r1 i1, i2⟩

/-- entries mapped: what leans on something may be dropped -/
theorem REnv.mapV {env R} (r : REnv h S val E env R) (g : FV → FV) (hg : ∀ f, f.alias = false → g f = f) (hg2 : ∀ f, f.alias = true → g f = f ∨ g f = .undef) :
    REnv h S val E (Env.mapV env g) R := by
  induction r with
  | nil => exact .nil
  | @own t f env R1 R r1 _ ih =>
    have : f.alias = false := r1.noalias f (by simp)
    simp only [Env.mapV, List.map_cons, hg f this]
    exact .own r1 ih
  | @al t q p env R r1 _ ih =>
    simp only [Env.mapV, List.map_cons]
    rcases hg2 (.al q p) rfl with e | e <;> rw [e]
    · exact .al r1 ih
    · exact .own (R1 := []) (.undef .nil) ih
  | @ptr t q p env R r1 _ ih =>
    simp only [Env.mapV, List.map_cons]
    rcases hg2 (.ptr q p) rfl with e | e <;> rw [e]
    · exact .ptr r1 ih
    · exact .own (R1 := []) (.undef .nil) ih
end

/-- where a path leads does not turn while what is owned stands -/
theorem locate_keep {h h' : Array Obj} {S : Nat → Prop} : ∀ {p : Path} {v : Value} {f : FV} {R : List Nat}, Rep h S [v] [f] R → (∀ b ∈ R, h'[b]? = h[b]?) →
    locate h' v f p = locate h v f p
  | [], _, _, _, _, _ => rfl
  | [(i, o)], v, f, R, r, hR => by simp only [locate]
  | (i, o) :: q :: p, v, f, R, r, hR => by
    simp only [locate]
    cases hk : f.kids[i]? with
    | none => cases blockOf v <;> rfl
    | some row =>
    cases hro : row[o]? with
    | none => cases hb : blockOf v with
      | none => rfl
      | some b => simp only [hro]; cases cellAt h b (i * row.length + o) <;> cases cellAt h' b (i * row.length + o) <;> rfl
    | some x =>
    cases r with
    | @box b c T gs _ _ R1 R2 hb hr ht =>
      cases ht
      have hi : i = 0 ∧ row = gs := by
        simp only [FV.kids] at hk
        cases i with
        | zero => simp at hk; exact ⟨rfl, hk.symm⟩
        | succ i => simp at hk
      obtain ⟨rfl, rfl⟩ := hi
      obtain ⟨vx, Ra, Ry, Rb, hvx, hy, rfl, _⟩ := hr.at hro
      have e1 : h'[b]? = h[b]? := hR b (by simp)
      have hcell : cellAt h b (0 * row.length + o) = some vx := by unfold cellAt; rw [hb]; simp [← hvx]
      simp only [blockOf, cellAt_congr e1, hcell, hro]
      exact locate_keep hy fun b' m => hR b' (by simp [m])
    | @arr es b n' cap st c T _ _ R1 R2 hn hst hb hsz hcap hpos hr ht =>
      cases ht
      simp only [FV.kids] at hk
      have hrow : row.length = st := hst row (List.mem_of_getElem? hk)
      have holt : o < row.length := by
        rcases Nat.lt_or_ge o row.length with h1 | h1
        · exact h1
        · rw [List.getElem?_eq_none h1] at hro; cases hro
      have hlt : i < es.length := by
        rcases Nat.lt_or_ge i es.length with h1 | h1
        · exact h1
        · rw [List.getElem?_eq_none h1] at hk; cases hk
      have hmul : (i + 1) * st ≤ n' * st := Nat.mul_le_mul_right _ (by omega)
      rw [Nat.add_mul, Nat.one_mul] at hmul
      have hfx : es.flatten[i * st + o]? = some x := by
        have := flatten_row hst hk o (by omega)
        have h2 : (es.flatten.drop (i * st + o))[0]? = some x := by
          rw [this, List.getElem?_append_left (by simp; omega)]
          simpa using hro
        simpa using h2
      obtain ⟨vx, Ra, Ry, Rb, hvx, hy, rfl, _⟩ := hr.at hfx
      have e1 : h'[b]? = h[b]? := hR b (by simp)
      have hcell : cellAt h b (i * row.length + o) = some vx := by
        unfold cellAt; rw [hb, hrow]
        rw [List.getElem?_take_of_lt (by omega)] at hvx
        simpa using hvx
      simp only [blockOf, cellAt_congr e1, hcell, hro]
      exact locate_keep hy fun b' m => hR b' (by simp [m])
    | _ => simp [FV.kids] at hk

theorem cells_write {c c' : Array Value} {o n : Nat} {cs' : List Value} (hc' : c'.toList = c.toList.take o ++ cs' ++ c.toList.drop (o + n)) (hl : cs'.length = n) (hf : o + n ≤ c.size)
    (k : Nat) (hk : k < o ∨ o + n ≤ k) : c'[k]? = c[k]? := by
  have e1 : c'[k]? = c'.toList[k]? := by simp
  have e2 : c[k]? = c.toList[k]? := by simp
  rw [e1, e2, hc']
  rcases hk with hk | hk
  · rw [List.append_assoc, List.getElem?_append_left (by simp; omega), List.getElem?_take_of_lt hk]
  · rw [List.getElem?_append_right (by simp; omega), List.getElem?_drop]
    congr 1
    simp
    omega

/-- one cell of an owned value: where it lies -/
theorem kid_cell {h : Array Obj} {S : Nat → Prop} {v : Value} {f : FV} {R : List Nat} {i o : Nat} {row : List FV} {x : FV} (r : Rep h S [v] [f] R) (hk : f.kids[i]? = some row) (hro : row[o]? = some x) :
    ∃ b0 c T vx Ry, blockOf v = some b0 ∧ b0 ∈ R ∧ h[b0]? = some (.cells c T (0, 0)) ∧ c[i * row.length + o]? = some vx ∧ Rep h S [vx] [x] Ry ∧ (∀ b ∈ Ry, b ∈ R) ∧ (R.Nodup → b0 ∉ Ry) ∧ (R.Nodup → Ry.Nodup) := by
  have holt : o < row.length := by
    rcases Nat.lt_or_ge o row.length with h1 | h1
    · exact h1
    · rw [List.getElem?_eq_none h1] at hro; cases hro
  cases r with
  | @box b c T gs _ _ R1 R2 hb hr ht =>
    cases ht
    have hi : i = 0 ∧ row = gs := by
      simp only [FV.kids] at hk
      cases i with
      | zero => simp at hk; exact ⟨rfl, hk.symm⟩
      | succ i => simp at hk
    obtain ⟨rfl, rfl⟩ := hi
    obtain ⟨vx, Ra, Ry, Rb, hvx, hy, rfl, _⟩ := hr.at hro
    refine ⟨b, c, T, vx, Ry, rfl, by simp, hb, by simp [← hvx], hy, by simp +contextual, ?_, ?_⟩
    · intro nd m; simp only [List.append_nil] at nd; exact (List.nodup_cons.1 nd).1 (by simp [m])
    · intro nd; simp only [List.append_nil] at nd
      have := (List.nodup_cons.1 nd).2
      rw [List.append_assoc] at this
      exact (List.nodup_append.1 (List.nodup_append.1 this).2.1).1
  | @arr es b n' cap st c T _ _ R1 R2 hn hst hb hsz hcap hpos hr ht =>
    cases ht
    simp only [FV.kids] at hk
    have hrow : row.length = st := hst row (List.mem_of_getElem? hk)
    have hlt : i < es.length := by
      rcases Nat.lt_or_ge i es.length with h1 | h1
      · exact h1
      · rw [List.getElem?_eq_none h1] at hk; cases hk
    have hmul : (i + 1) * st ≤ n' * st := Nat.mul_le_mul_right _ (by omega)
    rw [Nat.add_mul, Nat.one_mul] at hmul
    have hfx : es.flatten[i * st + o]? = some x := by
      have := flatten_row hst hk o (by omega)
      have h2 : (es.flatten.drop (i * st + o))[0]? = some x := by
        rw [this, List.getElem?_append_left (by simp; omega)]
        simpa using hro
      simpa using h2
    obtain ⟨vx, Ra, Ry, Rb, hvx, hy, rfl, _⟩ := hr.at hfx
    rw [List.getElem?_take_of_lt (by omega)] at hvx
    refine ⟨b, c, T, vx, Ry, rfl, by simp, hb, by rw [hrow]; simpa using hvx, hy, by simp +contextual, ?_, ?_⟩
    · intro nd m; simp only [List.append_nil] at nd; exact (List.nodup_cons.1 nd).1 (by simp [m])
    · intro nd; simp only [List.append_nil] at nd
      have := (List.nodup_cons.1 nd).2
      rw [List.append_assoc] at this
      exact (List.nodup_append.1 (List.nodup_append.1 this).2.1).1
  | _ => simp [FV.kids] at hk

theorem kids_setKids {f : FV} {i : Nat} {row : List FV} (hk : f.kids[i]? = some row) (row' : List FV) (j : Nat) :
    (f.setKids (f.kids.set i row')).kids[j]? = if j = i then some row' else f.kids[j]? := by
  cases f with
  | box cs =>
    cases i with
    | succ i => simp [FV.kids] at hk
    | zero =>
      simp only [FV.kids, FV.setKids, List.set_cons_zero, List.headD_cons]
      cases j with
      | zero => simp
      | succ j => simp
  | arr es =>
    simp only [FV.kids] at hk
    simp only [FV.setKids, FV.kids, List.getElem?_set]
    have hlt : i < es.length := by
      rcases Nat.lt_or_ge i es.length with h1 | h1
      · exact h1
      · rw [List.getElem?_eq_none h1] at hk; cases hk
    by_cases e : j = i
    · subst e; simp [hlt]
    · rw [if_neg (fun e' => e (Eq.symm e')), if_neg e]
  | _ => simp [FV.kids] at hk

def FV.like (y y' : FV) : Prop := y' = y ∨ (∃ a b, y = .arr a ∧ y' = .arr b) ∨ (∃ a b, y = .box a ∧ y' = .box b)

theorem FV.like.isSl {y y' : FV} (h : FV.like y y') : y'.isSl = y.isSl := by
  rcases h with rfl | ⟨_, _, rfl, rfl⟩ | ⟨_, _, rfl, rfl⟩ <;> rfl

theorem setN_like (f : FV) (p : Path) (xs : List FV) : FV.like f (setN f p xs) := by
  cases p with
  | nil => exact .inl rfl
  | cons x p =>
    obtain ⟨i, o⟩ := x
    have key : ∀ k, FV.like f (f.setKids k) := fun k => by
      cases f <;> first
        | exact .inl rfl
        | exact .inr (.inl ⟨_, _, rfl, rfl⟩)
        | exact .inr (.inr ⟨_, _, rfl, rfl⟩)
    simp only [setN]
    split
    · exact .inl rfl
    · cases p with
      | nil => exact key _
      | cons y p =>
        simp only
        split
        · exact .inl rfl
        · exact key _

theorem getN_row {f : FV} {i o : Nat} {y : FV} : getN f [(i, o)] 1 = some [y] ↔ ∃ row, f.kids[i]? = some row ∧ row[o]? = some y := by
  simp only [getN]
  cases hk : f.kids[i]? with
  | none => simp
  | some row =>
    simp only [Option.some.injEq, exists_eq_left']
    constructor
    · intro h
      split at h
      · simp only [Option.some.injEq] at h
        have : ((row.drop o).take 1)[0]? = some y := by rw [h]; rfl
        simpa [List.getElem?_take] using this
      · cases h
    · intro h
      have holt : o < row.length := by
        rcases Nat.lt_or_ge o row.length with h1 | h1
        · exact h1
        · rw [List.getElem?_eq_none h1] at h; cases h
      rw [if_pos (by omega)]
      rw [List.getElem?_eq_getElem holt] at h
      simp only [Option.some.injEq] at h
      rw [List.drop_eq_getElem_cons holt, h]
      rfl

theorem getN_step {f : FV} {i o : Nat} {q : Nat × Nat} {p : Path} {n : Nat} : getN f ((i, o) :: q :: p) n = match f.kids[i]? with
    | none => none
    | some row => match row[o]? with
      | none => none
      | some x => getN x (q :: p) n := by
  cases hk : f.kids[i]? with
  | none => simp only [getN, hk]
  | some row => cases hr : row[o]? <;> simp only [getN, hk, hr]

theorem Rep.uniq {h S vs fs R} (r : Rep h S vs fs R) : ∀ {S' R'}, Rep h S' vs fs R' → R' = R := by
  induction r with
  | nil => intro _ _ r'; cases r'; rfl
  | undef _ ih => intro _ _ r'; cases r' with | undef r' => exact ih r'
  | int _ ih => intro _ _ r'; cases r' with | int r' => exact ih r'
  | bool _ ih => intro _ _ r'; cases r' with | bool r' => exact ih r'
  | str _ ih =>
    intro _ _ r'
    generalize hv : Value.string _ :: _ = vv at r'
    cases r' with
    | str r' => cases hv; exact ih r'
  | nilp _ ih => intro _ _ r'; cases r' with | nilp r' => exact ih r'
  | nilf _ ih => intro _ _ r'; cases r' with | nilf r' => exact ih r'
  | nili _ ih => intro _ _ r'; cases r' with | nili r' => exact ih r'
  | iface _ _ i1 i2 => intro _ _ r'; cases r' with | iface r1 r2 => rw [i1 r1, i2 r2]
  | @agg cs _ _ _ _ _ _ _ i1 i2 =>
    intro _ _ r'
    generalize hv : Value.agg _ :: _ = vv at r'
    cases r' with
    | @agg cs' _ _ _ _ _ r1 r2 =>
      simp only [List.cons.injEq, Value.agg.injEq] at hv
      obtain ⟨e1, e2⟩ := hv
      have : cs = cs' := by simpa using congrArg Array.toList e1
      subst this; subst e2
      rw [i1 r1, i2 r2]
  | @tup cs _ _ _ _ _ _ _ i1 i2 =>
    intro _ _ r'
    generalize hv : Value.tuple _ :: _ = vv at r'
    cases r' with
    | @tup cs' _ _ _ _ _ r1 r2 =>
      simp only [List.cons.injEq, Value.tuple.injEq] at hv
      obtain ⟨e1, e2⟩ := hv
      have : cs = cs' := by simpa using congrArg Array.toList e1
      subst this; subst e2
      rw [i1 r1, i2 r2]
  | @fn f cs _ _ _ _ _ _ _ i1 i2 =>
    intro _ _ r'
    generalize hv : Value.func _ _ _ :: _ = vv at r'
    cases r' with
    | @fn _ cs' _ _ _ _ _ r1 r2 =>
      simp only [List.cons.injEq, Value.func.injEq] at hv
      obtain ⟨⟨_, _, e1⟩, e2⟩ := hv
      have : cs = cs' := by simpa using congrArg Array.toList e1
      subst this; subst e2
      rw [i1 r1, i2 r2]
  | slNil _ ih =>
    intro _ _ r'
    cases r' with
    | slNil r' => exact ih r'
    | sl _ _ _ _ _ _ _ _ _ _ r' => exact ih r'
  | sl _ _ _ _ _ _ _ _ hpos _ _ _ ih =>
    intro _ _ r'
    cases r' with
    | sl _ _ _ _ _ _ _ _ _ _ r' => exact ih r'
    | slNil r' => exact ih r'
  | ref _ _ _ _ _ _ ih => intro _ _ r'; cases r' with | ref _ _ _ _ r' => exact ih r'
  | arrNil _ ih =>
    intro _ _ r'
    cases r' with
    | arrNil r' => exact ih r'
    | arr _ _ _ _ _ hpos => omega
  | @arr es b n cap st c T _ _ _ _ hn hst hb hsz hcap hpos _ _ i1 i2 =>
    intro _ _ r'
    cases r' with
    | arrNil _ => omega
    | @arr _ _ _ _ st' c' T' _ _ _ _ hn' hst' hb' hsz' hcap' _ r1 r2 =>
      rw [hb] at hb'
      cases hb'
      have e : n * st = n * st' := by
        cases es with
        | nil => simp at hn; subst hn; simp
        | cons e es => rw [← hst e (by simp), ← hst' e (by simp)]
      rw [← e] at r1
      rw [i1 r1, i2 r2]
  | box hb _ _ i1 i2 =>
    intro _ _ r'
    cases r' with
    | box hb' r1 r2 =>
      rw [hb] at hb'
      cases hb'
      rw [i1 r1, i2 r2]
  | iter hb _ ih => intro _ _ r'; cases r' with | iter _ r' => rw [ih r']
  | buf _ _ _ ih => intro _ _ r'; cases r' with | buf _ _ r' => rw [ih r']

theorem Rep.two {h S} : ∀ {vs fs R}, Rep h S vs fs R → R.Nodup → ∀ {k1 k2 : Nat} {x1 x2 : FV}, k1 < k2 → fs[k1]? = some x1 → fs[k2]? = some x2 →
    ∃ v1 v2 R1 R2, vs[k1]? = some v1 ∧ vs[k2]? = some v2 ∧ Rep h S [v1] [x1] R1 ∧ Rep h S [v2] [x2] R2 ∧ (∀ b ∈ R1, b ∉ R2) := by
  intro vs fs R r nd k1 k2 x1 x2 hk h1 h2
  have hl := r.length
  obtain ⟨Ra, Rb, r1, r2, rfl⟩ := r.split k2
  have e1 : (fs.take k2)[k1]? = some x1 := by rw [List.getElem?_take_of_lt hk]; exact h1
  have e2 : (fs.drop k2)[0]? = some x2 := by simpa using h2
  obtain ⟨v1, _, R1, _, hv1, hr1, rfl, _⟩ := r1.at e1
  obtain ⟨v2, _, R2, _, hv2, hr2, rfl, _⟩ := r2.at e2
  refine ⟨v1, v2, R1, R2, ?_, by simpa using hv2, hr1, hr2, ?_⟩
  · rw [List.getElem?_take_of_lt hk] at hv1; exact hv1
  · intro b m1 m2
    exact (List.nodup_append.1 nd).2.2 b (by simp [m1]) b (by simp [m2]) rfl

theorem path_apart {h : Array Obj} {S : Nat → Prop} {v : Value} {f : FV} {R : List Nat} {i o j u : Nat} {row rowi : List FV} {x xi : FV} {vx vi : Value} {Ry Ri : List Nat} {b0 : Nat} {c0 : Array Value} {T0 : TypeId}
    (r : Rep h S [v] [f] R) (nd : R.Nodup) (hk : f.kids[j]? = some row) (hro : row[u]? = some x) (hki : f.kids[i]? = some rowi) (hroi : rowi[o]? = some xi) (hne : ¬ (j = i ∧ u = o))
    (hbo : blockOf v = some b0) (hb0 : h[b0]? = some (.cells c0 T0 (0, 0))) (hcx : c0[j * row.length + u]? = some vx) (hci : c0[i * rowi.length + o]? = some vi)
    (hy : Rep h S [vx] [x] Ry) (hyi : Rep h S [vi] [xi] Ri) {b : Nat} (m1 : b ∈ Ry) (m2 : b ∈ Ri) : False := by
  have hu : u < row.length := by
    rcases Nat.lt_or_ge u row.length with h1 | h1
    · exact h1
    · rw [List.getElem?_eq_none h1] at hro; cases hro
  have ho : o < rowi.length := by
    rcases Nat.lt_or_ge o rowi.length with h1 | h1
    · exact h1
    · rw [List.getElem?_eq_none h1] at hroi; cases hroi
  have fin : ∀ {vs fs R'}, Rep h S vs fs R' → R'.Nodup → ∀ {k1 k2 : Nat} {x1 x2 : FV} {v1 v2 : Value} {R1 R2 : List Nat}, k1 < k2 → fs[k1]? = some x1 → fs[k2]? = some x2 → vs[k1]? = some v1 → vs[k2]? = some v2 →
      Rep h S [v1] [x1] R1 → Rep h S [v2] [x2] R2 → b ∈ R1 → b ∈ R2 → False := by
    intro vs fs R' r' nd' k1 k2 x1 x2 v1 v2 R1 R2 hlt e1 e2 e3 e4 q1 q2 n1 n2
    obtain ⟨w1, w2, Q1, Q2, f1, f2, g1, g2, hd⟩ := r'.two nd' hlt e1 e2
    rw [e3] at f1; cases f1
    rw [e4] at f2; cases f2
    rw [q1.uniq g1] at hd
    rw [q2.uniq g2] at hd
    exact hd b n1 n2
  cases r with
  | @box b1 c T gs _ _ R1 R2 hb hr ht =>
    cases ht
    have hi : i = 0 ∧ rowi = gs := by
      simp only [FV.kids] at hki
      cases i with
      | zero => simp at hki; exact ⟨rfl, hki.symm⟩
      | succ i => simp at hki
    have hj : j = 0 ∧ row = gs := by
      simp only [FV.kids] at hk
      cases j with
      | zero => simp at hk; exact ⟨rfl, hk.symm⟩
      | succ i => simp at hk
    obtain ⟨rfl, rfl⟩ := hi
    obtain ⟨rfl, rfl⟩ := hj
    simp only [blockOf, Option.some.injEq] at hbo
    subst hbo
    rw [hb] at hb0
    cases hb0
    simp only [List.append_nil] at nd
    have nd' := (List.nodup_cons.1 nd).2
    rw [Nat.zero_mul, Nat.zero_add] at hcx hci
    rcases Nat.lt_or_ge u o with h1 | h1
    · exact fin hr nd' h1 hro hroi (by simpa using hcx) (by simpa using hci) hy hyi m1 m2
    · exact fin hr nd' (show o < u by omega) hroi hro (by simpa using hci) (by simpa using hcx) hyi hy m2 m1
  | @arr es b1 n' cap st c T _ _ R1 R2 hn hst hb hsz hcap hpos hr ht =>
    cases ht
    simp only [FV.kids] at hk hki
    have hrow : row.length = st := hst row (List.mem_of_getElem? hk)
    have hrowi : rowi.length = st := hst rowi (List.mem_of_getElem? hki)
    have hlt : ∀ {k : Nat} {r0 : List FV}, es[k]? = some r0 → k < es.length := fun {k r0} e => by
      rcases Nat.lt_or_ge k es.length with h1 | h1
      · exact h1
      · rw [List.getElem?_eq_none h1] at e; cases e
    have hjl := hlt hk
    have hil := hlt hki
    have hfx : ∀ {k w : Nat} {r0 : List FV} {y : FV}, es[k]? = some r0 → r0[w]? = some y → w < r0.length → r0.length = st → es.flatten[k * st + w]? = some y := fun {k w r0 y} e1 e2 e3 e4 => by
      have := flatten_row hst e1 w (by omega)
      have h2 : (es.flatten.drop (k * st + w))[0]? = some y := by
        rw [this, List.getElem?_append_left (by simp; omega)]
        simpa using e2
      simpa using h2
    have hmulj : (j + 1) * st ≤ n' * st := Nat.mul_le_mul_right _ (by omega)
    have hmuli : (i + 1) * st ≤ n' * st := Nat.mul_le_mul_right _ (by omega)
    rw [Nat.add_mul, Nat.one_mul] at hmulj hmuli
    simp only [blockOf, Option.some.injEq] at hbo
    subst hbo
    rw [hb] at hb0
    cases hb0
    simp only [List.append_nil] at nd
    have nd' := (List.nodup_cons.1 nd).2
    rw [hrow] at hcx
    rw [hrowi] at hci
    have hcx' : (c0.toList.take (n' * st))[j * st + u]? = some vx := by rw [List.getElem?_take_of_lt (by omega)]; simpa using hcx
    have hci' : (c0.toList.take (n' * st))[i * st + o]? = some vi := by rw [List.getElem?_take_of_lt (by omega)]; simpa using hci
    have hne' : j * st + u ≠ i * st + o := by
      intro e
      rcases Nat.lt_trichotomy j i with h1 | h1 | h1
      · have : (j + 1) * st ≤ i * st := Nat.mul_le_mul_right _ (by omega)
        rw [Nat.add_mul, Nat.one_mul] at this
        omega
      · subst h1; exact hne ⟨rfl, by omega⟩
      · have : (i + 1) * st ≤ j * st := Nat.mul_le_mul_right _ (by omega)
        rw [Nat.add_mul, Nat.one_mul] at this
        omega
    rcases Nat.lt_or_ge (j * st + u) (i * st + o) with h1 | h1
    · exact fin hr nd' h1 (hfx hk hro hu hrow) (hfx hki hroi ho hrowi) hcx' hci' hy hyi m1 m2
    · exact fin hr nd' (show i * st + o < j * st + u by omega) (hfx hki hroi ho hrowi) (hfx hk hro hu hrow) hci' hcx' hyi hy m2 m1
  | _ => simp [FV.kids] at hk

theorem thru_cons (i o : Nat) (q2 : Nat × Nat) (q : Path) (p2 : Nat × Nat) (p : Path) (n : Nat) : thru ((i, o) :: q2 :: q) ((i, o) :: p2 :: p) n = thru (q2 :: q) (p2 :: p) n := by
  show (decide (o = o) && (decide (i = i) && thru (q2 :: q) (p2 :: p) n)) = _
  simp only [decide_true, Bool.true_and]
theorem hits_cons (i o : Nat) (q2 : Nat × Nat) (q : Path) (p2 : Nat × Nat) (p : Path) (n : Nat) : hits ((i, o) :: q2 :: q) ((i, o) :: p2 :: p) n = hits (q2 :: q) (p2 :: p) n := by
  show (decide (o = o) && (decide (i = i) && hits (q2 :: q) (p2 :: p) n)) = _
  simp only [decide_true, Bool.true_and]

set_option maxRecDepth 20000 in
/-- what a write at path p does to other paths -/
theorem path_set {h h' : Array Obj} {S : Nat → Prop} {T : TypeId} {c c' : Array Value} {cs' : List Value} {xs' : List FV} {n : Nat} {b o : Nat}
    (hb : h[b]? = some (.cells c T (0, 0))) (hb' : h'[b]? = some (.cells c' T (0, 0))) (hc' : c'.toList = c.toList.take o ++ cs' ++ c.toList.drop (o + n)) (hl : cs'.length = n) (hf : o + n ≤ c.size) (hxl : xs'.length = n) :
    ∀ {p : Path} {v : Value} {f : FV} {R : List Nat} {xs : List FV}, Rep h S [v] [f] R → R.Nodup → getN f p n = some xs → locate h v f p = some (b, o) → (∀ b1 ∈ R, b1 ≠ b → h'[b1]? = h[b1]?) →
    ∀ {q : Path} {y : FV}, getN f q 1 = some [y] → thru q p n = false →
      locate h' v (setN f p xs') q = locate h v f q ∧ (∃ y', getN (setN f p xs') q 1 = some [y'] ∧ (hits q p n = false → y.like y')) ∧
      (hits q p n = false → ∀ b1 o1, locate h v f q = some (b1, o1) → cellAt h' b1 o1 = cellAt h b1 o1)
  | [], v, f, R, xs, r, nd, hg, hloc, hR, q, y, hq, ht => by simp [getN] at hg
  | (i, o') :: p, v, f, R, xs, r, nd, hg, hloc, hR, [], y, hq, ht => by simp [getN] at hq
  | [(i, o')], v, f, R, xs, r, nd, hg, hloc, hR, [(j, u)], y, hq, ht => by
    obtain ⟨row, hk, hro⟩ := getN_row.1 hq
    simp only [getN] at hg
    cases hki : f.kids[i]? with
    | none => rw [hki] at hg; cases hg
    | some rowi =>
    rw [hki] at hg
    simp only at hg
    split at hg
    case isFalse => cases hg
    rename_i hlen
    have hks := fun j => kids_setKids hki (rowi.take o' ++ xs' ++ rowi.drop (o' + xs'.length)) j
    have hl2 : (rowi.take o' ++ xs' ++ rowi.drop (o' + xs'.length)).length = rowi.length := by simp; omega
    obtain ⟨b0, c0, T0, vx, Ry, hbo, hbm, hb0, hcx, hy, _, _, _⟩ := kid_cell r hk hro
    have hb0b : b0 = b ∧ i * rowi.length + o' = o := by
      simp only [locate, hbo, hki] at hloc
      simp only [Option.some.injEq, Prod.mk.injEq] at hloc
      exact hloc
    obtain ⟨rfl, hoo⟩ := hb0b
    rw [hb] at hb0
    cases hb0
    have hset : setN f [(i, o')] xs' = f.setKids (f.kids.set i (rowi.take o' ++ xs' ++ rowi.drop (o' + xs'.length))) := by simp only [setN, hki]
    by_cases hji : j = i
    · subst hji
      rw [hki] at hk
      obtain rfl := Option.some.inj hk
      have hu : u < rowi.length := by
        rcases Nat.lt_or_ge u rowi.length with h1 | h1
        · exact h1
        · rw [List.getElem?_eq_none h1] at hro; cases hro
      refine ⟨?_, ?_, ?_⟩
      · rw [hset]
        simp only [locate, hbo, hks, if_true, hki, hl2]
      · have : ∃ y', (rowi.take o' ++ xs' ++ rowi.drop (o' + xs'.length))[u]? = some y' := ⟨_, List.getElem?_eq_getElem (by omega)⟩
        obtain ⟨y', hy'⟩ := this
        refine ⟨y', getN_row.2 ⟨_, by rw [hset, hks, if_pos rfl], hy'⟩, ?_⟩
        intro hh
        simp only [hits, decide_true, Bool.and_true, Bool.and_eq_false_iff, decide_eq_false_iff_not] at hh
        left
        have : (rowi.take o' ++ xs' ++ rowi.drop (o' + xs'.length))[u]? = rowi[u]? := by
          rcases hh with hh | hh
          · rw [List.append_assoc, List.getElem?_append_left (by simp; omega), List.getElem?_take_of_lt (by omega)]
          · rw [List.getElem?_append_right (by simp; omega), List.getElem?_drop]
            congr 1
            simp
            omega
        rw [this, hro] at hy'
        simpa using hy'.symm
      · intro hh b1 o1 hl1
        simp only [locate, hbo, hki, Option.some.injEq, Prod.mk.injEq] at hl1
        obtain ⟨rfl, rfl⟩ := hl1
        simp only [hits, decide_true, Bool.and_true, Bool.and_eq_false_iff, decide_eq_false_iff_not] at hh
        unfold cellAt
        rw [hb, hb']
        exact cells_write hc' hl hf _ (by omega)
    · refine ⟨?_, ?_, ?_⟩
      · rw [hset]
        simp only [locate, hbo, hks, if_neg hji]
      · exact ⟨y, getN_row.2 ⟨row, by rw [hset, hks, if_neg hji]; exact hk, hro⟩, fun _ => .inl rfl⟩
      · intro hh b1 o1 hl1
        simp only [locate, hbo, hk, Option.some.injEq, Prod.mk.injEq] at hl1
        obtain ⟨rfl, rfl⟩ := hl1
        unfold cellAt
        rw [hb, hb']
        refine cells_write hc' hl hf _ ?_
        have hu : u < row.length := by
          rcases Nat.lt_or_ge u row.length with h1 | h1
          · exact h1
          · rw [List.getElem?_eq_none h1] at hro; cases hro
        cases f with
        | box cs =>
          cases i <;> cases j <;> simp [FV.kids] at hk hki hji
        | arr es =>
          simp only [FV.kids] at hk hki
          have hst : row.length = rowi.length := by
            cases r with
            | arr _ hst' => rw [hst' _ (List.mem_of_getElem? hk), hst' _ (List.mem_of_getElem? hki)]
            | arrNil => simp at hk
          rw [hst] at hu ⊢
          rcases Nat.lt_or_ge j i with h1 | h1
          · left
            have : (j + 1) * rowi.length ≤ i * rowi.length := Nat.mul_le_mul_right _ (by omega)
            rw [Nat.add_mul, Nat.one_mul] at this
            omega
          · right
            have : (i + 1) * rowi.length ≤ j * rowi.length := Nat.mul_le_mul_right _ (by omega)
            rw [Nat.add_mul, Nat.one_mul] at this
            omega
        | _ => simp [FV.kids] at hk
  | [(i, o')], v, f, R, xs, r, nd, hg, hloc, hR, (j, u) :: q2 :: q, y, hq, ht => by
    rw [getN_step] at hq
    cases hk : f.kids[j]? with
    | none => rw [hk] at hq; cases hq
    | some row =>
    rw [hk] at hq
    simp only at hq
    cases hro : row[u]? with
    | none => rw [hro] at hq; cases hq
    | some x =>
    rw [hro] at hq
    simp only at hq
    -- the cell on the way is another one
    have hone : getN f [(j, u)] 1 = some [x] := getN_row.2 ⟨row, hk, hro⟩
    have hnot : hits [(j, u)] [(i, o')] n = false := by
      simp only [thru, hits] at ht ⊢
      simpa using ht
    obtain ⟨h1, ⟨y', h2, h3⟩, h4⟩ := path_set hb hb' hc' hl hf hxl r nd hg hloc hR hone (by simp [thru])
    obtain ⟨b0, c0, T0, vx, Ry, hbo, hbm, hb0, hcx, hy, hsub, hnin, hnd⟩ := kid_cell r hk hro
    have hloc1 : locate h v f [(j, u)] = some (b0, j * row.length + u) := by simp only [locate, hbo, hk]
    have hcell : cellAt h b0 (j * row.length + u) = some vx := by unfold cellAt; rw [hb0]; exact hcx
    have hcell' : cellAt h' b0 (j * row.length + u) = some vx := by rw [h4 hnot _ _ hloc1]; exact hcell
    obtain ⟨row', hk', hro'⟩ := getN_row.1 h2
    have hyx : y' = x := by
      -- the row's cell itself is untouched: in the last case of 'path_set' it is equal
      have hb0b : b0 = b := by
        simp only [locate, hbo] at hloc
        cases hki : f.kids[i]? with
        | none => rw [hki] at hloc; cases hloc
        | some rowi => rw [hki] at hloc; simp only [Option.some.injEq, Prod.mk.injEq] at hloc; exact hloc.1
      simp only [getN] at hg
      cases hki : f.kids[i]? with
      | none => rw [hki] at hg; cases hg
      | some rowi =>
      rw [hki] at hg
      simp only at hg
      split at hg
      case isFalse => cases hg
      rename_i hlen
      have hks := kids_setKids hki (rowi.take o' ++ xs' ++ rowi.drop (o' + xs'.length)) j
      have hset : setN f [(i, o')] xs' = f.setKids (f.kids.set i (rowi.take o' ++ xs' ++ rowi.drop (o' + xs'.length))) := by simp only [setN, hki]
      rw [hset, hks] at hk'
      by_cases hji : j = i
      · subst hji
        rw [hki] at hk
        obtain rfl := Option.some.inj hk
        rw [if_pos rfl] at hk'
        obtain rfl := Option.some.inj hk'
        simp only [hits, decide_true, Bool.and_true, Bool.and_eq_false_iff, decide_eq_false_iff_not] at hnot
        have hu : u < rowi.length := by
          rcases Nat.lt_or_ge u rowi.length with h1 | h1
          · exact h1
          · rw [List.getElem?_eq_none h1] at hro; cases hro
        have : (rowi.take o' ++ xs' ++ rowi.drop (o' + xs'.length))[u]? = rowi[u]? := by
          rcases hnot with hh | hh
          · rw [List.append_assoc, List.getElem?_append_left (by simp; omega), List.getElem?_take_of_lt (by omega)]
          · rw [List.getElem?_append_right (by simp; omega), List.getElem?_drop]
            congr 1
            simp
            omega
        rw [this, hro] at hro'
        simpa using hro'.symm
      · rw [if_neg hji, hk] at hk'
        cases hk'
        rw [hro] at hro'
        simpa using hro'.symm
    subst hyx
    have hlenrow : row'.length = row.length := by
      have : locate h' v (setN f [(i, o')] xs') [(j, u)] = some (b0, j * row'.length + u) := by simp only [locate, hbo, hk']
      rw [h1, hloc1] at this
      simp only [Option.some.injEq, Prod.mk.injEq, true_and] at this
      rcases Nat.eq_zero_or_pos j with hj | hj
      · subst hj
        -- rows of equal index have equal length by construction
        simp only [getN] at hg
        cases hki : f.kids[i]? with
        | none => rw [hki] at hg; cases hg
        | some rowi =>
        rw [hki] at hg
        simp only at hg
        split at hg
        case isFalse => cases hg
        rename_i hlen
        have hks := kids_setKids hki (rowi.take o' ++ xs' ++ rowi.drop (o' + xs'.length)) 0
        have hset : setN f [(i, o')] xs' = f.setKids (f.kids.set i (rowi.take o' ++ xs' ++ rowi.drop (o' + xs'.length))) := by simp only [setN, hki]
        rw [hset, hks] at hk'
        by_cases hji : 0 = i
        · subst hji
          rw [if_pos rfl] at hk'
          rw [hki] at hk
          cases hk; cases hk'
          simp; omega
        · rw [if_neg hji, hk] at hk'
          cases hk'; rfl
      · have : j * row.length = j * row'.length := by omega
        exact (Nat.eq_of_mul_eq_mul_left hj this).symm
    have hbRy : ∀ b1 ∈ Ry, h'[b1]? = h[b1]? := fun b1 m => hR b1 (hsub b1 m) (by
      intro e
      subst e
      have hb0b : b0 = b1 := by
        simp only [locate, hbo] at hloc
        cases hki : f.kids[i]? with
        | none => rw [hki] at hloc; cases hloc
        | some rowi => rw [hki] at hloc; simp only [Option.some.injEq, Prod.mk.injEq] at hloc; exact hloc.1
      subst hb0b
      exact hnin nd m)
    refine ⟨?_, ?_, ?_⟩
    · simp only [locate, hbo, hk, hk', hlenrow, hcell, hcell', hro, hro']
      exact locate_keep hy hbRy
    · refine ⟨y, ?_, fun _ => .inl rfl⟩
      rw [getN_step, hk']
      simp only [hro']
      exact hq
    · intro _ b1 o1 hl1
      simp only [locate, hbo, hk, hcell, hro] at hl1
      have hm : b1 ∈ Ry := by
        have ndy := hnd nd
        obtain ⟨b2, o2, _, _, _, R2, F⟩ := focus hy ndy hq
        have := F.loc
        rw [hl1] at this
        cases this
        exact F.perm.mem_iff.2 (List.mem_append.2 (.inr F.mem))
      exact cellAt_congr (hbRy b1 hm) o1
  | (i, o') :: p2 :: p, v, f, R, xs, r, nd, hg, hloc, hR, (j, u) :: q, y, hq, ht => by
    rw [getN_step] at hg
    cases hki : f.kids[i]? with
    | none => rw [hki] at hg; cases hg
    | some rowi =>
    rw [hki] at hg
    simp only at hg
    cases hroi : rowi[o']? with
    | none => rw [hroi] at hg; cases hg
    | some xi =>
    rw [hroi] at hg
    simp only at hg
    have ho' : o' < rowi.length := by
      rcases Nat.lt_or_ge o' rowi.length with h1 | h1
      · exact h1
      · rw [List.getElem?_eq_none h1] at hroi; cases hroi
    obtain ⟨b0, c0, T0, vi, Ri, hbo, hbm, hb0, hci, hyi, hsubi, hnini, hndi⟩ := kid_cell r hki hroi
    have hcelli : cellAt h b0 (i * rowi.length + o') = some vi := by unfold cellAt; rw [hb0]; exact hci
    have hloci : locate h vi xi (p2 :: p) = some (b, o) := by
      simp only [locate, hbo, hki, hcelli, hroi] at hloc
      exact hloc
    have hbin : b ∈ Ri := by
      obtain ⟨b2, o2, _, _, _, R2, F⟩ := focus hyi (hndi nd) hg
      have := F.loc
      rw [hloci] at this
      cases this
      exact F.perm.mem_iff.2 (List.mem_append.2 (.inr F.mem))
    have hb0b : b0 ≠ b := fun e => hnini nd (e ▸ hbin)
    have hkeep0 : h'[b0]? = h[b0]? := hR b0 hbm hb0b
    have hset : setN f ((i, o') :: p2 :: p) xs' = f.setKids (f.kids.set i (rowi.set o' (setN xi (p2 :: p) xs'))) := by simp only [setN, hki, hroi]
    have hks := fun j => kids_setKids hki (rowi.set o' (setN xi (p2 :: p) xs')) j
    have hrow : ∃ row row' x x', f.kids[j]? = some row ∧ row[u]? = some x ∧ (setN f ((i, o') :: p2 :: p) xs').kids[j]? = some row' ∧ row'[u]? = some x' ∧ row'.length = row.length ∧
        ((j = i ∧ u = o' ∧ x = xi ∧ x' = setN xi (p2 :: p) xs') ∨ (¬ (j = i ∧ u = o') ∧ x' = x)) := by
      have : ∃ row x, f.kids[j]? = some row ∧ row[u]? = some x := by
        cases q with
        | nil => obtain ⟨row, hk, hro⟩ := getN_row.1 hq; exact ⟨row, y, hk, hro⟩
        | cons q2 q =>
          rw [getN_step] at hq
          cases hk : f.kids[j]? with
          | none => rw [hk] at hq; cases hq
          | some row =>
          rw [hk] at hq
          simp only at hq
          cases hro : row[u]? with
          | none => rw [hro] at hq; cases hq
          | some x => exact ⟨row, x, rfl, hro⟩
      obtain ⟨row, x, hk, hro⟩ := this
      by_cases hji : j = i
      · subst hji
        rw [hki] at hk
        cases hk
        by_cases huo : u = o'
        · subst huo
          rw [hroi] at hro
          cases hro
          exact ⟨rowi, _, _, _, hki, hroi, by rw [hset, hks, if_pos rfl], by rw [List.getElem?_set_self ho'], by simp, .inl ⟨rfl, rfl, rfl, rfl⟩⟩
        · exact ⟨rowi, _, _, _, hki, hro, by rw [hset, hks, if_pos rfl], by rw [List.getElem?_set_ne (fun e => huo e.symm)]; exact hro, by simp, .inr ⟨fun e => huo e.2, rfl⟩⟩
      · exact ⟨row, row, x, x, hk, hro, by rw [hset, hks, if_neg hji]; exact hk, hro, rfl, .inr ⟨fun e => hji e.1, rfl⟩⟩
    obtain ⟨row, row', x, x', hk, hro, hk', hro', hlen, hcase⟩ := hrow
    obtain ⟨b00, c00, T00, vx, Ry, hbo2, _, hb00, hcx, hy, hsub, hnin, hnd⟩ := kid_cell r hk hro
    rw [hbo] at hbo2
    cases hbo2
    rw [hb0] at hb00
    cases hb00
    have hcell : cellAt h b0 (j * row.length + u) = some vx := by unfold cellAt; rw [hb0]; exact hcx
    have hcell' : cellAt h' b0 (j * row.length + u) = some vx := by rw [cellAt_congr hkeep0]; exact hcell
    cases q with
    | nil =>
      obtain ⟨row2, hk2, hro2⟩ := getN_row.1 hq
      rw [hk] at hk2; cases hk2
      rw [hro] at hro2; cases hro2
      refine ⟨?_, ⟨x', getN_row.2 ⟨row', hk', hro'⟩, fun _ => ?_⟩, ?_⟩
      · simp only [locate, hbo, hk, hk', hlen]
      · rcases hcase with ⟨_, _, rfl, rfl⟩ | ⟨_, rfl⟩
        · exact setN_like _ _ _
        · exact .inl rfl
      · intro _ b1 o1 hl1
        simp only [locate, hbo, hk, Option.some.injEq, Prod.mk.injEq] at hl1
        obtain ⟨rfl, rfl⟩ := hl1
        exact cellAt_congr hkeep0 _
    | cons q2 q =>
      have hq' : getN x (q2 :: q) 1 = some [y] := by
        rw [getN_step, hk] at hq
        simp only [hro] at hq
        exact hq
      rcases hcase with ⟨rfl, rfl, rfl, rfl⟩ | ⟨hne, rfl⟩
      · rw [hki] at hk; cases hk
        rw [hroi] at hro; cases hro
        rw [hcelli] at hcell; cases hcell
        have ht' : thru (q2 :: q) (p2 :: p) n = false := by
          rw [thru_cons] at ht; exact ht
        obtain ⟨i1, ⟨y', i2, i3⟩, i4⟩ := path_set hb hb' hc' hl hf hxl hyi (hndi nd) hg hloci (fun b1 m e => hR b1 (hsubi b1 m) e) hq' ht'
        refine ⟨?_, ⟨y', ?_, fun hh => i3 ?_⟩, ?_⟩
        · simp only [locate, hbo, hki, hk', hlen, hcell', hcelli, hroi, hro']
          exact i1
        · rw [getN_step, hk']
          simp only [hro']
          exact i2
        · rw [hits_cons] at hh; exact hh
        · intro hh b1 o1 hl1
          refine i4 ?_ b1 o1 ?_
          · rw [hits_cons] at hh; exact hh
          · simp only [locate, hbo, hki, hcelli, hroi] at hl1
            exact hl1
      · have hbRy : ∀ b1 ∈ Ry, h'[b1]? = h[b1]? := fun b1 m => by
          refine hR b1 (hsub b1 m) fun e => ?_
          subst e
          -- two cells of one block own nothing in common
          exact path_apart r nd hk hro hki hroi hne hbo hb0 hcx hci hy hyi m hbin
        refine ⟨?_, ⟨y, ?_, fun _ => .inl rfl⟩, ?_⟩
        · simp only [locate, hbo, hk, hk', hlen, hcell, hcell', hro, hro']
          exact locate_keep hy hbRy
        · rw [getN_step, hk']
          simp only [hro']
          exact hq'
        · intro _ b1 o1 hl1
          simp only [locate, hbo, hk, hcell, hro] at hl1
          have hm : b1 ∈ Ry := by
            obtain ⟨b2, o2, _, _, _, R2, F⟩ := focus hy (hnd nd) hq'
            have := F.loc
            rw [hl1] at this
            cases this
            exact F.perm.mem_iff.2 (List.mem_append.2 (.inr F.mem))
          exact cellAt_congr (hbRy b1 hm) o1
termination_by p _ _ _ _ _ _ _ _ _ q => (p.length, q.length)
decreasing_by
  · exact Prod.Lex.right _ (by simp)
  · exact Prod.Lex.left _ _ (by simp)
end Go.Fm
