/- A function's body: the frame at its start, the results at its end; code as data. -/
import Derived.Test.YthfkhokmgolabaaDoorFmReg
import Derived.OwnWalk
set_option linter.unusedVariables false
set_option linter.unusedSimpArgs false
namespace Go.Fm
open Go

def entryFrom : Nat → List FV → Env
  | _, [] => []
  | i, f :: fs => (i, f) :: entryFrom (i + 1) fs

theorem entry_mem : ∀ {fs : List FV} {i : Nat} {x : Nat × FV}, x ∈ entryFrom i fs → i ≤ x.1
  | [], _, _, h => by simp [entryFrom] at h
  | f :: fs, i, x, h => by
    simp only [entryFrom, List.mem_cons] at h
    rcases h with rfl | h
    · exact Nat.le_refl _
    · have := entry_mem h; omega
theorem entry_sorted : ∀ (fs : List FV) (i : Nat), (entryFrom i fs).Sorted
  | [], _ => List.Pairwise.nil
  | f :: fs, i => List.Pairwise.cons (fun x h => by have := entry_mem h; simp only; omega) (entry_sorted fs (i + 1))

theorem entry_renv {h : Array Obj} {S : Nat → Prop} {val : Nat → Value} {E : Env} : ∀ {fs : List FV} {vs : List Value} {R : List Nat} {i : Nat}, Rep h S vs fs R → (∀ k v, vs[k]? = some v → val (i + k) = v) → REnv h S val E (entryFrom i fs) R
  | [], vs, R, i, r, hv => by cases r; exact .nil
  | f :: fs, [], R, i, r, hv => by have := r.length; simp at this
  | f :: fs, v :: vs, R, i, r, hv => by
    obtain ⟨R1, R2, h1, h2, rfl⟩ := r.cons_inv
    refine .own (by have := hv 0 v (by simp); simp only [Nat.add_zero] at this; rw [this]; exact h1) (entry_renv h2 fun k u hk => ?_)
    have := hv (k + 1) u (by simpa using hk)
    rw [← this]; congr 1; omega

/-- results -/
inductive RV where
  | t (n : Nat)
  | c (n size : Nat) (agg : Bool)
def RV.out (E : Env) : RV → Option (FV × Env)
  | .t n => some (E.pass true (.t n))
  | .c n size agg => match E.get n with
    | .box cs => if cs.length = size then (if agg then some (.agg cs, E.upd n .undef) else match cs with
        | [x] => some (x, E.upd n .undef)
        | _ => none) else none
    | _ => none
def outs (E : Env) : List RV → Option (List FV × Env)
  | [] => some ([], E)
  | r :: rs => match r.out E with
    | some (f, E1) => match outs E1 rs with
      | some (fs, E2) => some (f :: fs, E2)
      | none => none
    | none => none
def RV.chk (P : Program) (N : Nat) : RV → ResultVar → Bool
  | .t n, .tmp m => n == m && decide (n < N)
  | .c n size agg, .cell m ty => n == m && (decide (n < N) && (isAggT P ty == some agg && sizeIs P ty size))
  | _, _ => false
inductive All2 {α β : Type} (r : α → β → Prop) : List α → List β → Prop
  | nil : All2 r [] []
  | cons {x y xs ys} : r x y → All2 r xs ys → All2 r (x :: xs) (y :: ys)
def oneV (vs : List Value) : Value :=
  match vs with
  | [v] => v
  | vs => .tuple vs.toArray
def one (fs : List FV) : FV :=
  match fs with
  | [f] => f
  | _ => .tup fs

section
variable {P : Program} {N : Nat} {xv : Nat → Value} {a : Act} {w : World}

def rvRun (a : Act) : ResultVar → Sem Value
  | .tmp t => pure (a.tmps.getD t undef)
  | .cell b t => do loadVar t (← asAddr (a.tmps.getD b undef))

theorem out1 {E : Env} {S : Nat → Prop} {R : List Nat} (r : Rel N xv E a w S R) {q : RV} {x : ResultVar} (hc : q.chk P N x = true) {f : FV} {E' : Env} (h : q.out E = some (f, E')) :
    ∃ v S' Rf R', (rvRun a x).run P w = .ok v w ∧ Passed N xv a w S R v f E' S' Rf R' := by
  cases q with
  | t n =>
    cases x <;> simp only [RV.chk, Bool.false_eq_true] at hc
    simp only [Bool.and_eq_true, beq_iff_eq, decide_eq_true_eq] at hc
    obtain ⟨rfl, hn⟩ := hc
    obtain ⟨S', Rf, R', p⟩ := passed r (s := .t n) (x := .tmp n) (by simp [Sr.fits, hn]) true
    simp only [RV.out, Option.some.injEq] at h
    rw [h] at p
    exact ⟨_, S', Rf, R', rfl, p⟩
  | c n size agg =>
    cases x <;> simp only [RV.chk, Bool.false_eq_true] at hc
    rename_i m t
    simp only [Bool.and_eq_true, beq_iff_eq, decide_eq_true_eq] at hc
    obtain ⟨rfl, hn, ha, hs⟩ := hc
    simp only [RV.out] at h
    cases hg : E.get n <;> rw [hg] at h <;> try (cases h; done)
    rename_i cs
    simp only at h
    split at h <;> try (cases h; done)
    rename_i hlen
    obtain ⟨Rf, R2, h1, h2, h3⟩ := r.swap (d := n) (by rw [hg]; rfl)
    rw [hg] at h1
    have hval := eval_val (a := a) (xv := xv) r.small hn
    have hnd := h2.nodup_iff.1 r.nodup
    obtain ⟨R', h4, h5⟩ := h3 (S' := S) (f := .undef) (Rg := []) (.undef .nil) (fun _ h => h) (fun b hb => ⟨(r.sep b hb).1, by simp, fun m => (r.sep b hb).2 (h2.mem_iff.2 (by simp [m]))⟩) (by simp) (by simp)
    have hR' : ∀ b, b ∈ R' → b ∈ R2 := fun b m => by simpa using h5.mem_iff.1 m
    generalize hvv : valOf a xv n = v at h1
    cases h1 with
    | @box b c T _ _ _ Rx Ry hb hr ht =>
    cases ht
    simp only [List.append_nil] at h2 hnd
    have hv : a.tmps.getD n undef = .pointer (some ⟨b, 0, none⟩) := by
      have : a.eval (.tmp n) = .pointer (some ⟨b, 0, none⟩) := by rw [← hval, hvv]
      exact this
    have hcl : c.toList.length = size := by rw [← hlen]; exact hr.length
    have hcell : ∀ k, k < size → cellAt w.heap b (0 + k) = c.toList[k]? := fun k hk => by
      unfold cellAt; rw [hb]; simp
    have mk : ∀ {v f}, (rvRun a (.cell n t)).run P w = .ok v w → Rep w.heap S [v] [f] Rx → ∃ v S' Rf R', (rvRun a (.cell n t)).run P w = .ok v w ∧ Passed N xv a w S R v f (E.upd n .undef) S' Rf R' := fun hrun hrep => by
      have hsub : ∀ b, b ∈ Rx → b ∈ R := fun b m => h2.mem_iff.2 (by simp [m])
      refine ⟨_, S, Rx, R', hrun, hrep, h4, ?_, ?_, fun _ h => h, fun _ h => .inl h, fun b m => h2.mem_iff.2 (by simp [hR' b m]), hsub⟩
      · exact (List.nodup_append.1 (List.nodup_cons.1 hnd).2).1
      · exact fun b m => ⟨fun m' => (List.nodup_append.1 (List.nodup_cons.1 hnd).2).2.2 b m b (hR' b m') rfl, fun hb => (r.sep b hb).2 (hsub b m)⟩
    split at h
    · rename_i hagg
      subst hagg
      cases h
      refine mk (v := .agg c.toList.toArray) ?_ ?_
      · simp only [rvRun, hv, asAddr, Sem.run_bind, Sem.run_pure, Result.andThen_ok]
        exact run_loadVar_agg ha hs hcl hcell
      · have := Rep.agg (vs := []) (fs := []) (R := []) hr .nil
        simpa using this
    · rename_i hagg
      have hagg : agg = false := by simpa using hagg
      subst hagg
      split at h <;> try (cases h; done)
      rename_i x
      cases h
      have hc1 : ∃ y, c.toList = [y] := by
        have := hr.length
        match hcc : c.toList, this with
        | [y], _ => exact ⟨y, rfl⟩
      obtain ⟨y, hy⟩ := hc1
      rw [hy] at hr
      refine mk (v := y) ?_ hr
      simp only [rvRun, hv, asAddr, Sem.run_bind, Sem.run_pure, Result.andThen_ok]
      refine run_loadVar_one ha ?_
      have := hcell 0 (by rw [← hcl, hy]; simp)
      simpa [hy] using this

theorem outL : ∀ {qs : List RV} {xs : List ResultVar} {E : Env} {S : Nat → Prop} {R : List Nat} {fs : List FV} {E' : Env} (r : Rel N xv E a w S R) (hc : List.all (qs.zip xs) (fun y => y.1.chk P N y.2) = true) (hl : qs.length = xs.length) (h : outs E qs = some (fs, E')),
    ∃ vs S' Rf R', All2 (fun x v => (rvRun a x).run P w = .ok v w) xs vs ∧ PassedL N xv a w S R vs fs E' S' Rf R'
  | [], [], E, S, R, fs, E', r, _, _, h => by
    simp only [outs, Option.some.injEq, Prod.mk.injEq] at h
    obtain ⟨rfl, rfl⟩ := h
    exact ⟨[], S, [], R, .nil, .nil, r, by simp, by simp, fun _ h => h, fun _ h => .inl h, fun _ h => h, by simp⟩
  | q :: qs, [], E, S, R, fs, E', r, _, hl, _ => by simp at hl
  | [], x :: xs, E, S, R, fs, E', r, _, hl, _ => by simp at hl
  | q :: qs, x :: xs, E, S, R, fs, E', r, hc, hl, h => by
    simp only [List.zip_cons_cons, List.all_cons, Bool.and_eq_true] at hc
    simp only [outs] at h
    cases h1 : q.out E with
    | none => rw [h1] at h; cases h
    | some y =>
    obtain ⟨f, E1⟩ := y
    rw [h1] at h
    simp only at h
    cases h2 : outs E1 qs with
    | none => rw [h2] at h; cases h
    | some y =>
    obtain ⟨fs', E2⟩ := y
    rw [h2] at h
    simp only [Option.some.injEq, Prod.mk.injEq] at h
    obtain ⟨rfl, rfl⟩ := h
    obtain ⟨v, S1, Rf1, R1, hr1, p1⟩ := out1 r hc.1 h1
    obtain ⟨vs, S2, Rf2, R2, hr2, p2⟩ := outL p1.rel hc.2 (by simpa using hl) h2
    refine ⟨v :: vs, S2, Rf1 ++ Rf2, R2, .cons hr1 hr2, ?_, p2.rel, ?_, ?_, fun b h => p2.seals b (p1.seals b h), ?_, fun b m => p1.sub b (p2.sub b m), ?_⟩
    · exact (p1.rep.mono p2.seals (Nat.le_refl _) (fun _ _ _ => rfl) (fun _ _ => rfl)).cons p2.rep
    · rw [List.nodup_append]
      exact ⟨p1.nodup, p2.nodup, fun b m b' m' e => (p1.apart b m).1 (e ▸ p2.subf b' m')⟩
    · intro b m
      rcases List.mem_append.1 m with m | m
      · refine ⟨fun m' => (p1.apart b m).1 (p2.sub b m'), fun hb => ?_⟩
        rcases p2.news b hb with h | h
        · exact (p1.apart b m).2 h
        · exact (p1.apart b m).1 h
      · exact p2.apart b m
    · intro b hb
      rcases p2.news b hb with h | h
      · exact p1.news b h
      · exact .inr (p1.sub b h)
    · intro b m
      rcases List.mem_append.1 m with m | m
      · exact p1.subf b m
      · exact p1.sub b (p2.subf b m)

/-- the model's tuple of results -/
theorem run_results {fn : Func} {vs : List Value} (hl : fn.results.size ≤ 4) (h : All2 (fun x v => (rvRun a x).run P w = .ok v w) fn.results.toList vs) :
    (results fn a.tmps).run P w = .ok (oneV vs) w := by
  generalize hl0 : fn.results.toList = l at h
  have hl' : fn.results = List.toArray l := by rw [← hl0, Array.toArray_toList]
  rw [hl'] at hl
  simp only [List.size_toArray] at hl
  have step : ∀ x : ResultVar, (match x with | .tmp t => pure (a.tmps.getD t undef) | .cell b t => do loadVar t (← asAddr (a.tmps.getD b undef)) : Sem Value) = rvRun a x := fun x => by cases x <;> rfl
  have key : (results fn a.tmps).run P w = ((List.toArray l).mapM (rvRun a) >>= fun vs => pure (if h : vs.size = 1 then vs[0] else .tuple vs)).run P w := by
    unfold results
    rw [hl']
    rfl
  rw [key]
  cases h with
  | nil => simp [oneV]
  | cons h1 h =>
    cases h with
    | nil => simp [oneV, h1]
    | cons h2 h =>
      cases h with
      | nil => simp [oneV, h1, h2]
      | cons h3 h =>
        cases h with
        | nil => simp [oneV, h1, h2, h3]
        | cons h4 h =>
          cases h with
          | nil => simp [oneV, h1, h2, h3, h4]
          | cons _ _ => simp at hl

theorem one_rep {h : Array Obj} {S : Nat → Prop} {vs : List Value} {fs : List FV} {R : List Nat} (r : Rep h S vs fs R) : Rep h S [oneV vs] [one fs] R := by
  have hl := r.length
  have tup : Rep h S [.tuple vs.toArray] [.tup fs] R := by
    have := Rep.tup (vs := []) (fs := []) (R := []) r .nil
    simpa using this
  match vs, fs, hl with
  | [], [], _ => exact tup
  | [v], [f], _ => exact r
  | _ :: _ :: _, _ :: _ :: _, _ => exact tup

/-- a call of a function with a body -/
theorem FCall.body {f : FuncId} {fn : Func} {c : Code} {fs : List FV} {rs : List RV} {K : FV → Prop} (hf : P.funcs[f]? = some fn) (hb : fn.body = some c) (hN : fn.ntmps = N) (hX : N ≤ X0) (hlen : fs.length ≤ N)
    (hr : List.all (rs.zip fn.results.toList) (fun y => y.1.chk P N y.2) = true) (hrl : rs.length = fn.results.toList.length) (h4 : fn.results.size ≤ 4)
    (h : CodeOk P N c (entryFrom 0 fs) (fun e E' => (e = .normal ∨ e = .ret) ∧ ∃ x, outs E' rs = some x ∧ K (one x.1))) : FCall P f fs K := by
  refine ⟨fun {w S R vs} hA hrep hnd hsep => ?_⟩
  refine calls_of_wp hf hb ?_
  have hvl := hrep.length
  have hrel : Rel N (fun _ => undef) (entryFrom 0 fs) { tmps := vs.toArray ++ Array.replicate (fn.ntmps - vs.toArray.size) undef, defers := [] } w S R := by
    refine ⟨entry_renv hrep ?_, entry_sorted fs 0, hnd, hsep, by simp; omega, hX, rfl⟩
    intro k v hk
    have hkl : k < vs.length := by
      rcases Nat.lt_or_ge k vs.length with h | h
      · exact h
      · rw [List.getElem?_eq_none h] at hk; cases hk
    unfold valOf
    rw [if_pos (by omega), Nat.zero_add, Array.getD_eq_getD_getElem?, Array.getElem?_append_left (by simpa using hkl)]
    simp [hk]
  refine wp_mono (h hA hrel) fun e a w' hp => ?_
  obtain ⟨E', S', R', ⟨he, x, hx, hK⟩, r', e1⟩ := hp
  obtain ⟨fs', E2⟩ := x
  obtain ⟨vs', S2, Rf, R2, hall, p⟩ := outL r' hr hrl hx
  have hres := run_results (P := P) h4 hall
  have fin : bodyPost P fn (fun e w' => ∃ v r S' R', e = .returned v ∧ K r ∧ Rep w'.heap S' [v] [r] R' ∧ R'.Nodup ∧ (∀ b, S' b → b < w'.heap.size ∧ b ∉ R') ∧ Ext w S R w' S' R') .ret a w' := by
    refine ⟨r'.nodef, _, hres, _, one fs', S2, Rf, rfl, hK, one_rep p.rep, p.nodup, fun b hb => ⟨(p.rel.sep b hb).1, fun m => (p.apart b m).2 hb⟩, ?_⟩
    refine e1.trans ⟨p.seals, fun b hb => (p.news b hb).imp id .inl, fun _ _ _ => rfl, Nat.le_refl _, fun b m => .inl (p.subf b m), rfl, rfl, rfl, fun _ h => h⟩
  rcases he with rfl | rfl
  · exact fin
  · exact fin
end
end Go.Fm
