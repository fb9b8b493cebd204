/- Loads, stores and addresses. -/
import Derived.Test.YthfkhokmgolabaaDoorFmOps
set_option linter.unusedVariables false
set_option linter.unusedSimpArgs false
namespace Go.Fm
open Go

section
variable {P : Program} {N : Nat} {o : Oper} {E : Env} {d : Nat}

theorem add_eq (b o j : Nat) : (Addr.add ⟨b, o, none⟩ j) = ⟨b, o + j, none⟩ := by
  unfold Addr.add
  split
  · rename_i h; subst h; rfl
  · rfl

theorem run_loadCells' {w : World} {b o : Nat} {cs : List Value} {n : Nat} (hn : cs.length = n) (h : ∀ k, k < n → cellAt w.heap b (o + k) = cs[k]?) :
    (loadCells ⟨b, o, none⟩ n).run P w = .ok cs.toArray w := by
  subst hn
  refine run_loadCells_list w _ cs fun j v hj => ?_
  rw [add_eq, cell?_eq]
  have hlt : j < cs.length := by
    rcases Nat.lt_or_ge j cs.length with h1 | h1
    · exact h1
    · rw [List.getElem?_eq_none h1] at hj; cases hj
  rw [h j hlt, hj]

theorem run_loadVar_agg {w : World} {t : TypeId} {b o n : Nat} {cs : List Value} (ha : isAggT P t = some true) (hs : sizeIs P t n = true) (hn : cs.length = n)
    (h : ∀ k, k < n → cellAt w.heap b (o + k) = cs[k]?) : (loadVar t ⟨b, o, none⟩).run P w = .ok (.agg cs.toArray) w := by
  unfold sizeIs at hs
  cases hi : P.info? t with
  | none => rw [hi] at hs; cases hs
  | some i =>
    rw [hi] at hs
    simp only [beq_iff_eq] at hs
    subst hs
    simp only [loadVar, Sem.run_bind, run_isAgg' ha, Result.andThen_ok, Sem.run_ite, if_true, run_sizeOf' hi, run_loadCells' hn h, Sem.run_pure]
theorem run_loadVar_one {w : World} {t : TypeId} {b o : Nat} {v : Value} (ha : isAggT P t = some false) (h : cellAt w.heap b o = some v) : (loadVar t ⟨b, o, none⟩).run P w = .ok v w := by
  simp only [loadVar, Sem.run_bind, run_isAgg' ha, Result.andThen_ok, Sem.run_ite, Bool.false_eq_true, if_false, run_load, cell?_eq, h]

/-- what a pointer leads to: the cells, and their values in memory -/
theorem Rel.cells {xv : Nat → Value} {a : Act} {w : World} {S : Nat → Prop} {R : List Nat} (r : Rel N xv E a w S R) {q : Nat} {p : Path} {n : Nat} {xs : List FV} {v : Value}
    (he : ptrAt w.heap (valOf a xv) E q p = some v) (hg : getN (E.get q) p n = some xs) :
    ∃ b o cs Rx R2, v = .pointer (some ⟨b, o, none⟩) ∧ locate w.heap (valOf a xv q) (E.get q) p = some (b, o) ∧ cs.length = n ∧ (∀ k, k < n → cellAt w.heap b (o + k) = cs[k]?) ∧ Rep w.heap S cs xs Rx ∧ R.Perm (Rx ++ R2) := by
  obtain ⟨b, o, c, T, Rx, R2, hloc, hb, hf, hr, hp, _, _⟩ := r.tree hg
  simp only [ptrAt, hloc] at he
  cases hg1 : getN (E.get q) p 1 with
  | none => rw [hg1] at he; cases he
  | some ys =>
    rw [hg1] at he
    refine ⟨b, o, (c.toList.drop o).take n, Rx, R2, (Option.some.inj he).symm, hloc, by simp; omega, ?_, hr, hp⟩
    intro k hk
    unfold cellAt
    rw [hb]
    simp [List.getElem?_take, hk]

theorem Rep.ref_inv {h : Array Obj} {S : Nat → Prop} {v : Value} {gs : List FV} {R : List Nat} (r : Rep h S [v] [.ref gs] R) : ∃ b o cs, v = .pointer (some ⟨b, o, none⟩) ∧ S b ∧ b < h.size ∧ (∀ k, k < cs.length → cellAt h b (o + k) = cs[k]?) ∧ Rep h S cs gs [] := by
  cases r with
  | ref hS hlt hc hr ht => exact ⟨_, _, _, rfl, hS, hlt, hc, hr⟩

/-- a load: its value, by the address -/
def ldF (E : Env) (adr : FV) (n : Nat) (agg : Bool) : Option FV :=
  match adr with
  | .ref cs => if n ≤ cs.length then (if agg then some (.agg (cs.take n)) else if n = 1 then cs.head? else none) else none
  | .ptr q p => match getN (E.get q) p n with
    | none => none
    | some xs => if agg then (if xs.all FV.plain then some (.agg xs) else none) else
        match xs with
        | [x] => if x.isSl then some (.al q p) else if x.plain then some x else none
        | _ => none
  | _ => none

theorem Rep.takeD {h : Array Obj} {S : Nat → Prop} {cs : List Value} {gs : List FV} (r : Rep h S cs gs []) (n : Nat) : Rep h S (cs.take n) (gs.take n) [] ∧ Rep h S (cs.drop n) (gs.drop n) [] := by
  obtain ⟨R1, R2, h1, h2, e⟩ := r.split n
  have e1 := List.append_eq_nil_iff.1 e.symm
  rw [e1.1] at h1
  rw [e1.2] at h2
  exact ⟨h1, h2⟩

theorem ok_load {t : TypeId} {s : Sr} {x : Operand} {n : Nat} {agg : Bool} {f : FV} (ho : o.op = .load t x) (hd : o.dst = some d) (hdN : d < N) (hs : s.fits N x = true) (ha : isAggT P t = some agg) (hn : sizeIs P t n = true)
    (hl : ldF E (E.look s) n agg = some f) (hroot : f.notRoot d = true) : OpOk P N o E (· = E.upd d f) := by
  refine ok_look hd hdN hroot ?_
  intro xv a w S R r
  have lk := looked r hs
  generalize E.look s = adr at lk hl
  cases adr <;> simp only [ldF] at hl <;> try (cases hl; done)
  case ref gs =>
    split at hl
    case isFalse => cases hl
    rename_i hnl
    obtain ⟨b, o', cs, hv, hS, hlt, hc, hr⟩ := (lk.rep rfl).ref_inv
    have hlen := hr.length
    cases agg
    · simp only [Bool.false_eq_true, if_false] at hl
      split at hl
      case isFalse => cases hl
      rename_i hn1
      subst hn1
      cases gs with
      | nil => cases hl
      | cons g gs =>
        simp only [List.head?_cons, Option.some.injEq] at hl
        subst hl
        cases cs with
        | nil => simp at hlen
        | cons c cs =>
          obtain ⟨R1, R2, h1, _, e⟩ := hr.cons_inv
          have e1 := List.append_eq_nil_iff.1 e.symm
          rw [e1.1] at h1
          refine ⟨c, ?_, .closed h1⟩
          have h0 := hc 0 (by simp)
          simp only [Nat.add_zero, List.getElem?_cons_zero] at h0
          simp [execOp, ho, Instr.loadAt, Instr.sureAddr, hv, run_loadVar_one ha h0]
    · simp only [if_true, Option.some.injEq] at hl
      subst hl
      refine ⟨.agg (cs.take n).toArray, ?_, .closed ?_⟩
      · have := run_loadVar_agg (P := P) (w := w) (b := b) (o := o') (cs := cs.take n) ha hn (by simp; omega) (fun k hk => by
          rw [hc k (by omega), List.getElem?_take_of_lt hk])
        simp [execOp, ho, Instr.loadAt, Instr.sureAddr, hv, this]
      · exact .agg (R1 := []) (hr.takeD n).1 .nil
  case ptr q p =>
    cases hg : getN (E.get q) p n with
    | none => rw [hg] at hl; cases hl
    | some xs =>
    rw [hg] at hl
    simp only at hl
    have he : ptrAt w.heap (valOf a xv) E q p = some (a.eval x) := by
      cases lk with
      | closed h => have := h.noalias _ (List.mem_singleton.2 rfl); cases this
      | ptr h => exact h
    obtain ⟨b, o', cs, Rx, R2, hv, hloc, hcl, hcc, hrep, hperm⟩ := r.cells he hg
    cases agg
    · simp only [Bool.false_eq_true, if_false] at hl
      have hone : ∃ x1, xs = [x1] := by
        match xs, hl with
        | [x1], _ => exact ⟨x1, rfl⟩
        | [], hl => simp at hl
        | _ :: _ :: _, hl => simp at hl
      obtain ⟨x1, rfl⟩ := hone
      have hn1 := getN_len hg
      simp only [List.length_cons, List.length_nil] at hn1
      subst hn1
      have hcs : ∃ c, cs = [c] := by
        match cs, hcl with
        | [c], _ => exact ⟨c, rfl⟩
      obtain ⟨c, rfl⟩ := hcs
      have h0 := hcc 0 (by omega)
      simp only [Nat.add_zero, List.getElem?_cons_zero] at h0
      refine ⟨c, ?_, ?_⟩
      · simp [execOp, ho, Instr.loadAt, Instr.sureAddr, hv, run_loadVar_one ha h0]
      · simp only at hl
        cases harr : x1.isSl with
        | true =>
          rw [harr] at hl
          simp only [if_true, Option.some.injEq] at hl
          subst hl
          refine .al ?_
          cases p with
          | nil => simp [getN] at hg
          | cons y p => simp only [hdrAt, hg, hloc, h0, harr, if_true]
        | false =>
          rw [harr] at hl
          have hl' : (if x1.plain then some x1 else none) = some f := by simpa using hl
          split at hl'
          · rename_i hp
            cases hl'
            have := hrep.plain (by simp [hp])
            subst this
            exact .closed hrep
          · cases hl'
    · simp only [if_true] at hl
      split at hl
      case isFalse => cases hl
      rename_i hp
      cases hl
      have := hrep.plain hp
      subst this
      refine ⟨.agg cs.toArray, ?_, .closed (.agg (R1 := []) hrep .nil)⟩
      have := run_loadVar_agg (P := P) (w := w) (b := b) (o := o') (cs := cs) ha hn hcl hcc
      simp [execOp, ho, Instr.loadAt, Instr.sureAddr, hv, this]

/-- a load that moves what it loads out of its place (take), or that seals it -/
def ldM (E : Env) (adr : FV) (n : Nat) (agg take : Bool) : Option (FV × Env) :=
  match adr with
  | .ptr q p => match getN (E.get q) p n with
    | none => none
    | some xs =>
      if agg then some (if take then (.agg xs, E.wr q p (List.replicate n .undef)) else (.agg (sealedL xs), E.wr q p (sealedL xs)))
      else match xs with
        | [x] => some (if take then (x, E.wr q p [.undef]) else (x.sealed, E.wr q p [x.sealed]))
        | _ => none
  | _ => none

theorem rep_undefs {h : Array Obj} {S : Nat → Prop} : ∀ (cs : List Value), Rep h S cs (List.replicate cs.length .undef) []
  | [] => .nil
  | c :: cs => .undef (rep_undefs cs)

theorem ok_loadM {t : TypeId} {s : Sr} {x : Operand} {n : Nat} {agg take : Bool} {f : FV} {E1 : Env} (ho : o.op = .load t x) (hd : o.dst = some d) (hdN : d < N) (hs : s.fits N x = true) (ha : isAggT P t = some agg) (hn : sizeIs P t n = true)
    (hl : ldM E (E.look s) n agg take = some (f, E1)) : OpOk P N o E (· = E1.upd d f) := by
  intro xv a w S R r
  have lk := looked r hs
  generalize E.look s = adr at lk hl
  cases adr <;> simp only [ldM] at hl <;> try (cases hl; done)
  case ptr q p =>
    cases hg : getN (E.get q) p n with
    | none => rw [hg] at hl; cases hl
    | some xs =>
    rw [hg] at hl
    simp only at hl
    have he : ptrAt w.heap (valOf a xv) E q p = some (a.eval x) := by
      cases lk with
      | closed h => have := h.noalias _ (List.mem_singleton.2 rfl); cases this
      | ptr h => exact h
    have hxl := getN_len hg
    obtain ⟨b, o', c, T, Rx, R2, hloc, hb, hf, hr, hp, hbm, back⟩ := r.tree hg
    have hv : a.eval x = .pointer (some ⟨b, o', none⟩) := by
      simp only [ptrAt, hloc] at he
      cases hg1 : getN (E.get q) p 1 with
      | none => rw [hg1] at he; cases he
      | some ys => rw [hg1] at he; exact (Option.some.inj he).symm
    have hcl : ((c.toList.drop o').take n).length = n := by simp; omega
    have hcc : ∀ k, k < n → cellAt w.heap b (o' + k) = ((c.toList.drop o').take n)[k]? := fun k hk => by
      unfold cellAt
      rw [hb]
      simp [List.getElem?_take, hk]
    generalize hcs : (c.toList.drop o').take n = cs at hr hcl hcc
    have hsplit : c.toList = c.toList.take o' ++ cs ++ c.toList.drop (o' + n) := by
      rw [← hcs, List.append_assoc, ← List.drop_drop, List.take_append_drop, List.take_append_drop]
    have hnd := hp.nodup_iff.1 r.nodup
    -- the value that is loaded
    have hrun : ∃ v, (execOp a.eval o).run P w = .ok (.value v) w ∧ (agg = true → v = .agg cs.toArray) ∧ (agg = false → xs.length = 1 → cs = [v]) := by
      cases agg
      · have hn1 : ∀ y, cs = [y] → cellAt w.heap b o' = some y := fun y e => by
          have := hcc 0 (by rw [← hcl, e]; simp)
          simpa [e] using this
        by_cases h1 : xs.length = 1
        · have : ∃ y, cs = [y] := by
            have : cs.length = 1 := by omega
            match cs, this with
            | [y], _ => exact ⟨y, rfl⟩
          obtain ⟨y, hy⟩ := this
          refine ⟨y, ?_, by simp, fun _ _ => hy⟩
          simp [execOp, ho, Instr.loadAt, Instr.sureAddr, hv, run_loadVar_one ha (hn1 y hy)]
        · exfalso
          match xs, hl, h1 with
          | [], hl, _ => simp at hl
          | _ :: _ :: _, hl, _ => simp at hl
      · refine ⟨.agg cs.toArray, ?_, fun _ => rfl, by simp⟩
        have := run_loadVar_agg (P := P) (w := w) (b := b) (o := o') (cs := cs) ha hn hcl hcc
        simp [execOp, ho, Instr.loadAt, Instr.sureAddr, hv, this]
    obtain ⟨v, hrun, hvagg, hvone⟩ := hrun
    refine wp_value hrun ?_
    rw [hd]
    cases take
    · -- sealed
      have hseal := hr.seal (S' := fun b => S b ∨ b ∈ Rx) (fun _ h => .inl h) (fun _ h => .inr h)
      obtain ⟨R', h5, h6⟩ := back (w' := w) (S' := fun b => S b ∨ b ∈ Rx) (cs' := cs) (c' := c) (xs' := sealedL xs) (Rx' := []) hcl (by rw [sealedL_eq]; simpa using hxl) hb hsplit (fun _ _ _ => rfl) (fun _ _ => rfl) (fun _ h => .inl h) (Nat.le_refl _) (fun _ _ _ => rfl) hseal (by simp) (by simp)
        (fun b hb => by
          rcases hb with hb | hb
          · exact ⟨(r.sep b hb).1, by simp, fun m => (r.sep b hb).2 (hp.mem_iff.2 (by simp [m]))⟩
          · exact ⟨hr.lt b hb, by simp, fun m => (List.nodup_append.1 hnd).2.2 b hb b m rfl⟩)
      have hsub : ∀ b ∈ R', b ∈ R := fun b m => hp.mem_iff.2 (by have := h6.mem_iff.1 m; simp at this; simp [this])
      have hval : Rep w.heap (fun b => S b ∨ b ∈ Rx) [v] [f] [] ∧ E1 = E.wr q p (sealedL xs) := by
        cases agg
        · simp only [Bool.false_eq_true, if_false] at hl
          match xs, hl with
          | [x1], hl =>
            simp only [Bool.false_eq_true, if_false, Option.some.injEq, Prod.mk.injEq] at hl
            obtain ⟨rfl, rfl⟩ := hl
            have := hvone rfl rfl
            rw [this] at hseal
            exact ⟨hseal, rfl⟩
          | [], hl => simp at hl
          | _ :: _ :: _, hl => simp at hl
        · simp only [if_true, Bool.false_eq_true, if_false, Option.some.injEq, Prod.mk.injEq] at hl
          obtain ⟨rfl, rfl⟩ := hl
          rw [hvagg rfl]
          exact ⟨.agg (R1 := []) hseal .nil, rfl⟩
      obtain ⟨hval, rfl⟩ := hval
      obtain ⟨R'', h7, h8⟩ := h5.upd hdN hval (by simp) (by simp)
      refine ⟨_, _, R'', rfl, h7, ⟨fun _ h => .inl h, fun b hb => hb.imp id (fun m => .inl (hp.mem_iff.2 (by simp [m]))), fun _ _ _ => rfl, Nat.le_refl _, fun b m => .inl ?_, rfl, rfl, rfl, fun _ h => h⟩⟩
      rcases h8 b m with h | h
      · simp at h
      · exact hsub b h
    · -- taken
      obtain ⟨R', h5, h6⟩ := back (w' := w) (S' := S) (cs' := cs) (c' := c) (xs' := List.replicate n .undef) (Rx' := []) hcl (by simp) hb hsplit (fun _ _ _ => rfl) (fun _ _ => rfl) (fun _ h => h) (Nat.le_refl _) (fun _ _ _ => rfl) (by rw [← hcl]; exact rep_undefs cs) (by simp) (by simp)
        (fun b hb => ⟨(r.sep b hb).1, by simp, fun m => (r.sep b hb).2 (hp.mem_iff.2 (by simp [m]))⟩)
      have hR2 : ∀ b ∈ R', b ∈ R2 := fun b m => by have := h6.mem_iff.1 m; simpa using this
      have hval : Rep w.heap S [v] [f] Rx ∧ E1 = E.wr q p (List.replicate n .undef) := by
        cases agg
        · simp only [Bool.false_eq_true, if_false] at hl
          match xs, hl with
          | [x1], hl =>
            simp only [if_true, Option.some.injEq, Prod.mk.injEq] at hl
            obtain ⟨rfl, rfl⟩ := hl
            have := hvone rfl rfl
            rw [this] at hr
            simp only [List.length_cons, List.length_nil] at hxl
            subst hxl
            exact ⟨hr, rfl⟩
          | [], hl => simp at hl
          | _ :: _ :: _, hl => simp at hl
        · simp only [if_true, Option.some.injEq, Prod.mk.injEq] at hl
          obtain ⟨rfl, rfl⟩ := hl
          rw [hvagg rfl]
          have := Rep.agg hr .nil
          exact ⟨by simpa using this, rfl⟩
      obtain ⟨hval, rfl⟩ := hval
      obtain ⟨R'', h7, h8⟩ := h5.upd hdN hval (fun b m => ⟨fun m' => (List.nodup_append.1 hnd).2.2 b m b (hR2 b m') rfl, fun hb => (r.sep b hb).2 (hp.mem_iff.2 (by simp [m]))⟩) (List.nodup_append.1 hnd).1
      refine ⟨_, _, R'', rfl, h7, Ext.refl _ _ _ _ fun b m => ?_⟩
      rcases h8 b m with h | h
      · exact hp.mem_iff.2 (by simp [h])
      · exact hp.mem_iff.2 (by simp [hR2 b h])

/-! ### stores -/
def FV.one : FV → Bool
  | .undef | .agg _ | .tup _ => false
  | _ => true
theorem Rep.one {h : Array Obj} {S : Nat → Prop} {vs fs R} (r : Rep h S vs fs R) (hp : fs.all FV.one = true) : ∀ v ∈ vs, v.oneCell' = true := by
  induction r with
  | nil => simp
  | undef _ _ | agg _ _ _ _ | tup _ _ _ _ => rw [List.all_cons, Bool.and_eq_true] at hp; cases hp.1
  | int _ ih | bool _ ih | str _ ih | nilp _ ih | nilf _ ih | nili _ ih | slNil _ ih | arrNil _ ih =>
    rw [List.all_cons, Bool.and_eq_true] at hp
    intro v m
    rcases List.mem_cons.1 m with rfl | m
    · rfl
    · exact ih hp.2 v m
  | iface _ _ _ ih | fn _ _ _ ih =>
    rw [List.all_cons, Bool.and_eq_true] at hp
    intro v m
    rcases List.mem_cons.1 m with rfl | m
    · rfl
    · exact ih hp.2 v m
  | sl _ _ _ _ _ _ _ _ _ _ _ _ ih =>
    rw [List.all_cons, Bool.and_eq_true] at hp
    intro v m
    rcases List.mem_cons.1 m with rfl | m
    · rfl
    · exact ih hp.2 v m
  | ref _ _ _ _ _ _ ih =>
    rw [List.all_cons, Bool.and_eq_true] at hp
    intro v m
    rcases List.mem_cons.1 m with rfl | m
    · rfl
    · exact ih hp.2 v m
  | arr _ _ _ _ _ _ _ _ _ ih =>
    rw [List.all_cons, Bool.and_eq_true] at hp
    intro v m
    rcases List.mem_cons.1 m with rfl | m
    · rfl
    · exact ih hp.2 v m
  | box _ _ _ _ ih =>
    rw [List.all_cons, Bool.and_eq_true] at hp
    intro v m
    rcases List.mem_cons.1 m with rfl | m
    · rfl
    · exact ih hp.2 v m
  | iter _ _ ih =>
    rw [List.all_cons, Bool.and_eq_true] at hp
    intro v m
    rcases List.mem_cons.1 m with rfl | m
    · rfl
    · exact ih hp.2 v m
  | buf _ _ _ ih =>
    rw [List.all_cons, Bool.and_eq_true] at hp
    intro v m
    rcases List.mem_cons.1 m with rfl | m
    · rfl
    · exact ih hp.2 v m

/-- the model's cells written one behind the other -/
structure Wrote (w w' : World) (b o : Nat) (c c' : Array Value) (T : TypeId) (vs : List Value) : Prop where
  blk : w'.heap[b]? = some (.cells c' T (0, 0))
  cells : c'.toList = c.toList.take o ++ vs ++ c.toList.drop (o + vs.length)
  rest : ∀ b', b' ≠ b → w'.heap[b']? = w.heap[b']?
  size : w'.heap.size = w.heap.size
  os : w'.os = w.os
  tape : w'.tape = w.tape
  output : w'.output = w.output
  free : ∀ x : Addr, w'.frozen? x = w.frozen? x

theorem run_storeCells' {b : Nat} {T : TypeId} : ∀ (vs : List Value) (o i : Nat) (w : World) (c : Array Value), w.heap[b]? = some (.cells c T (0, 0)) → o + i + vs.length ≤ c.size → (∀ v ∈ vs, v.oneCell' = true) →
    ∃ w' c', (storeCells ⟨b, o, none⟩ vs i).run P w = .ok () w' ∧ Wrote w w' b (o + i) c c' T vs
  | [], o, i, w, c, hb, hl, _ => ⟨w, c, rfl, ⟨hb, by simp, fun _ _ => rfl, rfl, rfl, rfl, rfl, fun _ => rfl⟩⟩
  | v :: vs, o, i, w, c, hb, hl, h1 => by
    have hlt : o + i < c.size := by simp at hl; omega
    have hcell : w.cell? ⟨b, o + i, none⟩ = some c[o + i] := by
      rw [cell?_eq]; unfold cellAt; rw [hb]; simp [hlt]
    have hfz : w.frozen? ⟨b, o + i, none⟩ = false := by
      unfold World.frozen?; rw [hb]; simp
    have hst : (store ⟨b, o + i, none⟩ v).run P w = .ok () (w.setCell ⟨b, o + i, none⟩ v) := by
      rw [run_store P w _ v _ (h1 v (by simp)), hcell]
      simp only
      rw [hfz]
      simp
    have hb1 : (w.setCell ⟨b, o + i, none⟩ v).heap[b]? = some (.cells (c.setIfInBounds (o + i) v) T (0, 0)) := by
      unfold World.setCell
      simp only [Array.getElem?_modify, if_true, hb, Option.map_some]
      rfl
    obtain ⟨w', c', hrun, W⟩ := run_storeCells' vs o (i + 1) (w.setCell ⟨b, o + i, none⟩ v) (c.setIfInBounds (o + i) v) hb1 (by simp at hl ⊢; omega) (fun x m => h1 x (by simp [m]))
    refine ⟨w', c', ?_, ⟨W.blk, ?_, fun b' hb' => ?_, ?_, W.os, W.tape, W.output, fun x => ?_⟩⟩
    · simp only [storeCells, Sem.run_bind, add_eq, hst, Result.andThen_ok, hrun]
    · rw [W.cells]
      have e1 : (c.setIfInBounds (o + i) v).toList = c.toList.take (o + i) ++ v :: c.toList.drop (o + i + 1) := by
        rw [Array.toList_setIfInBounds, List.set_eq_take_append_cons_drop, if_pos (by simpa using hlt)]
      rw [e1]
      have e2 : (c.toList.take (o + i)).length = o + i := by simp; omega
      rw [show o + (i + 1) = (c.toList.take (o + i)).length + 1 by omega]
      rw [List.take_append, List.drop_append]
      simp only [List.length_cons]
      rw [List.take_of_length_le (by omega)]
      simp [e2]
      congr 1
      · rw [List.drop_of_length_le (by simp; omega)]
        rw [show o + i + 1 + vs.length - (o + i) = vs.length + 1 by omega]
        simp [Nat.add_assoc, Nat.add_comm, Nat.add_left_comm]
    · rw [W.rest b' hb']
      unfold World.setCell
      simp only [Array.getElem?_modify]
      rw [if_neg (fun e => hb' e.symm)]
    · rw [W.size]; simp [World.setCell]
    · rw [W.free x]
      exact World.frozen?_setCell _ _ _ _

/-- a store: the value is handed on to the place -/
def stF (E : Env) (adr s : Sr) (n : Nat) (deep : Bool) : Option Env :=
  match (E.pass deep s).2.look adr with
  | .ptr q p => match getN ((E.pass deep s).2.get q) p n with
    | none => none
    | some _ => if (E.pass deep s).1.cells.length = n ∧ (E.pass deep s).1.cells.all FV.one = true then some ((E.pass deep s).2.wr q p (E.pass deep s).1.cells) else none
  | _ => none

theorem ok_store {t : TypeId} {ad s : Sr} {x y : Operand} {n : Nat} {deep : Bool} {E1 : Env} (ho : o.op = .store t x y) (hd : o.dst = none) (hs1 : ad.fits N x = true) (hs2 : s.fits N y = true) (hn : sizeIs P t n = true)
    (hl : stF E ad s n deep = some E1) : OpOk P N o E (· = E1) := by
  intro xv a w S R r
  obtain ⟨S', Rf, R', p⟩ := passed r hs2 deep
  have lk := looked p.rel hs1
  unfold stF at hl
  generalize hadr : (E.pass deep s).2.look ad = adr at lk hl
  cases adr <;> simp only at hl <;> try (cases hl; done)
  case ptr q pa =>
    cases hg : getN ((E.pass deep s).2.get q) pa n with
    | none => rw [hg] at hl; cases hl
    | some xs =>
    rw [hg] at hl
    simp only at hl
    split at hl
    case isFalse => cases hl
    rename_i hc
    obtain ⟨hcl, hone⟩ := hc
    cases hl
    have he : ptrAt w.heap (valOf a xv) (E.pass deep s).2 q pa = some (a.eval x) := by
      cases lk with
      | closed h => have := h.noalias _ (List.mem_singleton.2 rfl); cases this
      | ptr h => exact h
    have hu : (E.pass deep s).1 ≠ .undef := by
      intro e; rw [e] at hone; simp [FV.cells, FV.one] at hone
    have hrep := p.rep.cells hu
    have hvl := hrep.length
    obtain ⟨b, o', c, T, Rx, R2, hloc, hb, hf, hr, hp, hbm, back⟩ := p.rel.tree hg
    have hv : a.eval x = .pointer (some ⟨b, o', none⟩) := by
      simp only [ptrAt, hloc] at he
      cases hg1 : getN ((E.pass deep s).2.get q) pa 1 with
      | none => rw [hg1] at he; cases he
      | some ys => rw [hg1] at he; exact (Option.some.inj he).symm
    have hbR : b ∈ R' := hp.mem_iff.2 (by simp [hbm])
    have hnd := hp.nodup_iff.1 p.rel.nodup
    obtain ⟨w', c', hrun, W⟩ := run_storeCells' (P := P) (a.eval y).cells.toList o' 0 w c hb (by rw [hvl, hcl]; omega) (hrep.one hone)
    rw [Nat.add_zero] at W
    refine wp_skip' (w' := w') ?_ ?_
    · unfold sizeIs at hn
      cases hi : P.info? t with
      | none => rw [hi] at hn; cases hn
      | some i =>
        rw [hi] at hn
        simp only [beq_iff_eq] at hn
        have hsz : (a.eval y).cells.size = i.size := by
          rw [hn, ← hcl, ← hvl]; simp
        simp [execOp, ho, Instr.storeAt, Instr.sureAddr, hv, storeVar, run_sizeOf' hi, hsz, hrun]
    · rw [hd]
      have hSb : ¬ S' b := fun h => (p.rel.sep b h).2 hbR
      have hrep' : Rep w'.heap S' (a.eval y).cells.toList (E.pass deep s).1.cells Rf := hrep.mono (fun _ h => h) (by rw [W.size]; exact Nat.le_refl _)
        (fun b' hb' _ => W.rest b' (fun e => hSb (e ▸ hb'))) (fun b' m => W.rest b' (fun e => (p.apart b' m).1 (e ▸ hbR)))
      obtain ⟨R'', h5, h6⟩ := back (w' := w') (S' := S') (cs' := (a.eval y).cells.toList) (c' := c') (xs' := (E.pass deep s).1.cells) (Rx' := Rf) (by rw [hvl, hcl]) hcl W.blk (by rw [W.cells, hvl, hcl])
        (fun b' _ e => W.rest b' e) (fun b' m => W.rest b' (fun e => (List.nodup_append.1 hnd).2.2 b' m b hbm e)) (fun _ h => h) (by rw [W.size]; exact Nat.le_refl _)
        (fun b' hb' _ => W.rest b' (fun e => hSb (e ▸ hb'))) hrep' p.nodup (fun b' m m' => (p.apart b' m).1 (hp.mem_iff.2 (by simp [m'])))
        (fun b' hb' => ⟨by rw [W.size]; exact (p.rel.sep b' hb').1, fun m => (p.apart b' m).2 hb', fun m => (p.rel.sep b' hb').2 (hp.mem_iff.2 (by simp [m]))⟩)
      refine ⟨_, S', R'', rfl, ?_, ⟨p.seals, fun b hb => (p.news b hb).imp id .inl, fun b' hb' hn' => W.rest b' (fun e => hn' (e ▸ p.sub b hbR)), by rw [W.size]; exact Nat.le_refl _, fun b' m => .inl ?_, W.os, W.tape, W.output, fun _ h => h⟩⟩
      · simpa [Act.put] using h5
      · rcases List.mem_append.1 (h6.mem_iff.1 m) with m | m
        · exact p.subf b' m
        · exact p.sub b' (hp.mem_iff.2 (by simp [m]))

/-! ### addresses -/
/-- the last offset of a path moved on -/
def addOff : Path → Nat → Path
  | [], _ => []
  | [(i, o)], k => [(i, o + k)]
  | x :: y :: p, k => x :: addOff (y :: p) k

theorem locate_addOff {h : Array Obj} : ∀ {p : Path} {v : Value} {f : FV} {b o : Nat} {k : Nat}, locate h v f p = some (b, o) → locate h v f (addOff p k) = some (b, o + k)
  | [], v, f, b, o, k, e => by simp [locate] at e
  | [(i, u)], v, f, b, o, k, e => by
    simp only [locate, addOff] at e ⊢
    cases hb : blockOf v with
    | none => rw [hb] at e; cases e
    | some b0 =>
    cases hk : f.kids[i]? with
    | none => rw [hb, hk] at e; cases e
    | some row =>
      rw [hb, hk] at e
      simp only [Option.some.injEq, Prod.mk.injEq] at e ⊢
      exact ⟨e.1, by omega⟩
  | (i, u) :: y :: p, v, f, b, o, k, e => by
    have hadd : addOff ((i, u) :: y :: p) k = (i, u) :: addOff (y :: p) k := rfl
    have hne : ∃ y' p', addOff (y :: p) k = y' :: p' := by
      cases p with
      | nil => exact ⟨_, _, rfl⟩
      | cons z p => exact ⟨_, _, rfl⟩
    obtain ⟨y', p', hy⟩ := hne
    rw [hadd, hy]
    simp only [locate] at e ⊢
    cases hb : blockOf v with
    | none => rw [hb] at e; cases e
    | some b0 =>
    cases hk : f.kids[i]? with
    | none => rw [hb, hk] at e; cases e
    | some row =>
    rw [hb, hk] at e
    simp only at e ⊢
    cases hc : cellAt h b0 (i * row.length + u) with
    | none => rw [hc] at e; cases e
    | some vc =>
    cases hr : row[u]? with
    | none => rw [hc, hr] at e; cases e
    | some fc =>
      rw [hc, hr] at e
      simp only at e ⊢
      rw [← hy]
      exact locate_addOff e

/-- the address of a field -/
def faF (E : Env) (adr : FV) (off : Nat) : Option FV :=
  match adr with
  | .ref cs => if off ≤ cs.length then some (.ref (cs.drop off)) else none
  | .ptr q p => match getN (E.get q) (addOff p off) 1 with
    | none => none
    | some _ => some (.ptr q (addOff p off))
  | _ => none
def fieldIs (P : Program) (t : TypeId) (f off : Nat) : Bool :=
  match P.underlying t with
  | some (.struct fs) => match fs[f]? with
    | some g => g.offset == off && (match P.info? g.type with | some i => i.size != 0 | none => false)
    | none => false
  | _ => false

theorem Rel.ptr_add {xv : Nat → Value} {a : Act} {w : World} {S : Nat → Prop} {R : List Nat} {q : Nat} {p : Path} {k : Nat} {v : Value} {ys : List FV} (he : ptrAt w.heap (valOf a xv) E q p = some v) (hg : getN (E.get q) (addOff p k) 1 = some ys) :
    ∃ b o, v = .pointer (some ⟨b, o, none⟩) ∧ ptrAt w.heap (valOf a xv) E q (addOff p k) = some (.pointer (some ⟨b, o + k, none⟩)) := by
  simp only [ptrAt] at he ⊢
  cases hg1 : getN (E.get q) p 1 with
  | none => rw [hg1] at he; cases he
  | some zs =>
  rw [hg1] at he
  cases hl : locate w.heap (valOf a xv q) (E.get q) p with
  | none => rw [hl] at he; cases he
  | some bo =>
    obtain ⟨b, o⟩ := bo
    rw [hl] at he
    simp only [Option.some.injEq] at he
    exact ⟨b, o, he.symm, by rw [hg, locate_addOff hl]⟩

theorem Rep.ref_drop {h : Array Obj} {S : Nat → Prop} {b o k : Nat} {cs : List Value} {gs : List FV} (hS : S b) (hlt : b < h.size) (hc : ∀ j, j < cs.length → cellAt h b (o + j) = cs[j]?) (hr : Rep h S cs gs []) :
    Rep h S [.pointer (some ⟨b, o + k, none⟩)] [.ref (gs.drop k)] [] :=
  .ref hS hlt (cs := cs.drop k) (fun j hj => by
    rw [Nat.add_assoc, hc (k + j) (by simp at hj; omega), List.getElem?_drop]) (hr.takeD k).2 .nil

theorem ok_fieldAddr {t : TypeId} {s : Sr} {x : Operand} {fi off : Nat} {f : FV} (ho : o.op = .fieldAddr t x fi) (hd : o.dst = some d) (hdN : d < N) (hs : s.fits N x = true) (hfd : fieldIs P t fi off = true)
    (hl : faF E (E.look s) off = some f) (hroot : f.notRoot d = true) : OpOk P N o E (· = E.upd d f) := by
  refine ok_look hd hdN hroot ?_
  intro xv a w S R r
  have lk := looked r hs
  have hrun : ∀ b o', a.eval x = .pointer (some ⟨b, o', none⟩) → (execOp a.eval o).run P w = .ok (.value (.pointer (some ⟨b, o' + off, none⟩))) w := by
    intro b o' hv
    unfold fieldIs at hfd
    cases hu : P.underlying t with
    | none => rw [hu] at hfd; cases hfd
    | some de =>
    rw [hu] at hfd
    cases de <;> simp only at hfd <;> try (cases hfd; done)
    rename_i fs
    cases hfi : fs[fi]? with
    | none => rw [hfi] at hfd; cases hfd
    | some g =>
    rw [hfi] at hfd
    simp only [Bool.and_eq_true, beq_iff_eq] at hfd
    obtain ⟨rfl, h2⟩ := hfd
    cases hi : P.info? g.type with
    | none => rw [hi] at h2; cases h2
    | some i =>
      rw [hi] at h2
      have hne : i.size ≠ 0 := by simpa using h2
      simp [execOp, ho, Instr.fieldAt, run_underlying' hu, hfi, Instr.sureAddr, hv, fieldPlace, run_sizeOf' hi, hne, add_eq]
  generalize E.look s = adr at lk hl
  cases adr <;> simp only [faF] at hl <;> try (cases hl; done)
  case ref gs =>
    split at hl
    case isFalse => cases hl
    cases hl
    obtain ⟨b, o', cs, hv, hS, hlt, hc, hr⟩ := (lk.rep rfl).ref_inv
    exact ⟨_, hrun b o' hv, .closed (Rep.ref_drop hS hlt hc hr)⟩
  case ptr q p =>
    cases hg : getN (E.get q) (addOff p off) 1 with
    | none => rw [hg] at hl; cases hl
    | some ys =>
    rw [hg] at hl
    simp only [Option.some.injEq] at hl
    subst hl
    have he : ptrAt w.heap (valOf a xv) E q p = some (a.eval x) := by
      cases lk with
      | closed h => have := h.noalias _ (List.mem_singleton.2 rfl); cases this
      | ptr h => exact h
    obtain ⟨b, o', hv, he'⟩ := Rel.ptr_add (xv := xv) (S := S) (R := R) he hg
    exact ⟨_, hrun b o' hv, .ptr he'⟩

end
end Go.Fm
