/- Literals, make, sub-slices, fields of values, tuples, string indexes. -/
import Derived.Test.YthfkhokmgolabaaDoorFmArith
set_option linter.unusedVariables false
set_option linter.unusedSimpArgs false
namespace Go.Fm
open Go

theorem splice_foldl : ∀ (l : List Value) (cs : Array Value) (off j : Nat), off + j + l.length ≤ cs.size →
    ((l.zipIdx j).foldl (fun (c : Array Value) (x : Value × Nat) => c.setIfInBounds (off + x.2) x.1) cs).toList = cs.toList.take (off + j) ++ l ++ cs.toList.drop (off + j + l.length)
  | [], cs, off, j, h => by simp
  | v :: l, cs, off, j, h => by
    simp only [List.zipIdx_cons, List.foldl_cons]
    rw [splice_foldl l _ off (j + 1) (by simp at h ⊢; omega)]
    have hlt : off + j < cs.size := by simp at h; omega
    have e1 : (cs.setIfInBounds (off + j) v).toList = cs.toList.take (off + j) ++ v :: cs.toList.drop (off + j + 1) := by
      rw [Array.toList_setIfInBounds, List.set_eq_take_append_cons_drop, if_pos (by simpa using hlt)]
    have e2 : (cs.toList.take (off + j)).length = off + j := by simp; omega
    rw [e1, show off + (j + 1) = (cs.toList.take (off + j)).length + 1 by omega, List.take_append, List.drop_append, List.take_of_length_le (by omega)]
    simp [e2]
    congr 1
    rw [List.drop_of_length_le (by simp; omega), show off + j + 1 + l.length - (off + j) = l.length + 1 by omega]
    simp [Nat.add_assoc, Nat.add_comm, Nat.add_left_comm]

theorem splice_array (v : Array Value) (cs : Array Value) (off : Nat) (h : off + v.size ≤ cs.size) :
    (v.zipIdx.foldl (fun c (x : Value × Nat) => c.setIfInBounds (off + x.2) x.1) cs).toList = cs.toList.take off ++ v.toList ++ cs.toList.drop (off + v.size) := by
  rw [← Array.foldl_toList, Array.toList_zipIdx]
  have := splice_foldl v.toList cs off 0 (by simpa using h)
  simpa using this

/-- cells filled in, part by part -/
def fillF : List FV → List (Nat × Nat) → List FV → Option (List FV)
  | cs, [], [] => some cs
  | cs, (off, n) :: ps, f :: fs => if f.cells.length = n ∧ off + n ≤ cs.length ∧ f.cells.all FV.one = true then fillF (cs.take off ++ f.cells ++ cs.drop (off + n)) ps fs else none
  | _, _, _ => none

theorem fill_rep {h : Array Obj} {S : Nat → Prop} {place : Nat → Option (Nat × Nat)} : ∀ {ps : List (Nat × Nat)} {is : List Nat} {vs : List Value} {fs : List FV} {R0 Rf : List Nat} {cells : Array Value} {cs out : List FV}, Rep h S vs fs Rf → Rep h S cells.toList cs R0 →
    fillF cs ps fs = some out → is.length = ps.length → (∀ (j i : Nat) (p : Nat × Nat), is[j]? = some i → ps[j]? = some p → place i = some p) →
    ∃ cells' R', Instr.fill place cells (is.zip vs) = some cells' ∧ Rep h S cells'.toList out R' ∧ (∀ b ∈ R', b ∈ R0 ∨ b ∈ Rf) ∧ ((R0 ++ Rf).Nodup → R'.Nodup) ∧ cells'.size = cells.size
  | [], is, vs, [], R0, Rf, cells, cs, out, hr, hc, hf, hl, _ => by
    simp only [fillF, Option.some.injEq] at hf
    subst hf
    have : is = [] := List.eq_nil_of_length_eq_zero (by simpa using hl)
    subst this
    exact ⟨cells, R0, rfl, hc, fun b m => .inl m, fun nd => (List.nodup_append.1 nd).1, rfl⟩
  | [], is, vs, _ :: _, R0, Rf, cells, cs, out, hr, hc, hf, hl, _ => by simp [fillF] at hf
  | _ :: _, is, vs, [], R0, Rf, cells, cs, out, hr, hc, hf, hl, _ => by simp [fillF] at hf
  | (off, n) :: ps, [], vs, f :: fs, R0, Rf, cells, cs, out, hr, hc, hf, hl, _ => by simp at hl
  | (off, n) :: ps, i :: is, [], f :: fs, R0, Rf, cells, cs, out, hr, hc, hf, hl, _ => by have := hr.length; simp at this
  | (off, n) :: ps, i :: is, v :: vs, f :: fs, R0, Rf, cells, cs, out, hr, hc, hf, hl, hp => by
    simp only [fillF] at hf
    split at hf
    case isFalse => cases hf
    rename_i hcond
    obtain ⟨h1, h2, h3⟩ := hcond
    obtain ⟨R1, R2, r1, r2, rfl⟩ := hr.cons_inv
    have hu : f ≠ .undef := by intro e; subst e; simp [FV.cells, FV.one] at h3
    have hcells := r1.cells hu
    have hcl := hcells.length
    have hl0 := hc.length
    have hsz : v.cells.size = n := by rw [← h1, ← hcl]; simp
    have hcs : cells.size = cs.length := by rw [← hl0]; simp
    obtain ⟨Ra, Rx, Rb, hx, rfl, back⟩ := hc.range (o := off) (n := n) h2
    have hnew := back (h' := h) (S' := S) (fun _ h => h) (Nat.le_refl _) (fun _ _ _ => rfl) (fun _ _ => rfl) (fun _ _ => rfl) hcells (by rw [hcl, h1])
    have harr := splice_array v.cells cells off (by omega)
    rw [hsz] at harr
    rw [← harr] at hnew
    obtain ⟨cells', R', e1, e2, e3, e4, e5⟩ := fill_rep (place := place) r2 hnew hf (by simpa using hl) (fun j i' p hi hp' => hp (j + 1) i' p (by simpa using hi) (by simpa using hp'))
    refine ⟨cells', R', ?_, e2, ?_, ?_, ?_⟩
    · simp only [List.zip_cons_cons, Instr.fill, hp 0 i (off, n) rfl rfl]
      rw [if_neg (by simp [hsz]; omega)]
      exact e1
    · intro b m
      rcases e3 b m with m | m
      · simp at m
        rcases m with m | m | m
        · exact .inl (by simp [m])
        · exact .inr (by simp [m])
        · exact .inl (by simp [m])
      · exact .inr (by simp [m])
    · intro nd
      apply e4
      have nd1 : ((Ra ++ (Rx ++ Rb)) ++ (R1 ++ R2)).Nodup := by simpa [List.append_assoc] using nd
      have p1 : ((Ra ++ (Rx ++ Rb)) ++ (R1 ++ R2)).Perm (Rx ++ (Ra ++ R1 ++ Rb ++ R2)) := by
        have a1 : (Ra ++ (Rx ++ Rb)).Perm (Rx ++ (Ra ++ Rb)) := by
          rw [← List.append_assoc, ← List.append_assoc]
          exact List.Perm.append_right _ List.perm_append_comm
        have a2 : ((Ra ++ Rb) ++ (R1 ++ R2)).Perm (Ra ++ R1 ++ Rb ++ R2) := by
          have : (Rb ++ (R1 ++ R2)).Perm (R1 ++ (Rb ++ R2)) := by
            rw [← List.append_assoc, ← List.append_assoc]
            exact List.Perm.append_right _ List.perm_append_comm
          have := List.Perm.append_left Ra this
          simpa [List.append_assoc] using this
        refine (List.Perm.append_right _ a1).trans ?_
        rw [List.append_assoc]
        exact List.Perm.append_left Rx a2
      exact (List.nodup_append.1 (p1.nodup_iff.1 nd1)).2.1
    · rw [e5]
      have := congrArg List.length harr
      rw [Array.length_toList] at this
      rw [this]
      simp only [List.length_append, List.length_take, List.length_drop, Array.length_toList, hsz]
      omega

section
variable {P : Program} {N : Nat} {o : Oper} {E : Env} {d : Nat}

/-- a struct or array literal -/
def bdF (E : Env) (tmpl : List FV) (ps : List (Nat × Nat)) (ss : List Sr) : Option (FV × Env) :=
  (fillF tmpl ps (E.passL false ss).1).map fun cs => (.agg cs, (E.passL false ss).2)
def bdOk (P : Program) (t : TypeId) (tmpl : List FV) (is : List Nat) (ps : List (Nat × Nat)) : Bool :=
  zeroIs P t tmpl && (match P.underlying t with
    | some (.struct fs) => is.length == ps.length && (is.zip ps).all fun x => (match fs[x.1]? with | some g => g.offset == x.2.1 && sizeIs P g.type x.2.2 | none => false)
    | some (.array _ e) => is.length == ps.length && (is.zip ps).all fun x => sizeIs P e x.2.2 && x.2.1 == x.1 * x.2.2
    | _ => false) && (match P.underlying t with
    | some (.struct fs) => fs.toList.all fun g => (P.info? g.type).isSome
    | some (.array _ e) => (P.info? e).isSome
    | _ => true)

theorem sizeIs_spec {t : TypeId} {n : Nat} (h : sizeIs P t n = true) : ∃ i, P.info? t = some i ∧ i.size = n := by
  unfold sizeIs at h
  cases hi : P.info? t with
  | none => rw [hi] at h; cases h
  | some i => rw [hi] at h; exact ⟨i, rfl, by simpa using h⟩

theorem run_mapM_places {w : World} : ∀ (fs : List Field), (∀ g ∈ fs, (P.info? g.type).isSome = true) →
    (fs.mapM (fun f => (do pure (f.offset, ← sizeOf f.type) : Sem (Nat × Nat)))).run P w = .ok (fs.map fun f => (f.offset, P.cellsOf f.type)) w
  | [], _ => by simp
  | f :: fs, h => by
    have h1 := h f (by simp)
    cases hi : P.info? f.type with
    | none => rw [hi] at h1; cases h1
    | some i =>
      have ih := run_mapM_places (w := w) fs fun g hg => h g (by simp [hg])
      simp only [List.mapM_cons, Sem.run_bind, run_sizeOf' hi, Result.andThen_ok, Sem.run_pure, ih, List.map_cons, Program.cellsOf, hi, Option.map_some, Option.getD_some]

theorem ok_build {t : TypeId} {tmpl : List FV} {ps : List (Nat × Nat)} {parts : Array (Nat × Operand)} {ss : List Sr} {f : FV} {E1 : Env} (ho : o.op = .build t parts) (hd : o.dst = some d) (hdN : d < N)
    (hs : List.all (ss.zip (parts.toList.map (·.2))) (fun y => y.1.fits N y.2) = true) (hlen : ss.length = parts.toList.length) (ht : bdOk P t tmpl (parts.toList.map (·.1)) ps = true)
    (hl : bdF E tmpl ps ss = some (f, E1)) : OpOk P N o E (· = E1.upd d f) := by
  intro xv a w S R r
  obtain ⟨S', Rf, R', p⟩ := passedL r hs (by simpa using hlen) false
  unfold bdF at hl
  cases hfill : fillF tmpl ps (E.passL false ss).1 with
  | none => rw [hfill] at hl; cases hl
  | some out =>
  rw [hfill] at hl
  simp only [Option.map_some, Option.some.injEq, Prod.mk.injEq] at hl
  obtain ⟨rfl, rfl⟩ := hl
  simp only [bdOk, Bool.and_eq_true] at ht
  obtain ⟨⟨hz, hpl⟩, hsome⟩ := ht
  unfold zeroIs at hz
  cases hi : P.info? t with
  | none => rw [hi] at hz; cases hz
  | some i =>
  rw [hi] at hz
  cases hzz : i.zero with
  | none => simp only [hzz] at hz; cases hz
  | some z =>
  simp only [hzz] at hz
  have hz0 := constOkL_rep w.heap S' tmpl z.cells.toList hz
  have hzip : (parts.map fun (x : Nat × Operand) => (x.1, a.eval x.2)).toList = (parts.toList.map (·.1)).zip ((parts.toList.map (·.2)).map a.eval) := by
    simp [List.zip_map_right, List.zip_map_left, List.map_map]
    induction parts.toList with
    | nil => rfl
    | cons x l ih => simp [ih]
  have fin : ∀ {place : Nat → Option (Nat × Nat)}, (∀ (j i : Nat) (p : Nat × Nat), (parts.toList.map (·.1))[j]? = some i → ps[j]? = some p → place i = some p) → (parts.toList.map (·.1)).length = ps.length →
      (∀ cells', Instr.fill place z.cells ((parts.toList.map (·.1)).zip ((parts.toList.map (·.2)).map a.eval)) = some cells' → (execOp a.eval o).run P w = .ok (.value (.agg cells')) w) →
      o.wp P a w (Post N xv (· = (E.passL false ss).2.upd d (.agg out)) w S R) (fun _ _ _ => False) := by
    intro place hplace hlp hrun
    obtain ⟨cells', Rr, e1, e2, e3, e4, _⟩ := fill_rep (place := place) p.rep hz0 hfill hlp hplace
    refine wp_value (hrun cells' e1) ?_
    rw [hd]
    have hrep : Rep w.heap S' [.agg cells'] [.agg out] Rr := by
      have := Rep.agg e2 .nil
      simpa using this
    obtain ⟨R'', h1, h2⟩ := p.rel.upd hdN hrep (fun b m => by
      rcases e3 b m with m | m
      · simp at m
      · exact p.apart b m) (e4 (by simpa using p.nodup))
    refine ⟨_, S', R'', rfl, h1, ⟨p.seals, fun b hb => (p.news b hb).imp id .inl, fun _ _ _ => rfl, Nat.le_refl _, fun b m => .inl ?_, rfl, rfl, rfl, fun _ h => h⟩⟩
    rcases h2 b m with m | m
    · rcases e3 b m with m | m
      · simp at m
      · exact p.subf b m
    · exact p.sub b m
  cases hu : P.underlying t with
  | none => rw [hu] at hpl; cases hpl
  | some de =>
  rw [hu] at hpl hsome
  cases de <;> simp only at hpl <;> try (cases hpl; done)
  · -- array
    rename_i len e
    simp only [Bool.and_eq_true, beq_iff_eq] at hpl
    obtain ⟨hlp, hall⟩ := hpl
    cases hie : P.info? e with
    | none => simp only [hie] at hsome; cases hsome
    | some ie =>
      refine fin (place := fun i => some (i * ie.size, ie.size)) ?_ hlp ?_
      · intro j i' q hj hq
        have := List.all_eq_true.1 hall (i', q) (by
          refine List.mem_of_getElem? (i := j) ?_
          rw [List.getElem?_zip_eq_some]
          exact ⟨hj, hq⟩)
        simp only [Bool.and_eq_true, beq_iff_eq] at this
        obtain ⟨i2, h1, h2⟩ := sizeIs_spec this.1
        rw [hie] at h1
        cases h1
        simp only [Option.some.injEq]
        obtain ⟨q1, q2⟩ := q
        simp only at this h2
        rw [this.2, h2]
      · intro cells' hc
        simp only [execOp, ho, Instr.build, Sem.run_bind, run_zeroValue' hi hzz, Result.andThen_ok, run_underlying' hu, run_sizeOf' hie, hzip, hc, Sem.run_pure]
  · -- struct
    rename_i fs
    simp only [Bool.and_eq_true, beq_iff_eq] at hpl
    obtain ⟨hlp, hall⟩ := hpl
    have hmap := run_mapM_places (P := P) (w := w) fs.toList (fun g hg => List.all_eq_true.1 hsome g hg)
    refine fin (place := fun i => (fs.map fun f => (f.offset, P.cellsOf f.type))[i]?) ?_ hlp ?_
    · intro j i' q hj hq
      have := List.all_eq_true.1 hall (i', q) (by
        refine List.mem_of_getElem? (i := j) ?_
        rw [List.getElem?_zip_eq_some]
        exact ⟨hj, hq⟩)
      simp only at this
      cases hg : fs[i']? with
      | none => rw [hg] at this; cases this
      | some g =>
        rw [hg] at this
        simp only [Bool.and_eq_true, beq_iff_eq] at this
        obtain ⟨i2, h1, h2⟩ := sizeIs_spec this.2
        obtain ⟨q1, q2⟩ := q
        simp only at this h2
        simp [hg, Program.cellsOf, h1, h2, this.1]
    · intro cells' hc
      have hm : (fs.mapM (fun f => (do pure (f.offset, ← sizeOf f.type) : Sem (Nat × Nat)))).run P w = .ok (fs.map fun f => (f.offset, P.cellsOf f.type)) w := by
        have e : fs.mapM (fun f => (do pure (f.offset, ← sizeOf f.type) : Sem (Nat × Nat))) = (List.toArray <$> fs.toList.mapM (fun f => (do pure (f.offset, ← sizeOf f.type) : Sem (Nat × Nat)))) := by
          rw [Array.mapM_eq_mapM_toList]
        rw [e, Sem.run_map, hmap]
        simp only [Result.andThen_ok]
        congr 1
        apply Array.ext'
        simp
      simp only [execOp, ho, Instr.build, Sem.run_bind, run_zeroValue' hi hzz, Result.andThen_ok, run_underlying' hu, hm, hzip, hc, Sem.run_pure]

end
end Go.Fm
