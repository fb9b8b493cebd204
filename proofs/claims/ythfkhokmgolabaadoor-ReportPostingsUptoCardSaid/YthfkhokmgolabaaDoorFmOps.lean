/- The operations that call nothing: what each does to an abstract environment, and that the model's operation does so. -/
import Derived.Test.YthfkhokmgolabaaDoorFmSrc
import Derived.Laws.Cells
set_option linter.unusedVariables false
set_option linter.unusedSimpArgs false
namespace Go.Fm
open Go

/-- what is shown behind a piece of code: an abstract environment of which K holds -/
def Post (N : Nat) (xv : Nat → Value) (K : Env → Prop) (w : World) (S : Nat → Prop) (R : List Nat) (a' : Act) (w' : World) : Prop :=
  ∃ E' S' R', K E' ∧ Rel N xv E' a' w' S' R' ∧ Ext w S R w' S' R'
/-- the model's operation takes every frame of E to one of K -/
def OpOk (P : Program) (N : Nat) (o : Oper) (E : Env) (K : Env → Prop) : Prop :=
  ∀ {xv : Nat → Value} {a : Act} {w : World} {S : Nat → Prop} {R : List Nat}, Rel N xv E a w S R → o.wp P a w (Post N xv K w S R) (fun _ _ _ => False)

theorem wp_value {P : Program} {o : Oper} {a : Act} {w w' : World} {v : Value} {K : Act → World → Prop} {Q : Exit → Act → World → Prop} (h : (execOp a.eval o).run P w = .ok (.value v) w')
    (hk : K (a.put o.dst v) w') : o.wp P a w K Q := by
  unfold Oper.wp; rw [h]; exact hk
theorem wp_skip' {P : Program} {o : Oper} {a : Act} {w w' : World} {K : Act → World → Prop} {Q : Exit → Act → World → Prop} (h : (execOp a.eval o).run P w = .ok .skip w')
    (hk : K (a.put o.dst undef) w') : o.wp P a w K Q := by
  unfold Oper.wp; rw [h]; exact hk

/-- an alias's root -/
def FV.notRoot (d : Nat) : FV → Bool
  | .al r _ | .ptr r _ => r != d
  | _ => true
theorem notRoot_ne {d : Nat} {f : FV} (h : f.notRoot d = true) : ∀ q p, (f = .al q p ∨ f = .ptr q p) → q ≠ d := by
  intro q p e
  rcases e with rfl | rfl <;> simpa [FV.notRoot] using h

section
variable {P : Program} {N : Nat} {o : Oper} {E : Env} {d : Nat}

/-- a reader's value goes into the slot, the world stands -/
theorem ok_look {f : FV} (hd : o.dst = some d) (hdN : d < N) (hroot : f.notRoot d = true)
    (h : ∀ {xv : Nat → Value} {a : Act} {w : World} {S : Nat → Prop} {R : List Nat}, Rel N xv E a w S R → ∃ v, (execOp a.eval o).run P w = .ok (.value v) w ∧ Looked N xv E a w S v f) :
    OpOk P N o E (· = E.upd d f) := by
  intro xv a w S R r
  obtain ⟨v, hrun, l⟩ := h r
  refine wp_value hrun ?_
  rw [hd]
  obtain ⟨R', h1, h2⟩ := r.put_look hdN l (notRoot_ne hroot)
  exact ⟨_, S, R', rfl, h1, Ext.refl _ _ _ _ h2⟩

/-- the slot gets what was handed on -/
theorem ok_pass {s : Sr} {x : Operand} {deep : Bool} (hd : o.dst = some d) (hdN : d < N) (hs : s.fits N x = true)
    (h : ∀ {a : Act} {w : World}, (execOp a.eval o).run P w = .ok (.value (a.eval x)) w) : OpOk P N o E (· = (E.pass deep s).2.upd d (E.pass deep s).1) := by
  intro xv a w S R r
  refine wp_value h ?_
  rw [hd]
  obtain ⟨S', Rf, R', p⟩ := passed r hs deep
  obtain ⟨R'', h1, h2⟩ := p.rel.upd hdN p.rep p.apart p.nodup
  refine ⟨_, S', R'', rfl, h1, ⟨p.seals, fun b hb => (p.news b hb).imp id .inl, fun _ _ _ => rfl, Nat.le_refl _, fun b m => .inl ?_, rfl, rfl, rfl, fun _ h => h⟩⟩
  rcases h2 b m with h | h
  · exact p.subf b h
  · exact p.sub b h

/-! ### a new block -/
theorem getElem?_push_lt {α : Type} (h : Array α) (x : α) {b : Nat} (hb : b < h.size) : (h.push x)[b]? = h[b]? := by
  rw [Array.getElem?_push, if_neg (by omega)]

theorem frozen_push {w : World} {c : Array Value} {T : TypeId} {x : Addr} (h : w.frozen? x = false) : ({ w with heap := w.heap.push (.cells c T (0, 0)) } : World).frozen? x = false := by
  by_cases e : x.block = w.heap.size
  · have : ({ w with heap := w.heap.push (.cells c T (0, 0)) } : World).heap[x.block]? = some (.cells c T (0, 0)) := by rw [e]; simp
    unfold World.frozen?
    rw [this]
    simp
  · have : ({ w with heap := w.heap.push (.cells c T (0, 0)) } : World).heap[x.block]? = w.heap[x.block]? := by
      simp only [Array.getElem?_push, if_neg e]
    unfold World.frozen? at *
    rw [this]
    exact h

/-- a new block of cells, its content handed on -/
theorem Passed.newCells {xv : Nat → Value} {a : Act} {w : World} {S : Nat → Prop} {R : List Nat} {vs : List Value} {fs : List FV} {E' : Env} {S' : Nat → Prop} {Rf R' : List Nat}
    (p : PassedL N xv a w S R vs fs E' S' Rf R') (hdN : d < N) {c : Array Value} {T : TypeId} {v : Value} {f : FV}
    (hrep : Rep (w.heap.push (.cells c T (0, 0))) S' [v] [f] (w.heap.size :: Rf)) (K : Env → Prop) (hK : K (E'.upd d f)) :
    Post N xv K w S R (a.put (some d) v) { w with heap := w.heap.push (.cells c T (0, 0)) } := by
  have hw : Rel N xv E' a { w with heap := w.heap.push (.cells c T (0, 0)) } S' R' := by
    refine p.rel.world (by simp) (fun b hb _ => getElem?_push_lt _ _ hb) (fun b m => getElem?_push_lt _ _ (p.rel.env.lt b m))
  have hfresh : ∀ b, b ∈ R' → b < w.heap.size := fun b m => p.rel.env.lt b m
  have hlt : ∀ b, b ∈ Rf → b < w.heap.size := p.rep.lt
  obtain ⟨R'', h1, h2⟩ := hw.upd hdN hrep (by
    intro b m
    rcases List.mem_cons.1 m with rfl | m
    · exact ⟨fun m' => by have := hfresh _ m'; omega, fun hb => by have := (p.rel.sep _ hb).1; omega⟩
    · exact p.apart b m) (by
    rw [List.nodup_cons]
    exact ⟨fun m => by have := hlt _ m; omega, p.nodup⟩)
  refine ⟨_, S', R'', hK, h1, ⟨p.seals, fun b hb => (p.news b hb).imp id .inl, fun b hb _ => getElem?_push_lt _ _ hb, by simp, ?_, rfl, rfl, rfl, ?_⟩⟩
  · intro b m
    rcases h2 b m with h | h
    · rcases List.mem_cons.1 h with rfl | h
      · exact .inr (Nat.le_refl _)
      · exact .inl (p.subf b h)
    · exact .inl (p.sub b h)
  · exact fun x hx => hx

theorem passedNil {xv : Nat → Value} {a : Act} {w : World} {S : Nat → Prop} {R : List Nat} (r : Rel N xv E a w S R) {vs : List Value} {fs : List FV} (h : Rep w.heap S vs fs []) : PassedL N xv a w S R vs fs E S [] R :=
  ⟨h, r, by simp, by simp, fun _ h => h, fun _ h => .inl h, fun _ h => h, by simp⟩
theorem Passed.toL {xv : Nat → Value} {a : Act} {w : World} {S : Nat → Prop} {R : List Nat} {v : Value} {f : FV} {E' : Env} {S' : Nat → Prop} {Rf R' : List Nat} (p : Passed N xv a w S R v f E' S' Rf R') :
    PassedL N xv a w S R [v] [f] E' S' Rf R' := ⟨p.rep, p.rel, p.nodup, p.apart, p.seals, p.news, p.sub, p.subf⟩

/-- the cells of a value -/
def FV.cells : FV → List FV
  | .agg cs => cs
  | f => [f]
theorem Rep.cells {h : Array Obj} {S : Nat → Prop} {v : Value} {f : FV} {R : List Nat} (r : Rep h S [v] [f] R) (hu : f ≠ .undef) : Rep h S v.cells.toList f.cells R := by
  cases r with
  | undef _ => exact absurd rfl hu
  | agg r1 r2 => cases r2; simpa [Value.cells, FV.cells] using r1
  | int r => cases r; exact .int .nil
  | bool r => cases r; exact .bool .nil
  | str r => cases r; exact .str .nil
  | nilp r => cases r; exact .nilp .nil
  | nilf r => cases r; exact .nilf .nil
  | nili r => cases r; exact .nili .nil
  | iface r1 r => cases r; exact .iface r1 .nil
  | tup r1 r => cases r; exact .tup r1 .nil
  | fn r1 r => cases r; exact .fn r1 .nil
  | slNil r => cases r; exact .slNil .nil
  | sl hn hst hS hlt hcs hc hcap hfull hpos hr r => cases r; exact .sl hn hst hS hlt hcs hc hcap hfull hpos hr .nil
  | ref hS hlt hc hr r => cases r; exact .ref hS hlt hc hr .nil
  | arrNil r => cases r; exact .arrNil .nil
  | arr hn hst hb hsz hcap hpos hr r => cases r; exact .arr hn hst hb hsz hcap hpos hr .nil
  | box hb hr r => cases r; exact .box hb hr .nil
  | iter hb r => cases r; exact .iter hb .nil
  | buf hb hsz r => cases r; exact .buf hb hsz .nil

theorem run_typeInfo' {t : TypeId} {i : TypeInfo} {w : World} (h : P.info? t = some i) : (typeInfo t).run P w = .ok i w := by
  simp [typeInfo, h]
theorem run_sizeOf' {t : TypeId} {i : TypeInfo} {w : World} (h : P.info? t = some i) : (sizeOf t).run P w = .ok i.size w := by
  simp [sizeOf, run_typeInfo' h]
theorem run_underlying' {t : TypeId} {x : TypeDesc} {w : World} (h : P.underlying t = some x) : (underlying t).run P w = .ok x w := by
  simp [underlying, h]
theorem run_zeroValue' {t : TypeId} {i : TypeInfo} {z : Value} {w : World} (h : P.info? t = some i) (hz : i.zero = some z) : (zeroValue t).run P w = .ok z w := by
  simp [zeroValue, run_typeInfo' h, hz]

/-- a type's zero value and its size -/
def zeroIs (P : Program) (t : TypeId) (cs : List FV) : Bool :=
  match P.info? t with
  | some i => match i.zero with
    | some z => constOkL cs z.cells.toList
    | none => false
  | none => false
def sizeIs (P : Program) (t : TypeId) (n : Nat) : Bool :=
  match P.info? t with
  | some i => i.size == n
  | none => false
def isAggT (P : Program) (t : TypeId) : Option Bool :=
  match P.underlying t with
  | some (.struct _) | some (.array _ _) => some true
  | some _ => some false
  | none => none
theorem run_isAgg' {t : TypeId} {b : Bool} {w : World} (h : isAggT P t = some b) : (isAgg t).run P w = .ok b w := by
  unfold isAggT at h
  unfold isAgg
  cases hu : P.underlying t with
  | none => rw [hu] at h; cases h
  | some x =>
    rw [hu] at h
    simp only [Sem.run_bind, run_underlying' hu, Result.andThen_ok]
    cases x <;> simp only at h <;> cases h <;> rfl

theorem ok_alloc {t : TypeId} {cs : List FV} (ho : o.op = .alloc t) (hd : o.dst = some d) (hdN : d < N) (hz : zeroIs P t cs = true) : OpOk P N o E (· = E.upd d (.box cs)) := by
  intro xv a w S R r
  unfold zeroIs at hz
  cases hi : P.info? t with
  | none => rw [hi] at hz; cases hz
  | some i =>
  rw [hi] at hz
  cases hzz : i.zero with
  | none => simp only [hzz] at hz; cases hz
  | some z =>
  simp only [hzz] at hz
  refine wp_value (v := .pointer (some ⟨w.heap.size, 0, none⟩)) (w' := { w with heap := w.heap.push (.cells z.cells t (0, 0)) }) ?_ ?_
  · simp [execOp, ho, Instr.alloc, run_zeroValue' hi hzz, newVar, newRow]
  · rw [hd]
    refine Passed.newCells (passedNil r .nil) hdN ?_ _ rfl
    have h1 := constOkL_rep (w.heap.push (.cells z.cells t (0, 0))) S cs z.cells.toList hz
    have : Rep (w.heap.push (.cells z.cells t (0, 0))) S [.pointer (some ⟨w.heap.size, 0, none⟩)] [.box cs] (w.heap.size :: [] ++ []) := .box (T := t) (by simp) h1 .nil
    simpa using this

theorem ok_box {t : TypeId} {s : Sr} {x : Operand} (ho : o.op = .box t x) (hd : o.dst = some d) (hdN : d < N) (hs : s.fits N x = true) (hu : (E.pass false s).1 ≠ .undef) :
    OpOk P N o E (· = (E.pass false s).2.upd d (.box (E.pass false s).1.cells)) := by
  intro xv a w S R r
  obtain ⟨S', Rf, R', p⟩ := passed r hs false
  refine wp_value (v := .pointer (some ⟨w.heap.size, 0, none⟩)) (w' := { w with heap := w.heap.push (.cells (a.eval x).cells t (0, 0)) }) ?_ ?_
  · simp [execOp, ho, Instr.box, newVar, newRow]
  · rw [hd]
    have h0 := p.rep.cells hu
    have pl : PassedL N xv a w S R (a.eval x).cells.toList (E.pass false s).1.cells (E.pass false s).2 S' Rf R' := ⟨h0, p.rel, p.nodup, p.apart, p.seals, p.news, p.sub, p.subf⟩
    refine Passed.newCells pl hdN ?_ _ rfl
    have h1 := h0.mono (h' := w.heap.push (.cells (a.eval x).cells t (0, 0))) (fun _ h => h) (by simp) (fun b _ hb => getElem?_push_lt _ _ hb) (fun b m => getElem?_push_lt _ _ (h0.lt b m))
    have : Rep (w.heap.push (.cells (a.eval x).cells t (0, 0))) S' [.pointer (some ⟨w.heap.size, 0, none⟩)] [.box (E.pass false s).1.cells] (w.heap.size :: Rf ++ []) := .box (T := t) (by simp) h1 .nil
    simpa using this

end
end Go.Fm
