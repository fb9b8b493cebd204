/- Calls of functions. -/
import Derived.Test.YthfkhokmgolabaaDoorFmCode
set_option linter.unusedVariables false
set_option linter.unusedSimpArgs false
namespace Go.Fm
open Go

mutual
/-- without any reference to what is sealed -/
def FV.free : FV → Bool
  | .sl _ _ => false
  | .ref _ => false
  | .al _ _ | .ptr _ _ => false
  | .arr es => freeLL es
  | .box cs => freeL cs
  | .agg cs => freeL cs
  | .tup vs => freeL vs
  | .fn _ cap => freeL cap
  | .iface _ v => v.free
  | _ => true
def freeL : List FV → Bool
  | [] => true
  | f :: fs => f.free && freeL fs
def freeLL : List (List FV) → Bool
  | [] => true
  | e :: es => freeL e && freeLL es
end
theorem freeL_all (l : List FV) : freeL l = l.all FV.free := by induction l <;> simp_all [freeL]
theorem freeLL_flatten (es : List (List FV)) : freeLL es = freeL es.flatten := by
  induction es with
  | nil => rfl
  | cons e es ih => simp only [freeLL, ih, List.flatten_cons, freeL_all, List.all_append]

theorem Rep.free {h : Array Obj} {S : Nat → Prop} {vs fs R} (r : Rep h S vs fs R) : ∀ {S' : Nat → Prop}, freeL fs = true → Rep h S' vs fs R := by
  induction r with
  | nil => intro _ _; exact .nil
  | undef _ ih => intro _ hf; simp only [freeL, Bool.and_eq_true] at hf; exact .undef (ih hf.2)
  | int _ ih => intro _ hf; simp only [freeL, Bool.and_eq_true] at hf; exact .int (ih hf.2)
  | bool _ ih => intro _ hf; simp only [freeL, Bool.and_eq_true] at hf; exact .bool (ih hf.2)
  | str _ ih => intro _ hf; simp only [freeL, Bool.and_eq_true] at hf; exact .str (ih hf.2)
  | nilp _ ih => intro _ hf; simp only [freeL, Bool.and_eq_true] at hf; exact .nilp (ih hf.2)
  | nilf _ ih => intro _ hf; simp only [freeL, Bool.and_eq_true] at hf; exact .nilf (ih hf.2)
  | nili _ ih => intro _ hf; simp only [freeL, Bool.and_eq_true] at hf; exact .nili (ih hf.2)
  | iface _ _ i1 i2 => intro _ hf; simp only [freeL, FV.free, Bool.and_eq_true] at hf; exact .iface (i1 (by simp [freeL, hf.1])) (i2 hf.2)
  | agg _ _ i1 i2 => intro _ hf; simp only [freeL, FV.free, Bool.and_eq_true] at hf; exact .agg (i1 hf.1) (i2 hf.2)
  | tup _ _ i1 i2 => intro _ hf; simp only [freeL, FV.free, Bool.and_eq_true] at hf; exact .tup (i1 hf.1) (i2 hf.2)
  | fn _ _ i1 i2 => intro _ hf; simp only [freeL, FV.free, Bool.and_eq_true] at hf; exact .fn (i1 hf.1) (i2 hf.2)
  | slNil _ ih => intro _ hf; simp [freeL, FV.free] at hf
  | sl _ _ _ _ _ _ _ _ _ _ _ _ _ => intro _ hf; simp [freeL, FV.free] at hf
  | ref _ _ _ _ _ _ _ => intro _ hf; simp [freeL, FV.free] at hf
  | arrNil _ ih => intro _ hf; simp only [freeL, Bool.and_eq_true] at hf; exact .arrNil (ih hf.2)
  | arr hn hst hb hsz hcap hpos _ _ i1 i2 =>
    intro _ hf
    simp only [freeL, FV.free, freeLL_flatten, Bool.and_eq_true] at hf
    exact .arr hn hst hb hsz hcap hpos (i1 hf.1) (i2 hf.2)
  | box hb _ _ i1 i2 => intro _ hf; simp only [freeL, FV.free, Bool.and_eq_true] at hf; exact .box hb (i1 hf.1) (i2 hf.2)
  | iter hb _ ih => intro _ hf; simp only [freeL, Bool.and_eq_true] at hf; exact .iter hb (ih hf.2)
  | buf hb hsz _ ih => intro _ hf; simp only [freeL, Bool.and_eq_true] at hf; exact .buf hb hsz (ih hf.2)

section
variable {P : Program} {N : Nat} {o : Oper} {E : Env} {d : Nat} {xv : Nat → Value} {a : Act} {w : World} {S : Nat → Prop} {R : List Nat}

theorem Rel.seals (r : Rel N xv E a w S R) {S' : Nat → Prop} (h : ∀ b, S b → S' b) (hs : ∀ b, S' b → b < w.heap.size ∧ b ∉ R) : Rel N xv E a w S' R :=
  ⟨r.env.change h (Nat.le_refl _) (fun _ _ _ => rfl) (fun _ _ => rfl) (fun _ _ => rfl) (fun _ _ _ _ h => h) (fun _ _ _ _ h => h), r.sorted, r.nodup, hs, r.size, r.small, r.nodef⟩

/-- one operand after the other handed on, each in its own way -/
def Env.passM (E : Env) : List (Bool × Sr) → List FV × Env
  | [] => ([], E)
  | (m, s) :: ss => ((E.pass m s).1 :: ((E.pass m s).2.passM ss).1, ((E.pass m s).2.passM ss).2)

theorem passedM : ∀ {ss : List (Bool × Sr)} {xs : List Operand} {E : Env} {S : Nat → Prop} {R : List Nat} (r : Rel N xv E a w S R) (hs : List.all (ss.zip xs) (fun y => y.1.2.fits N y.2) = true) (hl : ss.length = xs.length),
    ∃ S' Rf R', PassedL N xv a w S R (xs.map a.eval) (E.passM ss).1 (E.passM ss).2 S' Rf R'
  | [], [], E, S, R, r, _, _ => ⟨S, [], R, .nil, r, by simp, by simp, fun _ h => h, fun _ h => .inl h, fun _ h => h, by simp⟩
  | s :: ss, [], E, S, R, r, _, hl => by simp at hl
  | [], x :: xs, E, S, R, r, _, hl => by simp at hl
  | (m, s) :: ss, x :: xs, E, S, R, r, hs, hl => by
    simp only [List.zip_cons_cons, List.all_cons, Bool.and_eq_true] at hs
    obtain ⟨S1, Rf1, R1, p1⟩ := passed r hs.1 m
    obtain ⟨S2, Rf2, R2, p2⟩ := passedM p1.rel hs.2 (by simpa using hl)
    refine ⟨S2, Rf1 ++ Rf2, R2, ?_, p2.rel, ?_, ?_, fun b h => p2.seals b (p1.seals b h), ?_, fun b m => p1.sub b (p2.sub b m), ?_⟩
    · simp only [Env.passM, List.map_cons]
      exact (p1.rep.mono p2.seals (Nat.le_refl _) (fun _ _ _ => rfl) (fun _ _ => rfl)).cons p2.rep
    · rw [List.nodup_append]
      exact ⟨p1.nodup, p2.nodup, fun b m b' m' e => (p1.apart b m).1 (e ▸ p2.subf b' m')⟩
    · intro b m
      rcases List.mem_append.1 m with m | m
      · refine ⟨fun m' => (p1.apart b m).1 (p2.sub b m'), fun hb => ?_⟩
        rcases p2.news b hb with h | h
        · exact (p1.apart b m).2 h
        · exact (p1.apart b m).1 h
      · exact p2.apart b m
    · intro b hb
      rcases p2.news b hb with h | h
      · exact p1.news b h
      · exact .inr (p1.sub b h)
    · intro b m
      rcases List.mem_append.1 m with m | m
      · exact p1.subf b m
      · exact p1.sub b (p2.subf b m)

/-- lent for the time of a call -/
def Env.lend (E : Env) : Sr → FV
  | .k v => v
  | .t n => match E.get n with
    | .al r p => (E.at r p).sealed
    | .ptr _ _ => .undef
    | f => f.sealed

theorem lent (r : Rel N xv E a w S R) {s : Sr} {x : Operand} (hs : s.fits N x = true) : Rep w.heap (fun b => S b ∨ b ∈ R) [a.eval x] [E.lend s] [] := by
  cases s with
  | k v =>
    have h1 := (looked r hs).rep (by
      cases x with
      | const c => exact (constOk_rep w.heap S _ _ hs).noalias v (by simp)
      | func g => cases v <;> first | rfl | (simp [Sr.fits] at hs; done)
      | _ => simp [Sr.fits] at hs)
    exact h1.mono (fun _ h => .inl h) (Nat.le_refl _) (fun _ _ _ => rfl) (fun _ _ => rfl)
  | t n =>
    have hx : x = .tmp n ∧ n < N := by
      cases x <;> simp [Sr.fits] at hs
      exact ⟨by rw [hs.1], hs.2⟩
    obtain ⟨rfl, hn⟩ := hx
    have hval := eval_val (a := a) (xv := xv) r.small hn
    have own : ∀ f, E.get n = f → f.alias = false → Rep w.heap (fun b => S b ∨ b ∈ R) [a.eval (.tmp n)] [f.sealed] [] := fun f hg ha => by
      obtain ⟨R1, R2, h1, h2⟩ := r.get0 n hg ha
      rw [hval] at h1
      have := h1.seal (S' := fun b => S b ∨ b ∈ R) (fun _ h => .inl h) (fun b m => .inr (h2.mem_iff.2 (by simp [m])))
      simpa [sealedL] using this
    unfold Env.lend
    simp only
    cases hg : E.get n with
    | al q p =>
      have he := r.get_al hg
      rw [hval] at he
      obtain ⟨g, Rf, R2, h1, hsl, h2, h3, h4⟩ := r.alAt he
      simp only [h1]
      have := h2.seal (S' := fun b => S b ∨ b ∈ R) (fun _ h => .inl h) (fun b m => .inr (h3.mem_iff.2 (by simp [m])))
      simpa [sealedL] using this
    | ptr q p => exact .undef .nil
    | _ => exact own _ hg rfl

theorem lentL (r : Rel N xv E a w S R) : ∀ {ss : List Sr} {xs : List Operand}, List.all (ss.zip xs) (fun y => y.1.fits N y.2) = true → ss.length = xs.length →
    Rep w.heap (fun b => S b ∨ b ∈ R) (xs.map a.eval) (ss.map E.lend) []
  | [], [], _, _ => .nil
  | s :: ss, [], _, hl => by simp at hl
  | [], x :: xs, _, hl => by simp at hl
  | s :: ss, x :: xs, hs, hl => by
    simp only [List.zip_cons_cons, List.all_cons, Bool.and_eq_true] at hs
    exact (lent r hs.1).cons (lentL r hs.2 (by simpa using hl))

/-- the function is one with a body -/
def isFn (P : Program) (f : FuncId) : Bool :=
  match P.funcs[f]? with
  | some fn => fn.name != "runtime.NumGoroutine" && fn.body.isSome
  | none => false

theorem run_call {f : FuncId} {args : Array Operand} {ts : Array TypeId} (ho : o.op = .call { callee := .value (.func f), args := args, argTypes := ts }) (hf : isFn P f = true) :
    (execOp a.eval o).run P w = .ok (.enter f (args.toList.map a.eval).toArray) w := by
  unfold isFn at hf
  cases hg : P.funcs[f]? with
  | none => rw [hg] at hf; cases hf
  | some fn =>
  rw [hg] at hf
  simp only [Bool.and_eq_true, bne_iff_ne, ne_eq] at hf
  have h2 : fn.body ≠ none := fun hb => by have h4 := hf.2; rw [hb] at h4; cases h4
  have h3 : (args.map a.eval) = (args.toList.map a.eval).toArray := by rw [← Array.toList_map, Array.toArray_toList]
  simp [execOp, ho, resolve, Deferred.ofValue, Act.eval, invoke, callFunc, hg, hf.1, h2]
  exact h3

theorem ok_call {f : FuncId} {args : Array Operand} {ts : Array TypeId} {ss : List (Bool × Sr)} {K : Env → Prop} (ho : o.op = .call { callee := .value (.func f), args := args, argTypes := ts }) (hd : o.dst = some d) (hdN : d < N)
    (hf : isFn P f = true) (hs : List.all (ss.zip args.toList) (fun y => y.1.2.fits N y.2) = true) (hl : ss.length = args.toList.length)
    (hc : FCall P f (E.passM ss).1 (fun r => K ((E.passM ss).2.upd d r))) : OpOkA P N o E K := by
  intro xv a w S R hA r
  unfold Oper.wp
  rw [run_call ho hf]
  obtain ⟨S1, Rf, R1, p⟩ := passedM r hs hl
  refine (hc.out (hA.seals p.seals) p.rep p.nodup (fun b hb => ⟨(p.rel.sep b hb).1, fun m => (p.apart b m).2 hb⟩)).mono ?_
  rintro e w' ⟨v, r0, S2, R2, rfl, hk, hrep, hnd, hsep, ext⟩
  show Post N xv K w S R (a.put o.dst v) w'
  rw [hd]
  have r1 := p.rel.world ext.grow (fun b hb hS => ext.keep b hb (fun m => (p.apart b m).2 hS)) (fun b m => ext.keep b (p.rel.env.lt b m) (fun m' => (p.apart b m').1 m))
  have hR2 : ∀ b ∈ R2, b ∉ R1 := fun b m m' => by
    rcases ext.owns b m with h | h
    · exact (p.apart b h).1 m'
    · have := p.rel.env.lt b m'; omega
  have r2 : Rel N xv (E.passM ss).2 a w' S2 R1 := r1.seals ext.seals fun b hb => ⟨(hsep b hb).1, fun m => by
    rcases ext.news b hb with h | h | h
    · exact (p.rel.sep b h).2 m
    · exact (p.apart b h).1 m
    · have := p.rel.env.lt b m; omega⟩
  obtain ⟨R3, r3, h3⟩ := r2.upd hdN hrep (fun b m => ⟨hR2 b m, fun hb => (hsep b hb).2 m⟩) hnd
  refine ⟨_, S2, R3, hk, r3, ⟨fun b hb => ext.seals b (p.seals b hb), ?_, ?_, ext.grow, ?_, ext.os, ext.tape, ext.output, ext.spare⟩⟩
  · intro b hb
    rcases ext.news b hb with h | h | h
    · exact (p.news b h).imp id .inl
    · exact .inr (.inl (p.subf b h))
    · exact .inr (.inr h)
  · exact fun b hb hn => ext.keep b hb fun m => hn (p.subf b m)
  · intro b m
    rcases h3 b m with h | h
    · rcases ext.owns b h with h | h
      · exact .inl (p.subf b h)
      · exact .inr h
    · exact .inl (p.sub b h)

/-- a call that borrows: what is handed back refers to nothing that was lent -/
theorem ok_callB {f : FuncId} {args : Array Operand} {ts : Array TypeId} {ss : List Sr} {K : Env → Prop} (ho : o.op = .call { callee := .value (.func f), args := args, argTypes := ts }) (hd : o.dst = some d) (hdN : d < N)
    (hf : isFn P f = true) (hs : List.all (ss.zip args.toList) (fun y => y.1.fits N y.2) = true) (hl : ss.length = args.toList.length)
    (hc : FCall P f (ss.map E.lend) (fun r => r.free = true ∧ K (E.upd d r))) : OpOkA P N o E K := by
  intro xv a w S R hA r
  unfold Oper.wp
  rw [run_call ho hf]
  refine (hc.out (hA.seals fun _ h => .inl h) (lentL r hs hl) (by simp) (fun b hb => ⟨hb.elim (fun h => (r.sep b h).1) (fun m => r.env.lt b m), by simp⟩)).mono ?_
  rintro e w' ⟨v, r0, S2, R2, rfl, ⟨hfr, hk⟩, hrep, hnd, hsep, ext⟩
  show Post N xv K w S R (a.put o.dst v) w'
  rw [hd]
  have r1 := r.world ext.grow (fun b hb hS => ext.keep b hb (by simp)) (fun b m => ext.keep b (r.env.lt b m) (by simp))
  have hge : ∀ b ∈ R2, w.heap.size ≤ b := fun b m => (ext.owns b m).resolve_left (by simp)
  obtain ⟨R3, r3, h3⟩ := r1.upd hdN (hrep.free (S' := S) (by simp [freeL, hfr])) (fun b m => ⟨fun m' => by have := r.env.lt b m'; have := hge b m; omega, fun hb => by have := (r.sep b hb).1; have := hge b m; omega⟩) hnd
  refine ⟨_, S, R3, hk, r3, ⟨fun _ h => h, fun _ h => .inl h, fun b hb hn => ext.keep b hb (by simp), ext.grow, ?_, ext.os, ext.tape, ext.output, ext.spare⟩⟩
  intro b m
  rcases h3 b m with h | h
  · exact .inr (hge b h)
  · exact .inl h

theorem lookL (r : Rel N xv E a w S R) : ∀ {ss : List Sr} {xs : List Operand}, List.all (ss.zip xs) (fun y => y.1.fits N y.2) = true → ss.length = xs.length → (ss.all fun s => !(E.look s).alias) = true →
    Rep w.heap S (xs.map a.eval) (ss.map E.look) []
  | [], [], _, _, _ => .nil
  | s :: ss, [], _, hl, _ => by simp at hl
  | [], x :: xs, _, hl, _ => by simp at hl
  | s :: ss, x :: xs, hs, hl, ha => by
    simp only [List.zip_cons_cons, List.all_cons, Bool.and_eq_true] at hs
    simp only [List.all_cons, Bool.and_eq_true, Bool.not_eq_true'] at ha
    exact ((looked r hs.1).rep ha.1).cons (lookL r hs.2 (by simpa using hl) ha.2)

/-- a call whose arguments own nothing -/
theorem ok_callL {f : FuncId} {args : Array Operand} {ts : Array TypeId} {ss : List Sr} {K : Env → Prop} (ho : o.op = .call { callee := .value (.func f), args := args, argTypes := ts }) (hd : o.dst = some d) (hdN : d < N)
    (hf : isFn P f = true) (hs : List.all (ss.zip args.toList) (fun y => y.1.fits N y.2) = true) (hl : ss.length = args.toList.length) (ha : (ss.all fun s => !(E.look s).alias) = true)
    (hc : FCall P f (ss.map E.look) (fun r => K (E.upd d r))) : OpOkA P N o E K := by
  intro xv a w S R hA r
  unfold Oper.wp
  rw [run_call ho hf]
  refine (hc.out hA (lookL r hs hl ha) (by simp) (fun b hb => ⟨(r.sep b hb).1, by simp⟩)).mono ?_
  rintro e w' ⟨v, r0, S2, R2, rfl, hk, hrep, hnd, hsep, ext⟩
  show Post N xv K w S R (a.put o.dst v) w'
  rw [hd]
  have r1 := r.world ext.grow (fun b hb hS => ext.keep b hb (by simp)) (fun b m => ext.keep b (r.env.lt b m) (by simp))
  have hge : ∀ b ∈ R2, w.heap.size ≤ b := fun b m => (ext.owns b m).resolve_left (by simp)
  have r2 : Rel N xv E a w' S2 R := r1.seals ext.seals fun b hb => ⟨(hsep b hb).1, fun m => by
    rcases ext.news b hb with h | h | h
    · exact (r.sep b h).2 m
    · simp at h
    · have := r.env.lt b m; omega⟩
  obtain ⟨R3, r3, h3⟩ := r2.upd hdN hrep (fun b m => ⟨fun m' => by have := r.env.lt b m'; have := hge b m; omega, fun hb => (hsep b hb).2 m⟩) hnd
  refine ⟨_, S2, R3, hk, r3, ⟨ext.seals, fun b hb => ?_, fun b hb hn => ext.keep b hb (by simp), ext.grow, ?_, ext.os, ext.tape, ext.output, ext.spare⟩⟩
  · rcases ext.news b hb with h | h | h
    · exact .inl h
    · simp at h
    · exact .inr (.inr h)
  · intro b m
    rcases h3 b m with h | h
    · exact .inr (hge b h)
    · exact .inl h
end
end Go.Fm
