/- The operations as data: what a step does to an environment, and a check against the model's operation. -/
import Derived.Test.YthfkhokmgolabaaDoorFmMore4
set_option linter.unusedVariables false
set_option linter.unusedSimpArgs false
namespace Go.Fm
open Go

inductive FOp where
  | mv (s : Sr)
  | mvP (deep : Bool) (s : Sr)
  | pick (c a b : Sr)
  | alloc (cs : List FV)
  | box (s : Sr)
  | load (s : Sr) (n : Nat) (agg : Bool)
  | loadM (take : Bool) (s : Sr) (n : Nat) (agg : Bool)
  | store (ad s : Sr) (n : Nat) (deep : Bool)
  | fa (s : Sr) (off : Nat)
  | ia (s i : Sr) (size : Nat)
  | len (s : Sr)
  | lenS (s : Sr)
  | app (a b : Sr) (size bytes : Nat)
  | bin (op : BinOp) (a b : Sr)
  | eqS (neg : Bool) (cs : List Nat) (a b : Sr)
  | eqB (neg : Bool) (a b : Sr)
  | un (op : UnOp) (a : Sr)
  | cv (k : IntKind) (a : Sr)
  | nilCheck (a : Sr)
  | build (tmpl : List FV) (ps : List (Nat × Nat)) (ss : List Sr)
  | buildSl (tmpl : List FV) (len : Nat) (is : List Nat) (ss : List Sr)
  | makeSl (tmpl : List FV) (bytes : Nat) (a b : Sr)
  | subStr (s : Sr) (lo hi : Option Sr)
  | subSl (s : Sr) (lo hi : Option Sr) (size : Nat)
  | field (s : Sr) (off n : Nat) (agg : Bool)
  | index (s i : Sr)
  | extract (n i : Nat)
  | iaA (s i : Sr) (size n : Nat)
  | cvStr (s : Sr)
  | mm (isMax : Bool) (a b : Sr)

/-- a value that may stand in slot d -/
def putIn (E : Env) (d : Nat) (f : FV) : Option Env := if f.notRoot d = true then some (E.upd d f) else none

def FOp.eval (E : Env) (d : Nat) : FOp → Option Env
  | .mv s => putIn E d (E.look s)
  | .mvP deep s => some ((E.pass deep s).2.upd d (E.pass deep s).1)
  | .pick c a b => match E.look c with
    | .bool v => match v with
      | true => putIn E d (E.look a)
      | false => putIn E d (E.look b)
    | _ => none
  | .alloc cs => some (E.upd d (.box cs))
  | .box s => match (E.pass false s).1 with
    | .undef => none
    | f => some ((E.pass false s).2.upd d (.box f.cells))
  | .load s n agg => (ldF E (E.look s) n agg).bind fun f => putIn E d f
  | .loadM take s n agg => (ldM E (E.look s) n agg take).map fun x => x.2.upd d x.1
  | .store ad s n deep => stF E ad s n deep
  | .fa s off => (faF E (E.look s) off).bind fun f => putIn E d f
  | .ia s i size => match E.look i with
    | .int _ n => (iaF E (E.look s) n size).bind fun f => putIn E d f
    | _ => none
  | .len s => match lenF E (E.look s) with
    | some n => some (E.upd d (.int .i64 (n : Int)))
    | none => none
  | .lenS s => match E.look s with
    | .str b => some (E.upd d (.int .i64 b.length))
    | _ => none
  | .app a b size bytes => (apF E a b size bytes).map fun x => x.2.upd d x.1
  | .bin op a b => (binF op (E.look a) (E.look b)).map fun f => E.upd d f
  | .eqS neg cs a b => (eqF neg cs (E.look a) (E.look b)).map fun f => E.upd d f
  | .eqB neg a b => match E.look a, E.look b with
    | .bool x, .bool y => some (E.upd d (.bool (if neg then !(x == y) else x == y)))
    | _, _ => none
  | .un op a => (unF op (E.look a)).map fun f => E.upd d f
  | .cv k a => match E.look a with
    | .int _ n => some (E.upd d (.int k (k.wrap n)))
    | _ => none
  | .nilCheck a => if (E.look a).nonNil = true then putIn E d (E.look a) else none
  | .build tmpl ps ss => (bdF E tmpl ps ss).map fun x => x.2.upd d x.1
  | .buildSl tmpl ln is ss => (bsF E tmpl ln is ss).map fun x => x.2.upd d x.1
  | .makeSl tmpl bytes a b => match E.look a, E.look b with
    | .int _ x, .int _ y => (mkSlF tmpl bytes x y).map fun f => E.upd d f
    | _, _ => none
  | .subStr s lo hi => match E.look s with
    | .str b => match bnd E 0 lo, bnd E b.length hi with
      | some l, some h => (Go.Fm.subStr b l h).map fun f => E.upd d f
      | _, _ => none
    | _ => none
  | .subSl s lo hi size => match E.look s with
    | .sl full es => match bnd E 0 lo, bnd E es.length hi with
      | some l, some h => if (es.all fun r => r.length == size) = true then (Go.Fm.subSl full es l h none).map fun f => E.upd d f else none
      | _, _ => none
    | _ => none
  | .field s off n agg => match E.look s with
    | .agg cs => (fdF cs off n agg).bind fun f => putIn E d f
    | _ => none
  | .index s i => match E.look s, E.look i with
    | .str b, .int _ n => if 0 ≤ n then match b[n.toNat]? with
        | some c => some (E.upd d (.int .u8 c.toNat))
        | none => none
      else none
    | _, _ => none
  | .extract n i => match E.get n with
    | .tup vs => match vs[i]? with
      | some f => if f.alias = false then some ((if f.plain then E else E.upd n (.tup (vs.set i .undef))).upd d f) else none
      | none => none
    | _ => none

  | .iaA s i size n => match E.look i with
    | .int _ j => (iaAF E (E.look s) j size n).bind fun f => putIn E d f
    | _ => none
  | .cvStr s => match elemsAt E (E.look s) with
    | some es => (bytesF es).map fun b => E.upd d (.str b)
    | none => none
  | .mm isMax a b => match E.look a, E.look b with
    | .int k x, .int _ y => some (E.upd d (.int k (if isMax then max x y else min x y)))
    | _, _ => none

def isAssign : Op → Option Operand
  | .move x | .assign x => some x
  | _ => none
def fitsL (N : Nat) (ss : List Sr) (xs : List Operand) : Bool := ss.length == xs.length && List.all (ss.zip xs) (fun y => y.1.fits N y.2)

/-- the step is the operation's -/
def FOp.chk (P : Program) (N : Nat) (f : FOp) (op : Op) : Bool :=
  match f, op with
  | .mv s, op => match isAssign op with
    | some x => s.fits N x
    | none => false
  | .mvP _ s, op => match isAssign op with
    | some x => s.fits N x
    | none => false
  | .pick c a b, .pick c' a' b' => c.fits N c' && a.fits N a' && b.fits N b'
  | .alloc cs, .alloc t => zeroIs P t cs
  | .box s, .box t x => s.fits N x
  | .load s n agg, .load t x => s.fits N x && (isAggT P t == some agg && sizeIs P t n)
  | .loadM _ s n agg, .load t x => s.fits N x && (isAggT P t == some agg && sizeIs P t n)
  | .store ad s n _, .store t x y => ad.fits N x && (s.fits N y && sizeIs P t n)
  | .fa s off, .fieldAddr t x fi => s.fits N x && fieldIs P t fi off
  | .ia s i size, .indexAddr t x y => s.fits N x && (i.fits N y && sliceIs P t size)
  | .len s, .call { callee := .builtin .len, args := ⟨[x]⟩, argTypes := ⟨[t]⟩ } => s.fits N x && isSliceT P t
  | .lenS s, .call { callee := .builtin .len, args := ⟨[x]⟩, argTypes := ⟨[t]⟩ } => s.fits N x && isStringT P t
  | .app a b size bytes, .call { callee := .builtin .append, args := ⟨[x, y]⟩, argTypes := ⟨[t, t2]⟩ } => a.fits N x && (b.fits N y && apOk P t t2 size bytes)
  | .bin op a b, .binOp op' t x y u => op == op' && (a.fits N x && b.fits N y)
  | .eqS neg cs a b, .binOp op' t x y u => op' == (if neg then .neq else .eql) && (a.fits N x && (b.fits N y && eqOk P t cs))
  | .eqB neg a b, .binOp op' t x y u => op' == (if neg then .neq else .eql) && (a.fits N x && (b.fits N y && isBoolT P t))
  | .un op a, .unOp op' t x => op == op' && a.fits N x
  | .cv k a, .convert src dt x => a.fits N x && toIntOk P src dt k
  | .nilCheck a, .nilCheck x => a.fits N x
  | .build tmpl ps ss, .build t parts => fitsL N ss (parts.toList.map (·.2)) && bdOk P t tmpl (parts.toList.map (·.1)) ps
  | .buildSl tmpl ln is ss, .buildSlice t ln' parts => ln == ln' && (is == parts.toList.map (·.1) && (fitsL N ss (parts.toList.map (·.2)) && bsOk P t tmpl ln is))
  | .makeSl tmpl bytes a b, .makeSlice t x y => a.fits N x && (b.fits N y && mkSlOk P t tmpl bytes)
  | .subStr s lo hi, .slice t x lo' hi' none => s.fits N x && (Sr.fitsO N lo lo' && (Sr.fitsO N hi hi' && isStringT P t))
  | .subSl s lo hi size, .slice t x lo' hi' none => s.fits N x && (Sr.fitsO N lo lo' && (Sr.fitsO N hi hi' && sliceIs P t size))
  | .field s off n agg, .field t x fi => s.fits N x && fdOk P t fi off n agg
  | .index s i, .index t x y => s.fits N x && (i.fits N y && isStringT P t)
  | .extract n i, .extract x i' => i == i' && (Sr.t n).fits N x
  | .iaA s i size n, .indexAddr t x y => s.fits N x && (i.fits N y && arrayIs P t size n)
  | .cvStr s, .convert src dt x => s.fits N x && bytesToStr P src dt
  | .mm isMax a b, .call { callee := .builtin bi, args := ⟨[x, y]⟩, argTypes := _ } => decide (bi = if isMax then .max else .min) && (a.fits N x && b.fits N y)
  | _, _ => false

def FOp.isStore : FOp → Bool
  | .store .. => true
  | _ => false
def dstOk (N : Nat) (f : FOp) (d : Nat) (o : Oper) : Bool := if f.isStore then o.dst == none else o.dst == some d && decide (d < N)

section
variable {P : Program} {N : Nat} {o : Oper} {E : Env} {d : Nat}

theorem OpOk.mono {K K' : Env → Prop} (h : OpOk P N o E K) (hk : ∀ E', K E' → K' E') : OpOk P N o E K' := by
  intro xv a w S R r
  have h1 := h r
  unfold Oper.wp at *
  revert h1
  generalize (execOp a.eval o).run P w = x
  have hp : ∀ a' w', Post N xv K w S R a' w' → Post N xv K' w S R a' w' := fun a' w' ⟨E', S', R', k, r, e⟩ => ⟨E', S', R', hk _ k, r, e⟩
  intro h1
  cases x with
  | ok n w' =>
    cases n <;> simp only [Oper.upon] at h1 ⊢
    case enter f args =>
      refine h1.mono fun e w'' he => ?_
      cases e with
      | returned v => exact hp _ _ he
      | panicked c => exact he
      | outgrown => exact he
    case row row args => exact h1.mono fun v w'' he => hp _ _ he
    all_goals first | exact hp _ _ h1 | exact h1
  | halt x w' => cases x <;> simp only [Oper.upon] at h1 ⊢

theorem putIn_some {f : FV} {E' : Env} (h : putIn E d f = some E') : f.notRoot d = true ∧ E' = E.upd d f := by
  unfold putIn at h
  split at h
  · exact ⟨by assumption, (Option.some.inj h).symm⟩
  · cases h
theorem isAssign_some {op : Op} {x : Operand} (h : isAssign op = some x) : op = .move x ∨ op = .assign x := by
  cases op <;> simp [isAssign] at h
  · exact .inl (by rw [h])
  · exact .inr (by rw [h])

theorem FOp.sound {f : FOp} {E' : Env} (hc : f.chk P N o.op = true) (hdo : dstOk N f d o = true) (h : f.eval E d = some E') : OpOk P N o E (· = E') := by
  generalize hop : o.op = op at hc
  cases f with
  | store ad s n deep =>
    simp only [dstOk, FOp.isStore, if_true, beq_iff_eq] at hdo
    cases op <;> simp only [FOp.chk, isAssign, Bool.false_eq_true] at hc
    simp only [Bool.and_eq_true] at hc
    exact ok_store hop hdo hc.1 hc.2.1 hc.2.2 h
  | mv s =>
    simp only [dstOk, FOp.isStore, Bool.false_eq_true, if_false, Bool.and_eq_true, beq_iff_eq, decide_eq_true_eq] at hdo
    simp only [FOp.chk] at hc
    split at hc
    · rename_i x hx
      obtain ⟨h1, rfl⟩ := putIn_some h
      exact ok_move (hop ▸ isAssign_some hx) hdo.1 hdo.2 hc rfl h1
    · cases hc
  | mvP deep s =>
    simp only [dstOk, FOp.isStore, Bool.false_eq_true, if_false, Bool.and_eq_true, beq_iff_eq, decide_eq_true_eq] at hdo
    simp only [FOp.chk] at hc
    split at hc
    · rename_i x hx
      obtain rfl := Option.some.inj h
      exact ok_moveP (hop ▸ isAssign_some hx) hdo.1 hdo.2 hc
    · cases hc
  | pick c a b =>
    simp only [dstOk, FOp.isStore, Bool.false_eq_true, if_false, Bool.and_eq_true, beq_iff_eq, decide_eq_true_eq] at hdo
    cases op <;> simp only [FOp.chk, isAssign, Bool.false_eq_true] at hc
    simp only [Bool.and_eq_true] at hc
    simp only [FOp.eval] at h
    split at h
    · rename_i v hv
      split at h
      · obtain ⟨h1, rfl⟩ := putIn_some h
        exact ok_pick hop hdo.1 hdo.2 hc.1.1 hc.1.2 hc.2 hv rfl h1
      · obtain ⟨h1, rfl⟩ := putIn_some h
        exact ok_pick hop hdo.1 hdo.2 hc.1.1 hc.1.2 hc.2 hv rfl h1
    · cases h
  | alloc cs =>
    simp only [dstOk, FOp.isStore, Bool.false_eq_true, if_false, Bool.and_eq_true, beq_iff_eq, decide_eq_true_eq] at hdo
    cases op <;> simp only [FOp.chk, isAssign, Bool.false_eq_true] at hc
    obtain rfl := Option.some.inj h
    exact ok_alloc hop hdo.1 hdo.2 hc
  | box s =>
    simp only [dstOk, FOp.isStore, Bool.false_eq_true, if_false, Bool.and_eq_true, beq_iff_eq, decide_eq_true_eq] at hdo
    cases op <;> simp only [FOp.chk, isAssign, Bool.false_eq_true] at hc
    simp only [FOp.eval] at h
    split at h
    · cases h
    · rename_i hu
      obtain rfl := Option.some.inj h
      exact ok_box hop hdo.1 hdo.2 hc hu
  | load s n agg =>
    simp only [dstOk, FOp.isStore, Bool.false_eq_true, if_false, Bool.and_eq_true, beq_iff_eq, decide_eq_true_eq] at hdo
    cases op <;> simp only [FOp.chk, isAssign, Bool.false_eq_true] at hc
    simp only [Bool.and_eq_true, beq_iff_eq] at hc
    simp only [FOp.eval, Option.bind_eq_some_iff] at h
    obtain ⟨f, h1, h2⟩ := h
    obtain ⟨h3, rfl⟩ := putIn_some h2
    exact ok_load hop hdo.1 hdo.2 hc.1 hc.2.1 hc.2.2 h1 h3
  | loadM take s n agg =>
    simp only [dstOk, FOp.isStore, Bool.false_eq_true, if_false, Bool.and_eq_true, beq_iff_eq, decide_eq_true_eq] at hdo
    cases op <;> simp only [FOp.chk, isAssign, Bool.false_eq_true] at hc
    simp only [Bool.and_eq_true, beq_iff_eq] at hc
    simp only [FOp.eval, Option.map_eq_some_iff] at h
    obtain ⟨f, h1, rfl⟩ := h
    exact ok_loadM hop hdo.1 hdo.2 hc.1 hc.2.1 hc.2.2 h1
  | fa s off =>
    simp only [dstOk, FOp.isStore, Bool.false_eq_true, if_false, Bool.and_eq_true, beq_iff_eq, decide_eq_true_eq] at hdo
    cases op <;> simp only [FOp.chk, isAssign, Bool.false_eq_true] at hc
    simp only [Bool.and_eq_true, beq_iff_eq] at hc
    simp only [FOp.eval, Option.bind_eq_some_iff] at h
    obtain ⟨f, h1, h2⟩ := h
    obtain ⟨h3, rfl⟩ := putIn_some h2
    exact ok_fieldAddr hop hdo.1 hdo.2 hc.1 hc.2 h1 h3
  | ia s i size =>
    simp only [dstOk, FOp.isStore, Bool.false_eq_true, if_false, Bool.and_eq_true, beq_iff_eq, decide_eq_true_eq] at hdo
    cases op <;> simp only [FOp.chk, isAssign, Bool.false_eq_true] at hc
    simp only [Bool.and_eq_true, beq_iff_eq] at hc
    simp only [FOp.eval] at h
    split at h
    · rename_i k n hi
      simp only [Option.bind_eq_some_iff] at h
      obtain ⟨f, h1, h2⟩ := h
      obtain ⟨h3, rfl⟩ := putIn_some h2
      exact ok_indexAddr hop hdo.1 hdo.2 hc.1 hc.2.1 hc.2.2 hi h1 h3
    · cases h
  | len s =>
    simp only [dstOk, FOp.isStore, Bool.false_eq_true, if_false, Bool.and_eq_true, beq_iff_eq, decide_eq_true_eq] at hdo
    unfold FOp.chk at hc
    split at hc <;> try (cases hc; done)
    all_goals (rename_i heq; try (cases heq; done))
    rename_i x t _
    simp only [Bool.and_eq_true, beq_iff_eq] at hc
    simp only [FOp.eval] at h
    cases heq
    split at h
    · rename_i n hn
      obtain rfl := Option.some.inj h
      exact ok_len hop hdo.1 hdo.2 hc.1 hc.2 hn
    · cases h
  | lenS s =>
    simp only [dstOk, FOp.isStore, Bool.false_eq_true, if_false, Bool.and_eq_true, beq_iff_eq, decide_eq_true_eq] at hdo
    unfold FOp.chk at hc
    split at hc <;> try (cases hc; done)
    all_goals (rename_i heq; try (cases heq; done))
    rename_i x t _
    simp only [Bool.and_eq_true, beq_iff_eq] at hc
    simp only [FOp.eval] at h
    cases heq
    split at h
    · rename_i b hb
      obtain rfl := Option.some.inj h
      exact ok_lenS hop hdo.1 hdo.2 hc.1 hc.2 hb
    · cases h
  | app a b size bytes =>
    simp only [dstOk, FOp.isStore, Bool.false_eq_true, if_false, Bool.and_eq_true, beq_iff_eq, decide_eq_true_eq] at hdo
    unfold FOp.chk at hc
    split at hc <;> try (cases hc; done)
    all_goals (rename_i heq; try (cases heq; done))
    simp only [Bool.and_eq_true, beq_iff_eq] at hc
    simp only [FOp.eval, Option.map_eq_some_iff] at h
    cases heq
    obtain ⟨f, h1, rfl⟩ := h
    exact ok_append hop hdo.1 hdo.2 hc.1 hc.2.1 hc.2.2 h1
  | bin bop a b =>
    simp only [dstOk, FOp.isStore, Bool.false_eq_true, if_false, Bool.and_eq_true, beq_iff_eq, decide_eq_true_eq] at hdo
    cases op <;> simp only [FOp.chk, isAssign, Bool.false_eq_true] at hc
    simp only [Bool.and_eq_true, beq_iff_eq] at hc
    simp only [FOp.eval, Option.map_eq_some_iff] at h
    obtain ⟨f, h1, rfl⟩ := h
    exact ok_bin (hc.1 ▸ hop) hdo.1 hdo.2 hc.2.1 hc.2.2 h1
  | eqS neg cs a b =>
    simp only [dstOk, FOp.isStore, Bool.false_eq_true, if_false, Bool.and_eq_true, beq_iff_eq, decide_eq_true_eq] at hdo
    cases op <;> simp only [FOp.chk, isAssign, Bool.false_eq_true] at hc
    simp only [Bool.and_eq_true, beq_iff_eq] at hc
    simp only [FOp.eval, Option.map_eq_some_iff] at h
    obtain ⟨f, h1, rfl⟩ := h
    exact ok_eq (neg := neg) (hc.1 ▸ hop) hdo.1 hdo.2 hc.2.1 hc.2.2.1 hc.2.2.2 h1
  | eqB neg a b =>
    simp only [dstOk, FOp.isStore, Bool.false_eq_true, if_false, Bool.and_eq_true, beq_iff_eq, decide_eq_true_eq] at hdo
    cases op <;> simp only [FOp.chk, isAssign, Bool.false_eq_true] at hc
    simp only [Bool.and_eq_true, beq_iff_eq] at hc
    simp only [FOp.eval] at h
    split at h
    · rename_i x y hx hy
      obtain rfl := Option.some.inj h
      exact ok_eqB (neg := neg) (hc.1 ▸ hop) hdo.1 hdo.2 hc.2.1 hc.2.2.1 hc.2.2.2 hx hy
    · cases h
  | un uop a =>
    simp only [dstOk, FOp.isStore, Bool.false_eq_true, if_false, Bool.and_eq_true, beq_iff_eq, decide_eq_true_eq] at hdo
    cases op <;> simp only [FOp.chk, isAssign, Bool.false_eq_true] at hc
    simp only [Bool.and_eq_true, beq_iff_eq] at hc
    simp only [FOp.eval, Option.map_eq_some_iff] at h
    obtain ⟨f, h1, rfl⟩ := h
    exact ok_un (hc.1 ▸ hop) hdo.1 hdo.2 hc.2 h1
  | cv k a =>
    simp only [dstOk, FOp.isStore, Bool.false_eq_true, if_false, Bool.and_eq_true, beq_iff_eq, decide_eq_true_eq] at hdo
    cases op <;> simp only [FOp.chk, isAssign, Bool.false_eq_true] at hc
    simp only [Bool.and_eq_true, beq_iff_eq] at hc
    simp only [FOp.eval] at h
    split at h
    · rename_i k0 n hn
      obtain rfl := Option.some.inj h
      exact ok_cvInt hop hdo.1 hdo.2 hc.1 hc.2 hn
    · cases h
  | nilCheck a =>
    simp only [dstOk, FOp.isStore, Bool.false_eq_true, if_false, Bool.and_eq_true, beq_iff_eq, decide_eq_true_eq] at hdo
    cases op <;> simp only [FOp.chk, isAssign, Bool.false_eq_true] at hc
    simp only [FOp.eval] at h
    split at h
    · rename_i hn
      obtain ⟨h3, rfl⟩ := putIn_some h
      exact ok_nilCheck hop hdo.1 hdo.2 hc rfl hn h3
    · cases h
  | build tmpl ps ss =>
    simp only [dstOk, FOp.isStore, Bool.false_eq_true, if_false, Bool.and_eq_true, beq_iff_eq, decide_eq_true_eq] at hdo
    cases op <;> simp only [FOp.chk, isAssign, Bool.false_eq_true] at hc
    simp only [Bool.and_eq_true, beq_iff_eq] at hc
    simp only [fitsL, Bool.and_eq_true, beq_iff_eq] at hc
    simp only [FOp.eval, Option.map_eq_some_iff] at h
    obtain ⟨f, h1, rfl⟩ := h
    exact ok_build hop hdo.1 hdo.2 hc.1.2 (by simpa using hc.1.1) hc.2 h1
  | buildSl tmpl ln is ss =>
    simp only [dstOk, FOp.isStore, Bool.false_eq_true, if_false, Bool.and_eq_true, beq_iff_eq, decide_eq_true_eq] at hdo
    cases op <;> simp only [FOp.chk, isAssign, Bool.false_eq_true] at hc
    simp only [Bool.and_eq_true, beq_iff_eq] at hc
    simp only [fitsL, Bool.and_eq_true, beq_iff_eq] at hc
    simp only [FOp.eval, Option.map_eq_some_iff] at h
    obtain ⟨f, h1, rfl⟩ := h
    obtain ⟨e1, e2, e3, e4⟩ := hc
    subst e1; subst e2
    exact ok_buildSlice hop hdo.1 hdo.2 e3.2 (by simpa using e3.1) e4 h1
  | makeSl tmpl bytes a b =>
    simp only [dstOk, FOp.isStore, Bool.false_eq_true, if_false, Bool.and_eq_true, beq_iff_eq, decide_eq_true_eq] at hdo
    cases op <;> simp only [FOp.chk, isAssign, Bool.false_eq_true] at hc
    simp only [Bool.and_eq_true, beq_iff_eq] at hc
    simp only [FOp.eval] at h
    split at h
    · rename_i k1 x k2 y hx hy
      simp only [Option.map_eq_some_iff] at h
      obtain ⟨f, h1, rfl⟩ := h
      exact ok_makeSlice hop hdo.1 hdo.2 hc.1 hc.2.1 hc.2.2 hx hy h1
    · cases h
  | subStr s lo hi =>
    simp only [dstOk, FOp.isStore, Bool.false_eq_true, if_false, Bool.and_eq_true, beq_iff_eq, decide_eq_true_eq] at hdo
    unfold FOp.chk at hc
    split at hc <;> try (cases hc; done)
    all_goals (rename_i heq; try (cases heq; done))
    simp only [Bool.and_eq_true, beq_iff_eq] at hc
    simp only [FOp.eval] at h
    cases heq
    split at h
    · rename_i b hb
      split at h
      · rename_i l g hl hg
        simp only [Option.map_eq_some_iff] at h
        obtain ⟨f, h1, rfl⟩ := h
        exact ok_sliceStr hop hdo.1 hdo.2 hc.1 hc.2.1 hc.2.2.1 hc.2.2.2 hb hl hg h1
      · cases h
    · cases h
  | subSl s lo hi size =>
    simp only [dstOk, FOp.isStore, Bool.false_eq_true, if_false, Bool.and_eq_true, beq_iff_eq, decide_eq_true_eq] at hdo
    unfold FOp.chk at hc
    split at hc <;> try (cases hc; done)
    all_goals (rename_i heq; try (cases heq; done))
    simp only [Bool.and_eq_true, beq_iff_eq] at hc
    simp only [FOp.eval] at h
    cases heq
    split at h
    · rename_i full es hb
      split at h
      · rename_i l g hl hg
        split at h
        · rename_i hrow
          simp only [Option.map_eq_some_iff] at h
          obtain ⟨f, h1, rfl⟩ := h
          exact ok_sliceSl (smx := none) (m := none) hop hdo.1 hdo.2 hc.1 hc.2.1 hc.2.2.1 rfl hc.2.2.2 hb hrow hl hg (.inl ⟨rfl, rfl⟩) h1
        · cases h
      · cases h
    · cases h
  | field s off n agg =>
    simp only [dstOk, FOp.isStore, Bool.false_eq_true, if_false, Bool.and_eq_true, beq_iff_eq, decide_eq_true_eq] at hdo
    cases op <;> simp only [FOp.chk, isAssign, Bool.false_eq_true] at hc
    simp only [Bool.and_eq_true, beq_iff_eq] at hc
    simp only [FOp.eval] at h
    split at h
    · rename_i cs hb
      simp only [Option.bind_eq_some_iff] at h
      obtain ⟨f, h1, h2⟩ := h
      obtain ⟨h3, rfl⟩ := putIn_some h2
      exact ok_field hop hdo.1 hdo.2 hc.1 hc.2 hb h1 h3
    · cases h
  | index s i =>
    simp only [dstOk, FOp.isStore, Bool.false_eq_true, if_false, Bool.and_eq_true, beq_iff_eq, decide_eq_true_eq] at hdo
    cases op <;> simp only [FOp.chk, isAssign, Bool.false_eq_true] at hc
    simp only [Bool.and_eq_true, beq_iff_eq] at hc
    simp only [FOp.eval] at h
    split at h
    · rename_i b k n hb hi
      split at h
      · rename_i h0
        split at h
        · rename_i c hcc
          obtain rfl := Option.some.inj h
          exact ok_index hop hdo.1 hdo.2 hc.1 hc.2.1 hc.2.2 hb hi h0 hcc
        · cases h
      · cases h
    · cases h
  | extract n i =>
    simp only [dstOk, FOp.isStore, Bool.false_eq_true, if_false, Bool.and_eq_true, beq_iff_eq, decide_eq_true_eq] at hdo
    cases op <;> simp only [FOp.chk, isAssign, Bool.false_eq_true] at hc
    simp only [Bool.and_eq_true, beq_iff_eq] at hc
    simp only [FOp.eval] at h
    split at h
    · rename_i vs hv
      split at h
      · rename_i f hf
        split at h
        · rename_i ha
          obtain rfl := Option.some.inj h
          exact ok_extract (hc.1 ▸ hop) hdo.1 hdo.2 hc.2 hv hf ha
        · cases h
      · cases h
    · cases h
  | iaA s i size n =>
    simp only [dstOk, FOp.isStore, Bool.false_eq_true, if_false, Bool.and_eq_true, beq_iff_eq, decide_eq_true_eq] at hdo
    cases op <;> simp only [FOp.chk, isAssign, Bool.false_eq_true] at hc
    simp only [Bool.and_eq_true, beq_iff_eq] at hc
    simp only [FOp.eval] at h
    split at h
    · rename_i k j hi
      simp only [Option.bind_eq_some_iff] at h
      obtain ⟨f, h1, h2⟩ := h
      obtain ⟨h3, rfl⟩ := putIn_some h2
      exact ok_indexAddrA hop hdo.1 hdo.2 hc.1 hc.2.1 hc.2.2 hi h1 h3
    · cases h
  | cvStr s =>
    simp only [dstOk, FOp.isStore, Bool.false_eq_true, if_false, Bool.and_eq_true, beq_iff_eq, decide_eq_true_eq] at hdo
    cases op <;> simp only [FOp.chk, isAssign, Bool.false_eq_true] at hc
    simp only [Bool.and_eq_true, beq_iff_eq] at hc
    simp only [FOp.eval] at h
    split at h
    · rename_i es he
      simp only [Option.map_eq_some_iff] at h
      obtain ⟨f, h1, rfl⟩ := h
      exact ok_cvStr hop hdo.1 hdo.2 hc.1 hc.2 he h1
    · cases h
  | mm isMax a b =>
    simp only [dstOk, FOp.isStore, Bool.false_eq_true, if_false, Bool.and_eq_true, beq_iff_eq, decide_eq_true_eq] at hdo
    unfold FOp.chk at hc
    split at hc <;> try (cases hc; done)
    all_goals (rename_i heq; try (cases heq; done))
    cases heq
    simp only [Bool.and_eq_true, decide_eq_true_eq] at hc
    obtain ⟨rfl, ha, hb⟩ := hc
    simp only [FOp.eval] at h
    split at h
    · rename_i k x k' y hx hy
      obtain rfl := Option.some.inj h
      exact ok_minmax (isMax := isMax) (ss := [a, b]) (g := .int k x) (l := [.int k' y]) hop hdo.1 hdo.2 (by simp [ha, hb]) rfl (by simp [hx, hy]) ⟨_, _, rfl⟩ (by
        intro s hs
        simp only [List.mem_cons, List.not_mem_nil, or_false] at hs
        rcases hs with rfl | rfl
        · exact ⟨_, _, hx⟩
        · exact ⟨_, _, hy⟩) rfl
    · cases h
end
end Go.Fm
