/- Numbers, strings, comparisons. -/
import Derived.Test.YthfkhokmgolabaaDoorFmSl
import Derived.Laws.StructEq
set_option linter.unusedVariables false
set_option linter.unusedSimpArgs false
namespace Go.Fm
open Go

def bitsI (op : BinOp) (k : IntKind) (x y : Int) : Int :=
  let a := BitVec.ofInt k.bits x
  let b := BitVec.ofInt k.bits y
  match op with
  | .and => k.wrap (a &&& b).toNat
  | .or => k.wrap (a ||| b).toNat
  | .xor => k.wrap (a ^^^ b).toNat
  | _ => k.wrap (a &&& ~~~b).toNat

def intF (op : BinOp) (k : IntKind) (x y : Int) : Option FV :=
  match op with
  | .add => some (.int k (k.wrap (x + y)))
  | .sub => some (.int k (k.wrap (x - y)))
  | .mul => some (.int k (k.wrap (x * y)))
  | .quo => if y = 0 then none else some (.int k (k.wrap (x.tdiv y)))
  | .rem => if y = 0 then none else some (.int k (x.tmod y))
  | .eql => some (.bool (decide (x = y)))
  | .neq => some (.bool (!decide (x = y)))
  | .lss => some (.bool (decide (x < y)))
  | .leq => some (.bool (decide (x ≤ y)))
  | .gtr => some (.bool (decide (y < x)))
  | .geq => some (.bool (decide (y ≤ x)))
  | .and => some (.int k (bitsI .and k x y))
  | .or => some (.int k (bitsI .or k x y))
  | .xor => some (.int k (bitsI .xor k x y))
  | .andNot => some (.int k (bitsI .andNot k x y))
  | .shl => if 0 ≤ y then some (.int k (k.wrap (x * 2 ^ (min y.toNat k.bits)))) else none
  | .shr => if 0 ≤ y then some (.int k (x.fdiv (2 ^ (min y.toNat k.bits)))) else none

def strF (op : BinOp) (s t : List UInt8) : Option FV :=
  match op with
  | .add => if s.length + t.length ≤ 9223372036854775807 then some (.str (s ++ t)) else none
  | .eql => some (.bool (decide (s = t)))
  | .neq => some (.bool (!decide (s = t)))
  | .lss => some (.bool (Op.bytesLess s t))
  | .leq => some (.bool (Op.bytesLess s t || decide (s = t)))
  | .gtr => some (.bool (!(Op.bytesLess s t || decide (s = t))))
  | .geq => some (.bool (!(Op.bytesLess s t)))
  | _ => none

def isShift : BinOp → Bool
  | .shl | .shr => true
  | _ => false
def binF (op : BinOp) (a b : FV) : Option FV :=
  match a, b with
  | .int k x, .int k' y => if isShift op ∨ k = k' then intF op k x y else none
  | .str s, .str t => strF op s t
  | _, _ => none

section
variable {P : Program} {N : Nat} {o : Oper} {E : Env} {d : Nat}

theorem run_binOp_int {w : World} {op : BinOp} {t : TypeId} {k k' : IntKind} {x y : Int} {f : FV} (h : binF op (.int k x) (.int k' y) = some f) :
    ∃ v, (binOp op t (.int k x) (.int k' y)).run P w = .ok v w ∧ Rep w.heap (fun _ => False) [v] [f] [] := by
  simp only [binF] at h
  split at h
  case isFalse => cases h
  rename_i hk
  cases op <;> simp only [isShift, intF] at h hk
  case shl =>
    split at h
    case isFalse => cases h
    rename_i h0
    cases h
    refine ⟨_, ?_, .int .nil⟩
    have : ¬ y < 0 := by omega
    simp [binOp, Op.shift, this]
  case shr =>
    split at h
    case isFalse => cases h
    rename_i h0
    cases h
    refine ⟨_, ?_, .int .nil⟩
    have : ¬ y < 0 := by omega
    simp [binOp, Op.shift, this]
  all_goals
    have hk' : k = k' := by simpa using hk
    subst hk'
  case quo =>
    split at h
    case isTrue => cases h
    rename_i h0
    cases h
    exact ⟨_, by simp [binOp, Op.intDiv, h0], .int .nil⟩
  case rem =>
    split at h
    case isTrue => cases h
    rename_i h0
    cases h
    exact ⟨_, by simp [binOp, Op.intDiv, h0], .int .nil⟩
  case add => cases h; exact ⟨_, by simp [binOp, Op.intArith], .int .nil⟩
  case sub => cases h; exact ⟨_, by simp [binOp, Op.intArith], .int .nil⟩
  case mul => cases h; exact ⟨_, by simp [binOp, Op.intArith], .int .nil⟩
  case eql => cases h; exact ⟨.bool (decide (x = y)), by simp [binOp, Op.intCmp]; rfl, .bool .nil⟩
  case neq => cases h; exact ⟨.bool (!decide (x = y)), by simp [binOp, Op.intCmp]; rfl, .bool .nil⟩
  case lss => cases h; exact ⟨.bool (decide (x < y)), by simp [binOp, Op.intCmp], .bool .nil⟩
  case leq => cases h; exact ⟨.bool (decide (x ≤ y)), by simp [binOp, Op.intCmp], .bool .nil⟩
  case gtr => cases h; exact ⟨.bool (decide (y < x)), by simp [binOp, Op.intCmp], .bool .nil⟩
  case geq => cases h; exact ⟨.bool (decide (y ≤ x)), by simp [binOp, Op.intCmp], .bool .nil⟩
  case and => cases h; exact ⟨.int k (bitsI .and k x y), by simp [binOp]; rfl, .int .nil⟩
  case or => cases h; exact ⟨.int k (bitsI .or k x y), by simp [binOp]; rfl, .int .nil⟩
  case xor => cases h; exact ⟨.int k (bitsI .xor k x y), by simp [binOp]; rfl, .int .nil⟩
  case andNot => cases h; exact ⟨.int k (bitsI .andNot k x y), by simp [binOp]; rfl, .int .nil⟩

theorem run_binOp_str {w : World} {op : BinOp} {t : TypeId} {x y : List UInt8} {f : FV} (h : binF op (.str x) (.str y) = some f) :
    ∃ v, (binOp op t (.string ⟨x.toArray⟩) (.string ⟨y.toArray⟩)).run P w = .ok v w ∧ Rep w.heap (fun _ => False) [v] [f] [] := by
  simp only [binF] at h
  cases op <;> simp only [strF] at h <;> try (cases h; done)
  case add =>
    split at h
    case isFalse => cases h
    rename_i h0
    cases h
    refine ⟨.string ⟨(x ++ y).toArray⟩, ?_, .str .nil⟩
    have h1 : (ByteArray.mk x.toArray).size = x.length := by simp [ByteArray.size]
    have h2 : (ByteArray.mk y.toArray).size = y.length := by simp [ByteArray.size]
    have e : (ByteArray.mk x.toArray) ++ (ByteArray.mk y.toArray) = ⟨(x ++ y).toArray⟩ := by
      apply bytes_eq
      simp [ByteArray.data_append]
    have hmax : ((x.length : Int)) + (y.length : Int) ≤ 9223372036854775807 := by omega
    simp [binOp, Op.stringOp, h1, h2, hmax, e, IntKind.max, IntKind.bits, IntKind.signed]
  all_goals
    have hbeq : (x == y) = decide (x = y) := by rw [Bool.eq_iff_iff]; simp
    cases h
    refine ⟨_, ?_, .bool .nil⟩
    simp [binOp, Op.stringOp, hbeq]

theorem ok_bin {op : BinOp} {t u : TypeId} {s1 s2 : Sr} {x y : Operand} {f : FV} (ho : o.op = .binOp op t x y u) (hd : o.dst = some d) (hdN : d < N) (hs1 : s1.fits N x = true) (hs2 : s2.fits N y = true)
    (hl : binF op (E.look s1) (E.look s2) = some f) : OpOk P N o E (· = E.upd d f) := by
  have key : (∃ k1 n1 k2 n2, E.look s1 = .int k1 n1 ∧ E.look s2 = .int k2 n2) ∨ (∃ b1 b2, E.look s1 = .str b1 ∧ E.look s2 = .str b2) := by
    unfold binF at hl
    split at hl
    · rename_i h1 h2; exact .inl ⟨_, _, _, _, h1, h2⟩
    · rename_i h1 h2; exact .inr ⟨_, _, h1, h2⟩
    · cases hl
  have hroot : f.notRoot d = true := by
    rcases key with ⟨k1, n1, k2, n2, e1, e2⟩ | ⟨b1, b2, e1, e2⟩
    · rw [e1, e2] at hl
      obtain ⟨v, _, hr⟩ := run_binOp_int (P := P) (w := default) (t := 0) hl
      have := hr.noalias f (by simp)
      cases f <;> first | rfl | cases this
    · rw [e1, e2] at hl
      obtain ⟨v, _, hr⟩ := run_binOp_str (P := P) (w := default) (t := 0) hl
      have := hr.noalias f (by simp)
      cases f <;> first | rfl | cases this
  refine @ok_look P N o E d f hd hdN hroot ?_
  intro xv a w S R r
  have l1 := looked r hs1
  have l2 := looked r hs2
  rcases key with ⟨k1, n1, k2, n2, e1, e2⟩ | ⟨b1, b2, e1, e2⟩
  · rw [e1, e2] at hl
    rw [e1] at l1
    rw [e2] at l2
    obtain ⟨v, hrun, hr⟩ := run_binOp_int (P := P) (w := w) (t := t) hl
    refine ⟨v, ?_, .closed (hr.mono (fun _ h => h.elim) (Nat.le_refl _) (fun _ _ _ => rfl) (fun _ _ => rfl))⟩
    have hg : (eqGuard op t x y (.int k1 n1) (.int k2 n2)).run P w = .ok () w := by
      unfold eqGuard; split <;> simp
    simp only [execOp, ho, Sem.run_bind, l1.int, l2.int, hg, Result.andThen_ok, hrun, Sem.run_pure]
  · rw [e1, e2] at hl
    rw [e1] at l1
    rw [e2] at l2
    obtain ⟨v, hrun, hr⟩ := run_binOp_str (P := P) (w := w) (t := t) hl
    refine ⟨v, ?_, .closed (hr.mono (fun _ h => h.elim) (Nat.le_refl _) (fun _ _ _ => rfl) (fun _ _ => rfl))⟩
    have hg : (eqGuard op t x y (.string ⟨b1.toArray⟩) (.string ⟨b2.toArray⟩)).run P w = .ok () w := by
      unfold eqGuard; split <;> simp
    simp only [execOp, ho, Sem.run_bind, l1.str, l2.str, hg, Result.andThen_ok, hrun, Sem.run_pure]

/-! ### == on values of several cells -/
/-- 0: an integer · 1: a bool · 2: a string -/
def eqL : List Nat → List FV → List FV → Option Bool
  | [], [], [] => some true
  | c :: cs, f :: fs, g :: gs =>
    match c, f, g with
    | 0, .int k a, .int k' b => if k = k' then (eqL cs fs gs).map (decide (a = b) && ·) else none
    | 1, .bool a, .bool b => (eqL cs fs gs).map ((a == b) && ·)
    | 2, .str a, .str b => (eqL cs fs gs).map (decide (a = b) && ·)
    | _, _, _ => none
  | _, _, _ => none

mutual
/-- the cells of a type that '==' compares one by one -/
def eqT (P : Program) : Nat → TypeId → Option (List Nat)
  | 0, _ => none
  | n + 1, t =>
    match P.underlying t with
    | some .bool => some [1]
    | some (.int _) => some [0]
    | some .string => some [2]
    | some (.struct fs) => if P.stoodInHeld t || P.eqGuardType P.depth t then none else eqTs P n fs.toList 0
    | _ => none
def eqTs (P : Program) : Nat → List Field → Nat → Option (List Nat)
  | _, [], _ => some []
  | n, f :: fs, off =>
    if f.name = "_" ∨ f.offset ≠ off then none else
    match eqT P n f.type with
    | none => none
    | some cs => if sizeIs P f.type cs.length then (match eqTs P n fs (off + cs.length) with | none => none | some ds => some (cs ++ ds)) else none
end

theorem eqL_append : ∀ {cs ds : List Nat} {fs gs fs' gs' : List FV} {r : Bool}, fs.length = cs.length → gs.length = cs.length → eqL (cs ++ ds) (fs ++ fs') (gs ++ gs') = some r → ∃ r1 r2, eqL cs fs gs = some r1 ∧ eqL ds fs' gs' = some r2 ∧ r = (r1 && r2)
  | [], ds, [], [], fs', gs', r, _, _, h => ⟨true, r, rfl, h, by simp⟩
  | [], _, _ :: _, _, _, _, _, h, _, _ => by simp at h
  | [], _, [], _ :: _, _, _, _, _, h, _ => by simp at h
  | _ :: _, _, [], _, _, _, _, h, _, _ => by simp at h
  | _ :: _, _, _ :: _, [], _, _, _, _, h, _ => by simp at h
  | c :: cs, ds, f :: fs, g :: gs, fs', gs', r, h1, h2, h => by
    have step : ∀ {b : Bool}, (eqL (cs ++ ds) (fs ++ fs') (gs ++ gs')).map (b && ·) = some r → ∃ r1 r2, (eqL cs fs gs).map (b && ·) = some r1 ∧ eqL ds fs' gs' = some r2 ∧ r = (r1 && r2) := by
      intro b hb
      cases h3 : eqL (cs ++ ds) (fs ++ fs') (gs ++ gs') with
      | none => rw [h3] at hb; cases hb
      | some r0 =>
        rw [h3] at hb
        simp only [Option.map_some, Option.some.injEq] at hb
        obtain ⟨r1, r2, e1, e2, rfl⟩ := eqL_append (by simpa using h1) (by simpa using h2) h3
        exact ⟨b && r1, r2, by rw [e1]; rfl, e2, by rw [← hb, Bool.and_assoc]⟩
    simp only [List.cons_append, eqL] at h ⊢
    split at h
    · split at h
      · rename_i hk
        obtain ⟨r1, r2, e1, e2, e3⟩ := step h
        exact ⟨r1, r2, by simp only [hk, if_true]; exact e1, e2, e3⟩
      · cases h
    · obtain ⟨r1, r2, e1, e2, e3⟩ := step h
      exact ⟨r1, r2, e1, e2, e3⟩
    · obtain ⟨r1, r2, e1, e2, e3⟩ := step h
      exact ⟨r1, r2, e1, e2, e3⟩
    · cases h

theorem eqL_len : ∀ {cs : List Nat} {fs gs : List FV} {r : Bool}, eqL cs fs gs = some r → fs.length = cs.length ∧ gs.length = cs.length
  | [], [], [], _, _ => ⟨rfl, rfl⟩
  | [], _ :: _, _, _, h => by simp [eqL] at h
  | [], [], _ :: _, _, h => by simp [eqL] at h
  | _ :: _, [], _, _, h => by simp [eqL] at h
  | _ :: _, _ :: _, [], _, h => by simp [eqL] at h
  | c :: cs, f :: fs, g :: gs, r, h => by
    have step : ∀ {b : Bool}, (eqL cs fs gs).map (b && ·) = some r → fs.length = cs.length ∧ gs.length = cs.length := by
      intro b hb
      cases h3 : eqL cs fs gs with
      | none => rw [h3] at hb; cases hb
      | some r0 => exact eqL_len h3
    simp only [eqL] at h
    split at h
    · split at h
      · have := step h; simp [this.1, this.2]
      · cases h
    · have := step h; simp [this.1, this.2]
    · have := step h; simp [this.1, this.2]
    · cases h

/-- a part of an aggregate -/
theorem run_part {w : World} {t : TypeId} {n off : Nat} {cs : List Value} (hs : sizeIs P t n = true) (hoff : off + n ≤ cs.length) :
    (isAggT P t = some true → (part t cs.toArray off).run P w = .ok (.agg ((cs.drop off).take n).toArray) w) ∧
    (isAggT P t = some false → ∀ v, cs[off]? = some v → (part t cs.toArray off).run P w = .ok v w) := by
  unfold sizeIs at hs
  cases hi : P.info? t with
  | none => rw [hi] at hs; cases hs
  | some i =>
    rw [hi] at hs
    simp only [beq_iff_eq] at hs
    subst hs
    refine ⟨fun ha => ?_, fun ha v hv => ?_⟩
    · simp only [part, Sem.run_bind, run_isAgg' ha, Result.andThen_ok, Sem.run_ite, if_true, run_sizeOf' hi, Sem.run_pure]
      congr 2
      apply Array.ext'
      simp [List.take_drop, Nat.add_comm]
    · have : cs.toArray[off]? = some v := by simpa using hv
      simp only [part, Sem.run_bind, run_isAgg' ha, Result.andThen_ok, Sem.run_ite, Bool.false_eq_true, if_false, this, Sem.run_pure]

def valOfCells (agg : Bool) (cs : List Value) : Value := if agg then .agg cs.toArray else cs.headD undef

theorem Rep.nilR {h : Array Obj} {S : Nat → Prop} {vs fs} (r : Rep h S vs fs []) (off n : Nat) : Rep h S ((vs.drop off).take n) ((fs.drop off).take n) [] := ((r.takeD off).2.takeD n).1

theorem eq_fields {w : World} {S : Nat → Prop} (n D : Nat) (IH : ∀ (t : TypeId) (cs : List Nat) (agg : Bool), eqT P n t = some cs → isAggT P t = some agg → ∀ {vs us : List Value} {fs gs : List FV} {r : Bool}, Rep w.heap S vs fs [] → Rep w.heap S us gs [] → eqL cs fs gs = some r →
    (Op.equalIn (D + n) t (valOfCells agg vs) (valOfCells agg us)).run P w = .ok r w) : ∀ (fl : List Field) (off : Nat) (cs : List Nat), eqTs P n fl off = some cs → ∀ {vs us : List Value} {fs gs : List FV} {r : Bool}, Rep w.heap S vs fs [] → Rep w.heap S us gs [] →
    fs.length = off + cs.length → gs.length = off + cs.length → eqL cs (fs.drop off) (gs.drop off) = some r → (Op.eqFields (D + n) vs.toArray us.toArray fl).run P w = .ok r w
  | [], off, cs, h, vs, us, fs, gs, r, rv, ru, hl1, hl2, he => by
    simp only [eqTs, Option.some.injEq] at h
    subst h
    have e1 : fs.drop off = [] := List.drop_of_length_le (by simp at hl1; omega)
    have e2 : gs.drop off = [] := List.drop_of_length_le (by simp at hl2; omega)
    rw [e1, e2] at he
    cases he
    simp [Op.eqFields]
  | f :: fl, off, cs, h, vs, us, fs, gs, r, rv, ru, hl1, hl2, he => by
    simp only [eqTs] at h
    split at h
    case isTrue => cases h
    rename_i hn
    simp only [not_or, ne_eq, Decidable.not_not] at hn
    cases ht : eqT P n f.type with
    | none => rw [ht] at h; cases h
    | some c1 =>
    rw [ht] at h
    simp only at h
    split at h
    case isFalse => cases h
    rename_i hsz
    cases hrest : eqTs P n fl (off + c1.length) with
    | none => rw [hrest] at h; cases h
    | some c2 =>
    rw [hrest] at h
    simp only [Option.some.injEq] at h
    subst h
    have hv := rv.length
    have hu := ru.length
    simp only [List.length_append] at hl1 hl2
    have hagg : ∃ agg, isAggT P f.type = some agg := by
      unfold isAggT
      cases n with
      | zero => simp [eqT] at ht
      | succ n =>
        unfold eqT at ht
        cases hu' : P.underlying f.type with
        | none => rw [hu'] at ht; cases ht
        | some de => cases de <;> exact ⟨_, rfl⟩
    obtain ⟨agg, hagg⟩ := hagg
    have esplit : ∀ (l : List FV), l.drop off = (l.drop off).take c1.length ++ l.drop (off + c1.length) := fun l => by
      rw [← List.drop_drop, List.take_append_drop]
    rw [esplit fs, esplit gs] at he
    obtain ⟨r1, r2, h1, h2, rfl⟩ := eqL_append (by simp; omega) (by simp; omega) he
    have hone : isAggT P f.type = some false → c1.length = 1 := by
      intro hf
      unfold isAggT at hf
      cases n with
      | zero => simp [eqT] at ht
      | succ n =>
        unfold eqT at ht
        cases hu' : P.underlying f.type with
        | none => rw [hu'] at ht; cases ht
        | some de =>
          rw [hu'] at ht hf
          cases de <;> simp only at ht hf <;> first | (cases ht; done) | (cases hf; done) | (cases ht; rfl)
    have hpart : ∀ {l : List Value} {g : List FV}, Rep w.heap S l g [] → g.length = off + (c1.length + c2.length) → (part f.type l.toArray f.offset).run P w = .ok (valOfCells agg ((l.drop off).take c1.length)) w := by
      intro l g rl hlg
      have hll := rl.length
      rw [hn.2]
      obtain ⟨p1, p2⟩ := run_part (P := P) (w := w) (t := f.type) (n := c1.length) (off := off) (cs := l) hsz (by omega)
      cases agg
      · have h1 := hone hagg
        have hlt : off < l.length := by omega
        rw [p2 hagg _ (List.getElem?_eq_getElem hlt)]
        simp only [valOfCells, Bool.false_eq_true, if_false]
        rw [h1, List.drop_eq_getElem_cons hlt]
        rfl
      · rw [p1 hagg]
        rfl
    have key := IH f.type c1 agg ht hagg (rv.nilR off c1.length) (ru.nilR off c1.length) h1
    have rest := eq_fields n D IH fl (off + c1.length) c2 hrest rv ru (by omega) (by omega) h2
    simp only [Op.eqFields, hn.1, ne_eq, not_false_eq_true, if_true, Sem.run_bind, hpart rv (by omega), hpart ru (by omega), Result.andThen_ok, key, Sem.run_ite, Sem.run_pure]
    cases r1
    · simp
    · simpa using rest

theorem eq_type {w : World} {S : Nat → Prop} : ∀ (n D : Nat) (t : TypeId) (cs : List Nat) (agg : Bool), eqT P n t = some cs → isAggT P t = some agg → ∀ {vs us : List Value} {fs gs : List FV} {r : Bool}, Rep w.heap S vs fs [] → Rep w.heap S us gs [] → eqL cs fs gs = some r →
    (Op.equalIn (D + n) t (valOfCells agg vs) (valOfCells agg us)).run P w = .ok r w
  | 0, D, t, cs, agg, h, _, vs, us, fs, gs, r, _, _, _ => by simp [eqT] at h
  | n + 1, D, t, cs, agg, h, ha, vs, us, fs, gs, r, rv, ru, he => by
    obtain ⟨hlf, hlg⟩ := eqL_len he
    have hv := rv.length
    have hu := ru.length
    have one : cs.length = 1 → ∃ v u f g, vs = [v] ∧ us = [u] ∧ fs = [f] ∧ gs = [g] := by
      intro h1
      rw [h1] at hlf hlg
      rw [hlf] at hv
      rw [hlg] at hu
      match vs, us, fs, gs, hv, hu, hlf, hlg with
      | [v], [u], [f], [g], _, _, _, _ => exact ⟨v, u, f, g, rfl, rfl, rfl, rfl⟩
    unfold eqT at h
    cases hu' : P.underlying t with
    | none => rw [hu'] at h; cases h
    | some de =>
    rw [hu'] at h
    unfold isAggT at ha
    rw [hu'] at ha
    cases de <;> simp only at h ha <;> try (cases h; done)
    · -- bool
      cases h; cases ha
      obtain ⟨v, u, f, g, rfl, rfl, rfl, rfl⟩ := one rfl
      simp only [eqL] at he
      split at he <;> try (cases he; done)
      · rename_i h1; cases h1
      · simp only [Option.map_some, Option.some.injEq, Bool.and_true] at he
        subst he
        cases rv; cases ru
        exact run_equalIn_bool' w (D + n) t _ _ hu'
      · rename_i h1; cases h1
    · -- int
      cases h; cases ha
      obtain ⟨v, u, f, g, rfl, rfl, rfl, rfl⟩ := one rfl
      simp only [eqL] at he
      split at he <;> try (cases he; done)
      · split at he
        case isFalse => cases he
        rename_i hk
        subst hk
        simp only [Option.map_some, Option.some.injEq, Bool.and_true] at he
        subst he
        cases rv; cases ru
        rw [show D + (n + 1) = (D + n) + 1 by omega]
        exact run_equalIn_int w (D + n) t _ _ _ _ hu'
      · rename_i h1; cases h1
      · rename_i h1; cases h1
    · -- string
      cases h; cases ha
      obtain ⟨v, u, f, g, rfl, rfl, rfl, rfl⟩ := one rfl
      simp only [eqL] at he
      split at he <;> try (cases he; done)
      · rename_i h1; cases h1
      · rename_i h1; cases h1
      · simp only [Option.map_some, Option.some.injEq, Bool.and_true] at he
        subst he
        rename_i a b _
        have e1 : v = .string ⟨List.toArray a⟩ := by cases rv; rfl
        have e2 : u = .string ⟨List.toArray b⟩ := by cases ru; rfl
        rw [e1, e2]
        have := run_equalIn_string (P := P) w (D + n) t ⟨List.toArray a⟩ ⟨List.toArray b⟩ hu'
        rw [ByteArray.toList_mk, ByteArray.toList_mk] at this
        rw [show D + (n + 1) = (D + n) + 1 by omega]
        simp only [valOfCells, Bool.false_eq_true, if_false, List.headD_cons]
        rw [this]
        congr 1
        rw [Bool.eq_iff_iff]; simp
    · -- struct
      rename_i fields
      cases ha
      split at h
      case isTrue => cases h
      rename_i hst
      simp only [Bool.or_eq_true, not_or, Bool.not_eq_true] at hst
      simp only [valOfCells, if_true]
      have hf : P.fieldsOf t = fields := by simp [Program.fieldsOf, hu']
      rw [show D + (n + 1) = (D + n) + 1 by omega, run_equalIn_struct w (D + n) t vs.toArray us.toArray (by rw [hf]; exact hu') hst.1, hf]
      have := eq_fields n D (fun t cs agg h1 h2 => eq_type n D t cs agg h1 h2) fields.toList 0 cs h (vs := vs) (us := us) (fs := fs) (gs := gs) (r := r) rv ru (by simpa using hlf) (by simpa using hlg) (by simpa using he)
      exact this
/-- '==' or '!=' on structs -/
def eqF (neg : Bool) (cs : List Nat) (a b : FV) : Option FV :=
  match a, b with
  | .agg xs, .agg ys => (eqL cs xs ys).map fun r => .bool (if neg then !r else r)
  | _, _ => none
def eqOk (P : Program) (t : TypeId) (cs : List Nat) : Bool := (eqT P 20 t == some cs) && (isAggT P t == some true) && !P.eqGuardType P.depth t

theorem Rep.agg_inv {h : Array Obj} {S : Nat → Prop} {v : Value} {gs : List FV} (r : Rep h S [v] [.agg gs] []) : ∃ cs, v = .agg (List.toArray cs) ∧ Rep h S cs gs [] := by
  generalize hR : ([] : List Nat) = R at r
  cases r with
  | agg h1 h2 =>
    have := List.append_eq_nil_iff.1 hR.symm
    rw [this.1] at h1
    exact ⟨_, rfl, by rw [← hR]; exact h1⟩

theorem ok_eq {neg : Bool} {t u : TypeId} {cs : List Nat} {s1 s2 : Sr} {x y : Operand} {f : FV} (ho : o.op = .binOp (if neg then .neq else .eql) t x y u) (hd : o.dst = some d) (hdN : d < N) (hs1 : s1.fits N x = true) (hs2 : s2.fits N y = true) (ht : eqOk P t cs = true)
    (hl : eqF neg cs (E.look s1) (E.look s2) = some f) : OpOk P N o E (· = E.upd d f) := by
  have hf : ∃ b, f = .bool b := by
    unfold eqF at hl
    split at hl
    · rename_i xs ys _ _
      cases he : eqL cs xs ys with
      | none => rw [he] at hl; cases hl
      | some r => rw [he] at hl; cases hl; exact ⟨_, rfl⟩
    · cases hl
  refine @ok_look P N o E d f hd hdN (by obtain ⟨b, rfl⟩ := hf; rfl) ?_
  intro xv a w S R r
  have l1 := looked r hs1
  have l2 := looked r hs2
  simp only [eqOk, Bool.and_eq_true, beq_iff_eq, Bool.not_eq_true'] at ht
  obtain ⟨⟨hT, hA⟩, hg⟩ := ht
  unfold eqF at hl
  split at hl
  · rename_i xs ys e1 e2
    rw [e1] at l1
    rw [e2] at l2
    cases he : eqL cs xs ys with
    | none => rw [he] at hl; cases hl
    | some rr =>
    rw [he] at hl
    simp only [Option.map_some, Option.some.injEq] at hl
    subst hl
    obtain ⟨vs, hv, rv⟩ := (l1.rep rfl).agg_inv
    obtain ⟨us, hu, ru⟩ := (l2.rep rfl).agg_inv
    have key := eq_type (P := P) 20 9980 t cs true hT hA rv ru he
    simp only [valOfCells, if_true] at key
    refine ⟨.bool (if neg then !rr else rr), ?_, .closed (.bool .nil)⟩
    rw [execOp, ho]
    simp only [Sem.run_bind, hv, hu, run_eqGuard_agg w _ t x y _ _ hg, Result.andThen_ok]
    cases neg
    · simp only [Bool.false_eq_true, if_false, run_eql_struct]
      rw [show (10000 : Nat) = 9980 + 20 from rfl, key]
      rfl
    · simp only [if_true, run_neq_struct]
      rw [show (10000 : Nat) = 9980 + 20 from rfl, key]
      rfl
  · cases hl

/-- '==' or '!=' on bools -/
def isBoolT (P : Program) (t : TypeId) : Bool :=
  match P.underlying t with
  | some .bool => true
  | _ => false
theorem ok_eqB {neg : Bool} {t u : TypeId} {s1 s2 : Sr} {x y : Operand} {b1 b2 : Bool} (ho : o.op = .binOp (if neg then .neq else .eql) t x y u) (hd : o.dst = some d) (hdN : d < N) (hs1 : s1.fits N x = true) (hs2 : s2.fits N y = true) (ht : isBoolT P t = true)
    (h1 : E.look s1 = .bool b1) (h2 : E.look s2 = .bool b2) : OpOk P N o E (· = E.upd d (.bool (if neg then !(b1 == b2) else b1 == b2))) := by
  refine @ok_look P N o E d _ hd hdN rfl ?_
  intro xv a w S R r
  have l1 := looked r hs1
  have l2 := looked r hs2
  rw [h1] at l1
  rw [h2] at l2
  have hty : P.underlying t = some .bool := by
    unfold isBoolT at ht
    cases hu : P.underlying t with
    | none => rw [hu] at ht; cases ht
    | some de => rw [hu] at ht; cases de <;> first | rfl | cases ht
  refine ⟨_, ?_, .closed (.bool .nil)⟩
  rw [execOp, ho]
  have hg : ∀ op, (eqGuard op t x y (.bool b1) (.bool b2)).run P w = .ok () w := by intro op; unfold eqGuard; split <;> simp
  simp only [Sem.run_bind, l1.bool, l2.bool]
  cases neg
  · simp only [Bool.false_eq_true, if_false, hg, Result.andThen_ok, run_eql_bool w t b1 b2 hty, Sem.run_pure]
  · simp only [if_true, hg, Result.andThen_ok, run_neq_bool w t b1 b2 hty, Sem.run_pure]

/-! ### the rest of what only computes -/
def unF (op : UnOp) (a : FV) : Option FV :=
  match op, a with
  | .neg, .int k n => some (.int k (k.wrap (0 - n)))
  | .xor, .int k n => some (.int k (bitsI .xor k (if k.signed then -1 else k.max) n))
  | .not, .bool b => some (.bool !b)
  | _, _ => none
theorem ok_un {op : UnOp} {t : TypeId} {s : Sr} {x : Operand} {f : FV} (ho : o.op = .unOp op t x) (hd : o.dst = some d) (hdN : d < N) (hs : s.fits N x = true) (hl : unF op (E.look s) = some f) : OpOk P N o E (· = E.upd d f) := by
  unfold unF at hl
  split at hl <;> try (cases hl; done)
  all_goals
    rename_i e1
    cases hl
    refine @ok_look P N o E d _ hd hdN rfl ?_
    intro xv a w S R r
    have l := looked r hs
    rw [e1] at l
  · exact ⟨_, by simp [execOp, ho, l.int, Op.unary, Op.intArith], .closed (.int .nil)⟩
  · exact ⟨_, by simp [execOp, ho, l.int, Op.unary]; rfl, .closed (.int .nil)⟩
  · exact ⟨_, by simp [execOp, ho, l.bool, Op.unary], .closed (.bool .nil)⟩

/-- a conversion to an integer type -/
def toIntOk (P : Program) (src dst : TypeId) (k : IntKind) : Bool := (P.underlying src).isSome && (match P.underlying dst with | some (.int k') => k == k' | _ => false)
theorem ok_cvInt {src dt : TypeId} {k k0 : IntKind} {n : Int} {s : Sr} {x : Operand} (ho : o.op = .convert src dt x) (hd : o.dst = some d) (hdN : d < N) (hs : s.fits N x = true) (ht : toIntOk P src dt k = true) (hl : E.look s = .int k0 n) : OpOk P N o E (· = E.upd d (.int k (k.wrap n))) := by
  refine @ok_look P N o E d _ hd hdN rfl ?_
  intro xv a w S R r
  have l := looked r hs
  rw [hl] at l
  simp only [toIntOk, Bool.and_eq_true] at ht
  have hu : P.underlying dt = some (.int k) := by
    have := ht.2
    cases hu : P.underlying dt with
    | none => rw [hu] at this; cases this
    | some de =>
      rw [hu] at this
      cases de <;> simp only at this <;> try (cases this; done)
      rw [beq_iff_eq] at this; rw [this]
  cases hsu : P.underlying src with
  | none => rw [hsu] at ht; cases ht.1
  | some sd =>
    refine ⟨.int k (k.wrap n), ?_, .closed (.int .nil)⟩
    simp [execOp, ho, convert, run_underlying' hsu, run_underlying' hu, l.int, Conv.intToInt]

theorem ok_pick {c x y : Operand} {sc s1 s2 : Sr} {b : Bool} {f : FV} (ho : o.op = .pick c x y) (hd : o.dst = some d) (hdN : d < N) (hc : sc.fits N c = true) (hs1 : s1.fits N x = true) (hs2 : s2.fits N y = true)
    (hb : E.look sc = .bool b) (hl : E.look (if b then s1 else s2) = f) (hroot : f.notRoot d = true) : OpOk P N o E (· = E.upd d f) := by
  subst hl
  refine @ok_look P N o E d _ hd hdN hroot ?_
  intro xv a w S R r
  have l := looked r hc
  rw [hb] at l
  cases b
  · exact ⟨a.eval y, by simp [execOp, ho, l.bool, asBool], looked r hs2⟩
  · exact ⟨a.eval x, by simp [execOp, ho, l.bool, asBool], looked r hs1⟩

/-- a nil check of a pointer or a function value that is none -/
def FV.nonNil : FV → Bool
  | .ptr _ _ | .ref _ | .fn _ _ => true
  | _ => false
theorem ok_nilCheck {x : Operand} {s : Sr} {f : FV} (ho : o.op = .nilCheck x) (hd : o.dst = some d) (hdN : d < N) (hs : s.fits N x = true) (hl : E.look s = f) (hn : f.nonNil = true) (hroot : f.notRoot d = true) : OpOk P N o E (· = E.upd d f) := by
  subst hl
  refine @ok_look P N o E d _ hd hdN hroot ?_
  intro xv a w S R r
  have l := looked r hs
  refine ⟨a.eval x, ?_, l⟩
  have hv : (∃ b o, a.eval x = .pointer (some ⟨b, o, none⟩)) ∨ (∃ f c, a.eval x = .func (.func f) #[] c) := by
    generalize E.look s = f at l hn
    cases f <;> simp only [FV.nonNil] at hn <;> try (cases hn; done)
    · obtain ⟨b, o', cs, hv, _⟩ := (l.rep rfl).ref_inv
      exact .inl ⟨b, o', hv⟩
    · rename_i q p
      have he : ptrAt w.heap (valOf a xv) E q p = some (a.eval x) := by
        cases l with
        | closed h => have := h.noalias _ (List.mem_singleton.2 rfl); cases this
        | ptr h => exact h
      simp only [ptrAt] at he
      split at he
      · split at he
        · rename_i b o' _
          exact .inl ⟨b, o', (Option.some.inj he).symm⟩
        · cases he
      · cases he
    · have := l.rep rfl
      generalize a.eval x = v at this
      generalize ([] : List Nat) = R0 at this
      cases this with
      | fn h1 h2 => exact .inr ⟨_, _, rfl⟩
  rcases hv with ⟨b, o', hv⟩ | ⟨g, c, hv⟩
  · simp [execOp, ho, hv]
  · simp [execOp, ho, hv]

/-! ### moves -/
theorem ok_move {x : Operand} {s : Sr} {f : FV} (ho : o.op = .move x ∨ o.op = .assign x) (hd : o.dst = some d) (hdN : d < N) (hs : s.fits N x = true) (hl : E.look s = f) (hroot : f.notRoot d = true) : OpOk P N o E (· = E.upd d f) := by
  subst hl
  refine @ok_look P N o E d _ hd hdN hroot ?_
  intro xv a w S R r
  refine ⟨a.eval x, ?_, looked r hs⟩
  rcases ho with ho | ho <;> simp only [execOp, ho] <;> rfl
theorem ok_moveP {x : Operand} {s : Sr} {deep : Bool} (ho : o.op = .move x ∨ o.op = .assign x) (hd : o.dst = some d) (hdN : d < N) (hs : s.fits N x = true) : OpOk P N o E (· = (E.pass deep s).2.upd d (E.pass deep s).1) := by
  refine ok_pass hd hdN hs ?_
  intro a w
  rcases ho with ho | ho <;> simp only [execOp, ho] <;> rfl

end
end Go.Fm
