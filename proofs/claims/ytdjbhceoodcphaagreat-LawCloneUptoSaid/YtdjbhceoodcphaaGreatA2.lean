/- Part of a proof: see the last text of the claim. -/
import Derived.Test.YtdjbhceoodcphaaGreatA1
import Derived.Laws.StructEq
import Derived.Lib.Strings
import Derived.Laws.BytesString
import Derived.Deep.LoopGhost
import Derived.Lib.LaidTab
import Derived.Shelf.Strconv.Itoa3
import Derived.Orders
import Derived.OwnWalk
set_option linter.unusedVariables false
set_option linter.unusedSimpArgs false
namespace Go.Fm
open Go
def bitsI (op : BinOp) (k : IntKind) (x y : Int) : Int :=
  let a := BitVec.ofInt k.bits x
  let b := BitVec.ofInt k.bits y
  match op with
  | .and => k.wrap (a &&& b).toNat
  | .or => k.wrap (a ||| b).toNat
  | .xor => k.wrap (a ^^^ b).toNat
  | _ => k.wrap (a &&& ~~~b).toNat
def intF (op : BinOp) (k : IntKind) (x y : Int) : Option FV :=
  match op with
  | .add => some (.int k (k.wrap (x + y)))
  | .sub => some (.int k (k.wrap (x - y)))
  | .mul => some (.int k (k.wrap (x * y)))
  | .quo => if y = 0 then none else some (.int k (k.wrap (x.tdiv y)))
  | .rem => if y = 0 then none else some (.int k (x.tmod y))
  | .eql => some (.bool (decide (x = y)))
  | .neq => some (.bool (!decide (x = y)))
  | .lss => some (.bool (decide (x < y)))
  | .leq => some (.bool (decide (x ≤ y)))
  | .gtr => some (.bool (decide (y < x)))
  | .geq => some (.bool (decide (y ≤ x)))
  | .and => some (.int k (bitsI .and k x y))
  | .or => some (.int k (bitsI .or k x y))
  | .xor => some (.int k (bitsI .xor k x y))
  | .andNot => some (.int k (bitsI .andNot k x y))
  | .shl => if 0 ≤ y then some (.int k (k.wrap (x * 2 ^ (min y.toNat k.bits)))) else none
  | .shr => if 0 ≤ y then some (.int k (x.fdiv (2 ^ (min y.toNat k.bits)))) else none
def strF (op : BinOp) (s t : List UInt8) : Option FV :=
  match op with
  | .add => if s.length + t.length ≤ 9223372036854775807 then some (.str (s ++ t)) else none
  | .eql => some (.bool (decide (s = t)))
  | .neq => some (.bool (!decide (s = t)))
  | .lss => some (.bool (Op.bytesLess s t))
  | .leq => some (.bool (Op.bytesLess s t || decide (s = t)))
  | .gtr => some (.bool (!(Op.bytesLess s t || decide (s = t))))
  | .geq => some (.bool (!(Op.bytesLess s t)))
  | _ => none
def isShift : BinOp → Bool
  | .shl | .shr => true
  | _ => false
def binF (op : BinOp) (a b : FV) : Option FV :=
  match a, b with
  | .int k x, .int k' y => if isShift op ∨ k = k' then intF op k x y else none
  | .str s, .str t => strF op s t
  | _, _ => none
section
variable {P : Program} {N : Nat} {o : Oper} {E : Env} {d : Nat}
theorem run_binOp_int {w : World} {op : BinOp} {t : TypeId} {k k' : IntKind} {x y : Int} {f : FV} (h : binF op (.int k x) (.int k' y) = some f) :
    ∃ v, (binOp op t (.int k x) (.int k' y)).run P w = .ok v w ∧ Rep w.heap (fun _ => False) [v] [f] [] := by
  simp only [binF] at h
  split at h
  case isFalse => cases h
  rename_i hk
  cases op <;> simp only [isShift, intF] at h hk
  case shl =>
    split at h
    case isFalse => cases h
    rename_i h0
    cases h
    refine ⟨_, ?_, .int .nil⟩
    have : ¬ y < 0 := by omega
    simp [binOp, Op.shift, this]
  case shr =>
    split at h
    case isFalse => cases h
    rename_i h0
    cases h
    refine ⟨_, ?_, .int .nil⟩
    have : ¬ y < 0 := by omega
    simp [binOp, Op.shift, this]
  all_goals
    have hk' : k = k' := by simpa using hk
    subst hk'
  case quo =>
    split at h
    case isTrue => cases h
    rename_i h0
    cases h
    exact ⟨_, by simp [binOp, Op.intDiv, h0], .int .nil⟩
  case rem =>
    split at h
    case isTrue => cases h
    rename_i h0
    cases h
    exact ⟨_, by simp [binOp, Op.intDiv, h0], .int .nil⟩
  case add => cases h; exact ⟨_, by simp [binOp, Op.intArith], .int .nil⟩
  case sub => cases h; exact ⟨_, by simp [binOp, Op.intArith], .int .nil⟩
  case mul => cases h; exact ⟨_, by simp [binOp, Op.intArith], .int .nil⟩
  case eql => cases h; exact ⟨.bool (decide (x = y)), by simp [binOp, Op.intCmp]; rfl, .bool .nil⟩
  case neq => cases h; exact ⟨.bool (!decide (x = y)), by simp [binOp, Op.intCmp]; rfl, .bool .nil⟩
  case lss => cases h; exact ⟨.bool (decide (x < y)), by simp [binOp, Op.intCmp], .bool .nil⟩
  case leq => cases h; exact ⟨.bool (decide (x ≤ y)), by simp [binOp, Op.intCmp], .bool .nil⟩
  case gtr => cases h; exact ⟨.bool (decide (y < x)), by simp [binOp, Op.intCmp], .bool .nil⟩
  case geq => cases h; exact ⟨.bool (decide (y ≤ x)), by simp [binOp, Op.intCmp], .bool .nil⟩
  case and => cases h; exact ⟨.int k (bitsI .and k x y), by simp [binOp]; rfl, .int .nil⟩
  case or => cases h; exact ⟨.int k (bitsI .or k x y), by simp [binOp]; rfl, .int .nil⟩
  case xor => cases h; exact ⟨.int k (bitsI .xor k x y), by simp [binOp]; rfl, .int .nil⟩
  case andNot => cases h; exact ⟨.int k (bitsI .andNot k x y), by simp [binOp]; rfl, .int .nil⟩
theorem run_binOp_str {w : World} {op : BinOp} {t : TypeId} {x y : List UInt8} {f : FV} (h : binF op (.str x) (.str y) = some f) :
    ∃ v, (binOp op t (.string ⟨x.toArray⟩) (.string ⟨y.toArray⟩)).run P w = .ok v w ∧ Rep w.heap (fun _ => False) [v] [f] [] := by
  simp only [binF] at h
  cases op <;> simp only [strF] at h <;> try (cases h; done)
  case add =>
    split at h
    case isFalse => cases h
    rename_i h0
    cases h
    refine ⟨.string ⟨(x ++ y).toArray⟩, ?_, .str .nil⟩
    have h1 : (ByteArray.mk x.toArray).size = x.length := by simp [ByteArray.size]
    have h2 : (ByteArray.mk y.toArray).size = y.length := by simp [ByteArray.size]
    have e : (ByteArray.mk x.toArray) ++ (ByteArray.mk y.toArray) = ⟨(x ++ y).toArray⟩ := by
      apply bytes_eq
      simp [ByteArray.data_append]
    have hmax : ((x.length : Int)) + (y.length : Int) ≤ 9223372036854775807 := by omega
    simp [binOp, Op.stringOp, h1, h2, hmax, e, IntKind.max, IntKind.bits, IntKind.signed]
  all_goals
    have hbeq : (x == y) = decide (x = y) := by rw [Bool.eq_iff_iff]; simp
    cases h
    refine ⟨_, ?_, .bool .nil⟩
    simp [binOp, Op.stringOp, hbeq]
theorem ok_bin {op : BinOp} {t u : TypeId} {s1 s2 : Sr} {x y : Operand} {f : FV} (ho : o.op = .binOp op t x y u) (hd : o.dst = some d) (hdN : d < N) (hs1 : s1.fits N x = true) (hs2 : s2.fits N y = true)
    (hl : binF op (E.look s1) (E.look s2) = some f) : OpOk P N o E (· = E.upd d f) := by
  have key : (∃ k1 n1 k2 n2, E.look s1 = .int k1 n1 ∧ E.look s2 = .int k2 n2) ∨ (∃ b1 b2, E.look s1 = .str b1 ∧ E.look s2 = .str b2) := by
    unfold binF at hl
    split at hl
    · rename_i h1 h2; exact .inl ⟨_, _, _, _, h1, h2⟩
    · rename_i h1 h2; exact .inr ⟨_, _, h1, h2⟩
    · cases hl
  have hroot : f.notRoot d = true := by
    rcases key with ⟨k1, n1, k2, n2, e1, e2⟩ | ⟨b1, b2, e1, e2⟩
    · rw [e1, e2] at hl
      obtain ⟨v, _, hr⟩ := run_binOp_int (P := P) (w := default) (t := 0) hl
      have := hr.noalias f (by simp)
      cases f <;> first | rfl | cases this
    · rw [e1, e2] at hl
      obtain ⟨v, _, hr⟩ := run_binOp_str (P := P) (w := default) (t := 0) hl
      have := hr.noalias f (by simp)
      cases f <;> first | rfl | cases this
  refine @ok_look P N o E d f hd hdN hroot ?_
  intro xv a w S R r
  have l1 := looked r hs1
  have l2 := looked r hs2
  rcases key with ⟨k1, n1, k2, n2, e1, e2⟩ | ⟨b1, b2, e1, e2⟩
  · rw [e1, e2] at hl
    rw [e1] at l1
    rw [e2] at l2
    obtain ⟨v, hrun, hr⟩ := run_binOp_int (P := P) (w := w) (t := t) hl
    refine ⟨v, ?_, .closed (hr.mono (fun _ h => h.elim) (Nat.le_refl _) (fun _ _ _ => rfl) (fun _ _ => rfl))⟩
    have hg : (eqGuard op t x y (.int k1 n1) (.int k2 n2)).run P w = .ok () w := by
      unfold eqGuard; split <;> simp
    simp only [execOp, ho, Sem.run_bind, l1.int, l2.int, hg, Result.andThen_ok, hrun, Sem.run_pure]
  · rw [e1, e2] at hl
    rw [e1] at l1
    rw [e2] at l2
    obtain ⟨v, hrun, hr⟩ := run_binOp_str (P := P) (w := w) (t := t) hl
    refine ⟨v, ?_, .closed (hr.mono (fun _ h => h.elim) (Nat.le_refl _) (fun _ _ _ => rfl) (fun _ _ => rfl))⟩
    have hg : (eqGuard op t x y (.string ⟨b1.toArray⟩) (.string ⟨b2.toArray⟩)).run P w = .ok () w := by
      unfold eqGuard; split <;> simp
    simp only [execOp, ho, Sem.run_bind, l1.str, l2.str, hg, Result.andThen_ok, hrun, Sem.run_pure]
def eqL : List Nat → List FV → List FV → Option Bool
  | [], [], [] => some true
  | c :: cs, f :: fs, g :: gs =>
    match c, f, g with
    | 0, .int k a, .int k' b => if k = k' then (eqL cs fs gs).map (decide (a = b) && ·) else none
    | 1, .bool a, .bool b => (eqL cs fs gs).map ((a == b) && ·)
    | 2, .str a, .str b => (eqL cs fs gs).map (decide (a = b) && ·)
    | _, _, _ => none
  | _, _, _ => none
def eqTs (P : Program) (q : TypeId → Option (List Nat)) : List Field → Nat → Option (List Nat)
  | [], _ => some []
  | f :: fs, off =>
    if f.name = "_" ∨ f.offset ≠ off then none else
    match q f.type with
    | none => none
    | some cs => if sizeIs P f.type cs.length then (match eqTs P q fs (off + cs.length) with | none => none | some ds => some (cs ++ ds)) else none
def eqT (P : Program) : Nat → TypeId → Option (List Nat)
  | 0, _ => none
  | n + 1, t =>
    match P.underlying t with
    | some .bool => some [1]
    | some (.int _) => some [0]
    | some .string => some [2]
    | some (.struct fs) => if P.stoodInHeld t || P.eqGuardType P.depth t then none else eqTs P (eqT P n) fs.toList 0
    | _ => none
theorem eqL_append : ∀ {cs ds : List Nat} {fs gs fs' gs' : List FV} {r : Bool}, fs.length = cs.length → gs.length = cs.length → eqL (cs ++ ds) (fs ++ fs') (gs ++ gs') = some r → ∃ r1 r2, eqL cs fs gs = some r1 ∧ eqL ds fs' gs' = some r2 ∧ r = (r1 && r2)
  | [], ds, [], [], fs', gs', r, _, _, h => ⟨true, r, rfl, h, by simp⟩
  | [], _, _ :: _, _, _, _, _, h, _, _ => by simp at h
  | [], _, [], _ :: _, _, _, _, _, h, _ => by simp at h
  | _ :: _, _, [], _, _, _, _, h, _, _ => by simp at h
  | _ :: _, _, _ :: _, [], _, _, _, _, h, _ => by simp at h
  | c :: cs, ds, f :: fs, g :: gs, fs', gs', r, h1, h2, h => by
    have step : ∀ {b : Bool}, (eqL (cs ++ ds) (fs ++ fs') (gs ++ gs')).map (b && ·) = some r → ∃ r1 r2, (eqL cs fs gs).map (b && ·) = some r1 ∧ eqL ds fs' gs' = some r2 ∧ r = (r1 && r2) := by
      intro b hb
      cases h3 : eqL (cs ++ ds) (fs ++ fs') (gs ++ gs') with
      | none => rw [h3] at hb; cases hb
      | some r0 =>
        rw [h3] at hb
        simp only [Option.map_some, Option.some.injEq] at hb
        obtain ⟨r1, r2, e1, e2, rfl⟩ := eqL_append (by simpa using h1) (by simpa using h2) h3
        exact ⟨b && r1, r2, by rw [e1]; rfl, e2, by rw [← hb, Bool.and_assoc]⟩
    simp only [List.cons_append, eqL] at h ⊢
    split at h
    · split at h
      · rename_i hk
        obtain ⟨r1, r2, e1, e2, e3⟩ := step h
        exact ⟨r1, r2, by simp only [hk, if_true]; exact e1, e2, e3⟩
      · cases h
    · obtain ⟨r1, r2, e1, e2, e3⟩ := step h
      exact ⟨r1, r2, e1, e2, e3⟩
    · obtain ⟨r1, r2, e1, e2, e3⟩ := step h
      exact ⟨r1, r2, e1, e2, e3⟩
    · cases h
theorem eqL_len : ∀ {cs : List Nat} {fs gs : List FV} {r : Bool}, eqL cs fs gs = some r → fs.length = cs.length ∧ gs.length = cs.length
  | [], [], [], _, _ => ⟨rfl, rfl⟩
  | [], _ :: _, _, _, h => by simp [eqL] at h
  | [], [], _ :: _, _, h => by simp [eqL] at h
  | _ :: _, [], _, _, h => by simp [eqL] at h
  | _ :: _, _ :: _, [], _, h => by simp [eqL] at h
  | c :: cs, f :: fs, g :: gs, r, h => by
    have step : ∀ {b : Bool}, (eqL cs fs gs).map (b && ·) = some r → fs.length = cs.length ∧ gs.length = cs.length := by
      intro b hb
      cases h3 : eqL cs fs gs with
      | none => rw [h3] at hb; cases hb
      | some r0 => exact eqL_len h3
    simp only [eqL] at h
    split at h
    · split at h
      · have := step h; simp [this.1, this.2]
      · cases h
    · have := step h; simp [this.1, this.2]
    · have := step h; simp [this.1, this.2]
    · cases h
theorem run_part {w : World} {t : TypeId} {n off : Nat} {cs : List Value} (hs : sizeIs P t n = true) (hoff : off + n ≤ cs.length) :
    (isAggT P t = some true → (part t cs.toArray off).run P w = .ok (.agg ((cs.drop off).take n).toArray) w) ∧
    (isAggT P t = some false → ∀ v, cs[off]? = some v → (part t cs.toArray off).run P w = .ok v w) := by
  unfold sizeIs at hs
  cases hi : P.info? t with
  | none => rw [hi] at hs; cases hs
  | some i =>
    rw [hi] at hs
    simp only [beq_iff_eq] at hs
    subst hs
    refine ⟨fun ha => ?_, fun ha v hv => ?_⟩
    · simp only [part, Sem.run_bind, run_isAgg' ha, Result.andThen_ok, Sem.run_ite, if_true, run_sizeOf' hi, Sem.run_pure]
      congr 2
      apply Array.ext'
      simp [List.take_drop, Nat.add_comm]
    · have : cs.toArray[off]? = some v := by simpa using hv
      simp only [part, Sem.run_bind, run_isAgg' ha, Result.andThen_ok, Sem.run_ite, Bool.false_eq_true, if_false, this, Sem.run_pure]
def valOfCells (agg : Bool) (cs : List Value) : Value := if agg then .agg cs.toArray else cs.headD undef
theorem Rep.nilR {h : Array Obj} {S : Nat → Prop} {vs fs} (r : Rep h S vs fs []) (off n : Nat) : Rep h S ((vs.drop off).take n) ((fs.drop off).take n) [] := ((r.takeD off).2.takeD n).1
theorem eq_fields {w : World} {S : Nat → Prop} (n D : Nat) (IH : ∀ (t : TypeId) (cs : List Nat) (agg : Bool), eqT P n t = some cs → isAggT P t = some agg → ∀ {vs us : List Value} {fs gs : List FV} {r : Bool}, Rep w.heap S vs fs [] → Rep w.heap S us gs [] → eqL cs fs gs = some r →
    (Op.equalIn (D + n) t (valOfCells agg vs) (valOfCells agg us)).run P w = .ok r w) : ∀ (fl : List Field) (off : Nat) (cs : List Nat), eqTs P (eqT P n) fl off = some cs → ∀ {vs us : List Value} {fs gs : List FV} {r : Bool}, Rep w.heap S vs fs [] → Rep w.heap S us gs [] →
    fs.length = off + cs.length → gs.length = off + cs.length → eqL cs (fs.drop off) (gs.drop off) = some r → (Op.eqFields (D + n) vs.toArray us.toArray fl).run P w = .ok r w
  | [], off, cs, h, vs, us, fs, gs, r, rv, ru, hl1, hl2, he => by
    simp only [eqTs, Option.some.injEq] at h
    subst h
    have e1 : fs.drop off = [] := List.drop_of_length_le (by simp at hl1; omega)
    have e2 : gs.drop off = [] := List.drop_of_length_le (by simp at hl2; omega)
    rw [e1, e2] at he
    cases he
    simp [Op.eqFields]
  | f :: fl, off, cs, h, vs, us, fs, gs, r, rv, ru, hl1, hl2, he => by
    simp only [eqTs] at h
    split at h
    case isTrue => cases h
    rename_i hn
    simp only [not_or, ne_eq, Decidable.not_not] at hn
    cases ht : eqT P n f.type with
    | none => rw [ht] at h; cases h
    | some c1 =>
    rw [ht] at h
    simp only at h
    split at h
    case isFalse => cases h
    rename_i hsz
    cases hrest : eqTs P (eqT P n) fl (off + c1.length) with
    | none => rw [hrest] at h; cases h
    | some c2 =>
    rw [hrest] at h
    simp only [Option.some.injEq] at h
    subst h
    have hv := rv.length
    have hu := ru.length
    simp only [List.length_append] at hl1 hl2
    have hagg : ∃ agg, isAggT P f.type = some agg := by
      unfold isAggT
      cases n with
      | zero => simp [eqT] at ht
      | succ n =>
        unfold eqT at ht
        cases hu' : P.underlying f.type with
        | none => rw [hu'] at ht; cases ht
        | some de => cases de <;> exact ⟨_, rfl⟩
    obtain ⟨agg, hagg⟩ := hagg
    have esplit : ∀ (l : List FV), l.drop off = (l.drop off).take c1.length ++ l.drop (off + c1.length) := fun l => by
      rw [← List.drop_drop, List.take_append_drop]
    rw [esplit fs, esplit gs] at he
    obtain ⟨r1, r2, h1, h2, rfl⟩ := eqL_append (by simp; omega) (by simp; omega) he
    have hone : isAggT P f.type = some false → c1.length = 1 := by
      intro hf
      unfold isAggT at hf
      cases n with
      | zero => simp [eqT] at ht
      | succ n =>
        unfold eqT at ht
        cases hu' : P.underlying f.type with
        | none => rw [hu'] at ht; cases ht
        | some de =>
          rw [hu'] at ht hf
          cases de <;> simp only at ht hf <;> first | (cases ht; done) | (cases hf; done) | (cases ht; rfl)
    have hpart : ∀ {l : List Value} {g : List FV}, Rep w.heap S l g [] → g.length = off + (c1.length + c2.length) → (part f.type l.toArray f.offset).run P w = .ok (valOfCells agg ((l.drop off).take c1.length)) w := by
      intro l g rl hlg
      have hll := rl.length
      rw [hn.2]
      obtain ⟨p1, p2⟩ := run_part (P := P) (w := w) (t := f.type) (n := c1.length) (off := off) (cs := l) hsz (by omega)
      cases agg
      · have h1 := hone hagg
        have hlt : off < l.length := by omega
        rw [p2 hagg _ (List.getElem?_eq_getElem hlt)]
        simp only [valOfCells, Bool.false_eq_true, if_false]
        rw [h1, List.drop_eq_getElem_cons hlt]
        rfl
      · rw [p1 hagg]
        rfl
    have key := IH f.type c1 agg ht hagg (rv.nilR off c1.length) (ru.nilR off c1.length) h1
    have rest := eq_fields n D IH fl (off + c1.length) c2 hrest rv ru (by omega) (by omega) h2
    simp only [Op.eqFields, hn.1, ne_eq, not_false_eq_true, if_true, Sem.run_bind, hpart rv (by omega), hpart ru (by omega), Result.andThen_ok, key, Sem.run_ite, Sem.run_pure]
    cases r1
    · simp
    · simpa using rest
theorem eq_type {w : World} {S : Nat → Prop} : ∀ (n D : Nat) (t : TypeId) (cs : List Nat) (agg : Bool), eqT P n t = some cs → isAggT P t = some agg → ∀ {vs us : List Value} {fs gs : List FV} {r : Bool}, Rep w.heap S vs fs [] → Rep w.heap S us gs [] → eqL cs fs gs = some r →
    (Op.equalIn (D + n) t (valOfCells agg vs) (valOfCells agg us)).run P w = .ok r w
  | 0, D, t, cs, agg, h, _, vs, us, fs, gs, r, _, _, _ => by simp [eqT] at h
  | n + 1, D, t, cs, agg, h, ha, vs, us, fs, gs, r, rv, ru, he => by
    obtain ⟨hlf, hlg⟩ := eqL_len he
    have hv := rv.length
    have hu := ru.length
    have one : cs.length = 1 → ∃ v u f g, vs = [v] ∧ us = [u] ∧ fs = [f] ∧ gs = [g] := by
      intro h1
      rw [h1] at hlf hlg
      rw [hlf] at hv
      rw [hlg] at hu
      match vs, us, fs, gs, hv, hu, hlf, hlg with
      | [v], [u], [f], [g], _, _, _, _ => exact ⟨v, u, f, g, rfl, rfl, rfl, rfl⟩
    unfold eqT at h
    cases hu' : P.underlying t with
    | none => rw [hu'] at h; cases h
    | some de =>
    rw [hu'] at h
    unfold isAggT at ha
    rw [hu'] at ha
    cases de <;> simp only at h ha <;> try (cases h; done)
    · -- bool
      cases h; cases ha
      obtain ⟨v, u, f, g, rfl, rfl, rfl, rfl⟩ := one rfl
      simp only [eqL] at he
      split at he <;> try (cases he; done)
      · rename_i h1; cases h1
      · simp only [Option.map_some, Option.some.injEq, Bool.and_true] at he
        subst he
        cases rv; cases ru
        exact run_equalIn_bool' w (D + n) t _ _ hu'
      · rename_i h1; cases h1
    · -- int
      cases h; cases ha
      obtain ⟨v, u, f, g, rfl, rfl, rfl, rfl⟩ := one rfl
      simp only [eqL] at he
      split at he <;> try (cases he; done)
      · split at he
        case isFalse => cases he
        rename_i hk
        subst hk
        simp only [Option.map_some, Option.some.injEq, Bool.and_true] at he
        subst he
        cases rv; cases ru
        rw [show D + (n + 1) = (D + n) + 1 by omega]
        exact run_equalIn_int w (D + n) t _ _ _ _ hu'
      · rename_i h1; cases h1
      · rename_i h1; cases h1
    · -- string
      cases h; cases ha
      obtain ⟨v, u, f, g, rfl, rfl, rfl, rfl⟩ := one rfl
      simp only [eqL] at he
      split at he <;> try (cases he; done)
      · rename_i h1; cases h1
      · rename_i h1; cases h1
      · simp only [Option.map_some, Option.some.injEq, Bool.and_true] at he
        subst he
        rename_i a b _
        have e1 : v = .string ⟨List.toArray a⟩ := by cases rv; rfl
        have e2 : u = .string ⟨List.toArray b⟩ := by cases ru; rfl
        rw [e1, e2]
        have := run_equalIn_string (P := P) w (D + n) t ⟨List.toArray a⟩ ⟨List.toArray b⟩ hu'
        rw [ByteArray.toList_mk, ByteArray.toList_mk] at this
        rw [show D + (n + 1) = (D + n) + 1 by omega]
        simp only [valOfCells, Bool.false_eq_true, if_false, List.headD_cons]
        rw [this]
        congr 1
        rw [Bool.eq_iff_iff]; simp
    · -- struct
      rename_i fields
      cases ha
      split at h
      case isTrue => cases h
      rename_i hst
      simp only [Bool.or_eq_true, not_or, Bool.not_eq_true] at hst
      simp only [valOfCells, if_true]
      have hf : P.fieldsOf t = fields := by simp [Program.fieldsOf, hu']
      rw [show D + (n + 1) = (D + n) + 1 by omega, run_equalIn_struct w (D + n) t vs.toArray us.toArray (by rw [hf]; exact hu') hst.1, hf]
      have := eq_fields n D (fun t cs agg h1 h2 => eq_type n D t cs agg h1 h2) fields.toList 0 cs h (vs := vs) (us := us) (fs := fs) (gs := gs) (r := r) rv ru (by simpa using hlf) (by simpa using hlg) (by simpa using he)
      exact this
def eqF (neg : Bool) (cs : List Nat) (a b : FV) : Option FV :=
  match a, b with
  | .agg xs, .agg ys => (eqL cs xs ys).map fun r => .bool (if neg then !r else r)
  | _, _ => none
def eqOk (P : Program) (t : TypeId) (cs : List Nat) : Bool := (eqT P 20 t == some cs) && (isAggT P t == some true) && !P.eqGuardType P.depth t
theorem Rep.agg_inv {h : Array Obj} {S : Nat → Prop} {v : Value} {gs : List FV} (r : Rep h S [v] [.agg gs] []) : ∃ cs, v = .agg (List.toArray cs) ∧ Rep h S cs gs [] := by
  generalize hR : ([] : List Nat) = R at r
  cases r with
  | agg h1 h2 =>
    have := List.append_eq_nil_iff.1 hR.symm
    rw [this.1] at h1
    exact ⟨_, rfl, by rw [← hR]; exact h1⟩
theorem ok_eq {neg : Bool} {t u : TypeId} {cs : List Nat} {s1 s2 : Sr} {x y : Operand} {f : FV} (ho : o.op = .binOp (if neg then .neq else .eql) t x y u) (hd : o.dst = some d) (hdN : d < N) (hs1 : s1.fits N x = true) (hs2 : s2.fits N y = true) (ht : eqOk P t cs = true)
    (hl : eqF neg cs (E.look s1) (E.look s2) = some f) : OpOk P N o E (· = E.upd d f) := by
  have hf : ∃ b, f = .bool b := by
    unfold eqF at hl
    split at hl
    · rename_i xs ys _ _
      cases he : eqL cs xs ys with
      | none => rw [he] at hl; cases hl
      | some r => rw [he] at hl; cases hl; exact ⟨_, rfl⟩
    · cases hl
  refine @ok_look P N o E d f hd hdN (by obtain ⟨b, rfl⟩ := hf; rfl) ?_
  intro xv a w S R r
  have l1 := looked r hs1
  have l2 := looked r hs2
  simp only [eqOk, Bool.and_eq_true, beq_iff_eq, Bool.not_eq_true'] at ht
  obtain ⟨⟨hT, hA⟩, hg⟩ := ht
  unfold eqF at hl
  split at hl
  · rename_i xs ys e1 e2
    rw [e1] at l1
    rw [e2] at l2
    cases he : eqL cs xs ys with
    | none => rw [he] at hl; cases hl
    | some rr =>
    rw [he] at hl
    simp only [Option.map_some, Option.some.injEq] at hl
    subst hl
    obtain ⟨vs, hv, rv⟩ := (l1.rep rfl).agg_inv
    obtain ⟨us, hu, ru⟩ := (l2.rep rfl).agg_inv
    have key := eq_type (P := P) 20 9980 t cs true hT hA rv ru he
    simp only [valOfCells, if_true] at key
    refine ⟨.bool (if neg then !rr else rr), ?_, .closed (.bool .nil)⟩
    rw [execOp, ho]
    simp only [Sem.run_bind, hv, hu, run_eqGuard_agg w _ t x y _ _ hg, Result.andThen_ok]
    cases neg
    · simp only [Bool.false_eq_true, if_false, run_eql_struct]
      rw [show (10000 : Nat) = 9980 + 20 from rfl, key]
      rfl
    · simp only [if_true, run_neq_struct]
      rw [show (10000 : Nat) = 9980 + 20 from rfl, key]
      rfl
  · cases hl
def isBoolT (P : Program) (t : TypeId) : Bool :=
  match P.underlying t with
  | some .bool => true
  | _ => false
theorem ok_eqB {neg : Bool} {t u : TypeId} {s1 s2 : Sr} {x y : Operand} {b1 b2 : Bool} (ho : o.op = .binOp (if neg then .neq else .eql) t x y u) (hd : o.dst = some d) (hdN : d < N) (hs1 : s1.fits N x = true) (hs2 : s2.fits N y = true) (ht : isBoolT P t = true)
    (h1 : E.look s1 = .bool b1) (h2 : E.look s2 = .bool b2) : OpOk P N o E (· = E.upd d (.bool (if neg then !(b1 == b2) else b1 == b2))) := by
  refine @ok_look P N o E d _ hd hdN rfl ?_
  intro xv a w S R r
  have l1 := looked r hs1
  have l2 := looked r hs2
  rw [h1] at l1
  rw [h2] at l2
  have hty : P.underlying t = some .bool := by
    unfold isBoolT at ht
    cases hu : P.underlying t with
    | none => rw [hu] at ht; cases ht
    | some de => rw [hu] at ht; cases de <;> first | rfl | cases ht
  refine ⟨_, ?_, .closed (.bool .nil)⟩
  rw [execOp, ho]
  have hg : ∀ op, (eqGuard op t x y (.bool b1) (.bool b2)).run P w = .ok () w := by intro op; unfold eqGuard; split <;> simp
  simp only [Sem.run_bind, l1.bool, l2.bool]
  cases neg
  · simp only [Bool.false_eq_true, if_false, hg, Result.andThen_ok, run_eql_bool w t b1 b2 hty, Sem.run_pure]
  · simp only [if_true, hg, Result.andThen_ok, run_neq_bool w t b1 b2 hty, Sem.run_pure]
def unF (op : UnOp) (a : FV) : Option FV :=
  match op, a with
  | .neg, .int k n => some (.int k (k.wrap (0 - n)))
  | .xor, .int k n => some (.int k (bitsI .xor k (if k.signed then -1 else k.max) n))
  | .not, .bool b => some (.bool !b)
  | _, _ => none
theorem ok_un {op : UnOp} {t : TypeId} {s : Sr} {x : Operand} {f : FV} (ho : o.op = .unOp op t x) (hd : o.dst = some d) (hdN : d < N) (hs : s.fits N x = true) (hl : unF op (E.look s) = some f) : OpOk P N o E (· = E.upd d f) := by
  unfold unF at hl
  split at hl <;> try (cases hl; done)
  all_goals
    rename_i e1
    cases hl
    refine @ok_look P N o E d _ hd hdN rfl ?_
    intro xv a w S R r
    have l := looked r hs
    rw [e1] at l
  · exact ⟨_, by simp [execOp, ho, l.int, Op.unary, Op.intArith], .closed (.int .nil)⟩
  · exact ⟨_, by simp [execOp, ho, l.int, Op.unary]; rfl, .closed (.int .nil)⟩
  · exact ⟨_, by simp [execOp, ho, l.bool, Op.unary], .closed (.bool .nil)⟩
def toIntOk (P : Program) (src dst : TypeId) (k : IntKind) : Bool := (P.underlying src).isSome && (match P.underlying dst with | some (.int k') => k == k' | _ => false)
theorem ok_cvInt {src dt : TypeId} {k k0 : IntKind} {n : Int} {s : Sr} {x : Operand} (ho : o.op = .convert src dt x) (hd : o.dst = some d) (hdN : d < N) (hs : s.fits N x = true) (ht : toIntOk P src dt k = true) (hl : E.look s = .int k0 n) : OpOk P N o E (· = E.upd d (.int k (k.wrap n))) := by
  refine @ok_look P N o E d _ hd hdN rfl ?_
  intro xv a w S R r
  have l := looked r hs
  rw [hl] at l
  simp only [toIntOk, Bool.and_eq_true] at ht
  have hu : P.underlying dt = some (.int k) := by
    have := ht.2
    cases hu : P.underlying dt with
    | none => rw [hu] at this; cases this
    | some de =>
      rw [hu] at this
      cases de <;> simp only at this <;> try (cases this; done)
      rw [beq_iff_eq] at this; rw [this]
  cases hsu : P.underlying src with
  | none => rw [hsu] at ht; cases ht.1
  | some sd =>
    refine ⟨.int k (k.wrap n), ?_, .closed (.int .nil)⟩
    simp [execOp, ho, convert, run_underlying' hsu, run_underlying' hu, l.int, Conv.intToInt]
theorem ok_pick {c x y : Operand} {sc s1 s2 : Sr} {b : Bool} {f : FV} (ho : o.op = .pick c x y) (hd : o.dst = some d) (hdN : d < N) (hc : sc.fits N c = true) (hs1 : s1.fits N x = true) (hs2 : s2.fits N y = true)
    (hb : E.look sc = .bool b) (hl : E.look (if b then s1 else s2) = f) (hroot : f.notRoot d = true) : OpOk P N o E (· = E.upd d f) := by
  subst hl
  refine @ok_look P N o E d _ hd hdN hroot ?_
  intro xv a w S R r
  have l := looked r hc
  rw [hb] at l
  cases b
  · exact ⟨a.eval y, by simp [execOp, ho, l.bool, asBool], looked r hs2⟩
  · exact ⟨a.eval x, by simp [execOp, ho, l.bool, asBool], looked r hs1⟩
def FV.nonNil : FV → Bool
  | .ptr _ _ | .ref _ | .fn _ _ => true
  | _ => false
theorem ok_nilCheck {x : Operand} {s : Sr} {f : FV} (ho : o.op = .nilCheck x) (hd : o.dst = some d) (hdN : d < N) (hs : s.fits N x = true) (hl : E.look s = f) (hn : f.nonNil = true) (hroot : f.notRoot d = true) : OpOk P N o E (· = E.upd d f) := by
  subst hl
  refine @ok_look P N o E d _ hd hdN hroot ?_
  intro xv a w S R r
  have l := looked r hs
  refine ⟨a.eval x, ?_, l⟩
  have hv : (∃ b o, a.eval x = .pointer (some ⟨b, o, none⟩)) ∨ (∃ f c, a.eval x = .func (.func f) #[] c) := by
    generalize E.look s = f at l hn
    cases f <;> simp only [FV.nonNil] at hn <;> try (cases hn; done)
    · obtain ⟨b, o', cs, hv, _⟩ := (l.rep rfl).ref_inv
      exact .inl ⟨b, o', hv⟩
    · rename_i q p
      have he : ptrAt w.heap (valOf a xv) E q p = some (a.eval x) := by
        cases l with
        | closed h => have := h.noalias _ (List.mem_singleton.2 rfl); cases this
        | ptr h => exact h
      simp only [ptrAt] at he
      split at he
      · split at he
        · rename_i b o' _
          exact .inl ⟨b, o', (Option.some.inj he).symm⟩
        · cases he
      · cases he
    · have := l.rep rfl
      generalize a.eval x = v at this
      generalize ([] : List Nat) = R0 at this
      cases this with
      | fn h1 h2 => exact .inr ⟨_, _, rfl⟩
  rcases hv with ⟨b, o', hv⟩ | ⟨g, c, hv⟩
  · simp [execOp, ho, hv]
  · simp [execOp, ho, hv]
theorem ok_move {x : Operand} {s : Sr} {f : FV} (ho : o.op = .move x ∨ o.op = .assign x) (hd : o.dst = some d) (hdN : d < N) (hs : s.fits N x = true) (hl : E.look s = f) (hroot : f.notRoot d = true) : OpOk P N o E (· = E.upd d f) := by
  subst hl
  refine @ok_look P N o E d _ hd hdN hroot ?_
  intro xv a w S R r
  refine ⟨a.eval x, ?_, looked r hs⟩
  rcases ho with ho | ho <;> simp only [execOp, ho] <;> rfl
theorem ok_moveP {x : Operand} {s : Sr} {deep : Bool} (ho : o.op = .move x ∨ o.op = .assign x) (hd : o.dst = some d) (hdN : d < N) (hs : s.fits N x = true) : OpOk P N o E (· = (E.pass deep s).2.upd d (E.pass deep s).1) := by
  refine ok_pass hd hdN hs ?_
  intro a w
  rcases ho with ho | ho <;> simp only [execOp, ho] <;> rfl
end
end Go.Fm
set_option linter.unusedVariables false
set_option linter.unusedSimpArgs false
namespace Go.Fm
open Go
theorem splice_foldl : ∀ (l : List Value) (cs : Array Value) (off j : Nat), off + j + l.length ≤ cs.size →
    ((l.zipIdx j).foldl (fun (c : Array Value) (x : Value × Nat) => c.setIfInBounds (off + x.2) x.1) cs).toList = cs.toList.take (off + j) ++ l ++ cs.toList.drop (off + j + l.length)
  | [], cs, off, j, h => by simp
  | v :: l, cs, off, j, h => by
    simp only [List.zipIdx_cons, List.foldl_cons]
    rw [splice_foldl l _ off (j + 1) (by simp at h ⊢; omega)]
    have hlt : off + j < cs.size := by simp at h; omega
    have e1 : (cs.setIfInBounds (off + j) v).toList = cs.toList.take (off + j) ++ v :: cs.toList.drop (off + j + 1) := by
      rw [Array.toList_setIfInBounds, List.set_eq_take_append_cons_drop, if_pos (by simpa using hlt)]
    have e2 : (cs.toList.take (off + j)).length = off + j := by simp; omega
    rw [e1, show off + (j + 1) = (cs.toList.take (off + j)).length + 1 by omega, List.take_append, List.drop_append, List.take_of_length_le (by omega)]
    simp [e2]
    congr 1
    rw [List.drop_of_length_le (by simp; omega), show off + j + 1 + l.length - (off + j) = l.length + 1 by omega]
    simp [Nat.add_assoc, Nat.add_comm, Nat.add_left_comm]
theorem splice_array (v : Array Value) (cs : Array Value) (off : Nat) (h : off + v.size ≤ cs.size) :
    (v.zipIdx.foldl (fun c (x : Value × Nat) => c.setIfInBounds (off + x.2) x.1) cs).toList = cs.toList.take off ++ v.toList ++ cs.toList.drop (off + v.size) := by
  rw [← Array.foldl_toList, Array.toList_zipIdx]
  have := splice_foldl v.toList cs off 0 (by simpa using h)
  simpa using this
def fillF : List FV → List (Nat × Nat) → List FV → Option (List FV)
  | cs, [], [] => some cs
  | cs, (off, n) :: ps, f :: fs => if f.cells.length = n ∧ off + n ≤ cs.length ∧ f.cells.all FV.one = true then fillF (cs.take off ++ f.cells ++ cs.drop (off + n)) ps fs else none
  | _, _, _ => none
theorem fill_rep {h : Array Obj} {S : Nat → Prop} {place : Nat → Option (Nat × Nat)} : ∀ {ps : List (Nat × Nat)} {is : List Nat} {vs : List Value} {fs : List FV} {R0 Rf : List Nat} {cells : Array Value} {cs out : List FV}, Rep h S vs fs Rf → Rep h S cells.toList cs R0 →
    fillF cs ps fs = some out → is.length = ps.length → (∀ (j i : Nat) (p : Nat × Nat), is[j]? = some i → ps[j]? = some p → place i = some p) →
    ∃ cells' R', Instr.fill place cells (is.zip vs) = some cells' ∧ Rep h S cells'.toList out R' ∧ (∀ b ∈ R', b ∈ R0 ∨ b ∈ Rf) ∧ ((R0 ++ Rf).Nodup → R'.Nodup) ∧ cells'.size = cells.size
  | [], is, vs, [], R0, Rf, cells, cs, out, hr, hc, hf, hl, _ => by
    simp only [fillF, Option.some.injEq] at hf
    subst hf
    have : is = [] := List.eq_nil_of_length_eq_zero (by simpa using hl)
    subst this
    exact ⟨cells, R0, rfl, hc, fun b m => .inl m, fun nd => (List.nodup_append.1 nd).1, rfl⟩
  | [], is, vs, _ :: _, R0, Rf, cells, cs, out, hr, hc, hf, hl, _ => by simp [fillF] at hf
  | _ :: _, is, vs, [], R0, Rf, cells, cs, out, hr, hc, hf, hl, _ => by simp [fillF] at hf
  | (off, n) :: ps, [], vs, f :: fs, R0, Rf, cells, cs, out, hr, hc, hf, hl, _ => by simp at hl
  | (off, n) :: ps, i :: is, [], f :: fs, R0, Rf, cells, cs, out, hr, hc, hf, hl, _ => by have := hr.length; simp at this
  | (off, n) :: ps, i :: is, v :: vs, f :: fs, R0, Rf, cells, cs, out, hr, hc, hf, hl, hp => by
    simp only [fillF] at hf
    split at hf
    case isFalse => cases hf
    rename_i hcond
    obtain ⟨h1, h2, h3⟩ := hcond
    obtain ⟨R1, R2, r1, r2, rfl⟩ := hr.cons_inv
    have hu : f ≠ .undef := by intro e; subst e; simp [FV.cells, FV.one] at h3
    have hcells := r1.cells hu
    have hcl := hcells.length
    have hl0 := hc.length
    have hsz : v.cells.size = n := by rw [← h1, ← hcl]; simp
    have hcs : cells.size = cs.length := by rw [← hl0]; simp
    obtain ⟨Ra, Rx, Rb, hx, rfl, back⟩ := hc.range (o := off) (n := n) h2
    have hnew := back (h' := h) (S' := S) (fun _ h => h) (Nat.le_refl _) (fun _ _ _ => rfl) (fun _ _ => rfl) (fun _ _ => rfl) hcells (by rw [hcl, h1])
    have harr := splice_array v.cells cells off (by omega)
    rw [hsz] at harr
    rw [← harr] at hnew
    obtain ⟨cells', R', e1, e2, e3, e4, e5⟩ := fill_rep (place := place) r2 hnew hf (by simpa using hl) (fun j i' p hi hp' => hp (j + 1) i' p (by simpa using hi) (by simpa using hp'))
    refine ⟨cells', R', ?_, e2, ?_, ?_, ?_⟩
    · simp only [List.zip_cons_cons, Instr.fill, hp 0 i (off, n) rfl rfl]
      rw [if_neg (by simp [hsz]; omega)]
      exact e1
    · intro b m
      rcases e3 b m with m | m
      · simp at m
        rcases m with m | m | m
        · exact .inl (by simp [m])
        · exact .inr (by simp [m])
        · exact .inl (by simp [m])
      · exact .inr (by simp [m])
    · intro nd
      apply e4
      have nd1 : ((Ra ++ (Rx ++ Rb)) ++ (R1 ++ R2)).Nodup := by simpa [List.append_assoc] using nd
      have p1 : ((Ra ++ (Rx ++ Rb)) ++ (R1 ++ R2)).Perm (Rx ++ (Ra ++ R1 ++ Rb ++ R2)) := by
        have a1 : (Ra ++ (Rx ++ Rb)).Perm (Rx ++ (Ra ++ Rb)) := by
          rw [← List.append_assoc, ← List.append_assoc]
          exact List.Perm.append_right _ List.perm_append_comm
        have a2 : ((Ra ++ Rb) ++ (R1 ++ R2)).Perm (Ra ++ R1 ++ Rb ++ R2) := by
          have : (Rb ++ (R1 ++ R2)).Perm (R1 ++ (Rb ++ R2)) := by
            rw [← List.append_assoc, ← List.append_assoc]
            exact List.Perm.append_right _ List.perm_append_comm
          have := List.Perm.append_left Ra this
          simpa [List.append_assoc] using this
        refine (List.Perm.append_right _ a1).trans ?_
        rw [List.append_assoc]
        exact List.Perm.append_left Rx a2
      exact (List.nodup_append.1 (p1.nodup_iff.1 nd1)).2.1
    · rw [e5]
      have := congrArg List.length harr
      rw [Array.length_toList] at this
      rw [this]
      simp only [List.length_append, List.length_take, List.length_drop, Array.length_toList, hsz]
      omega
section
variable {P : Program} {N : Nat} {o : Oper} {E : Env} {d : Nat}
def bdF (E : Env) (tmpl : List FV) (ps : List (Nat × Nat)) (ss : List Sr) : Option (FV × Env) :=
  (fillF tmpl ps (E.passL false ss).1).map fun cs => (.agg cs, (E.passL false ss).2)
def bdOk (P : Program) (t : TypeId) (tmpl : List FV) (is : List Nat) (ps : List (Nat × Nat)) : Bool :=
  zeroIs P t tmpl && (match P.underlying t with
    | some (.struct fs) => is.length == ps.length && (is.zip ps).all fun x => (match fs[x.1]? with | some g => g.offset == x.2.1 && sizeIs P g.type x.2.2 | none => false)
    | some (.array _ e) => is.length == ps.length && (is.zip ps).all fun x => sizeIs P e x.2.2 && x.2.1 == x.1 * x.2.2
    | _ => false) && (match P.underlying t with
    | some (.struct fs) => fs.toList.all fun g => (P.info? g.type).isSome
    | some (.array _ e) => (P.info? e).isSome
    | _ => true)
theorem sizeIs_spec {t : TypeId} {n : Nat} (h : sizeIs P t n = true) : ∃ i, P.info? t = some i ∧ i.size = n := by
  unfold sizeIs at h
  cases hi : P.info? t with
  | none => rw [hi] at h; cases h
  | some i => rw [hi] at h; exact ⟨i, rfl, by simpa using h⟩
theorem run_mapM_places {w : World} : ∀ (fs : List Field), (∀ g ∈ fs, (P.info? g.type).isSome = true) →
    (fs.mapM (fun f => (do pure (f.offset, ← sizeOf f.type) : Sem (Nat × Nat)))).run P w = .ok (fs.map fun f => (f.offset, P.cellsOf f.type)) w
  | [], _ => by simp
  | f :: fs, h => by
    have h1 := h f (by simp)
    cases hi : P.info? f.type with
    | none => rw [hi] at h1; cases h1
    | some i =>
      have ih := run_mapM_places (w := w) fs fun g hg => h g (by simp [hg])
      simp only [List.mapM_cons, Sem.run_bind, run_sizeOf' hi, Result.andThen_ok, Sem.run_pure, ih, List.map_cons, Program.cellsOf, hi, Option.map_some, Option.getD_some]
theorem ok_build {t : TypeId} {tmpl : List FV} {ps : List (Nat × Nat)} {parts : Array (Nat × Operand)} {ss : List Sr} {f : FV} {E1 : Env} (ho : o.op = .build t parts) (hd : o.dst = some d) (hdN : d < N)
    (hs : List.all (ss.zip (parts.toList.map (·.2))) (fun y => y.1.fits N y.2) = true) (hlen : ss.length = parts.toList.length) (ht : bdOk P t tmpl (parts.toList.map (·.1)) ps = true)
    (hl : bdF E tmpl ps ss = some (f, E1)) : OpOk P N o E (· = E1.upd d f) := by
  intro xv a w S R r
  obtain ⟨S', Rf, R', p⟩ := passedL r hs (by simpa using hlen) false
  unfold bdF at hl
  cases hfill : fillF tmpl ps (E.passL false ss).1 with
  | none => rw [hfill] at hl; cases hl
  | some out =>
  rw [hfill] at hl
  simp only [Option.map_some, Option.some.injEq, Prod.mk.injEq] at hl
  obtain ⟨rfl, rfl⟩ := hl
  simp only [bdOk, Bool.and_eq_true] at ht
  obtain ⟨⟨hz, hpl⟩, hsome⟩ := ht
  unfold zeroIs at hz
  cases hi : P.info? t with
  | none => rw [hi] at hz; cases hz
  | some i =>
  rw [hi] at hz
  cases hzz : i.zero with
  | none => simp only [hzz] at hz; cases hz
  | some z =>
  simp only [hzz] at hz
  have hz0 := constOkL_rep w.heap S' tmpl z.cells.toList hz
  have hzip : (parts.map fun (x : Nat × Operand) => (x.1, a.eval x.2)).toList = (parts.toList.map (·.1)).zip ((parts.toList.map (·.2)).map a.eval) := by
    simp [List.zip_map_right, List.zip_map_left, List.map_map]
    induction parts.toList with
    | nil => rfl
    | cons x l ih => simp [ih]
  have fin : ∀ {place : Nat → Option (Nat × Nat)}, (∀ (j i : Nat) (p : Nat × Nat), (parts.toList.map (·.1))[j]? = some i → ps[j]? = some p → place i = some p) → (parts.toList.map (·.1)).length = ps.length →
      (∀ cells', Instr.fill place z.cells ((parts.toList.map (·.1)).zip ((parts.toList.map (·.2)).map a.eval)) = some cells' → (execOp a.eval o).run P w = .ok (.value (.agg cells')) w) →
      o.wp P a w (Post N xv (· = (E.passL false ss).2.upd d (.agg out)) w S R) (fun _ _ _ => False) := by
    intro place hplace hlp hrun
    obtain ⟨cells', Rr, e1, e2, e3, e4, _⟩ := fill_rep (place := place) p.rep hz0 hfill hlp hplace
    refine wp_value (hrun cells' e1) ?_
    rw [hd]
    have hrep : Rep w.heap S' [.agg cells'] [.agg out] Rr := by
      have := Rep.agg e2 .nil
      simpa using this
    obtain ⟨R'', h1, h2⟩ := p.rel.upd hdN hrep (fun b m => by
      rcases e3 b m with m | m
      · simp at m
      · exact p.apart b m) (e4 (by simpa using p.nodup))
    refine ⟨_, S', R'', rfl, h1, ⟨p.seals, fun b hb => (p.news b hb).imp id .inl, fun _ _ _ => rfl, Nat.le_refl _, fun b m => .inl ?_, rfl, rfl, rfl, fun _ h => h⟩⟩
    rcases h2 b m with m | m
    · rcases e3 b m with m | m
      · simp at m
      · exact p.subf b m
    · exact p.sub b m
  cases hu : P.underlying t with
  | none => rw [hu] at hpl; cases hpl
  | some de =>
  rw [hu] at hpl hsome
  cases de <;> simp only at hpl <;> try (cases hpl; done)
  · -- array
    rename_i len e
    simp only [Bool.and_eq_true, beq_iff_eq] at hpl
    obtain ⟨hlp, hall⟩ := hpl
    cases hie : P.info? e with
    | none => simp only [hie] at hsome; cases hsome
    | some ie =>
      refine fin (place := fun i => some (i * ie.size, ie.size)) ?_ hlp ?_
      · intro j i' q hj hq
        have := List.all_eq_true.1 hall (i', q) (by
          refine List.mem_of_getElem? (i := j) ?_
          rw [List.getElem?_zip_eq_some]
          exact ⟨hj, hq⟩)
        simp only [Bool.and_eq_true, beq_iff_eq] at this
        obtain ⟨i2, h1, h2⟩ := sizeIs_spec this.1
        rw [hie] at h1
        cases h1
        simp only [Option.some.injEq]
        obtain ⟨q1, q2⟩ := q
        simp only at this h2
        rw [this.2, h2]
      · intro cells' hc
        simp only [execOp, ho, Instr.build, Sem.run_bind, run_zeroValue' hi hzz, Result.andThen_ok, run_underlying' hu, run_sizeOf' hie, hzip, hc, Sem.run_pure]
  · -- struct
    rename_i fs
    simp only [Bool.and_eq_true, beq_iff_eq] at hpl
    obtain ⟨hlp, hall⟩ := hpl
    have hmap := run_mapM_places (P := P) (w := w) fs.toList (fun g hg => List.all_eq_true.1 hsome g hg)
    refine fin (place := fun i => (fs.map fun f => (f.offset, P.cellsOf f.type))[i]?) ?_ hlp ?_
    · intro j i' q hj hq
      have := List.all_eq_true.1 hall (i', q) (by
        refine List.mem_of_getElem? (i := j) ?_
        rw [List.getElem?_zip_eq_some]
        exact ⟨hj, hq⟩)
      simp only at this
      cases hg : fs[i']? with
      | none => rw [hg] at this; cases this
      | some g =>
        rw [hg] at this
        simp only [Bool.and_eq_true, beq_iff_eq] at this
        obtain ⟨i2, h1, h2⟩ := sizeIs_spec this.2
        obtain ⟨q1, q2⟩ := q
        simp only at this h2
        simp [hg, Program.cellsOf, h1, h2, this.1]
    · intro cells' hc
      have hm : (fs.mapM (fun f => (do pure (f.offset, ← sizeOf f.type) : Sem (Nat × Nat)))).run P w = .ok (fs.map fun f => (f.offset, P.cellsOf f.type)) w := by
        have e : fs.mapM (fun f => (do pure (f.offset, ← sizeOf f.type) : Sem (Nat × Nat))) = (List.toArray <$> fs.toList.mapM (fun f => (do pure (f.offset, ← sizeOf f.type) : Sem (Nat × Nat)))) := by
          rw [Array.mapM_eq_mapM_toList]
        rw [e, Sem.run_map, hmap]
        simp only [Result.andThen_ok]
        congr 1
        apply Array.ext'
        simp
      simp only [execOp, ho, Instr.build, Sem.run_bind, run_zeroValue' hi hzz, Result.andThen_ok, run_underlying' hu, hm, hzip, hc, Sem.run_pure]
end
end Go.Fm
set_option linter.unusedVariables false
set_option linter.unusedSimpArgs false
namespace Go.Fm
open Go
section
variable {P : Program} {N : Nat} {o : Oper} {E : Env} {d : Nat}
def setRows : List (List FV) → Nat → List Nat → List FV → Option (List (List FV))
  | rows, _, [], [] => some rows
  | rows, size, i :: is, f :: fs => if f.cells.length = size ∧ i < rows.length ∧ f.cells.all FV.one = true then setRows (rows.set i f.cells) size is fs else none
  | _, _, _, _ => none
def bsF (E : Env) (tmpl : List FV) (len : Nat) (is : List Nat) (ss : List Sr) : Option (FV × Env) :=
  (setRows (List.replicate len tmpl) tmpl.length is (E.passL false ss).1).map fun rows => (.arr rows, (E.passL false ss).2)
def bsOk (P : Program) (t : TypeId) (tmpl : List FV) (len : Nat) (is : List Nat) : Bool :=
  match P.underlying t with
  | some (.slice e) => zeroIs P e tmpl && sizeIs P e tmpl.length && decide (len * tmpl.length ≤ 2 ^ 24) && decide (0 < tmpl.length)
  | _ => false
theorem setRows_fill : ∀ {is : List Nat} {fs : List FV} {rows out : List (List FV)} {size : Nat}, setRows rows size is fs = some out → (∀ r ∈ rows, r.length = size) →
    fillF rows.flatten (is.map fun i => (i * size, size)) fs = some out.flatten ∧ (∀ r ∈ out, r.length = size) ∧ out.length = rows.length
  | [], [], rows, out, size, h, hr => by
    simp only [setRows, Option.some.injEq] at h
    subst h
    exact ⟨rfl, hr, rfl⟩
  | [], _ :: _, rows, out, size, h, hr => by simp [setRows] at h
  | _ :: _, [], rows, out, size, h, hr => by simp [setRows] at h
  | i :: is, f :: fs, rows, out, size, h, hr => by
    simp only [setRows] at h
    split at h
    case isFalse => cases h
    rename_i hc
    obtain ⟨h1, h2, h3⟩ := hc
    have hrow : rows[i]? = some rows[i] := List.getElem?_eq_getElem h2
    have hrl : rows[i].length = size := hr _ (List.getElem_mem h2)
    have hset := set_row_flatten (o := 0) (xs := f.cells) hr hrow (by omega)
    simp only [List.take_zero, List.nil_append, Nat.zero_add, Nat.add_zero] at hset
    rw [List.drop_of_length_le (by omega), List.append_nil] at hset
    have hr' : ∀ r ∈ rows.set i f.cells, r.length = size := by
      intro r m
      rcases List.mem_or_eq_of_mem_set m with m | rfl
      · exact hr r m
      · exact h1
    obtain ⟨e1, e2, e3⟩ := setRows_fill h hr'
    refine ⟨?_, e2, by rw [e3]; simp⟩
    simp only [List.map_cons, fillF]
    have hfl := length_flatten_of hr
    have hmul : (i + 1) * size ≤ rows.length * size := Nat.mul_le_mul_right _ (by omega)
    rw [Nat.add_mul, Nat.one_mul] at hmul
    rw [if_pos ⟨h1, by omega, h3⟩]
    rw [hset, h1] at e1
    exact e1
theorem replicate_cells (z : Array Value) (hz : 0 < z.size) : ∀ (len : Nat), ((Array.range (len * z.size)).map (fun i => z[i % z.size]!)).toList = (List.replicate len z.toList).flatten := by
  intro len
  apply List.ext_getElem?
  intro k
  simp only [Array.toList_map, Array.toList_range, List.getElem?_map]
  have hst : ∀ e ∈ List.replicate len z.toList, e.length = z.size := by
    intro e he
    rw [List.eq_of_mem_replicate he]; simp
  by_cases hk : k < len * z.size
  · rw [List.getElem?_range hk]
    simp only [Option.map_some]
    have hq : k / z.size < len := by
      rw [Nat.div_lt_iff_lt_mul hz]; exact hk
    have hm : k % z.size < z.size := Nat.mod_lt _ hz
    have hrow : (List.replicate len z.toList)[k / z.size]? = some z.toList := by rw [List.getElem?_replicate, if_pos hq]
    have h1 : ∀ {es : List (List Value)} {i : Nat} {row : List Value}, (∀ e ∈ es, e.length = z.size) → es[i]? = some row → ∀ o, o < z.size → es.flatten[i * z.size + o]? = row[o]? := by
      intro es
      induction es with
      | nil => intro i row _ h; simp at h
      | cons e es ih =>
        intro i row hall h o ho
        have he := hall e (by simp)
        cases i with
        | zero =>
          simp only [List.getElem?_cons_zero, Option.some.injEq] at h
          subst h
          simp only [List.flatten_cons, Nat.zero_mul, Nat.zero_add]
          rw [List.getElem?_append_left (by omega)]
        | succ i =>
          simp only [List.getElem?_cons_succ] at h
          simp only [List.flatten_cons]
          rw [List.getElem?_append_right (by rw [he, Nat.add_mul]; omega), he, show (i + 1) * z.size + o - z.size = i * z.size + o by rw [Nat.add_mul]; omega]
          exact ih (fun e m => hall e (by simp [m])) h o ho
    have := h1 hst hrow (k % z.size) hm
    rw [show k / z.size * z.size + k % z.size = k by rw [Nat.mul_comm]; exact Nat.div_add_mod k z.size] at this
    rw [this]
    have hmm : z[k % z.size]! = z[k % z.size] := getElem!_pos z (k % z.size) hm
    rw [hmm]
    simp [hm]
  · rw [List.getElem?_eq_none (by simpa using Nat.le_of_not_lt hk)]
    simp only [Option.map_none]
    symm
    apply List.getElem?_eq_none
    have : ∀ {es : List (List Value)}, (∀ e ∈ es, e.length = z.size) → es.flatten.length = es.length * z.size := by
      intro es
      induction es with
      | nil => intro _; simp
      | cons e es ih => intro h; simp [h e (by simp), ih fun x m => h x (by simp [m]), Nat.add_mul, Nat.add_comm]
    rw [this hst]
    simpa using Nat.le_of_not_lt hk
theorem rep_replicate {h : Array Obj} {S : Nat → Prop} {vs : List Value} {fs : List FV} (r : Rep h S vs fs []) : ∀ len, Rep h S (List.replicate len vs).flatten (List.replicate len fs).flatten []
  | 0 => by simpa using Rep.nil
  | len + 1 => by
    simp only [List.replicate_succ, List.flatten_cons]
    have := r.append (rep_replicate r len)
    simpa using this
theorem zeroIs_spec {t : TypeId} {cs : List FV} (h : zeroIs P t cs = true) : ∃ i z, P.info? t = some i ∧ i.zero = some z ∧ constOkL cs z.cells.toList = true := by
  unfold zeroIs at h
  cases hi : P.info? t with
  | none => rw [hi] at h; cases h
  | some i =>
    rw [hi] at h
    cases hz : i.zero with
    | none => simp only [hz] at h; cases h
    | some z => simp only [hz] at h; exact ⟨i, z, rfl, hz, h⟩
theorem constOkL_len : ∀ {fs : List FV} {vs : List Value}, constOkL fs vs = true → vs.length = fs.length
  | [], [], _ => rfl
  | [], _ :: _, h => by simp [constOkL] at h
  | _ :: _, [], h => by simp [constOkL] at h
  | f :: fs, v :: vs, h => by
    simp only [constOkL, Bool.and_eq_true] at h
    simp [constOkL_len h.2]
theorem ok_buildSlice {t : TypeId} {tmpl : List FV} {len : Nat} {parts : Array (Nat × Operand)} {ss : List Sr} {f : FV} {E1 : Env} (ho : o.op = .buildSlice t len parts) (hd : o.dst = some d) (hdN : d < N)
    (hs : List.all (ss.zip (parts.toList.map (·.2))) (fun y => y.1.fits N y.2) = true) (hlen : ss.length = parts.toList.length) (ht : bsOk P t tmpl len (parts.toList.map (·.1)) = true)
    (hl : bsF E tmpl len (parts.toList.map (·.1)) ss = some (f, E1)) : OpOk P N o E (· = E1.upd d f) := by
  intro xv a w S R r
  obtain ⟨S', Rf, R', p⟩ := passedL r hs (by simpa using hlen) false
  unfold bsF at hl
  cases hfill : setRows (List.replicate len tmpl) tmpl.length (parts.toList.map (·.1)) (E.passL false ss).1 with
  | none => rw [hfill] at hl; cases hl
  | some rows =>
  rw [hfill] at hl
  simp only [Option.map_some, Option.some.injEq, Prod.mk.injEq] at hl
  obtain ⟨rfl, rfl⟩ := hl
  unfold bsOk at ht
  cases hu : P.underlying t with
  | none => rw [hu] at ht; cases ht
  | some de =>
  rw [hu] at ht
  cases de <;> simp only at ht <;> try (cases ht; done)
  rename_i e
  simp only [Bool.and_eq_true, decide_eq_true_eq] at ht
  obtain ⟨⟨⟨hz, hsz⟩, hsmall⟩, hpos⟩ := ht
  obtain ⟨i, z, hi, hzz, hz⟩ := zeroIs_spec hz
  obtain ⟨i2, hi2, hsize⟩ := sizeIs_spec hsz
  rw [hi] at hi2
  cases hi2
  have hzl := constOkL_len hz
  simp only [Array.length_toList] at hzl
  obtain ⟨e1, e2, e3⟩ := setRows_fill hfill (by intro r m; rw [List.eq_of_mem_replicate m])
  simp only [List.length_replicate] at e3
  have hz0 := rep_replicate (constOkL_rep w.heap S' tmpl z.cells.toList hz) len
  rw [← replicate_cells z.cells (by omega)] at hz0
  have hplace : ∀ (j i' : Nat) (q : Nat × Nat), (parts.toList.map (·.1))[j]? = some i' → ((parts.toList.map (·.1)).map fun i => (i * tmpl.length, tmpl.length))[j]? = some q → (fun i' => some (i' * i.size, i.size)) i' = some q := by
    intro j i' q h1 h2
    rw [List.getElem?_map, h1] at h2
    simp only [Option.map_some, Option.some.injEq] at h2
    rw [← h2, hsize]
  obtain ⟨cells', Rr, f1, f2, f3, f4, f5⟩ := fill_rep (place := fun i' => some (i' * i.size, i.size)) p.rep hz0 e1 (by simp) hplace
  have hzip : (parts.map fun (x : Nat × Operand) => (x.1, a.eval x.2)).toList = (parts.toList.map (·.1)).zip ((parts.toList.map (·.2)).map a.eval) := by
    simp [List.zip_map_right, List.zip_map_left, List.map_map]
    induction parts.toList with
    | nil => rfl
    | cons x l ih => simp [ih]
  have hlen0 : len * i.size = len * z.cells.size := by rw [hsize, hzl]
  have hrun : (execOp a.eval o).run P w = .ok (.value (.slice (some ⟨w.heap.size, 0, none⟩) len len)) { w with heap := w.heap.push (.cells cells' e (0, 0)) } := by
    have hbig : ¬ (len * i.size > 2 ^ 24) := by rw [hsize]; omega
    by_cases h0 : len * i.size = 0
    · have hl0 : len = 0 := by
        rcases Nat.mul_eq_zero.1 h0 with h | h
        · exact h
        · omega
      subst hl0
      have f1' := f1
      simp only [Nat.zero_mul] at f1'
      simp only [execOp, ho, Instr.buildSlice, Sem.run_bind, run_underlying' hu, Result.andThen_ok, run_sizeOf' hi, Sem.run_ite, if_neg hbig, h0, if_true, Sem.run_pure, hzip, Nat.zero_mul]
      simp only [show (Array.range 0).map (fun i => (#[] : Array Value)[i % (#[] : Array Value).size]!) = (Array.range 0).map (fun i => z.cells[i % z.cells.size]!) from by simp, f1', Sem.run_bind, newRow, run_newObj, Result.andThen_ok, Sem.run_pure]
      rfl
    · simp only [execOp, ho, Instr.buildSlice, Sem.run_bind, run_underlying' hu, Result.andThen_ok, run_sizeOf' hi, Sem.run_ite, if_neg hbig, if_neg h0, run_zeroValue' hi hzz, Sem.run_pure, hzip]
      rw [hlen0]
      simp only [f1, Sem.run_bind, newRow, run_newObj, Result.andThen_ok, Sem.run_pure]
  refine wp_value hrun ?_
  rw [hd]
  have hRlt : ∀ b ∈ Rr, b < w.heap.size := f2.lt
  have hnd : Rr.Nodup := f4 (by simpa using p.nodup)
  have hsubf : ∀ b ∈ Rr, b ∈ Rf := fun b m => by
    rcases f3 b m with m | m
    · simp at m
    · exact m
  have hcells' : cells'.size = len * tmpl.length := by
    rw [f5]; simp [hzl]
  have hpush : Rep (w.heap.push (.cells cells' e (0, 0))) S' cells'.toList rows.flatten Rr := f2.mono (fun _ h => h) (by simp) (fun b _ hb => getElem?_push_lt _ _ hb) (fun b m => getElem?_push_lt _ _ (hRlt b m))
  by_cases h0 : len = 0
  · subst h0
    have hrows : rows = [] := List.eq_nil_of_length_eq_zero e3
    subst hrows
    have hw := p.rel.world (w' := { w with heap := w.heap.push (.cells cells' e (0, 0)) }) (by simp) (fun b hb _ => getElem?_push_lt _ _ hb) (fun b m => getElem?_push_lt _ _ (p.rel.env.lt b m))
    have hrep : Rep (w.heap.push (.cells cells' e (0, 0))) S' [.slice (some ⟨w.heap.size, 0, none⟩) 0 0] [.arr []] [] := .arrNil .nil
    obtain ⟨R'', h1, h2⟩ := hw.upd hdN hrep (by simp) (by simp)
    refine ⟨_, S', R'', rfl, h1, ⟨p.seals, fun b hb => (p.news b hb).imp id .inl, fun b hb _ => getElem?_push_lt _ _ hb, by simp, fun b m => .inl ?_, rfl, rfl, rfl, fun _ h => h⟩⟩
    rcases h2 b m with h | h
    · simp at h
    · exact p.sub b h
  · refine Post.alloc (w' := { w with heap := w.heap.push (.cells cells' e (0, 0)) }) (Rf := Rr) p.rel p.seals p.news p.sub hdN rfl rfl rfl rfl ?_ hnd (fun b m => p.apart b (hsubf b m)) (fun b m => p.subf b (hsubf b m)) hRlt _ rfl
    have := Rep.arr (h := w.heap.push (.cells cells' e (0, 0))) (S := S') (es := rows) (b := w.heap.size) (o := 0) (n := len) (cap := len) (st := tmpl.length) (T := e) (c := cells') (R1 := Rr) (vs := []) (fs := []) (R := []) e3 e2 (by simp) (by rw [Nat.zero_add]; exact hcells') (Nat.le_refl _) (by omega)
      (by rw [List.drop_zero, List.take_of_length_le (by simp; omega)]; exact hpush) .nil
    simpa using this
def mkSlOk (P : Program) (t : TypeId) (tmpl : List FV) (bytes : Nat) : Bool :=
  match P.underlying t with
  | some (.slice e) => zeroIs P e tmpl && sizeIs P e tmpl.length && decide (0 < tmpl.length) && (match P.info? e with | some i => i.bytes == bytes | none => false)
  | _ => false
def mkSlF (tmpl : List FV) (bytes : Nat) (len cap : Int) : Option FV :=
  if 0 ≤ len ∧ 0 ≤ cap ∧ cap ≤ 281474976710656 ∧ bytes * cap ≤ 281474976710656 then
    if len = cap then some (.arr (List.replicate len.toNat tmpl)) else if len = 0 then some (.buf tmpl.length) else none
  else none
theorem wrap64_id {n : Int} (h0 : 0 ≤ n) (h1 : n ≤ 9223372036854775807) : IntKind.i64.wrap n = n := by
  simp only [IntKind.wrap, IntKind.bits, IntKind.signed]
  have h2 : n % (2 ^ 64 : Int) = n := Int.emod_eq_of_lt h0 (by omega)
  simp only [h2]
  rw [if_neg]
  simp
  omega
theorem ok_makeSlice {t : TypeId} {tmpl : List FV} {bytes : Nat} {s1 s2 : Sr} {x y : Operand} {k1 k2 : IntKind} {len cap : Int} {f : FV} (ho : o.op = .makeSlice t x y) (hd : o.dst = some d) (hdN : d < N) (hs1 : s1.fits N x = true) (hs2 : s2.fits N y = true) (ht : mkSlOk P t tmpl bytes = true)
    (h1 : E.look s1 = .int k1 len) (h2 : E.look s2 = .int k2 cap) (hl : mkSlF tmpl bytes len cap = some f) : OpOk P N o E (· = E.upd d f) := by
  intro xv a w S R r
  have l1 := looked r hs1
  have l2 := looked r hs2
  rw [h1] at l1
  rw [h2] at l2
  unfold mkSlOk at ht
  cases hu : P.underlying t with
  | none => rw [hu] at ht; cases ht
  | some de =>
  rw [hu] at ht
  cases de <;> simp only at ht <;> try (cases ht; done)
  rename_i e
  simp only [Bool.and_eq_true, decide_eq_true_eq] at ht
  obtain ⟨⟨⟨hz, hsz⟩, hpos⟩, hby⟩ := ht
  obtain ⟨i, z, hi, hzz, hz⟩ := zeroIs_spec hz
  obtain ⟨i2, hi2, hsize⟩ := sizeIs_spec hsz
  rw [hi] at hi2
  cases hi2
  simp only [hi, beq_iff_eq] at hby
  have hzl := constOkL_len hz
  simp only [Array.length_toList] at hzl
  unfold mkSlF at hl
  split at hl
  case isFalse => cases hl
  rename_i hc
  obtain ⟨c1, c2, c3, c4⟩ := hc
  have hle : len ≤ cap := by
    split at hl
    · omega
    · split at hl
      · omega
      · cases hl
  have w1 := wrap64_id c1 (by omega)
  have w2 := wrap64_id c2 (by omega)
  have hbig : ((bytes : Int) * cap > 2 ^ 48) = False := by
    have : (2 : Int) ^ 48 = 281474976710656 := by decide
    rw [this]; simp; omega
  have hrun : ∃ cells', (execOp a.eval o).run P w = .ok (.value (.slice (some ⟨w.heap.size, 0, none⟩) len.toNat cap.toNat)) { w with heap := w.heap.push (.cells cells' e (0, 0)) } ∧ cells'.toList = (List.replicate cap.toNat z.cells.toList).flatten := by
    refine ⟨(Array.range (cap.toNat * z.cells.size)).map (fun i => z.cells[i % z.cells.size]!), ?_, replicate_cells z.cells (by omega) _⟩
    have hcs : i.size = z.cells.size := by omega
    have htl : (decide (cap < 0) || decide ((bytes : Int) * cap > 2 ^ 48)) = false := by
      simp only [hbig, decide_false, Bool.or_false, decide_eq_false_iff_not]; omega
    have hll : decide (len < 0) = false := by simp; omega
    have hlc : decide (len > cap) = false := by simp; omega
    by_cases h0 : cap.toNat * i.size = 0
    · have hc0 : cap.toNat = 0 := by
        rcases Nat.mul_eq_zero.1 h0 with h | h
        · exact h
        · omega
      simp only [execOp, ho, Instr.makeSlice, Sem.run_bind, run_underlying' hu, Result.andThen_ok, l1.int, l2.int, asInt, asIntOf, Sem.run_pure, run_typeInfo' hi, hby, w1, w2, htl, hll, hlc, Bool.or_self, Bool.false_eq_true, if_false, Sem.run_ite, run_askRoom, run_sizeOf' hi, h0, if_true, newRow, run_newObj, hc0, Nat.zero_mul]
      simp [show Array.range 0 = #[] from rfl]
    · simp only [execOp, ho, Instr.makeSlice, Sem.run_bind, run_underlying' hu, Result.andThen_ok, l1.int, l2.int, asInt, asIntOf, Sem.run_pure, run_typeInfo' hi, hby, w1, w2, htl, hll, hlc, Bool.or_self, Bool.false_eq_true, if_false, Sem.run_ite, run_askRoom, run_sizeOf' hi, if_neg h0, if_neg (show ¬ cap.toNat * z.cells.size = 0 by rw [← hcs]; exact h0), newRow, run_newObj, run_zeroValue' hi hzz, hcs]
  obtain ⟨cells', hrun, hcells⟩ := hrun
  refine wp_value hrun ?_
  rw [hd]
  have hz0 := rep_replicate (constOkL_rep (w.heap.push (.cells cells' e (0, 0))) S tmpl z.cells.toList hz) cap.toNat
  rw [← hcells] at hz0
  have hcsz : cells'.size = cap.toNat * tmpl.length := by
    have h := hz0.length
    have h2 : (List.replicate cap.toNat tmpl).flatten.length = cap.toNat * tmpl.length := by simp
    rw [h2] at h
    simpa using h
  have noalloc : cap.toNat = 0 → Post N xv (· = E.upd d (.arr [])) w S R (a.put (some d) (.slice (some ⟨w.heap.size, 0, none⟩) 0 0)) { w with heap := w.heap.push (.cells cells' e (0, 0)) } := by
    intro _
    have hw := r.world (w' := { w with heap := w.heap.push (.cells cells' e (0, 0)) }) (by simp) (fun b hb _ => getElem?_push_lt _ _ hb) (fun b m => getElem?_push_lt _ _ (r.env.lt b m))
    obtain ⟨R'', h1, h2⟩ := hw.upd hdN (f := .arr []) (Rf := []) (.arrNil .nil) (by simp) (by simp)
    refine ⟨_, S, R'', rfl, h1, ⟨fun _ h => h, fun _ h => .inl h, fun b hb _ => getElem?_push_lt _ _ hb, by simp, fun b m => .inl ?_, rfl, rfl, rfl, fun _ h => h⟩⟩
    rcases h2 b m with h | h
    · simp at h
    · exact h
  split at hl
  · rename_i hlc
    cases hl
    subst hlc
    by_cases h0 : len.toNat = 0
    · rw [h0]
      exact noalloc h0
    · refine Post.alloc (w' := { w with heap := w.heap.push (.cells cells' e (0, 0)) }) (Rf := []) r (fun _ h => h) (fun _ h => .inl h) (fun _ h => h) hdN rfl rfl rfl rfl ?_ (by simp) (by simp) (by simp) (by simp) _ rfl
      have := Rep.arr (h := w.heap.push (.cells cells' e (0, 0))) (S := S) (es := List.replicate len.toNat tmpl) (b := w.heap.size) (o := 0) (n := len.toNat) (cap := len.toNat) (st := tmpl.length) (T := e) (c := cells') (R1 := []) (vs := []) (fs := []) (R := []) (by simp)
        (by intro r m; rw [List.eq_of_mem_replicate m]) (by simp) (by rw [Nat.zero_add]; exact hcsz) (Nat.le_refl _) (by omega)
        (by rw [List.drop_zero, List.take_of_length_le (by simp; omega)]; exact hz0) .nil
      simpa using this
  · split at hl
    case isFalse => cases hl
    rename_i hl0
    cases hl
    subst hl0
    refine Post.alloc (w' := { w with heap := w.heap.push (.cells cells' e (0, 0)) }) (Rf := []) r (fun _ h => h) (fun _ h => .inl h) (fun _ h => h) hdN rfl rfl rfl rfl ?_ (by simp) (by simp) (by simp) (by simp) _ rfl
    exact Rep.buf (T := e) (o := 0) (c := cells') (cap := cap.toNat) (by simp) (by rw [Nat.zero_add]; exact hcsz) (by omega) .nil
end
end Go.Fm
set_option linter.unusedVariables false
set_option linter.unusedSimpArgs false
namespace Go.Fm
open Go
section
variable {P : Program} {N : Nat} {o : Oper} {E : Env} {d : Nat}
def bnd (E : Env) (dflt : Nat) : Option Sr → Option Int
  | none => some dflt
  | some s => match E.look s with
    | .int _ n => some n
    | _ => none
def Sr.fitsO (N : Nat) : Option Sr → Option Operand → Bool
  | none, none => true
  | some s, some x => s.fits N x
  | _, _ => false
theorem bnd_spec {xv : Nat → Value} {a : Act} {w : World} {S : Nat → Prop} {R : List Nat} (r : Rel N xv E a w S R) {s : Option Sr} {x : Option Operand} {dflt : Nat} {n : Int} (hs : Sr.fitsO N s x = true) (hb : bnd E dflt s = some n) :
    (x = none ∧ s = none ∧ n = dflt) ∨ (∃ y k, x = some y ∧ a.eval y = .int k n) := by
  cases s with
  | none =>
    cases x with
    | none => simp only [bnd, Option.some.injEq] at hb; exact .inl ⟨rfl, rfl, hb.symm⟩
    | some x => simp [Sr.fitsO] at hs
  | some s =>
    cases x with
    | none => simp [Sr.fitsO] at hs
    | some x =>
      simp only [Sr.fitsO] at hs
      have l := looked r hs
      simp only [bnd] at hb
      split at hb
      · rename_i k m e
        cases hb
        rw [e] at l
        exact .inr ⟨x, k, rfl, l.int⟩
      · cases hb
theorem run_bound {w : World} {k : IntKind} {i : Int} {y : Nat} {code : BoundsCode} (h0 : 0 ≤ i) (h1 : i ≤ y) : (Instr.sliceBound (.int k i) y code).run P w = .ok i.toNat w := by
  simp [Instr.sliceBound, asIntOf, h0, h1]
theorem run_bounds {w : World} {isSl : Bool} {len cap : Nat} {l h : Int} {lo hi : Option Value} (hlo : lo = none ∧ l = 0 ∨ ∃ k, lo = some (.int k l)) (hhi : hi = none ∧ h = len ∨ ∃ k, hi = some (.int k h)) (h0 : 0 ≤ l) (h1 : l ≤ h) (h2 : h ≤ len) (hlc : len ≤ cap) :
    (Instr.sliceBounds isSl len cap lo hi none).run P w = .ok (l.toNat, h.toNat, cap) w := by
  rcases hlo with ⟨rfl, rfl⟩ | ⟨k1, rfl⟩ <;> rcases hhi with ⟨rfl, rfl⟩ | ⟨k2, rfl⟩
  · simp [Instr.sliceBounds]
  · simp [Instr.sliceBounds, run_bound (P := P) (w := w) (k := k2) (i := h) (y := cap) (by omega) (by omega)]
  · have e : (len : Int).toNat = len := by simp
    simp [Instr.sliceBounds, run_bound (P := P) (w := w) (k := k1) (i := l) (y := len) h0 (by omega)]
  · have e : ((h.toNat : Nat) : Int) = h := Int.toNat_of_nonneg (by omega)
    simp [Instr.sliceBounds, run_bound (P := P) (w := w) (k := k2) (i := h) (y := cap) (by omega) (by omega), run_bound (P := P) (w := w) (k := k1) (i := l) (y := h.toNat) h0 (by omega)]
theorem run_bounds3 {w : World} {len cap : Nat} {l h m : Int} {lo : Option Value} {k2 k3 : IntKind} (hlo : lo = none ∧ l = 0 ∨ ∃ k, lo = some (.int k l)) (h0 : 0 ≤ l) (h1 : l ≤ h) (h2 : h ≤ m) (h3 : m ≤ cap) :
    (Instr.sliceBounds true len cap lo (some (.int k2 h)) (some (.int k3 m))).run P w = .ok (l.toNat, h.toNat, m.toNat) w := by
  have e1 : ((h.toNat : Nat) : Int) = h := Int.toNat_of_nonneg (by omega)
  have e2 : ((m.toNat : Nat) : Int) = m := Int.toNat_of_nonneg (by omega)
  rcases hlo with ⟨rfl, rfl⟩ | ⟨k1, rfl⟩
  · simp [Instr.sliceBounds, run_bound (P := P) (w := w) (k := k3) (i := m) (y := cap) (by omega) (by omega), run_bound (P := P) (w := w) (k := k2) (i := h) (y := m.toNat) (by omega) (by omega)]
  · simp [Instr.sliceBounds, run_bound (P := P) (w := w) (k := k3) (i := m) (y := cap) (by omega) (by omega), run_bound (P := P) (w := w) (k := k2) (i := h) (y := m.toNat) (by omega) (by omega), run_bound (P := P) (w := w) (k := k1) (i := l) (y := h.toNat) h0 (by omega)]
theorem bnd_lo {xv : Nat → Value} {a : Act} {w : World} {S : Nat → Prop} {R : List Nat} (r : Rel N xv E a w S R) {s : Option Sr} {x : Option Operand} {dflt : Nat} {n : Int} (hs : Sr.fitsO N s x = true) (hb : bnd E dflt s = some n) :
    (x.map a.eval = none ∧ n = dflt) ∨ ∃ k, x.map a.eval = some (.int k n) := by
  rcases bnd_spec r hs hb with ⟨rfl, _, h⟩ | ⟨y, k, rfl, h⟩
  · exact .inl ⟨rfl, h⟩
  · exact .inr ⟨k, by simp [h]⟩
def subStr (s : List UInt8) (l h : Int) : Option FV := if 0 ≤ l ∧ l ≤ h ∧ h ≤ s.length then some (.str ((s.drop l.toNat).take (h.toNat - l.toNat))) else none
theorem ok_sliceStr {t : TypeId} {s : Sr} {x : Operand} {slo shi : Option Sr} {lo hi : Option Operand} {b : List UInt8} {l h : Int} {f : FV} (ho : o.op = .slice t x lo hi none) (hd : o.dst = some d) (hdN : d < N) (hs : s.fits N x = true) (hlo : Sr.fitsO N slo lo = true) (hhi : Sr.fitsO N shi hi = true)
    (ht : isStringT P t = true) (hb : E.look s = .str b) (h1 : bnd E 0 slo = some l) (h2 : bnd E b.length shi = some h) (hl : subStr b l h = some f) : OpOk P N o E (· = E.upd d f) := by
  unfold subStr at hl
  split at hl
  case isFalse => cases hl
  rename_i hc
  cases hl
  refine @ok_look P N o E d _ hd hdN rfl ?_
  intro xv a w S R r
  have lk := looked r hs
  rw [hb] at lk
  refine ⟨.string ⟨((b.drop l.toNat).take (h.toNat - l.toNat)).toArray⟩, ?_, .closed (.str .nil)⟩
  have hsz : (ByteArray.mk b.toArray).size = b.length := by simp [ByteArray.size]
  have hb1 := bnd_lo r hlo h1
  have hb2 := bnd_lo r hhi h2
  have hrun := run_bounds (P := P) (w := w) (isSl := false) (len := b.length) (cap := b.length) (l := l) (h := h) (lo := lo.map a.eval) (hi := hi.map a.eval) (by simpa using hb1) hb2 hc.1 hc.2.1 hc.2.2 (Nat.le_refl _)
  have hex : (ByteArray.mk b.toArray).extract l.toNat h.toNat = ⟨((b.drop l.toNat).take (h.toNat - l.toNat)).toArray⟩ := by
    rw [Lib.extract_eq]
  have hu := isStringT_spec ht
  simp only [execOp, ho, Option.map_none, Instr.sliceAt, Sem.run_bind, run_underlying' hu, Result.andThen_ok, Instr.slice, lk.str, Option.isSome_none, Bool.false_eq_true, if_false, hsz, hrun, hex, Sem.run_pure]
def subSl (full : Bool) (es : List (List FV)) (l h : Int) (m : Option Int) : Option FV :=
  match m with
  | none => if 0 ≤ l ∧ l ≤ h ∧ h ≤ es.length then some (.sl (full && decide (h = es.length)) ((es.drop l.toNat).take (h.toNat - l.toNat))) else none
  | some m => if 0 ≤ l ∧ l ≤ h ∧ h ≤ m ∧ m ≤ es.length then some (.sl (decide (h = m)) ((es.drop l.toNat).take (h.toNat - l.toNat))) else none
theorem Rep.subSl {h : Array Obj} {S : Nat → Prop} {full full' : Bool} {es : List (List FV)} {z : Option Addr} {n cap size : Nat} {l hi m : Nat} (r : Rep h S [.slice z n cap] [.sl full es] []) (hrow : ∀ e ∈ es, e.length = size) (h1 : l ≤ hi) (h2 : hi ≤ es.length) (h3 : hi ≤ m) (h4 : m ≤ cap)
    (hf : full' = true → hi = m) : Rep h S [.slice (if m = l then z else z.map (·.add (l * size))) (hi - l) (m - l)] [.sl full' ((es.drop l).take (hi - l))] [] := by
  have hlen : ((es.drop l).take (hi - l)).length = hi - l := by simp; omega
  by_cases hm : m = l
  · subst hm
    have : hi = m := by omega
    subst this
    simp only [if_true, Nat.sub_self, List.take_zero]
    exact .slNil .nil
  · rw [if_neg hm]
    cases r with
    | slNil ht =>
      simp at h2
      omega
    | @sl _ _ b o0 n' cap' st cs _ _ _ hn hst hS hlt hcs hcc hcap hfull hpos hr ht =>
      simp only [Option.map_some, add_eq]
      have hmul : l * size = l * st := by
        cases es with
        | nil => simp at h2; subst h2; have : l = 0 := by omega
                 subst this; simp
        | cons e es => rw [← hst e (by simp), ← hrow e (by simp)]
      rw [hmul]
      have hle : l * st + (hi - l) * st = hi * st := by rw [← Nat.add_mul]; congr 1; omega
      have hle2 : hi * st ≤ n * st := Nat.mul_le_mul_right _ (by omega)
      refine .sl (st := st) (cs := (cs.drop (l * st)).take ((hi - l) * st)) hlen (fun e he => hst e (List.mem_of_mem_drop (List.mem_of_mem_take he))) hS hlt (by simp; omega) ?_ (by omega) (fun hf' => by have := hf hf'; omega) (by omega) ?_ .nil
      · intro k hk
        rw [Nat.add_assoc, hcc (l * st + k) (by omega), List.getElem?_take_of_lt hk, List.getElem?_drop]
      · have := (hr.takeD (l * st)).2.takeD ((hi - l) * st)
        have e1 : (es.flatten.drop (l * st)).take ((hi - l) * st) = ((es.drop l).take (hi - l)).flatten := by
          have d1 : ∀ {es : List (List FV)} {l : Nat}, (∀ e ∈ es, e.length = st) → es.flatten.drop (l * st) = (es.drop l).flatten := by
            intro es
            induction es with
            | nil => intro l _; simp
            | cons e es ih =>
              intro l hall
              cases l with
              | zero => simp
              | succ l =>
                have he := hall e (by simp)
                simp only [List.flatten_cons, List.drop_succ_cons]
                rw [List.drop_append, List.drop_of_length_le (by rw [he, Nat.add_mul]; omega), List.nil_append, he, show (l + 1) * st - st = l * st by rw [Nat.add_mul]; omega]
                exact ih fun e m => hall e (by simp [m])
          have d2 : ∀ {es : List (List FV)} {k : Nat}, (∀ e ∈ es, e.length = st) → es.flatten.take (k * st) = (es.take k).flatten := by
            intro es
            induction es with
            | nil => intro k _; simp
            | cons e es ih =>
              intro k hall
              cases k with
              | zero => simp
              | succ k =>
                have he := hall e (by simp)
                simp only [List.flatten_cons, List.take_succ_cons]
                rw [List.take_append, List.take_of_length_le (by rw [he, Nat.add_mul]; omega), he, show (k + 1) * st - st = k * st by rw [Nat.add_mul]; omega]
                rw [ih fun e m => hall e (by simp [m])]
          rw [d1 hst, d2 (fun e he => hst e (List.mem_of_mem_drop he))]
        rw [e1] at this
        exact this.1
theorem Rep.slHdr {h : Array Obj} {S : Nat → Prop} {v : Value} {full : Bool} {es : List (List FV)} {R : List Nat} (r : Rep h S [v] [.sl full es] R) : ∃ z cap, v = .slice z es.length cap ∧ es.length ≤ cap ∧ (full = true → es ≠ [] → cap = es.length) ∧ R = [] := by
  cases r with
  | slNil ht => cases ht; exact ⟨_, 0, rfl, by simp, by simp, rfl⟩
  | sl hn _ _ _ _ _ hcap hfull _ _ ht => cases ht; subst hn; exact ⟨_, _, rfl, hcap, fun h _ => hfull h, rfl⟩
theorem ok_sliceSl {t : TypeId} {s : Sr} {x : Operand} {slo shi smx : Option Sr} {lo hi mx : Option Operand} {full : Bool} {es : List (List FV)} {size : Nat} {l h : Int} {m : Option Int} {f : FV} (ho : o.op = .slice t x lo hi mx) (hd : o.dst = some d) (hdN : d < N) (hs : s.fits N x = true)
    (hlo : Sr.fitsO N slo lo = true) (hhi : Sr.fitsO N shi hi = true) (hmx : Sr.fitsO N smx mx = true) (ht : sliceIs P t size = true) (hb : E.look s = .sl full es) (hrow : (es.all fun r => r.length == size) = true) (h1 : bnd E 0 slo = some l) (h2 : bnd E es.length shi = some h)
    (h3 : (smx = none ∧ m = none) ∨ (∃ q n, smx = some q ∧ bnd E 0 smx = some n ∧ m = some n ∧ shi.isSome = true)) (hl : subSl full es l h m = some f) : OpOk P N o E (· = E.upd d f) := by
  have hrow' : ∀ e ∈ es, e.length = size := fun e he => by simpa using List.all_eq_true.1 hrow e he
  have hfr : ∃ fu ee, f = .sl fu ee := by
    unfold subSl at hl
    split at hl <;> split at hl <;> first | (cases hl; done) | (cases hl; exact ⟨_, _, rfl⟩)
  refine @ok_look P N o E d _ hd hdN (by obtain ⟨_, _, rfl⟩ := hfr; rfl) ?_
  intro xv a w S R r
  have lk := looked r hs
  rw [hb] at lk
  have hrep := lk.rep rfl
  obtain ⟨z, cap, hv, hcap, hfull, _⟩ := hrep.slHdr
  rw [hv] at hrep
  obtain ⟨e, i, hu, hi', hsz⟩ := sliceIs_spec ht
  have hb1 := bnd_lo r hlo h1
  have hb2 := bnd_lo r hhi h2
  rcases h3 with ⟨rfl, rfl⟩ | ⟨q, n, rfl, hn, rfl, hshi⟩
  · have hmx0 : mx = none := by cases mx <;> simp [Sr.fitsO] at hmx ⊢
    subst hmx0
    simp only [subSl] at hl
    split at hl
    case isFalse => cases hl
    rename_i hc
    cases hl
    have hrun := run_bounds (P := P) (w := w) (isSl := true) (len := es.length) (cap := cap) (l := l) (h := h) (lo := lo.map a.eval) (hi := hi.map a.eval) (by simpa using hb1) hb2 hc.1 hc.2.1 hc.2.2 hcap
    refine ⟨.slice (if cap = l.toNat then z else z.map (·.add (l.toNat * size))) (h.toNat - l.toNat) (cap - l.toNat), ?_, .closed ?_⟩
    · simp only [execOp, ho, Option.map_none, Instr.sliceAt, Sem.run_bind, run_underlying' hu, Result.andThen_ok, Instr.slice, hv, hrun, run_sizeOf' hi', hsz, Sem.run_pure]
    · refine hrep.subSl hrow' (by omega) (by omega) (by omega) (Nat.le_refl _) ?_
      intro hf
      simp only [Bool.and_eq_true, decide_eq_true_eq] at hf
      by_cases hes : es = []
      · subst hes
        cases hrep with
        | slNil _ => simp at hc; omega
        | sl _ _ _ _ _ _ _ hfl hpos => have := hfl hf.1; simp at this; omega
      · have := hfull hf.1 hes
        omega
  · obtain ⟨y, ky, hmy, hyv⟩ : ∃ y k, mx = some y ∧ a.eval y = .int k n := by
      rcases bnd_spec r hmx hn with ⟨_, h, _⟩ | ⟨y, k, h4, h5⟩
      · cases h
      · exact ⟨y, k, h4, h5⟩
    obtain ⟨y2, ky2, hhy, hhv⟩ : ∃ y k, hi = some y ∧ a.eval y = .int k h := by
      rcases bnd_spec r hhi h2 with ⟨_, h, _⟩ | ⟨y, k, h4, h5⟩
      · rw [h] at hshi; cases hshi
      · exact ⟨y, k, h4, h5⟩
    simp only [subSl] at hl
    split at hl
    case isFalse => cases hl
    rename_i hc
    cases hl
    have hrun := run_bounds3 (P := P) (w := w) (len := es.length) (cap := cap) (l := l) (h := h) (m := n) (lo := lo.map a.eval) (k2 := ky2) (k3 := ky) (by simpa using hb1) hc.1 hc.2.1 hc.2.2.1 (by omega)
    refine ⟨.slice (if n.toNat = l.toNat then z else z.map (·.add (l.toNat * size))) (h.toNat - l.toNat) (n.toNat - l.toNat), ?_, .closed ?_⟩
    · simp only [execOp, ho, hmy, hhy, Option.map_some, hyv, hhv, Instr.sliceAt, Sem.run_bind, run_underlying' hu, Result.andThen_ok, Instr.slice, hv, hrun, run_sizeOf' hi', hsz, Sem.run_pure]
    · refine hrep.subSl hrow' (by omega) (by omega) (by omega) (by omega) ?_
      intro hf
      simp only [decide_eq_true_eq] at hf
      omega
def subO (E : Env) (q : Nat) (l h : Int) (size : Nat) : Option FV :=
  match E.get q with
  | .arr es => if 0 ≤ l ∧ l ≤ h ∧ h ≤ es.length ∧ (es.all fun r => r.length == size) = true then some (.als q l.toNat (h.toNat - l.toNat) size) else none
  | .buf st => if l = 0 ∧ h = 0 ∧ st = size then some (.als q 0 0 size) else none
  | _ => none
def lenO (E : Env) (q : Nat) : Nat := (E.get q).rows.length
theorem ok_subO {t : TypeId} {s : Sr} {x : Operand} {slo shi : Option Sr} {lo hi : Option Operand} {q size : Nat} {l h : Int} {f : FV} (ho : o.op = .slice t x lo hi none) (hd : o.dst = some d) (hdN : d < N) (hs : s.fits N x = true)
    (hlo : Sr.fitsO N slo lo = true) (hhi : Sr.fitsO N shi hi = true) (ht : sliceIs P t size = true) (hb : E.look s = .al q []) (h1 : bnd E 0 slo = some l) (h2 : bnd E (lenO E q) shi = some h)
    (hl : subO E q l h size = some f) (hroot : f.notRoot d = true) : OpOk P N o E (· = E.upd d f) := by
  refine @ok_look P N o E d _ hd hdN hroot ?_
  intro xv a w S R r
  have lk := looked r hs
  rw [hb] at lk
  have he : hdrAt w.heap (valOf a xv) E q [] = some (a.eval x) := by
    cases lk with
    | closed h => have := h.noalias _ (List.mem_singleton.2 rfl); cases this
    | al h => exact h
  have hv : a.eval x = valOf a xv q := by
    simp only [hdrAt] at he
    split at he
    · exact (Option.some.inj he).symm
    · cases he
  obtain ⟨e, i, hu, hi', hsz⟩ := sliceIs_spec ht
  have hb1 := bnd_lo r hlo h1
  have hb2 := bnd_lo r hhi h2
  have go : ∀ (z : Option Addr) (cap : Nat), a.eval x = .slice z (lenO E q) cap → 0 ≤ l → l ≤ h → h ≤ (lenO E q : Nat) → lenO E q ≤ cap →
      (execOp a.eval o).run P w = .ok (.value (.slice (if cap = l.toNat then z else z.map (·.add (l.toNat * size))) (h.toNat - l.toNat) (cap - l.toNat))) w := fun z cap hv c1 c2 c3 c4 => by
    have hrun := run_bounds (P := P) (w := w) (isSl := true) (len := lenO E q) (cap := cap) (l := l) (h := h) (lo := lo.map a.eval) (hi := hi.map a.eval) (by simpa using hb1) hb2 c1 c2 c3 c4
    simp only [execOp, ho, Option.map_none, Instr.sliceAt, Sem.run_bind, run_underlying' hu, Result.andThen_ok, Instr.slice, hv, hrun, run_sizeOf' hi', hsz, Sem.run_pure]
  unfold subO at hl
  cases hq : E.get q <;> rw [hq] at hl <;> simp only at hl <;> try (cases hl; done)
  · rename_i es
    split at hl
    case isFalse => cases hl
    rename_i hc
    obtain ⟨c1, c2, c3, c4⟩ := hc
    cases hl
    have hrow' : ∀ e ∈ es, e.length = size := fun e he => by simpa using List.all_eq_true.1 c4 e he
    have hlen : lenO E q = es.length := by unfold lenO; rw [hq]; rfl
    obtain ⟨R1, R2, hrep, _⟩ := r.get0 q hq rfl
    obtain ⟨z, cap, hvz, hcap⟩ : ∃ z cap, valOf a xv q = .slice z es.length cap ∧ es.length ≤ cap := by
      generalize valOf a xv q = v at hrep
      cases hrep with
      | arrNil => exact ⟨_, 0, rfl, by simp⟩
      | arr hn _ _ _ hcap => subst hn; exact ⟨_, _, rfl, hcap⟩
    refine ⟨_, go z cap (by rw [hv, hvz, hlen]) c1 c2 (by rw [hlen]; exact c3) (by rw [hlen]; exact hcap), .als ?_⟩
    rw [hq]
    exact ⟨es, .inl rfl, hrow', by omega, z, _, cap, hvz, rfl⟩
  · rename_i st
    split at hl
    case isFalse => cases hl
    rename_i hc
    obtain ⟨c1, c2, c3⟩ := hc
    subst c1; subst c2; subst c3
    cases hl
    have hlen : lenO E q = 0 := by unfold lenO; rw [hq]; rfl
    obtain ⟨R1, R2, hrep, _⟩ := r.get0 q hq rfl
    obtain ⟨z, cap, hvz⟩ : ∃ z cap, valOf a xv q = .slice z 0 cap := by
      generalize valOf a xv q = v at hrep
      cases hrep with
      | buf => exact ⟨_, _, rfl⟩
      | bufNil => exact ⟨_, _, rfl⟩
    have := go z cap (by rw [hv, hvz, hlen]) (by omega) (by omega) (by omega) (by omega)
    refine ⟨_, this, .als ?_⟩
    rw [hq]
    exact ⟨[], .inr ⟨rfl, rfl⟩, by simp, by simp, z, _, cap, hvz, rfl⟩
def fdF (cs : List FV) (off n : Nat) (agg : Bool) : Option FV :=
  if off + n ≤ cs.length then (if agg then some (.agg ((cs.drop off).take n)) else if n = 1 then cs[off]? else none) else none
def fdOk (P : Program) (t : TypeId) (fi off n : Nat) (agg : Bool) : Bool :=
  match P.underlying t with
  | some (.struct fs) => match fs[fi]? with
    | some g => g.offset == off && sizeIs P g.type n && (isAggT P g.type == some agg)
    | none => false
  | _ => false
theorem Rep.pick {h : Array Obj} {S : Nat → Prop} {vs : List Value} {fs : List FV} (r : Rep h S vs fs []) {k : Nat} {f : FV} (hf : fs[k]? = some f) : ∃ v, vs[k]? = some v ∧ Rep h S [v] [f] [] := by
  obtain ⟨vx, R1, Rx, R2, h1, h2, h3, _⟩ := r.at hf
  have h4 := List.append_eq_nil_iff.1 h3.symm
  have h5 := (List.append_eq_nil_iff.1 h4.1).2
  rw [h5] at h2
  exact ⟨vx, h1, h2⟩
theorem ok_field {t : TypeId} {s : Sr} {x : Operand} {fi off n : Nat} {agg : Bool} {cs : List FV} {f : FV} (ho : o.op = .field t x fi) (hd : o.dst = some d) (hdN : d < N) (hs : s.fits N x = true) (ht : fdOk P t fi off n agg = true) (hb : E.look s = .agg cs) (hl : fdF cs off n agg = some f) (hroot : f.notRoot d = true) :
    OpOk P N o E (· = E.upd d f) := by
  refine @ok_look P N o E d _ hd hdN hroot ?_
  intro xv a w S R r
  have lk := looked r hs
  rw [hb] at lk
  obtain ⟨vs, hv, hr⟩ := (lk.rep rfl).agg_inv
  have hlen := hr.length
  unfold fdOk at ht
  cases hu : P.underlying t with
  | none => rw [hu] at ht; cases ht
  | some de =>
  rw [hu] at ht
  cases de <;> simp only at ht <;> try (cases ht; done)
  rename_i fs
  cases hg : fs[fi]? with
  | none => rw [hg] at ht; cases ht
  | some g =>
  rw [hg] at ht
  simp only [Bool.and_eq_true, beq_iff_eq] at ht
  obtain ⟨⟨hoff, hsz⟩, hagg⟩ := ht
  unfold fdF at hl
  split at hl
  case isFalse => cases hl
  rename_i hle
  obtain ⟨p1, p2⟩ := run_part (P := P) (w := w) (t := g.type) (n := n) (off := off) (cs := vs) hsz (by omega)
  cases agg
  · simp only [Bool.false_eq_true, if_false] at hl
    split at hl
    case isFalse => cases hl
    obtain ⟨v, hv1, hv2⟩ := hr.pick hl
    refine ⟨v, ?_, .closed hv2⟩
    simp only [execOp, ho, Instr.field, Sem.run_bind, run_underlying' hu, Result.andThen_ok, hg, hv, asAgg, Sem.run_pure, hoff, p2 hagg v hv1]
  · simp only [if_true, Option.some.injEq] at hl
    subst hl
    refine ⟨_, ?_, .closed (.agg (R1 := []) (hr.nilR off n) .nil)⟩
    simp only [execOp, ho, Instr.field, Sem.run_bind, run_underlying' hu, Result.andThen_ok, hg, hv, asAgg, Sem.run_pure, hoff, p1 hagg]
theorem ok_index {t : TypeId} {s si : Sr} {x y : Operand} {b : List UInt8} {k : IntKind} {i : Int} {c : UInt8} (ho : o.op = .index t x y) (hd : o.dst = some d) (hdN : d < N) (hs : s.fits N x = true) (hsi : si.fits N y = true) (ht : isStringT P t = true) (hb : E.look s = .str b) (hi : E.look si = .int k i)
    (h0 : 0 ≤ i) (hc : b[i.toNat]? = some c) : OpOk P N o E (· = E.upd d (.int .u8 c.toNat)) := by
  refine @ok_look P N o E d _ hd hdN rfl ?_
  intro xv a w S R r
  have l1 := looked r hs
  have l2 := looked r hsi
  rw [hb] at l1
  rw [hi] at l2
  refine ⟨_, ?_, .closed (.int .nil)⟩
  have hg : (ByteArray.mk b.toArray)[i.toNat]? = some c := by
    have hlt : i.toNat < b.length := by
      rcases Nat.lt_or_ge i.toNat b.length with h1 | h1
      · exact h1
      · rw [List.getElem?_eq_none h1] at hc; cases hc
    rw [List.getElem?_eq_getElem hlt] at hc
    have hsz : i.toNat < (ByteArray.mk b.toArray).size := by simpa [ByteArray.size] using hlt
    rw [getElem?_pos (ByteArray.mk b.toArray) i.toNat hsz]
    have : (ByteArray.mk b.toArray)[i.toNat] = b[i.toNat] := by
      show b.toArray[i.toNat] = _
      simp
    rw [this]; exact hc
  have hu := isStringT_spec ht
  simp [execOp, ho, Instr.index, l1.str, l2.int, asIntOf, run_underlying' hu, h0, hg]
theorem ok_extract {n i : Nat} {x : Operand} {vs : List FV} {f : FV} (ho : o.op = .extract x i) (hd : o.dst = some d) (hdN : d < N) (hs : (Sr.t n).fits N x = true) (hb : E.get n = .tup vs) (hf : vs[i]? = some f) (ha : f.alias = false) :
    OpOk P N o E (· = (if f.flat then E else E.upd n (.tup (vs.set i .undef))).upd d f) := by
  intro xv a w S R r
  have hx : x = .tmp n ∧ n < N := by
    cases x <;> simp [Sr.fits] at hs
    exact ⟨by rw [hs.1], hs.2⟩
  obtain ⟨rfl, hn⟩ := hx
  have hval := eval_val (a := a) (xv := xv) r.small hn
  obtain ⟨Rf, R2, h1, h2, h3⟩ := r.swap (d := n) (by rw [hb]; rfl)
  rw [hb] at h1
  generalize hvn : valOf a xv n = v at h1 hval h3
  cases h1 with
  | @tup cs gs _ _ R1 R0 hr ht =>
    cases ht
    obtain ⟨vx, Ra, Rx, Rb, hvx, hrx, rfl, back⟩ := hr.at hf
    have hrun : (execOp a.eval o).run P w = .ok (.value vx) w := by
      have : cs.toArray[i]? = some vx := by simpa using hvx
      simp [execOp, ho, Instr.extract, ← hval, this]
    refine wp_value hrun ?_
    rw [hd]
    have hnd : (Ra ++ Rx ++ Rb ++ [] ++ R2).Nodup := h2.nodup_iff.1 r.nodup
    simp only [List.append_nil] at hnd h2 h3
    cases hp : f.flat
    · simp only [Bool.false_eq_true, if_false]
      have hnew := back (h' := w.heap) (S' := S) (fun _ h => h) (Nat.le_refl _) (fun _ _ _ => rfl) (fun _ _ => rfl) (fun _ _ => rfl) (vx' := vx) (x' := .undef) (Rx' := []) (.undef .nil)
      have hset : cs.set i vx = cs := List.ext_getElem? fun k => by
        by_cases hk : k = i
        · subst hk
          have hlt : k < cs.length := by
            rcases Nat.lt_or_ge k cs.length with h | h
            · exact h
            · rw [List.getElem?_eq_none h] at hvx; cases hvx
          rw [List.getElem?_set_self hlt, hvx]
        · rw [List.getElem?_set_ne (fun e => hk e.symm)]
      rw [hset] at hnew
      simp only [List.append_nil] at hnew
      have hperm : (Ra ++ Rx ++ Rb ++ R2).Perm (Rx ++ ((Ra ++ Rb) ++ R2)) := by
        have : (Ra ++ Rx ++ Rb).Perm (Rx ++ (Ra ++ Rb)) := by
          rw [List.append_assoc, ← List.append_assoc Rx]
          have : (Ra ++ (Rx ++ Rb)).Perm (Rx ++ Ra ++ Rb) := by
            rw [← List.append_assoc]; exact List.Perm.append_right _ List.perm_append_comm
          simpa [List.append_assoc] using this
        have := List.Perm.append_right R2 this
        simpa [List.append_assoc] using this
      have hnd2 := hperm.nodup_iff.1 hnd
      have hnd3 := (List.nodup_append.1 hnd2).2.1
      have hmem : ∀ b, b ∈ Ra ++ Rb → b ∈ R := fun b m => h2.mem_iff.2 (by
        have := hperm.mem_iff.2 (show b ∈ Rx ++ ((Ra ++ Rb) ++ R2) by simp only [List.mem_append] at m ⊢; rcases m with m | m <;> simp [m])
        exact this)
      obtain ⟨R', h4, h5⟩ := h3 (S' := S) (f := .tup (vs.set i .undef)) (Rg := Ra ++ Rb) (by
          have := Rep.tup hnew .nil
          simpa using this) (fun _ h => h)
        (fun b hb' => ⟨(r.sep b hb').1, fun m => (r.sep b hb').2 (hmem b m), fun m => (r.sep b hb').2 (h2.mem_iff.2 (by simp [m]))⟩)
        (List.nodup_append.1 hnd3).1 (fun b m m' => (List.nodup_append.1 hnd3).2.2 b m b m' rfl)
      have hRx : ∀ b ∈ Rx, b ∉ R' ∧ ¬ S b := fun b m => ⟨fun m' => (List.nodup_append.1 hnd2).2.2 b m b (h5.mem_iff.1 m') rfl, fun hb' => (r.sep b hb').2 (h2.mem_iff.2 (by simp [m]))⟩
      obtain ⟨R'', h6, h7⟩ := h4.upd hdN hrx hRx (List.nodup_append.1 hnd2).1
      refine ⟨_, S, R'', rfl, h6, Ext.refl _ _ _ _ fun b m => ?_⟩
      rcases h7 b m with m | m
      · exact h2.mem_iff.2 (by simp [m])
      · have := h5.mem_iff.1 m
        rcases List.mem_append.1 this with m | m
        · exact hmem b m
        · exact h2.mem_iff.2 (by simp [m])
    · simp only [if_true]
      have := hrx.flat (by simp [hp])
      subst this
      obtain ⟨R'', h6, h7⟩ := r.upd hdN hrx (by simp) (by simp)
      exact ⟨_, S, R'', rfl, h6, Ext.refl _ _ _ _ fun b m => by rcases h7 b m with m | m; simp at m; exact m⟩
def mmF (isMax : Bool) : FV → List FV → Option FV
  | f, [] => some f
  | .int k x, .int _ y :: r => mmF isMax (.int k (if isMax then max x y else min x y)) r
  | _, _ => none
theorem mm_run {w : World} (isMax : Bool) : ∀ {k : IntKind} {x : Int} {l : List FV} {vs : List Value} {f : FV}, Rep w.heap (fun _ => True) vs l [] → mmF isMax (.int k x) l = some f →
    ∃ n, f = .int k n ∧ (vs.foldlM (if isMax then Builtin.max2 else Builtin.min2) (.int k x)).run P w = .ok (.int k n) w
  | k, x, [], [], f, _, h => by
    simp only [mmF, Option.some.injEq] at h
    subst h
    exact ⟨x, rfl, by simp⟩
  | k, x, [], _ :: _, f, r, h => by have := r.length; simp at this
  | k, x, _ :: _, [], f, r, h => by have := r.length; simp at this
  | k, x, g :: l, v :: vs, f, r, h => by
    cases g <;> simp only [mmF] at h <;> try (cases h; done)
    rename_i k2 y
    cases r with
    | int r' =>
      obtain ⟨n, h1, h2⟩ := mm_run isMax r' h
      refine ⟨n, h1, ?_⟩
      simp only [List.foldlM_cons, Sem.run_bind]
      cases isMax
      · have e : (Builtin.min2 (.int k x) (.int k2 y)).run P w = .ok (.int k (min x y)) w := by
          simp only [Builtin.min2, Sem.run_pure]
          congr 2
          rw [Int.min_def]
          split <;> split <;> omega
        simp only [Bool.false_eq_true, if_false, e, Result.andThen_ok] at h2 ⊢
        exact h2
      · have e : (Builtin.max2 (.int k x) (.int k2 y)).run P w = .ok (.int k (max x y)) w := by
          simp only [Builtin.max2, Sem.run_pure]
          congr 2
          rw [Int.max_def]
          split <;> split <;> omega
        simp only [if_true, e, Result.andThen_ok] at h2 ⊢
        exact h2
theorem looked_ints {xv : Nat → Value} {a : Act} {w : World} {S : Nat → Prop} {R : List Nat} (r : Rel N xv E a w S R) : ∀ {ss : List Sr} {xs : List Operand}, ss.length = xs.length → List.all (ss.zip xs) (fun y => y.1.fits N y.2) = true → (∀ s ∈ ss, ∃ k n, E.look s = .int k n) →
    Rep w.heap (fun _ => True) (xs.map a.eval) (ss.map E.look) []
  | [], [], _, _, _ => .nil
  | [], _ :: _, h, _, _ => by simp at h
  | _ :: _, [], h, _, _ => by simp at h
  | s :: ss, x :: xs, hl, hs, hi => by
    simp only [List.zip_cons_cons, List.all_cons, Bool.and_eq_true] at hs
    obtain ⟨k, n, e⟩ := hi s (by simp)
    have l := looked r hs.1
    rw [e] at l
    simp only [List.map_cons, e, l.int]
    exact .int (looked_ints r (by simpa using hl) hs.2 fun s m => hi s (by simp [m]))
theorem ok_minmax {isMax : Bool} {xs : Array Operand} {ts : Array TypeId} {ss : List Sr} {f g : FV} {l : List FV} (ho : o.op = .call { callee := .builtin (if isMax then .max else .min), args := xs, argTypes := ts }) (hd : o.dst = some d) (hdN : d < N)
    (hs : List.all (ss.zip xs.toList) (fun y => y.1.fits N y.2) = true) (hlen : ss.length = xs.toList.length) (hm : ss.map E.look = g :: l) (hg : ∃ k n, g = .int k n) (hi : ∀ s ∈ ss, ∃ k n, E.look s = .int k n) (hl : mmF isMax g l = some f) : OpOk P N o E (· = E.upd d f) := by
  obtain ⟨k, n, rfl⟩ := hg
  have hf : ∃ m, f = .int k m := by
    have : ∀ {l : List FV} {x : Int} {f : FV}, mmF isMax (.int k x) l = some f → ∃ m, f = .int k m := by
      intro l
      induction l with
      | nil => intro x f h; simp only [mmF, Option.some.injEq] at h; exact ⟨x, h.symm⟩
      | cons g l ih =>
        intro x f h
        cases g <;> simp only [mmF] at h <;> first | (cases h; done) | exact ih h
    exact this hl
  refine @ok_look P N o E d _ hd hdN (by obtain ⟨m, rfl⟩ := hf; rfl) ?_
  intro xv a w S R r
  have hr := looked_ints r hlen hs hi
  rw [hm] at hr
  cases hx : xs.toList with
  | nil => rw [hx] at hr; have := hr.length; simp at this
  | cons x xs' =>
    rw [hx] at hr
    simp only [List.map_cons] at hr
    obtain ⟨R1, R2, h1, h2, h3⟩ := hr.cons_inv
    have h4 := List.append_eq_nil_iff.1 h3.symm
    rw [h4.2] at h2
    have hv : a.eval x = .int k n := by
      generalize a.eval x = v at h1 ⊢
      cases h1; rfl
    obtain ⟨m, rfl, hrun⟩ := mm_run (P := P) isMax h2 hl
    refine ⟨.int k m, ?_, .closed (.int .nil)⟩
    have hargs : (xs.map a.eval).toList = a.eval x :: xs'.map a.eval := by simp [hx]
    cases isMax
    · simp only [Bool.false_eq_true, if_false] at hrun ho
      simp [execOp, ho, resolve, invoke, builtin, Builtin.min_, hx, hv, hrun]
    · simp only [if_true] at hrun ho
      simp [execOp, ho, resolve, invoke, builtin, Builtin.max_, hx, hv, hrun]
end
end Go.Fm
set_option linter.unusedVariables false
set_option linter.unusedSimpArgs false
namespace Go.Fm
open Go
section
variable {P : Program} {N : Nat} {o : Oper} {E : Env} {d : Nat}
def iaAF (E : Env) (adr : FV) (i : Int) (size n : Nat) : Option FV := if 0 ≤ i ∧ i < n then faF E adr (i.toNat * size) else none
def arrayIs (P : Program) (t : TypeId) (size n : Nat) : Bool :=
  match P.underlying t with
  | some (.array n' e) => n' == n && sizeIs P e size
  | _ => false
theorem ok_indexAddrA {t : TypeId} {s si : Sr} {x y : Operand} {i : Int} {k : IntKind} {size n : Nat} {f : FV} (ho : o.op = .indexAddr t x y) (hd : o.dst = some d) (hdN : d < N) (hs : s.fits N x = true) (hsi : si.fits N y = true) (ht : arrayIs P t size n = true)
    (hi : E.look si = .int k i) (hl : iaAF E (E.look s) i size n = some f) (hroot : f.notRoot d = true) : OpOk P N o E (· = E.upd d f) := by
  unfold iaAF at hl
  split at hl <;> try (cases hl; done)
  rename_i hb
  refine @ok_look P N o E d _ hd hdN hroot ?_
  intro xv a w S R r
  have lk := looked r hs
  have li := looked r hsi
  rw [hi] at li
  have hiv := li.int
  have hrun : ∀ b o', a.eval x = .pointer (some ⟨b, o', none⟩) → (execOp a.eval o).run P w = .ok (.value (.pointer (some ⟨b, o' + i.toNat * size, none⟩))) w := by
    intro b o' hv
    unfold arrayIs at ht
    cases hu : P.underlying t with
    | none => rw [hu] at ht; cases ht
    | some de =>
    rw [hu] at ht
    cases de <;> simp only at ht <;> try (cases ht; done)
    rename_i m e
    simp only [Bool.and_eq_true, beq_iff_eq] at ht
    obtain ⟨rfl, h2⟩ := ht
    unfold sizeIs at h2
    cases hi2 : P.info? e with
    | none => rw [hi2] at h2; cases h2
    | some ie =>
      rw [hi2] at h2
      have hsz : ie.size = size := by simpa using h2
      have hb2 : i < (m : Int) := hb.2
      simp [execOp, ho, Instr.indexAt, hiv, asIntOf, run_underlying' hu, Instr.sureAddr, hv, hb.1, hb2, run_sizeOf' hi2, hsz, add_eq]
  generalize E.look s = adr at lk hl
  cases adr <;> simp only [faF] at hl <;> try (cases hl; done)
  case ref gs =>
    split at hl
    case isFalse => cases hl
    cases hl
    obtain ⟨b, o', cs, hv, hS, hlt, hc, hr⟩ := (lk.rep rfl).ref_inv
    exact ⟨_, hrun b o' hv, .closed (Rep.ref_drop hS hlt hc hr)⟩
  case ptr q p =>
    cases hg : getN (E.get q) (addOff p (i.toNat * size)) 1 with
    | none => rw [hg] at hl; cases hl
    | some ys =>
    rw [hg] at hl
    simp only [Option.some.injEq] at hl
    subst hl
    have he : ptrAt w.heap (valOf a xv) E q p = some (a.eval x) := by
      cases lk with
      | closed h => have := h.noalias _ (List.mem_singleton.2 rfl); cases this
      | ptr h => exact h
    obtain ⟨b, o', hv, he'⟩ := Rel.ptr_add (xv := xv) (S := S) (R := R) he hg
    exact ⟨_, hrun b o' hv, .ptr he'⟩
def byteRow : List FV → Option UInt8
  | [.int .u8 n] => some (UInt8.ofNat n.toNat)
  | _ => none
def bytesF : List (List FV) → Option (List UInt8)
  | [] => some []
  | e :: es => match byteRow e, bytesF es with
    | some b, some bs => some (b :: bs)
    | _, _ => none
def elemsAt (E : Env) (f : FV) : Option (List (List FV)) :=
  match f with
  | .al q p => elemsOf (E.at q p)
  | f => elemsOf f
def bytesToStr (P : Program) (src dt : TypeId) : Bool :=
  match P.underlying src with
  | some (.slice e) => (match P.underlying e with | some (.int .u8) => true | _ => false) && isStringT P dt
  | _ => false
theorem bytesF_rows : ∀ {es : List (List FV)} {bs : List UInt8}, bytesF es = some bs → rowsOk 1 es = true
  | [], _, _ => rfl
  | e :: es, bs, h => by
    simp only [bytesF] at h
    split at h <;> try (cases h; done)
    rename_i b bs' hb hbs
    have ih := bytesF_rows hbs
    unfold byteRow at hb
    split at hb <;> try (cases hb; done)
    simp only [rowsOk, List.all_cons, Bool.and_eq_true] at ih ⊢
    exact ⟨by simp [FV.one], ih⟩
theorem bytesF_rep {h : Array Obj} {S : Nat → Prop} : ∀ {es : List (List FV)} {bs : List UInt8} {cs : List Value} {R : List Nat}, bytesF es = some bs → Rep h S cs es.flatten R → ∃ ns : List Int, cs = ns.map (Value.int .u8) ∧ bs = ns.map fun n => UInt8.ofNat n.toNat
  | [], bs, cs, R, hb, r => by cases hb; cases r; exact ⟨[], rfl, rfl⟩
  | e :: es, bs, cs, R, hb, r => by
    simp only [bytesF] at hb
    split at hb <;> try (cases hb; done)
    rename_i b bs' h1 h2
    cases hb
    unfold byteRow at h1
    split at h1 <;> try (cases h1; done)
    cases h1
    rename_i n
    rw [List.flatten_cons, List.singleton_append] at r
    cases cs with
    | nil => have := r.length; simp at this
    | cons c cs =>
    obtain ⟨R1, R2, r1, r2, rfl⟩ := r.cons_inv
    obtain ⟨ns, rfl, rfl⟩ := bytesF_rep h2 r2
    cases r1 with
    | int h => cases h; exact ⟨n :: ns, rfl, rfl⟩
theorem foldl_push (ns : List Int) : ∀ (b : ByteArray), ns.foldl (fun r n => r.push (UInt8.ofNat n.toNat)) b = ⟨b.data ++ (ns.map fun n => UInt8.ofNat n.toNat).toArray⟩ := by
  induction ns with
  | nil => intro b; cases b; simp
  | cons n ns ih =>
    intro b
    rw [List.foldl_cons, ih]
    cases b
    simp [ByteArray.push]
theorem ok_cvStr {src dt : TypeId} {s : Sr} {x : Operand} {es : List (List FV)} {bs : List UInt8} (ho : o.op = .convert src dt x) (hd : o.dst = some d) (hdN : d < N) (hs : s.fits N x = true) (ht : bytesToStr P src dt = true)
    (he : elemsAt E (E.look s) = some es) (hb : bytesF es = some bs) : OpOk P N o E (· = E.upd d (.str bs)) := by
  refine @ok_look P N o E d _ hd hdN rfl ?_
  intro xv a w S R r
  have lk := looked r hs
  unfold bytesToStr at ht
  cases hu : P.underlying src with
  | none => rw [hu] at ht; cases ht
  | some de =>
  rw [hu] at ht
  cases de <;> simp only at ht <;> try (cases ht; done)
  rename_i e
  simp only [Bool.and_eq_true] at ht
  have hue : P.underlying e = some (.int .u8) := by
    have := ht.1
    split at this
    · assumption
    · cases this
  have hut := isStringT_spec ht.2
  -- the cells
  have hrep : ∃ g S' R', elemsOf g = some es ∧ Rep w.heap S' [a.eval x] [g] R' := by
    unfold elemsAt at he
    generalize E.look s = f at lk he
    cases lk with
    | closed h =>
      refine ⟨f, S, [], ?_, h⟩
      cases f <;> first | exact he | (have := h.noalias _ (List.mem_singleton.2 rfl); cases this)
    | al h =>
      obtain ⟨g, Rf, R2, h1, _, h2, _⟩ := r.alAt h
      simp only at he
      rw [h1] at he
      exact ⟨g, S, Rf, he, h2⟩
    | ptr h => simp [elemsOf] at he
    | clo h => simp [elemsOf] at he
    | als h => simp [elemsOf] at he
    | alg h => simp [elemsOf] at he
  obtain ⟨g, S', R', hg, hr⟩ := hrep
  obtain ⟨z, n, c, news, Rn, hv, hn, hload, hnl, hrn, _⟩ := elems_spec (P := P) hr hg (bytesF_rows hb)
  obtain ⟨ns, rfl, rfl⟩ := bytesF_rep hb hrn
  refine ⟨.string ⟨(ns.map fun n => UInt8.ofNat n.toNat).toArray⟩, ?_, .closed (.str .nil)⟩
  have hl := hload w rfl
  rw [hv] at hl
  have main : (Conv.bytesToString (.slice z n c)).run P w = .ok (.string ⟨(ns.map fun n => UInt8.ofNat n.toNat).toArray⟩) w := by
    cases z with
    | none =>
      have : ns = [] := by
        simp [Builtin.firstCells] at hl
        simpa using hl
      subst this
      simp [Conv.bytesToString]
      rfl
    | some ad =>
      have hl2 : (loadCells ad n).run P w = .ok (ns.map (Value.int .u8)).toArray w := by
        simpa [Builtin.firstCells] using hl
      rw [run_bytesToString w ad n c ns hl2, foldl_push]
      simp
  simp [execOp, ho, hv, run_convert_bytes_string w src dt e z n c hu hue hut, main]
end
end Go.Fm
set_option linter.unusedVariables false
set_option linter.unusedSimpArgs false
namespace Go.Fm
open Go
theorem getN_setN : ∀ {p : Path} {f : FV} {n : Nat} {xs ys : List FV}, getN f p n = some ys → xs.length = n → getN (setN f p xs) p n = some xs
  | [], f, n, xs, ys, h, _ => by simp [getN] at h
  | [(i, o)], f, n, xs, ys, h, hx => by
    simp only [getN] at h
    cases hk : f.kids[i]? with
    | none => rw [hk] at h; cases h
    | some row =>
      rw [hk] at h
      simp only at h
      split at h
      case isFalse => cases h
      rename_i hn
      have e := kids_setKids hk (row.take o ++ xs ++ row.drop (o + xs.length)) i
      rw [if_pos rfl] at e
      simp only [setN, hk, getN, e]
      have h1 : (row.take o).length = o := by simp; omega
      rw [if_pos (by simp; omega), List.append_assoc, List.drop_append_of_le_length (by omega), List.drop_of_length_le (by omega), List.nil_append, List.take_append_of_le_length (by omega), List.take_of_length_le (by omega)]
  | (i, o) :: q :: p, f, n, xs, ys, h, hx => by
    rw [getN_step] at h
    cases hk : f.kids[i]? with
    | none => rw [hk] at h; cases h
    | some row =>
      rw [hk] at h
      simp only at h
      cases hr : row[o]? with
      | none => rw [hr] at h; cases h
      | some x =>
        rw [hr] at h
        simp only at h
        have e := kids_setKids hk (row.set o (setN x (q :: p) xs)) i
        rw [if_pos rfl] at e
        have ho : o < row.length := (List.getElem?_eq_some_iff.1 hr).1
        simp only [setN, hk, hr]
        rw [getN_step, e]
        simp only [List.getElem?_set_self ho]
        exact getN_setN h hx
theorem thru_self : ∀ (p : Path) (n : Nat), thru p p n = false
  | [], n => rfl
  | [(i, o)], n => by simp [thru]
  | (i, o) :: q :: p, n => by rw [thru_cons]; exact thru_self (q :: p) n
section
variable {P : Program} {N : Nat} {o : Oper} {E : Env} {d : Nat} {xv : Nat → Value} {a : Act} {w : World} {S : Nat → Prop} {R : List Nat}
theorem Rel.alHeap (r : Rel N xv E a w S R) {q : Nat} {x : Nat × Nat} {p : Path} {v : Value} (he : hdrAt w.heap (valOf a xv) E q (x :: p) = some v) :
    ∃ g Rf R2, E.at q (x :: p) = g ∧ g.isSl = true ∧ Rep w.heap S [v] [g] Rf ∧ R.Perm (Rf ++ R2) ∧ ∀ {w' : World} {f : FV} {Rg : List Nat}, w.heap.size ≤ w'.heap.size → (∀ b ∈ R2, w'.heap[b]? = w.heap[b]?) → (∀ b, S b → w'.heap[b]? = w.heap[b]?) →
      Rep w'.heap S [v] [f] Rg → Rg.Nodup → (∀ b ∈ Rg, b ∉ R2 ∧ ¬ S b) → ∃ R', Rel N xv ((E.setAt q (x :: p) .undef).setAt q (x :: p) f) a w' S R' ∧ R'.Perm (Rg ++ R2) := by
  have hso := r.sorted
  simp only [hdrAt] at he
  cases hg : getN (E.get q) (x :: p) 1 with
  | none => rw [hg] at he; cases he
  | some ys =>
    have hl := getN_len hg
    match ys, hl with
    | [y], hly =>
    rw [hg] at he
    simp only at he
    cases hsl : y.isSl with
    | false => rw [hsl] at he; cases he
    | true =>
    rw [hsl] at he
    simp only [if_true] at he
    obtain ⟨b, o, c, T, Rx, R2, hloc, hb, hf, hr, hp, hbm, back⟩ := r.tree hg
    rw [hloc] at he
    simp only at he
    have hcell : (c.toList.drop o).take 1 = [v] := by
      unfold cellAt at he
      rw [hb] at he
      simp only at he
      have : c.toList[o]? = some v := by simpa using he
      rw [List.drop_eq_getElem_cons (by simp; omega)]
      have h2 : c.toList[o]'(by simp; omega) = v := by
        rw [List.getElem?_eq_getElem (by simp; omega)] at this
        exact Option.some.inj this
      simpa using h2
    have hcc : c.toList = c.toList.take o ++ [v] ++ c.toList.drop (o + 1) := by
      rw [← hcell]
      rw [List.append_assoc, ← List.drop_drop, List.take_append_drop, List.take_append_drop]
    rw [hcell] at hr
    refine ⟨y, Rx, R2, by simp only [Env.at, hg], hsl, hr, hp, ?_⟩
    intro w' f Rg hsz hR2 hS hrep hnd hap
    have hndR := hp.nodup_iff.1 r.nodup
    obtain ⟨R1, r1, p1⟩ := back (w' := w) (S' := S) (cs' := [v]) (c' := c) (xs' := [.undef]) (Rx' := []) rfl rfl hb hcc (fun _ _ _ => rfl) (fun _ _ => rfl) (fun _ h => h) (Nat.le_refl _) (fun _ _ _ => rfl) (.undef .nil) (by simp) (by simp)
      (fun b hb => ⟨(r.sep b hb).1, by simp, fun m => (r.sep b hb).2 (hp.mem_iff.2 (by simp [m]))⟩)
    have hmem1 : ∀ b, b ∈ R1 ↔ b ∈ R2 := fun b => by simpa using p1.mem_iff (a := b)
    have r2 : Rel N xv (E.wr q (x :: p) [.undef]) a w' S R1 := r1.world hsz (fun b _ hb => hS b hb) (fun b m => hR2 b ((hmem1 b).1 m))
    have hgq : (E.wr q (x :: p) [.undef]).get q = setN (E.get q) (x :: p) [.undef] := by
      unfold Env.wr
      rw [Env.get_put _ _ _ _ (Env.sorted_mapV hso _), if_pos rfl]
    have hg1 : getN ((E.wr q (x :: p) [.undef]).get q) (x :: p) 1 = some [.undef] := by rw [hgq]; exact getN_setN hg rfl
    -- where it lies
    have hq : ∃ Rq, Rep w.heap S [valOf a xv q] [E.get q] Rq ∧ Rq.Nodup ∧ ∀ b ∈ Rq, b ∈ R := by
      obtain ⟨Ra, Rb, g1, g2⟩ := r.get q (by have := owned_of_getN hg; cases hq : E.get q <;> rw [hq] at this <;> first | rfl | cases this)
      exact ⟨Ra, g1, (List.nodup_append.1 (g2.nodup_iff.1 r.nodup)).1, fun b m => g2.mem_iff.2 (by simp [m])⟩
    obtain ⟨Rq, hq1, hq2, hq3⟩ := hq
    have hloc1 : locate w.heap (valOf a xv q) (setN (E.get q) (x :: p) [.undef]) (x :: p) = some (b, o) := by
      rw [(path_set (h := w.heap) (h' := w.heap) (T := T) (c := c) (c' := c) (cs' := [v]) (xs' := [.undef]) hb hb hcc rfl hf rfl hq1 hq2 hg hloc (fun _ _ _ => rfl) hg (thru_self _ _)).1]
      exact hloc
    obtain ⟨b2, o2, c2, T2, Rx2, R3, hloc2, hb2, hf2, hr2, hp2, hbm2, back2⟩ := r2.tree hg1
    have hq' : ∃ Rq', Rep w.heap S [valOf a xv q] [setN (E.get q) (x :: p) [.undef]] Rq' ∧ ∀ b ∈ Rq', w'.heap[b]? = w.heap[b]? := by
      obtain ⟨Ra, Rb, g1, g2⟩ := r1.get q (by rw [hgq]; have := owned_of_getN (hgq ▸ hg1); cases hq : setN (E.get q) (x :: p) [.undef] <;> rw [hq] at this <;> first | rfl | cases this)
      rw [hgq] at g1
      exact ⟨Ra, g1, fun b m => hR2 b ((hmem1 b).1 (g2.mem_iff.2 (by simp [m])))⟩
    obtain ⟨Rq', hq4, hq5⟩ := hq'
    rw [hgq, locate_keep hq4 hq5, hloc1] at hloc2
    simp only [Option.some.injEq, Prod.mk.injEq] at hloc2
    obtain ⟨rfl, rfl⟩ := hloc2
    rw [hR2 b hbm, hb] at hb2
    simp only [Option.some.injEq, Obj.cells.injEq, and_true] at hb2
    obtain ⟨rfl, rfl⟩ := hb2
    have hRx2 : Rx2 = [] := by
      rw [hcell] at hr2
      cases hr2 with
      | undef h => cases h; rfl
    subst hRx2
    have hmem2 : ∀ b, b ∈ R3 ↔ b ∈ R2 := fun b => by rw [← hmem1 b]; simpa using (hp2.mem_iff (a := b)).symm
    obtain ⟨R', h5, h6⟩ := back2 (w' := w') (S' := S) (cs' := [v]) (c' := c) (xs' := [f]) (Rx' := Rg) rfl rfl (by rw [hR2 b hbm, hb]) hcc (fun _ _ _ => rfl) (by simp) (fun _ h => h) (Nat.le_refl _) (fun _ _ _ => rfl) hrep hnd
      (fun b m m' => (hap b m).1 ((hmem2 b).1 m')) (fun b hb => ⟨by have := (r.sep b hb).1; omega, fun m => (hap b m).2 hb, fun m => (r.sep b hb).2 (hp.mem_iff.2 (by simp [(hmem2 b).1 m]))⟩)
    refine ⟨R', h5, h6.trans (List.Perm.append_left _ ?_)⟩
    have e1 : R1.Perm R2 := by simpa using p1
    have e2 : R1.Perm R3 := by simpa using hp2
    exact e2.symm.trans e1
def copyRows (es : List (List FV)) (lo lo' k : Nat) : List (List FV) := es.take lo ++ ((es.drop lo').take k ++ es.drop (lo + k))
def rowsFlat (size : Nat) (es : List (List FV)) : Bool := es.all fun r => r.length == size && (r.all FV.one && r.all FV.plain)
theorem rowsFlat_len {size : Nat} {es : List (List FV)} (h : rowsFlat size es = true) : ∀ e ∈ es, e.length = size := fun e m => by
  have := List.all_eq_true.1 h e m
  simp only [Bool.and_eq_true, beq_iff_eq] at this
  exact this.1
theorem all_flatten {α : Type} {p : α → Bool} {es : List (List α)} (h : ∀ e ∈ es, e.all p = true) : es.flatten.all p = true := by
  rw [List.all_eq_true]
  intro f m
  obtain ⟨e, he, hf⟩ := List.mem_flatten.1 m
  exact List.all_eq_true.1 (h e he) f hf
theorem rowsFlat_one {size : Nat} {es : List (List FV)} (h : rowsFlat size es = true) : es.flatten.all FV.one = true := all_flatten fun e m => by
  have := List.all_eq_true.1 h e m
  simp only [Bool.and_eq_true, beq_iff_eq] at this
  exact this.2.1
theorem rowsFlat_plain {size : Nat} {es : List (List FV)} (h : rowsFlat size es = true) : es.flatten.all FV.plain = true := all_flatten fun e m => by
  have := List.all_eq_true.1 h e m
  simp only [Bool.and_eq_true, beq_iff_eq] at this
  exact this.2.2
def cpF (E : Env) (f g : FV) (size : Nat) : Option (Nat × Env) :=
  match f with
  | .alg q p k => match g with
    | .alg q' p' k' => match k with
      | .sub lo n sz => match k' with
        | .sub lo' n' sz' => if ((q = q' ∧ p = p') ∧ size = sz ∧ size = sz') ∧ 0 < size then (match p with
          | [] => none
          | y :: p => match E.at q (y :: p) with
            | .arr es => if rowsFlat size es = true ∧ es.isEmpty = false then some (min n' n, (E.setAt q (y :: p) .undef).setAt q (y :: p) (.arr (copyRows es lo lo' (min n' n)))) else none
            | _ => none) else none
        | _ => none
      | _ => none
    | _ => none
  | _ => none
theorem run_copy' {dT sT ty e : TypeId} {i : TypeInfo} {w w' : World} {d s : Addr} {dLen dCap sLen sCap : Nat} {news : List Value} (hu : P.underlying dT = some (.slice e)) (hi : P.info? e = some i)
    (hl : (loadCells s (min sLen dLen * i.size)).run P w = .ok news.toArray w) (hst : (storeCells d news).run P w = .ok () w') :
    (Builtin.copy_ #[dT, sT] ty #[.slice (some d) dLen dCap, .slice (some s) sLen sCap]).run P w = .ok (goInt (min sLen dLen)) w' := by
  have hu' := run_underlying' (P := P) (w := w) hu
  have hs' := run_sizeOf' (P := P) (w := w) hi
  have hl' : (loadCells s (Nat.min sLen dLen * i.size)).run P w = .ok news.toArray w := hl
  simp [Builtin.copy_, hu', Builtin.lenOf, Builtin.firstCells, hs', hl', hst]
  have e : sLen.min dLen = min sLen dLen := rfl
  rw [e]; congr 1; omega
theorem Rep.splitD {h : Array Obj} {S : Nat → Prop} {cs : List Value} {gs : List FV} (r : Rep h S cs gs []) (n m : Nat) : Rep h S ((cs.drop n).take m) ((gs.drop n).take m) [] := ((r.takeD n).2.takeD m).1
theorem copy_cells {c c' L : List Value} {o0 st n lo lo' k m : Nat} (hL : L = (c.drop o0).take (n * st)) (hc : o0 + n * st ≤ c.length) (h1 : lo + k ≤ n) (h2 : lo' + k ≤ n)
    (hc' : c' = c.take (o0 + lo * st) ++ (L.drop (lo' * st)).take (k * st) ++ c.drop (o0 + lo * st + ((L.drop (lo' * st)).take (k * st)).length)) :
    (c'.drop o0).take (n * st) = L.take (lo * st) ++ ((L.drop (lo' * st)).take (k * st) ++ L.drop ((lo + k) * st)) := by
  have hll : L.length = n * st := by rw [hL]; simp; omega
  have m1 : lo * st + k * st ≤ n * st := by rw [← Nat.add_mul]; exact Nat.mul_le_mul_right _ h1
  have m2 : lo' * st + k * st ≤ n * st := by rw [← Nat.add_mul]; exact Nat.mul_le_mul_right _ h2
  have m3 : (lo + k) * st = lo * st + k * st := Nat.add_mul _ _ _
  have hnl : ((L.drop (lo' * st)).take (k * st)).length = k * st := by simp; omega
  generalize (L.drop (lo' * st)).take (k * st) = M at *
  rw [m3]
  generalize lo * st = A at *
  generalize k * st = B at *
  generalize n * st = C at *
  subst hc'
  subst hL
  rw [hnl]
  rw [List.append_assoc, List.drop_append_of_le_length (by simp; omega), List.drop_take, show o0 + A - o0 = A by omega]
  rw [List.take_append, List.take_append]
  have e0 : ((c.drop o0).take A).length = A := by simp; omega
  rw [e0, hnl, List.take_of_length_le (by omega : ((c.drop o0).take A).length ≤ C), List.take_of_length_le (by omega : M.length ≤ C - A)]
  rw [List.take_take, show min A C = A by omega, List.drop_take, List.drop_drop]
  rw [Nat.sub_sub, Nat.add_assoc]
theorem ok_copy {t t2 : TypeId} {s1 s2 : Sr} {x y : Operand} {size k : Nat} {E' : Env} (ho : o.op = .call { callee := .builtin .copy, args := #[x, y], argTypes := #[t, t2] }) (hd : o.dst = some d) (hdN : d < N) (hs : s1.fits N x = true) (hs2 : s2.fits N y = true) (ht : sliceIs P t size = true)
    (hl : cpF E (E.look s1) (E.look s2) size = some (k, E')) : OpOk P N o E (· = E'.upd d (.int .i64 (k : Int))) := by
  intro xv a w S R r
  have l1 := looked r hs
  have l2 := looked r hs2
  obtain ⟨e, i, hu, hi, hsz⟩ := sliceIs_spec ht
  generalize E.look s1 = f1 at l1 hl
  generalize E.look s2 = f2 at l2 hl
  unfold cpF at hl
  cases f1 <;> simp only at hl <;> try (cases hl; done)
  rename_i q p k1
  cases f2 <;> simp only at hl <;> try (cases hl; done)
  rename_i q' p' k2
  cases k1 <;> simp only at hl <;> try (cases hl; done)
  rename_i lo n sz
  cases k2 <;> simp only at hl <;> try (cases hl; done)
  rename_i lo' n' sz'
  split at hl
  case isFalse => cases hl
  rename_i hc
  obtain ⟨⟨⟨rfl, rfl⟩, rfl, rfl⟩, hpos⟩ := hc
  cases p with
  | nil => cases hl
  | cons y0 p =>
  simp only at hl
  cases hat : E.at q (y0 :: p) <;> rw [hat] at hl <;> simp only at hl <;> try (cases hl; done)
  rename_i es
  split at hl
  case isFalse => cases hl
  rename_i hrows
  simp only [Option.some.injEq, Prod.mk.injEq] at hl
  obtain ⟨rfl, rfl⟩ := hl
  have hal1 : aggAt w.heap (valOf a xv) E q (y0 :: p) (.sub lo n size) = some (a.eval x) := by
    cases l1 with
    | closed h => have := h.noalias _ (List.mem_singleton.2 rfl); cases this
    | alg h => exact h
  have hal2 : aggAt w.heap (valOf a xv) E q (y0 :: p) (.sub lo' n' size) = some (a.eval y) := by
    cases l2 with
    | closed h => have := h.noalias _ (List.mem_singleton.2 rfl); cases this
    | alg h => exact h
  have hfin : ∀ {w' : World} {R' : List Nat} {E1 : Env}, (execOp a.eval o).run P w = .ok (.value (.int .i64 ((min n' n : Nat) : Int))) w' → Rel N xv E1 a w' S R' → (∀ b ∈ R', b ∈ R) → w.heap.size ≤ w'.heap.size → (∀ b, b ∉ R → w'.heap[b]? = w.heap[b]?) → w'.os = w.os → w'.tape = w.tape → w'.output = w.output →
      o.wp P a w (Post N xv (· = E1.upd d (.int .i64 ((min n' n : Nat) : Int))) w S R) (fun _ _ _ => False) := by
    intro w' R' E1 hrun hrel hsub hgrow hkeep h1 h2 h3
    refine wp_value hrun ?_
    rw [hd]
    obtain ⟨R'', h4, h5⟩ := hrel.upd hdN (f := .int .i64 ((min n' n : Nat) : Int)) (Rf := []) (.int .nil) (by simp) (by simp)
    refine ⟨_, S, R'', rfl, h4, ⟨fun _ h => h, fun b hb => .inl hb, fun b _ hn => hkeep b hn, hgrow, fun b m => .inl (hsub b ?_), h1, h2, h3, fun _ h => h⟩⟩
    rcases h5 b m with h | h
    · cases h
    · exact h
  simp only [aggAt] at hal1 hal2
  cases hh : hdrAt w.heap (valOf a xv) E q (y0 :: p) with
  | none => rw [hh] at hal1; cases hal1
  | some v =>
  rw [hh] at hal1 hal2
  simp only at hal1 hal2
  have hatP : (E.get q).atP (y0 :: p) = .arr es := hat
  rw [hatP] at hal1 hal2
  obtain ⟨g, Rf, R2, h1, hsl, h2, hp, back⟩ := r.alHeap hh
  rw [hat] at h1
  subst h1
  have hnd := hp.nodup_iff.1 r.nodup
  have hlen := rowsFlat_len hrows.1
  cases h2 with
  | arrNil ht => exact absurd hrows.2 (by simp)
  | @arr _ b o0 n0 cap st c T _ _ R1 R0 hn hst hb hsz' hcap hpos' hr ht =>
  cases ht
  obtain rfl : st = size := by
    cases es with
    | nil => exact absurd hrows.2 (by simp)
    | cons e es => rw [← hst e (by simp), ← hlen e (by simp)]
  obtain rfl := hr.plain (rowsFlat_plain hrows.1)
  unfold subV at hal1 hal2
  simp only at hal1 hal2
  split at hal1 <;> try (cases hal1; done)
  split at hal2 <;> try (cases hal2; done)
  rename_i hc1 hc2
  have b1 := hc1.2
  have b2 := hc2.2
  have hx := (Option.some.inj hal1).symm
  have hy := (Option.some.inj hal2).symm
  have hbR : b ∈ R := hp.mem_iff.2 (by simp)
  have hbR2 : b ∉ R2 := fun m => (List.nodup_append.1 hnd).2.2 b (by simp) b m rfl
  have hbS : ¬ S b := fun h => (r.sep b h).2 hbR
  have hexec : ∀ {d0 s0 : Addr} {c1 c2 : Nat} {news : List Value} {w' : World}, a.eval x = .slice (some d0) n c1 → a.eval y = .slice (some s0) n' c2 → (loadCells s0 (min n' n * st)).run P w = .ok news.toArray w → (storeCells d0 news).run P w = .ok () w' →
      (execOp a.eval o).run P w = .ok (.value (.int .i64 ((min n' n : Nat) : Int))) w' := by
    intro d0 s0 c1 c2 news w' e1 e2 e3 e4
    rw [← hsz] at e3
    have := run_copy' (P := P) (dT := t) (sT := t2) (ty := o.type) (dCap := c1) (sCap := c2) hu hi e3 e4
    rw [← e1, ← e2] at this
    simp [execOp, ho, resolve, invoke, builtin, this, goInt]
    omega
  have hn0 : n0 = es.length := hn.symm
  by_cases hk : min n' n = 0
  · have hrep0 : Rep w.heap S [Value.slice (some ⟨b, o0, none⟩) n0 cap] [.arr (copyRows es lo lo' (min n' n))] [b] := by
      have e : copyRows es lo lo' (min n' n) = es := by rw [hk]; simp [copyRows]
      rw [e]
      exact .arr hn hst hb hsz' hcap hpos' hr .nil
    obtain ⟨R', h3, h4⟩ := back (w' := w) (Nat.le_refl _) (fun _ _ => rfl) (fun _ _ => rfl) hrep0 (by simp) (by simpa using ⟨hbR2, hbS⟩)
    have ha : ∀ (l : Nat), ∃ d0, (if cap = l then some (⟨b, o0, none⟩ : Addr) else (some (⟨b, o0, none⟩ : Addr)).map (·.add (l * st))) = some d0 := fun l => by split <;> exact ⟨_, rfl⟩
    obtain ⟨d0, hd0⟩ := ha lo
    obtain ⟨s0, hs0⟩ := ha lo'
    rw [hd0] at hx
    rw [hs0] at hy
    refine hfin (hexec hx hy (news := []) (by rw [hk]; simp [loadCells, loadCellsFrom]) rfl) h3 (fun b' m => ?_) (Nat.le_refl _) (fun _ _ => rfl) rfl rfl rfl
    rcases List.mem_append.1 (h4.mem_iff.1 m) with m | m
    · simp only [List.mem_singleton] at m; subst m; exact hbR
    · exact hp.mem_iff.2 (by simp [m])
  · rw [if_neg (by omega)] at hx hy
    simp only [Option.map_some, add_eq] at hx hy
    generalize hkk : min n' n = k at *
    have q1 : lo + k ≤ n0 := by omega
    have q2 : lo' + k ≤ n0 := by omega
    have m1 : lo * st + k * st ≤ n0 * st := by rw [← Nat.add_mul]; exact Nat.mul_le_mul_right _ q1
    have m2 : lo' * st + k * st ≤ n0 * st := by rw [← Nat.add_mul]; exact Nat.mul_le_mul_right _ q2
    have m3 : n0 * st ≤ cap * st := Nat.mul_le_mul_right _ hcap
    have hcl : o0 + n0 * st ≤ c.toList.length := by simp; omega
    generalize hL : (c.toList.drop o0).take (n0 * st) = L at *
    have hll : L.length = n0 * st := by rw [← hL]; simp; simp at hcl; omega
    generalize hM : (L.drop (lo' * st)).take (k * st) = M at *
    have hml : M.length = k * st := by rw [← hM]; simp; omega
    have hrM : Rep w.heap S M ((es.flatten.drop (lo' * st)).take (k * st)) [] := by rw [← hM]; exact hr.splitD _ _
    have hload : (loadCells ⟨b, o0 + lo' * st, none⟩ (k * st)).run P w = .ok M.toArray w := run_loadCells' hml fun j hj => by
      unfold cellAt
      rw [hb, ← hM, ← hL]
      simp only
      rw [List.getElem?_take_of_lt hj, List.getElem?_drop, List.getElem?_take_of_lt (by omega), List.getElem?_drop, Array.getElem?_toList]
      congr 1; omega
    obtain ⟨w', c', hrunS, W⟩ := run_storeCells' (P := P) M (o0 + lo * st) 0 w c hb (by simp at hcl; omega) (hrM.one (List.all_eq_true.2 fun f m => List.all_eq_true.1 (rowsFlat_one hrows.1) f (List.mem_of_mem_drop (List.mem_of_mem_take m))))
    rw [Nat.add_zero] at W
    have hcells := copy_cells (c := c.toList) (c' := c'.toList) (L := L) (o0 := o0) (st := st) (n := n0) (lo := lo) (lo' := lo') (k := k) (m := 0) hL.symm hcl q1 q2 (by rw [hM]; exact W.cells)
    rw [hM] at hcells
    have hflat : (copyRows es lo lo' k).flatten = es.flatten.take (lo * st) ++ ((es.flatten.drop (lo' * st)).take (k * st) ++ es.flatten.drop ((lo + k) * st)) := by
      unfold copyRows
      rw [List.flatten_append, List.flatten_append, flat_take hst, flat_drop hst, flat_drop hst, flat_take (fun e m => hst e (List.mem_of_mem_drop m))]
    have hrepL : Rep w.heap S (L.take (lo * st) ++ (M ++ L.drop ((lo + k) * st))) (copyRows es lo lo' k).flatten [] := by
      rw [hflat]
      exact (hr.takeD (lo * st)).1.append (hrM.append (hr.takeD ((lo + k) * st)).2)
    have hc'sz : c'.size = o0 + cap * st := by
      have := congrArg List.length W.cells
      simp at this
      omega
    have hmem : ∀ e ∈ copyRows es lo lo' k, e ∈ es := fun e m => by
      unfold copyRows at m
      rcases List.mem_append.1 m with m | m
      · exact List.mem_of_mem_take m
      · rcases List.mem_append.1 m with m | m
        · exact List.mem_of_mem_drop (List.mem_of_mem_take m)
        · exact List.mem_of_mem_drop m
    have hclen : (copyRows es lo lo' k).length = n0 := by unfold copyRows; simp; omega
    have hkeep : ∀ b', S b' → w'.heap[b']? = w.heap[b']? := fun b' h => W.rest b' (fun e => hbS (e ▸ h))
    have hrep1 : Rep w'.heap S [Value.slice (some ⟨b, o0, none⟩) n0 cap] [.arr (copyRows es lo lo' k)] [b] := by
      have := Rep.arr (h := w'.heap) (S := S) (es := copyRows es lo lo' k) (b := b) (o := o0) (n := n0) (cap := cap) (st := st) (T := T) (c := c') (R1 := []) (vs := []) (fs := []) (R := []) hclen (fun e m => hst e (hmem e m)) W.blk hc'sz hcap hpos' (by
        rw [hcells]
        exact hrepL.mono (fun _ h => h) (by rw [W.size]; exact Nat.le_refl _) (fun b' h _ => hkeep b' h) (by simp)) .nil
      simpa using this
    obtain ⟨R', h3, h4⟩ := back (w' := w') (by rw [W.size]; exact Nat.le_refl _) (fun b' m => W.rest b' (fun e => hbR2 (e ▸ m))) hkeep hrep1 (by simp) (by simpa using ⟨hbR2, hbS⟩)
    refine hfin (hexec hx hy hload hrunS) h3 (fun b' m => ?_) (by rw [W.size]; exact Nat.le_refl _) (fun b' h => W.rest b' (fun e => h (e ▸ hbR))) W.os W.tape W.output
    rcases List.mem_append.1 (h4.mem_iff.1 m) with m | m
    · simp only [List.mem_singleton] at m; subst m; exact hbR
    · exact hp.mem_iff.2 (by simp [m])
def subP (E : Env) (q : Nat) (p : Path) (l h : Int) (size : Nat) : Option FV :=
  match E.at q p with
  | .arr es => if 0 ≤ l ∧ l ≤ h ∧ h ≤ es.length ∧ (es.all fun r => r.length == size) = true then some (.alg q p (.sub l.toNat (h.toNat - l.toNat) size)) else none
  | _ => none
def lenP (E : Env) (q : Nat) (p : Path) : Nat := (E.at q p).rows.length
theorem ok_subP {t : TypeId} {s : Sr} {x : Operand} {slo shi : Option Sr} {lo hi : Option Operand} {q size : Nat} {y : Nat × Nat} {p : Path} {l h : Int} {f : FV} (ho : o.op = .slice t x lo hi none) (hd : o.dst = some d) (hdN : d < N) (hs : s.fits N x = true)
    (hlo : Sr.fitsO N slo lo = true) (hhi : Sr.fitsO N shi hi = true) (ht : sliceIs P t size = true) (hb : E.look s = .al q (y :: p)) (h1 : bnd E 0 slo = some l) (h2 : bnd E (lenP E q (y :: p)) shi = some h)
    (hl : subP E q (y :: p) l h size = some f) (hroot : f.notRoot d = true) : OpOk P N o E (· = E.upd d f) := by
  refine @ok_look P N o E d _ hd hdN hroot ?_
  intro xv a w S R r
  have lk := looked r hs
  rw [hb] at lk
  have he : hdrAt w.heap (valOf a xv) E q (y :: p) = some (a.eval x) := by
    cases lk with
    | closed h => have := h.noalias _ (List.mem_singleton.2 rfl); cases this
    | al h => exact h
  obtain ⟨e, i, hu, hi', hsz⟩ := sliceIs_spec ht
  have hb1 := bnd_lo r hlo h1
  have hb2 := bnd_lo r hhi h2
  unfold subP at hl
  cases hq : E.at q (y :: p) <;> rw [hq] at hl <;> simp only at hl <;> try (cases hl; done)
  rename_i es
  split at hl
  case isFalse => cases hl
  rename_i hc
  obtain ⟨c1, c2, c3, c4⟩ := hc
  cases hl
  have hlen : lenP E q (y :: p) = es.length := by unfold lenP; rw [hq]; rfl
  obtain ⟨g, Rf, R2, g1, hsl, hrep, -, -⟩ := r.alAt he
  rw [hq] at g1
  subst g1
  obtain ⟨z, cap, hvz, hcap⟩ : ∃ z cap, a.eval x = .slice z es.length cap ∧ es.length ≤ cap := by
    generalize a.eval x = v at hrep
    cases hrep with
    | arrNil => exact ⟨_, 0, rfl, by simp⟩
    | arr hn _ _ _ hcap => subst hn; exact ⟨_, _, rfl, hcap⟩
  have hrun := run_bounds (P := P) (w := w) (isSl := true) (len := es.length) (cap := cap) (l := l) (h := h) (lo := lo.map a.eval) (hi := hi.map a.eval) (by simpa using hb1) (by rw [← hlen]; exact hb2) c1 c2 c3 hcap
  refine ⟨.slice (if cap = l.toNat then z else z.map (·.add (l.toNat * size))) (h.toNat - l.toNat) (cap - l.toNat), ?_, .alg ?_⟩
  · simp only [execOp, ho, Option.map_none, Instr.sliceAt, Sem.run_bind, run_underlying' hu, Result.andThen_ok, Instr.slice, hvz, hrun, run_sizeOf' hi', hsz, Sem.run_pure]
  · have hatP : (E.get q).atP (y :: p) = .arr es := hq
    simp only [aggAt, he, hatP, hvz, subV]
    rw [if_pos ⟨c4, by omega⟩]
end
end Go.Fm
set_option linter.unusedVariables false
set_option linter.unusedSimpArgs false
namespace Go.Fm
open Go
inductive FOp where
  | mv (s : Sr)
  | mvP (deep : Bool) (s : Sr)
  | pick (c a b : Sr)
  | alloc (cs : List FV)
  | box (s : Sr)
  | load (s : Sr) (n : Nat) (agg : Bool)
  | loadM (take : Bool) (s : Sr) (n : Nat) (agg : Bool)
  | store (ad s : Sr) (n : Nat) (deep : Bool)
  | storeS (ad s : Sr) (n : Nat)
  | fa (s : Sr) (off : Nat)
  | ia (s i : Sr) (size : Nat)
  | len (s : Sr)
  | lenS (s : Sr)
  | app (a b : Sr) (size bytes : Nat)
  | bin (op : BinOp) (a b : Sr)
  | eqS (neg : Bool) (cs : List Nat) (a b : Sr)
  | eqB (neg : Bool) (a b : Sr)
  | un (op : UnOp) (a : Sr)
  | cv (k : IntKind) (a : Sr)
  | nilCheck (a : Sr)
  | build (tmpl : List FV) (ps : List (Nat × Nat)) (ss : List Sr)
  | buildSl (tmpl : List FV) (len : Nat) (is : List Nat) (ss : List Sr)
  | makeSl (tmpl : List FV) (bytes : Nat) (a b : Sr)
  | subStr (s : Sr) (lo hi : Option Sr)
  | subSl (s : Sr) (lo hi : Option Sr) (size : Nat)
  | field (s : Sr) (off n : Nat) (agg : Bool)
  | index (s i : Sr)
  | extract (n i : Nat)
  /-- a part of a tuple that owns nothing -/
  | extractL (n i : Nat)
  | iaA (s i : Sr) (size n : Nat)
  | cvStr (s : Sr)
  | mm (isMax : Bool) (a b : Sr)
  | mkF (f : FuncId) (ns : List Nat)
  /-- the builtin copy within one owned slice -/
  | copy (a b : Sr) (size : Nat)
def mkFV (E : Env) (f : FuncId) (ns : List Nat) : Option FV := if (ns.all fun n => (E.get n).plain) = true then some (.fn f (ns.map E.get)) else if (ns.all fun n => (E.get n).isBox) = true then some (.clo f ns) else none
def putIn (E : Env) (d : Nat) (f : FV) : Option Env := if f.notRoot d = true then some (E.upd d f) else none
def FOp.eval (E : Env) (d : Nat) : FOp → Option Env
  | .mv s => putIn E d (E.look s)
  | .mvP deep s => some ((E.pass deep s).2.upd d (E.pass deep s).1)
  | .pick c a b => match E.look c with
    | .bool v => match v with
      | true => putIn E d (E.look a)
      | false => putIn E d (E.look b)
    | _ => none
  | .alloc cs => some (E.upd d (.box cs))
  | .box s => match (E.pass false s).1 with
    | .undef => none
    | f => some ((E.pass false s).2.upd d (.box f.cells))
  | .load s n agg => (ldF E (E.look s) n agg).bind fun f => putIn E d f
  | .loadM take s n agg => (ldM E (E.look s) n agg take).map fun x => x.2.upd d x.1
  | .store ad s n deep => stF E ad s n deep
  | .storeS ad s n => stS E ad s n
  | .fa s off => (faF E (E.look s) off).bind fun f => putIn E d f
  | .ia s i size => match E.look i with
    | .int _ n => (iaF E (E.look s) n size).bind fun f => putIn E d f
    | _ => none
  | .len s => match lenF E (E.look s) with
    | some n => some (E.upd d (.int .i64 (n : Int)))
    | none => none
  | .lenS s => match E.look s with
    | .str b => some (E.upd d (.int .i64 b.length))
    | _ => none
  | .app a b size bytes => (apF E a b size bytes).map fun x => x.2.upd d x.1
  | .copy a b size => (cpF E (E.look a) (E.look b) size).map fun x => x.2.upd d (.int .i64 (x.1 : Int))
  | .bin op a b => (binF op (E.look a) (E.look b)).map fun f => E.upd d f
  | .eqS neg cs a b => (eqF neg cs (E.look a) (E.look b)).map fun f => E.upd d f
  | .eqB neg a b => match E.look a, E.look b with
    | .bool x, .bool y => some (E.upd d (.bool (if neg then !(x == y) else x == y)))
    | _, _ => none
  | .un op a => (unF op (E.look a)).map fun f => E.upd d f
  | .cv k a => match E.look a with
    | .int _ n => some (E.upd d (.int k (k.wrap n)))
    | _ => none
  | .nilCheck a => if (E.look a).nonNil = true then putIn E d (E.look a) else none
  | .build tmpl ps ss => (bdF E tmpl ps ss).map fun x => x.2.upd d x.1
  | .buildSl tmpl ln is ss => (bsF E tmpl ln is ss).map fun x => x.2.upd d x.1
  | .makeSl tmpl bytes a b => match E.look a, E.look b with
    | .int _ x, .int _ y => (mkSlF tmpl bytes x y).map fun f => E.upd d f
    | _, _ => none
  | .subStr s lo hi => match E.look s with
    | .str b => match bnd E 0 lo, bnd E b.length hi with
      | some l, some h => (Go.Fm.subStr b l h).map fun f => E.upd d f
      | _, _ => none
    | _ => none
  | .subSl s lo hi size => match E.look s with
    | .sl full es => match bnd E 0 lo, bnd E es.length hi with
      | some l, some h => if (es.all fun r => r.length == size) = true then (Go.Fm.subSl full es l h none).map fun f => E.upd d f else none
      | _, _ => none
    | .al q p => match p with
      | [] => match bnd E 0 lo, bnd E (lenO E q) hi with
        | some l, some h => (subO E q l h size).bind fun f => putIn E d f
        | _, _ => none
      | y :: p => match bnd E 0 lo, bnd E (lenP E q (y :: p)) hi with
        | some l, some h => (subP E q (y :: p) l h size).bind fun f => putIn E d f
        | _, _ => none
    | _ => none
  | .field s off n agg => match E.look s with
    | .agg cs => (fdF cs off n agg).bind fun f => putIn E d f
    | _ => none
  | .index s i => match E.look s, E.look i with
    | .str b, .int _ n => if 0 ≤ n then match b[n.toNat]? with
        | some c => some (E.upd d (.int .u8 c.toNat))
        | none => none
      else none
    | _, _ => none
  | .extractL n i => (match E.get n with
    | .tup vs => match vs[i]? with
      | some f => if f.flat = true ∧ f.alias = false then some f else none
      | none => none
    | _ => none).map fun f => E.upd d f
  | .extract n i => match E.get n with
    | .tup vs => match vs[i]? with
      | some f => if f.alias = false then some ((if f.flat then E else E.upd n (.tup (vs.set i .undef))).upd d f) else none
      | none => none
    | _ => none

  | .iaA s i size n => match E.look i with
    | .int _ j => (iaAF E (E.look s) j size n).bind fun f => putIn E d f
    | _ => none
  | .cvStr s => match elemsAt E (E.look s) with
    | some es => (bytesF es).map fun b => E.upd d (.str b)
    | none => none
  | .mm isMax a b => match E.look a, E.look b with
    | .int k x, .int _ y => some (E.upd d (.int k (if isMax then max x y else min x y)))
    | _, _ => none
  | .mkF f ns => (mkFV E f ns).bind fun v => putIn E d v
def isAssign : Op → Option Operand
  | .move x | .assign x => some x
  | _ => none
def fitsL (N : Nat) (ss : List Sr) (xs : List Operand) : Bool := ss.length == xs.length && List.all (ss.zip xs) (fun y => y.1.fits N y.2)
def FOp.chk (P : Program) (N : Nat) (f : FOp) (op : Op) : Bool :=
  match f, op with
  | .mv s, op => match isAssign op with
    | some x => s.fits N x
    | none => false
  | .mvP _ s, op => match isAssign op with
    | some x => s.fits N x
    | none => false
  | .pick c a b, .pick c' a' b' => c.fits N c' && a.fits N a' && b.fits N b'
  | .alloc cs, .alloc t => zeroIs P t cs
  | .box s, .box t x => s.fits N x
  | .load s n agg, .load t x => s.fits N x && (isAggT P t == some agg && sizeIs P t n)
  | .loadM _ s n agg, .load t x => s.fits N x && (isAggT P t == some agg && sizeIs P t n)
  | .store ad s n _, .store t x y | .storeS ad s n, .store t x y => ad.fits N x && (s.fits N y && sizeIs P t n)
  | .fa s off, .fieldAddr t x fi => s.fits N x && fieldIs P t fi off
  | .ia s i size, .indexAddr t x y => s.fits N x && (i.fits N y && sliceIs P t size)
  | .len s, .call { callee := .builtin .len, args := ⟨[x]⟩, argTypes := ⟨[t]⟩ } => s.fits N x && isSliceT P t
  | .lenS s, .call { callee := .builtin .len, args := ⟨[x]⟩, argTypes := ⟨[t]⟩ } => s.fits N x && isStringT P t
  | .app a b size bytes, .call { callee := .builtin .append, args := ⟨[x, y]⟩, argTypes := ⟨[t, t2]⟩ } => a.fits N x && (b.fits N y && apOk P t t2 size bytes)
  | .copy a b size, .call { callee := .builtin .copy, args := ⟨[x, y]⟩, argTypes := ⟨[t, t2]⟩ } => a.fits N x && (b.fits N y && sliceIs P t size)
  | .bin op a b, .binOp op' t x y u => op == op' && (a.fits N x && b.fits N y)
  | .eqS neg cs a b, .binOp op' t x y u => op' == (if neg then .neq else .eql) && (a.fits N x && (b.fits N y && eqOk P t cs))
  | .eqB neg a b, .binOp op' t x y u => op' == (if neg then .neq else .eql) && (a.fits N x && (b.fits N y && isBoolT P t))
  | .un op a, .unOp op' t x => op == op' && a.fits N x
  | .cv k a, .convert src dt x => a.fits N x && toIntOk P src dt k
  | .nilCheck a, .nilCheck x => a.fits N x
  | .build tmpl ps ss, .build t parts => fitsL N ss (parts.toList.map (·.2)) && bdOk P t tmpl (parts.toList.map (·.1)) ps
  | .buildSl tmpl ln is ss, .buildSlice t ln' parts => ln == ln' && (is == parts.toList.map (·.1) && (fitsL N ss (parts.toList.map (·.2)) && bsOk P t tmpl ln is))
  | .makeSl tmpl bytes a b, .makeSlice t x y => a.fits N x && (b.fits N y && mkSlOk P t tmpl bytes)
  | .subStr s lo hi, .slice t x lo' hi' none => s.fits N x && (Sr.fitsO N lo lo' && (Sr.fitsO N hi hi' && isStringT P t))
  | .subSl s lo hi size, .slice t x lo' hi' none => s.fits N x && (Sr.fitsO N lo lo' && (Sr.fitsO N hi hi' && sliceIs P t size))
  | .field s off n agg, .field t x fi => s.fits N x && fdOk P t fi off n agg
  | .index s i, .index t x y => s.fits N x && (i.fits N y && isStringT P t)
  | .extract n i, .extract x i' | .extractL n i, .extract x i' => i == i' && (Sr.t n).fits N x
  | .iaA s i size n, .indexAddr t x y => s.fits N x && (i.fits N y && arrayIs P t size n)
  | .cvStr s, .convert src dt x => s.fits N x && bytesToStr P src dt
  | .mm isMax a b, .call { callee := .builtin bi, args := ⟨[x, y]⟩, argTypes := _ } => decide (bi = if isMax then .max else .min) && (a.fits N x && b.fits N y)
  | .mkF f ns, .makeFunc (.func g) ⟨[]⟩ ⟨cs⟩ => f == g && fitsL N (ns.map .t) cs
  | _, _ => false
def FOp.isStore : FOp → Bool
  | .store .. | .storeS .. => true
  | _ => false
def dstOk (N : Nat) (f : FOp) (d : Nat) (o : Oper) : Bool := if f.isStore then o.dst == none else o.dst == some d && decide (d < N)
section
variable {P : Program} {N : Nat} {o : Oper} {E : Env} {d : Nat}
theorem OpOk.mono {K K' : Env → Prop} (h : OpOk P N o E K) (hk : ∀ E', K E' → K' E') : OpOk P N o E K' := by
  intro xv a w S R r
  have h1 := h r
  unfold Oper.wp at *
  revert h1
  generalize (execOp a.eval o).run P w = x
  have hp : ∀ a' w', Post N xv K w S R a' w' → Post N xv K' w S R a' w' := fun a' w' ⟨E', S', R', k, r, e⟩ => ⟨E', S', R', hk _ k, r, e⟩
  intro h1
  cases x with
  | ok n w' =>
    cases n <;> simp only [Oper.upon] at h1 ⊢
    case enter f args =>
      refine h1.mono fun e w'' he => ?_
      cases e with
      | returned v => exact hp _ _ he
      | panicked c => exact he
      | outgrown => exact he
    case row row args => exact h1.mono fun v w'' he => hp _ _ he
    all_goals first | exact hp _ _ h1 | exact h1
  | halt x w' => cases x <;> simp only [Oper.upon] at h1 ⊢
theorem putIn_some {f : FV} {E' : Env} (h : putIn E d f = some E') : f.notRoot d = true ∧ E' = E.upd d f := by
  unfold putIn at h
  split at h
  · exact ⟨by assumption, (Option.some.inj h).symm⟩
  · cases h
theorem isAssign_some {op : Op} {x : Operand} (h : isAssign op = some x) : op = .move x ∨ op = .assign x := by
  cases op <;> simp [isAssign] at h
  · exact .inl (by rw [h])
  · exact .inr (by rw [h])
theorem fits_t {ns : List Nat} : ∀ {cs : List Operand}, fitsL N (ns.map .t) cs = true → cs = ns.map .tmp ∧ ∀ n ∈ ns, n < N := by
  induction ns with
  | nil => intro cs h; cases cs <;> simp [fitsL] at h ⊢
  | cons n ns ih =>
    intro cs h
    cases cs with
    | nil => simp [fitsL] at h
    | cons c cs =>
      simp only [fitsL, List.map_cons, List.length_cons, List.zip_cons_cons, List.all_cons, Bool.and_eq_true, beq_iff_eq] at h
      obtain ⟨h1, h2, h3⟩ := h
      obtain ⟨rfl, h4⟩ := ih (cs := cs) (by simp only [fitsL, Bool.and_eq_true, beq_iff_eq]; exact ⟨by omega, h3⟩)
      cases c <;> simp [Sr.fits] at h2
      obtain ⟨rfl, h5⟩ := h2
      refine ⟨rfl, fun m hm => ?_⟩
      rcases List.mem_cons.1 hm with rfl | hm
      · exact h5
      · exact h4 m hm
theorem ok_mkF {f : FuncId} {ns : List Nat} {cs : List Operand} {v : FV} (ho : o.op = .makeFunc (.func f) ⟨[]⟩ ⟨cs⟩) (hd : o.dst = some d) (hdN : d < N) (hs : fitsL N (ns.map .t) cs = true) (hv : mkFV E f ns = some v) (hroot : v.notRoot d = true) :
    OpOk P N o E (· = E.upd d v) := by
  obtain ⟨rfl, hN⟩ := fits_t hs
  refine ok_look hd hdN hroot ?_
  intro xv a w S R r
  have hrun : (execOp a.eval o).run P w = .ok (.value (.func (.func f) #[] (ns.map (valOf a xv)).toArray)) w := by
    have e : (List.map a.eval (ns.map Operand.tmp)) = ns.map (valOf a xv) := by
      rw [List.map_map]
      exact List.map_congr_left fun n m => (eval_val r.small (hN n m)).symm
    simp only [execOp, ho, Instr.makeFunc, Sem.run_bind, Sem.run_pure, Result.andThen_ok]
    rw [← e]
    simp [List.map_toArray]
  refine ⟨_, hrun, ?_⟩
  unfold mkFV at hv
  split at hv
  · rename_i hp
    obtain rfl := Option.some.inj hv
    have : ∀ ns : List Nat, (ns.all fun n => (E.get n).plain) = true → Rep w.heap S (ns.map (valOf a xv)) (ns.map E.get) [] := by
      intro ns
      induction ns with
      | nil => intro _; exact .nil
      | cons n ns ih =>
        intro h
        simp only [List.all_cons, Bool.and_eq_true] at h
        obtain ⟨R1, R2, h1, _⟩ := r.get n (by cases hg : E.get n <;> rw [hg] at h <;> first | rfl | (simp [FV.plain] at h; done))
        have := h1.plain (by simp [h.1])
        subst this
        exact h1.cons (ih h.2)
    exact .closed (.fn (R1 := []) (this ns hp) .nil)
  · split at hv
    · rename_i hb
      obtain rfl := Option.some.inj hv
      exact .clo (by unfold cloAt; rw [if_pos hb])
    · cases hv
theorem FOp.sound {f : FOp} {E' : Env} (hc : f.chk P N o.op = true) (hdo : dstOk N f d o = true) (h : f.eval E d = some E') : OpOk P N o E (· = E') := by
  generalize hop : o.op = op at hc
  cases f with
  | store ad s n deep =>
    simp only [dstOk, FOp.isStore, if_true, beq_iff_eq] at hdo
    cases op <;> simp only [FOp.chk, isAssign, Bool.false_eq_true] at hc
    simp only [Bool.and_eq_true] at hc
    exact ok_store hop hdo hc.1 hc.2.1 hc.2.2 h
  | storeS ad s n =>
    simp only [dstOk, FOp.isStore, if_true, beq_iff_eq] at hdo
    cases op <;> simp only [FOp.chk, isAssign, Bool.false_eq_true] at hc
    simp only [Bool.and_eq_true] at hc
    exact ok_storeS hop hdo hc.1 hc.2.1 hc.2.2 h
  | mv s =>
    simp only [dstOk, FOp.isStore, Bool.false_eq_true, if_false, Bool.and_eq_true, beq_iff_eq, decide_eq_true_eq] at hdo
    simp only [FOp.chk] at hc
    split at hc
    · rename_i x hx
      obtain ⟨h1, rfl⟩ := putIn_some h
      exact ok_move (hop ▸ isAssign_some hx) hdo.1 hdo.2 hc rfl h1
    · cases hc
  | mvP deep s =>
    simp only [dstOk, FOp.isStore, Bool.false_eq_true, if_false, Bool.and_eq_true, beq_iff_eq, decide_eq_true_eq] at hdo
    simp only [FOp.chk] at hc
    split at hc
    · rename_i x hx
      obtain rfl := Option.some.inj h
      exact ok_moveP (hop ▸ isAssign_some hx) hdo.1 hdo.2 hc
    · cases hc
  | pick c a b =>
    simp only [dstOk, FOp.isStore, Bool.false_eq_true, if_false, Bool.and_eq_true, beq_iff_eq, decide_eq_true_eq] at hdo
    cases op <;> simp only [FOp.chk, isAssign, Bool.false_eq_true] at hc
    simp only [Bool.and_eq_true] at hc
    simp only [FOp.eval] at h
    split at h
    · rename_i v hv
      split at h
      · obtain ⟨h1, rfl⟩ := putIn_some h
        exact ok_pick hop hdo.1 hdo.2 hc.1.1 hc.1.2 hc.2 hv rfl h1
      · obtain ⟨h1, rfl⟩ := putIn_some h
        exact ok_pick hop hdo.1 hdo.2 hc.1.1 hc.1.2 hc.2 hv rfl h1
    · cases h
  | alloc cs =>
    simp only [dstOk, FOp.isStore, Bool.false_eq_true, if_false, Bool.and_eq_true, beq_iff_eq, decide_eq_true_eq] at hdo
    cases op <;> simp only [FOp.chk, isAssign, Bool.false_eq_true] at hc
    obtain rfl := Option.some.inj h
    exact ok_alloc hop hdo.1 hdo.2 hc
  | box s =>
    simp only [dstOk, FOp.isStore, Bool.false_eq_true, if_false, Bool.and_eq_true, beq_iff_eq, decide_eq_true_eq] at hdo
    cases op <;> simp only [FOp.chk, isAssign, Bool.false_eq_true] at hc
    simp only [FOp.eval] at h
    split at h
    · cases h
    · rename_i hu
      obtain rfl := Option.some.inj h
      exact ok_box hop hdo.1 hdo.2 hc hu
  | load s n agg =>
    simp only [dstOk, FOp.isStore, Bool.false_eq_true, if_false, Bool.and_eq_true, beq_iff_eq, decide_eq_true_eq] at hdo
    cases op <;> simp only [FOp.chk, isAssign, Bool.false_eq_true] at hc
    simp only [Bool.and_eq_true, beq_iff_eq] at hc
    simp only [FOp.eval, Option.bind_eq_some_iff] at h
    obtain ⟨f, h1, h2⟩ := h
    obtain ⟨h3, rfl⟩ := putIn_some h2
    exact ok_load hop hdo.1 hdo.2 hc.1 hc.2.1 hc.2.2 h1 h3
  | loadM take s n agg =>
    simp only [dstOk, FOp.isStore, Bool.false_eq_true, if_false, Bool.and_eq_true, beq_iff_eq, decide_eq_true_eq] at hdo
    cases op <;> simp only [FOp.chk, isAssign, Bool.false_eq_true] at hc
    simp only [Bool.and_eq_true, beq_iff_eq] at hc
    simp only [FOp.eval, Option.map_eq_some_iff] at h
    obtain ⟨f, h1, rfl⟩ := h
    exact ok_loadM hop hdo.1 hdo.2 hc.1 hc.2.1 hc.2.2 h1
  | fa s off =>
    simp only [dstOk, FOp.isStore, Bool.false_eq_true, if_false, Bool.and_eq_true, beq_iff_eq, decide_eq_true_eq] at hdo
    cases op <;> simp only [FOp.chk, isAssign, Bool.false_eq_true] at hc
    simp only [Bool.and_eq_true, beq_iff_eq] at hc
    simp only [FOp.eval, Option.bind_eq_some_iff] at h
    obtain ⟨f, h1, h2⟩ := h
    obtain ⟨h3, rfl⟩ := putIn_some h2
    exact ok_fieldAddr hop hdo.1 hdo.2 hc.1 hc.2 h1 h3
  | ia s i size =>
    simp only [dstOk, FOp.isStore, Bool.false_eq_true, if_false, Bool.and_eq_true, beq_iff_eq, decide_eq_true_eq] at hdo
    cases op <;> simp only [FOp.chk, isAssign, Bool.false_eq_true] at hc
    simp only [Bool.and_eq_true, beq_iff_eq] at hc
    simp only [FOp.eval] at h
    split at h
    · rename_i k n hi
      simp only [Option.bind_eq_some_iff] at h
      obtain ⟨f, h1, h2⟩ := h
      obtain ⟨h3, rfl⟩ := putIn_some h2
      exact ok_indexAddr hop hdo.1 hdo.2 hc.1 hc.2.1 hc.2.2 hi h1 h3
    · cases h
  | len s =>
    simp only [dstOk, FOp.isStore, Bool.false_eq_true, if_false, Bool.and_eq_true, beq_iff_eq, decide_eq_true_eq] at hdo
    unfold FOp.chk at hc
    split at hc <;> try (cases hc; done)
    all_goals (rename_i heq; try (cases heq; done))
    rename_i x t _
    simp only [Bool.and_eq_true, beq_iff_eq] at hc
    simp only [FOp.eval] at h
    cases heq
    split at h
    · rename_i n hn
      obtain rfl := Option.some.inj h
      exact ok_len hop hdo.1 hdo.2 hc.1 hc.2 hn
    · cases h
  | lenS s =>
    simp only [dstOk, FOp.isStore, Bool.false_eq_true, if_false, Bool.and_eq_true, beq_iff_eq, decide_eq_true_eq] at hdo
    unfold FOp.chk at hc
    split at hc <;> try (cases hc; done)
    all_goals (rename_i heq; try (cases heq; done))
    rename_i x t _
    simp only [Bool.and_eq_true, beq_iff_eq] at hc
    simp only [FOp.eval] at h
    cases heq
    split at h
    · rename_i b hb
      obtain rfl := Option.some.inj h
      exact ok_lenS hop hdo.1 hdo.2 hc.1 hc.2 hb
    · cases h
  | app a b size bytes =>
    simp only [dstOk, FOp.isStore, Bool.false_eq_true, if_false, Bool.and_eq_true, beq_iff_eq, decide_eq_true_eq] at hdo
    unfold FOp.chk at hc
    split at hc <;> try (cases hc; done)
    all_goals (rename_i heq; try (cases heq; done))
    simp only [Bool.and_eq_true, beq_iff_eq] at hc
    simp only [FOp.eval, Option.map_eq_some_iff] at h
    cases heq
    obtain ⟨f, h1, rfl⟩ := h
    exact ok_append hop hdo.1 hdo.2 hc.1 hc.2.1 hc.2.2 h1
  | copy a b size =>
    simp only [dstOk, FOp.isStore, Bool.false_eq_true, if_false, Bool.and_eq_true, beq_iff_eq, decide_eq_true_eq] at hdo
    unfold FOp.chk at hc
    split at hc <;> try (cases hc; done)
    all_goals (rename_i heq; try (cases heq; done))
    simp only [Bool.and_eq_true, beq_iff_eq] at hc
    simp only [FOp.eval, Option.map_eq_some_iff] at h
    cases heq
    obtain ⟨f, h1, rfl⟩ := h
    exact ok_copy hop hdo.1 hdo.2 hc.1 hc.2.1 hc.2.2 h1
  | bin bop a b =>
    simp only [dstOk, FOp.isStore, Bool.false_eq_true, if_false, Bool.and_eq_true, beq_iff_eq, decide_eq_true_eq] at hdo
    cases op <;> simp only [FOp.chk, isAssign, Bool.false_eq_true] at hc
    simp only [Bool.and_eq_true, beq_iff_eq] at hc
    simp only [FOp.eval, Option.map_eq_some_iff] at h
    obtain ⟨f, h1, rfl⟩ := h
    exact ok_bin (hc.1 ▸ hop) hdo.1 hdo.2 hc.2.1 hc.2.2 h1
  | eqS neg cs a b =>
    simp only [dstOk, FOp.isStore, Bool.false_eq_true, if_false, Bool.and_eq_true, beq_iff_eq, decide_eq_true_eq] at hdo
    cases op <;> simp only [FOp.chk, isAssign, Bool.false_eq_true] at hc
    simp only [Bool.and_eq_true, beq_iff_eq] at hc
    simp only [FOp.eval, Option.map_eq_some_iff] at h
    obtain ⟨f, h1, rfl⟩ := h
    exact ok_eq (neg := neg) (hc.1 ▸ hop) hdo.1 hdo.2 hc.2.1 hc.2.2.1 hc.2.2.2 h1
  | eqB neg a b =>
    simp only [dstOk, FOp.isStore, Bool.false_eq_true, if_false, Bool.and_eq_true, beq_iff_eq, decide_eq_true_eq] at hdo
    cases op <;> simp only [FOp.chk, isAssign, Bool.false_eq_true] at hc
    simp only [Bool.and_eq_true, beq_iff_eq] at hc
    simp only [FOp.eval] at h
    split at h
    · rename_i x y hx hy
      obtain rfl := Option.some.inj h
      exact ok_eqB (neg := neg) (hc.1 ▸ hop) hdo.1 hdo.2 hc.2.1 hc.2.2.1 hc.2.2.2 hx hy
    · cases h
  | un uop a =>
    simp only [dstOk, FOp.isStore, Bool.false_eq_true, if_false, Bool.and_eq_true, beq_iff_eq, decide_eq_true_eq] at hdo
    cases op <;> simp only [FOp.chk, isAssign, Bool.false_eq_true] at hc
    simp only [Bool.and_eq_true, beq_iff_eq] at hc
    simp only [FOp.eval, Option.map_eq_some_iff] at h
    obtain ⟨f, h1, rfl⟩ := h
    exact ok_un (hc.1 ▸ hop) hdo.1 hdo.2 hc.2 h1
  | cv k a =>
    simp only [dstOk, FOp.isStore, Bool.false_eq_true, if_false, Bool.and_eq_true, beq_iff_eq, decide_eq_true_eq] at hdo
    cases op <;> simp only [FOp.chk, isAssign, Bool.false_eq_true] at hc
    simp only [Bool.and_eq_true, beq_iff_eq] at hc
    simp only [FOp.eval] at h
    split at h
    · rename_i k0 n hn
      obtain rfl := Option.some.inj h
      exact ok_cvInt hop hdo.1 hdo.2 hc.1 hc.2 hn
    · cases h
  | nilCheck a =>
    simp only [dstOk, FOp.isStore, Bool.false_eq_true, if_false, Bool.and_eq_true, beq_iff_eq, decide_eq_true_eq] at hdo
    cases op <;> simp only [FOp.chk, isAssign, Bool.false_eq_true] at hc
    simp only [FOp.eval] at h
    split at h
    · rename_i hn
      obtain ⟨h3, rfl⟩ := putIn_some h
      exact ok_nilCheck hop hdo.1 hdo.2 hc rfl hn h3
    · cases h
  | build tmpl ps ss =>
    simp only [dstOk, FOp.isStore, Bool.false_eq_true, if_false, Bool.and_eq_true, beq_iff_eq, decide_eq_true_eq] at hdo
    cases op <;> simp only [FOp.chk, isAssign, Bool.false_eq_true] at hc
    simp only [Bool.and_eq_true, beq_iff_eq] at hc
    simp only [fitsL, Bool.and_eq_true, beq_iff_eq] at hc
    simp only [FOp.eval, Option.map_eq_some_iff] at h
    obtain ⟨f, h1, rfl⟩ := h
    exact ok_build hop hdo.1 hdo.2 hc.1.2 (by simpa using hc.1.1) hc.2 h1
  | buildSl tmpl ln is ss =>
    simp only [dstOk, FOp.isStore, Bool.false_eq_true, if_false, Bool.and_eq_true, beq_iff_eq, decide_eq_true_eq] at hdo
    cases op <;> simp only [FOp.chk, isAssign, Bool.false_eq_true] at hc
    simp only [Bool.and_eq_true, beq_iff_eq] at hc
    simp only [fitsL, Bool.and_eq_true, beq_iff_eq] at hc
    simp only [FOp.eval, Option.map_eq_some_iff] at h
    obtain ⟨f, h1, rfl⟩ := h
    obtain ⟨e1, e2, e3, e4⟩ := hc
    subst e1; subst e2
    exact ok_buildSlice hop hdo.1 hdo.2 e3.2 (by simpa using e3.1) e4 h1
  | makeSl tmpl bytes a b =>
    simp only [dstOk, FOp.isStore, Bool.false_eq_true, if_false, Bool.and_eq_true, beq_iff_eq, decide_eq_true_eq] at hdo
    cases op <;> simp only [FOp.chk, isAssign, Bool.false_eq_true] at hc
    simp only [Bool.and_eq_true, beq_iff_eq] at hc
    simp only [FOp.eval] at h
    split at h
    · rename_i k1 x k2 y hx hy
      simp only [Option.map_eq_some_iff] at h
      obtain ⟨f, h1, rfl⟩ := h
      exact ok_makeSlice hop hdo.1 hdo.2 hc.1 hc.2.1 hc.2.2 hx hy h1
    · cases h
  | subStr s lo hi =>
    simp only [dstOk, FOp.isStore, Bool.false_eq_true, if_false, Bool.and_eq_true, beq_iff_eq, decide_eq_true_eq] at hdo
    unfold FOp.chk at hc
    split at hc <;> try (cases hc; done)
    all_goals (rename_i heq; try (cases heq; done))
    simp only [Bool.and_eq_true, beq_iff_eq] at hc
    simp only [FOp.eval] at h
    cases heq
    split at h
    · rename_i b hb
      split at h
      · rename_i l g hl hg
        simp only [Option.map_eq_some_iff] at h
        obtain ⟨f, h1, rfl⟩ := h
        exact ok_sliceStr hop hdo.1 hdo.2 hc.1 hc.2.1 hc.2.2.1 hc.2.2.2 hb hl hg h1
      · cases h
    · cases h
  | subSl s lo hi size =>
    simp only [dstOk, FOp.isStore, Bool.false_eq_true, if_false, Bool.and_eq_true, beq_iff_eq, decide_eq_true_eq] at hdo
    unfold FOp.chk at hc
    split at hc <;> try (cases hc; done)
    all_goals (rename_i heq; try (cases heq; done))
    simp only [Bool.and_eq_true, beq_iff_eq] at hc
    simp only [FOp.eval] at h
    cases heq
    split at h
    · rename_i full es hb
      split at h
      · rename_i l g hl hg
        split at h
        · rename_i hrow
          simp only [Option.map_eq_some_iff] at h
          obtain ⟨f, h1, rfl⟩ := h
          exact ok_sliceSl (smx := none) (m := none) hop hdo.1 hdo.2 hc.1 hc.2.1 hc.2.2.1 rfl hc.2.2.2 hb hrow hl hg (.inl ⟨rfl, rfl⟩) h1
        · cases h
      · cases h
    · rename_i q p hb
      split at h
      · split at h
        · rename_i l g hl hg
          simp only [Option.bind_eq_some_iff] at h
          obtain ⟨f, h1, h2⟩ := h
          obtain ⟨h3, rfl⟩ := putIn_some h2
          exact ok_subO hop hdo.1 hdo.2 hc.1 hc.2.1 hc.2.2.1 hc.2.2.2 hb hl hg h1 h3
        · cases h
      · rename_i y p
        split at h
        · rename_i l g hl hg
          simp only [Option.bind_eq_some_iff] at h
          obtain ⟨f, h1, h2⟩ := h
          obtain ⟨h3, rfl⟩ := putIn_some h2
          exact ok_subP hop hdo.1 hdo.2 hc.1 hc.2.1 hc.2.2.1 hc.2.2.2 hb hl hg h1 h3
        · cases h
    · cases h
  | field s off n agg =>
    simp only [dstOk, FOp.isStore, Bool.false_eq_true, if_false, Bool.and_eq_true, beq_iff_eq, decide_eq_true_eq] at hdo
    cases op <;> simp only [FOp.chk, isAssign, Bool.false_eq_true] at hc
    simp only [Bool.and_eq_true, beq_iff_eq] at hc
    simp only [FOp.eval] at h
    split at h
    · rename_i cs hb
      simp only [Option.bind_eq_some_iff] at h
      obtain ⟨f, h1, h2⟩ := h
      obtain ⟨h3, rfl⟩ := putIn_some h2
      exact ok_field hop hdo.1 hdo.2 hc.1 hc.2 hb h1 h3
    · cases h
  | index s i =>
    simp only [dstOk, FOp.isStore, Bool.false_eq_true, if_false, Bool.and_eq_true, beq_iff_eq, decide_eq_true_eq] at hdo
    cases op <;> simp only [FOp.chk, isAssign, Bool.false_eq_true] at hc
    simp only [Bool.and_eq_true, beq_iff_eq] at hc
    simp only [FOp.eval] at h
    split at h
    · rename_i b k n hb hi
      split at h
      · rename_i h0
        split at h
        · rename_i c hcc
          obtain rfl := Option.some.inj h
          exact ok_index hop hdo.1 hdo.2 hc.1 hc.2.1 hc.2.2 hb hi h0 hcc
        · cases h
      · cases h
    · cases h
  | extract n i =>
    simp only [dstOk, FOp.isStore, Bool.false_eq_true, if_false, Bool.and_eq_true, beq_iff_eq, decide_eq_true_eq] at hdo
    cases op <;> simp only [FOp.chk, isAssign, Bool.false_eq_true] at hc
    simp only [Bool.and_eq_true, beq_iff_eq] at hc
    simp only [FOp.eval] at h
    split at h
    · rename_i vs hv
      split at h
      · rename_i f hf
        split at h
        · rename_i ha
          obtain rfl := Option.some.inj h
          exact ok_extract (hc.1 ▸ hop) hdo.1 hdo.2 hc.2 hv hf ha
        · cases h
      · cases h
    · cases h
  | extractL n i =>
    simp only [dstOk, FOp.isStore, Bool.false_eq_true, if_false, Bool.and_eq_true, beq_iff_eq, decide_eq_true_eq] at hdo
    cases op <;> simp only [FOp.chk, isAssign, Bool.false_eq_true] at hc
    simp only [Bool.and_eq_true, beq_iff_eq] at hc
    simp only [FOp.eval, Option.map_eq_some_iff] at h
    obtain ⟨f, h, rfl⟩ := h
    split at h <;> try (cases h; done)
    rename_i vs hv
    split at h <;> try (cases h; done)
    rename_i g hf
    split at h <;> cases h
    rename_i hfa
    have e1 : E.upd d f = (if f.flat then E else E.upd n (.tup (vs.set i .undef))).upd d f := by rw [if_pos hfa.1]
    rw [e1]
    exact fun {_ _ _ _ _} r => ok_extract (hc.1 ▸ hop) hdo.1 hdo.2 hc.2 hv hf hfa.2 r
  | iaA s i size n =>
    simp only [dstOk, FOp.isStore, Bool.false_eq_true, if_false, Bool.and_eq_true, beq_iff_eq, decide_eq_true_eq] at hdo
    cases op <;> simp only [FOp.chk, isAssign, Bool.false_eq_true] at hc
    simp only [Bool.and_eq_true, beq_iff_eq] at hc
    simp only [FOp.eval] at h
    split at h
    · rename_i k j hi
      simp only [Option.bind_eq_some_iff] at h
      obtain ⟨f, h1, h2⟩ := h
      obtain ⟨h3, rfl⟩ := putIn_some h2
      exact ok_indexAddrA hop hdo.1 hdo.2 hc.1 hc.2.1 hc.2.2 hi h1 h3
    · cases h
  | cvStr s =>
    simp only [dstOk, FOp.isStore, Bool.false_eq_true, if_false, Bool.and_eq_true, beq_iff_eq, decide_eq_true_eq] at hdo
    cases op <;> simp only [FOp.chk, isAssign, Bool.false_eq_true] at hc
    simp only [Bool.and_eq_true, beq_iff_eq] at hc
    simp only [FOp.eval] at h
    split at h
    · rename_i es he
      simp only [Option.map_eq_some_iff] at h
      obtain ⟨f, h1, rfl⟩ := h
      exact ok_cvStr hop hdo.1 hdo.2 hc.1 hc.2 he h1
    · cases h
  | mm isMax a b =>
    simp only [dstOk, FOp.isStore, Bool.false_eq_true, if_false, Bool.and_eq_true, beq_iff_eq, decide_eq_true_eq] at hdo
    unfold FOp.chk at hc
    split at hc <;> try (cases hc; done)
    all_goals (rename_i heq; try (cases heq; done))
    cases heq
    simp only [Bool.and_eq_true, decide_eq_true_eq] at hc
    obtain ⟨rfl, ha, hb⟩ := hc
    simp only [FOp.eval] at h
    split at h
    · rename_i k x k' y hx hy
      obtain rfl := Option.some.inj h
      exact ok_minmax (isMax := isMax) (ss := [a, b]) (g := .int k x) (l := [.int k' y]) hop hdo.1 hdo.2 (by simp [ha, hb]) rfl (by simp [hx, hy]) ⟨_, _, rfl⟩ (by
        intro s hs
        simp only [List.mem_cons, List.not_mem_nil, or_false] at hs
        rcases hs with rfl | rfl
        · exact ⟨_, _, hx⟩
        · exact ⟨_, _, hy⟩) rfl
    · cases h
  | mkF g ns =>
    simp only [dstOk, FOp.isStore, Bool.false_eq_true, if_false, Bool.and_eq_true, beq_iff_eq, decide_eq_true_eq] at hdo
    unfold FOp.chk at hc
    split at hc <;> try (cases hc; done)
    all_goals (rename_i heq; try (cases heq; done))
    cases heq
    simp only [Bool.and_eq_true, beq_iff_eq] at hc
    obtain ⟨rfl, hs⟩ := hc
    simp only [FOp.eval, Option.bind_eq_some_iff] at h
    obtain ⟨v, h1, h2⟩ := h
    obtain ⟨h3, rfl⟩ := putIn_some h2
    exact ok_mkF hop hdo.1 hdo.2 hs h1 h3
end
end Go.Fm
set_option linter.unusedVariables false
set_option linter.unusedSimpArgs false
namespace Go.Fm
open Go
def Rests (N : Nat) (xv : Nat → Value) (K : Exit → Env → Prop) (w : World) (S : Nat → Prop) (R : List Nat) (e : Exit) (a' : Act) (w' : World) : Prop :=
  Post N xv (K e) w S R a' w'
def ambTabs : List (String × IntKind × List Int) := [("internal/strconv.uint64pow10", .u64, Lib.pow10Tab)]
def ambInts : List String := ["internal/bytealg.MaxLen"]
structure Amb (P : Program) (w : World) (S : Nat → Prop) : Prop where
  tabs : ∀ x ∈ ambTabs, ∀ g, P.globalNamed x.1 = some g → S g ∧ Lib.TabIs P w x.1 x.2.1 x.2.2
  ints : ∀ x ∈ ambInts, ∀ g, P.globalNamed x = some g → S g ∧ ∃ m : Int, w.cell? ⟨g, 0, none⟩ = some (.int .i64 m)
theorem Amb.ext {P : Program} {w w' : World} {S S' : Nat → Prop} {R R' : List Nat} (h : Amb P w S) (e : Ext w S R w' S' R') (hs : ∀ b, S b → b < w.heap.size ∧ b ∉ R) : Amb P w' S' := by
  refine ⟨fun x hx g hg => ?_, fun x hx g hg => ?_⟩
  · obtain ⟨h1, h2⟩ := h.tabs x hx g hg
    refine ⟨e.seals g h1, ?_⟩
    obtain ⟨h3, h4⟩ := hs g h1
    have h5 := e.keep g h3 h4
    unfold Lib.TabIs World.var? at h2 ⊢
    rw [hg] at h2 ⊢
    simp only [Option.bind_some] at h2 ⊢
    rw [h5]
    exact h2
  · obtain ⟨h1, m, h2⟩ := h.ints x hx g hg
    refine ⟨e.seals g h1, m, ?_⟩
    obtain ⟨h3, h4⟩ := hs g h1
    have h5 := e.keep g h3 h4
    unfold World.cell? at h2 ⊢
    rw [h5]
    exact h2
theorem Amb.seals {P : Program} {w : World} {S S' : Nat → Prop} (h : Amb P w S) (hS : ∀ b, S b → S' b) : Amb P w S' := ⟨fun x hx g hg => ⟨hS g (h.tabs x hx g hg).1, (h.tabs x hx g hg).2⟩, fun x hx g hg => ⟨hS g (h.ints x hx g hg).1, (h.ints x hx g hg).2⟩⟩
def CodeOk (P : Program) (N : Nat) (c : Code) (E : Env) (K : Exit → Env → Prop) : Prop :=
  ∀ {xv : Nat → Value} {a : Act} {w : World} {S : Nat → Prop} {R : List Nat}, Amb P w S → Rel N xv E a w S R → c.wp P (Rests N xv K w S R) a w
def OpOkA (P : Program) (N : Nat) (o : Oper) (E : Env) (K : Env → Prop) : Prop :=
  ∀ {xv : Nat → Value} {a : Act} {w : World} {S : Nat → Prop} {R : List Nat}, Amb P w S → Rel N xv E a w S R → o.wp P a w (Post N xv K w S R) (fun _ _ _ => False)
structure FCall (P : Program) (f : FuncId) (fs : List FV) (K : FV → Prop) : Prop where
  out : ∀ {w : World} {S : Nat → Prop} {R : List Nat} {vs : List Value}, Amb P w S → Rep w.heap S vs fs R → R.Nodup → (∀ b, S b → b < w.heap.size ∧ b ∉ R) →
    Calls P f vs.toArray w (fun e w' => ∃ v r S' R', e = .returned v ∧ K r ∧ Rep w'.heap S' [v] [r] R' ∧ R'.Nodup ∧ (∀ b, S' b → b < w'.heap.size ∧ b ∉ R') ∧ Ext w S R w' S' R')
theorem FCall.mono {P : Program} {f : FuncId} {fs : List FV} {K K' : FV → Prop} (h : FCall P f fs K) (hk : ∀ r, K r → K' r) : FCall P f fs K' := by
  refine ⟨fun {w S R vs} hA h1 h2 h3 => ?_⟩
  exact (h.out hA h1 h2 h3).mono fun e w' ⟨v, r, S', R', he, hr, rest⟩ => ⟨v, r, S', R', he, hk r hr, rest⟩
section
variable {P : Program} {N : Nat} {E : Env} {K : Exit → Env → Prop}
theorem CodeOk.mono {c : Code} {K' : Exit → Env → Prop} (h : CodeOk P N c E K) (hk : ∀ e E', K e E' → K' e E') : CodeOk P N c E K' := by
  intro xv a w S R hA r
  exact wp_mono (h hA r) fun e a w ⟨E', S', R', k, rest⟩ => ⟨E', S', R', hk _ _ k, rest⟩
theorem Post.trans {xv : Nat → Value} {w w1 w2 : World} {S S1 : Nat → Prop} {R R1 : List Nat} {a2 : Act} {J : Env → Prop} (e : Ext w S R w1 S1 R1) (p : Post N xv J w1 S1 R1 a2 w2) : Post N xv J w S R a2 w2 := by
  obtain ⟨E', S', R', k, r, e2⟩ := p
  exact ⟨E', S', R', k, r, e.trans e2⟩
theorem CodeOk.skip (h : K .normal E) : CodeOk P N .skip E K := fun _ r => wp_skip ⟨E, _, _, h, r, Ext.refl _ _ _ _ fun _ h => h⟩
theorem CodeOk.exit {id : Nat} (h : K (.exit id) E) : CodeOk P N (.exit id) E K := fun _ r => wp_exit ⟨E, _, _, h, r, Ext.refl _ _ _ _ fun _ h => h⟩
theorem CodeOk.ret (h : K .ret E) : CodeOk P N .ret E K := fun _ r => wp_ret ⟨E, _, _, h, r, Ext.refl _ _ _ _ fun _ h => h⟩
def thenK (J : Env → Prop) (K : Exit → Env → Prop) : Exit → Env → Prop
  | .normal, E => J E
  | e, E => K e E
theorem CodeOk.seq {x y : Code} (h : CodeOk P N x E (thenK (fun E' => CodeOk P N y E' K) K)) : CodeOk P N (.seq x y) E K := by
  intro xv a w S R hA r
  refine wp_seq (wp_mono (h hA r) fun e a1 w1 hp => ?_)
  obtain ⟨E', S', R', k, r', e1⟩ := hp
  cases e with
  | normal => exact wp_mono (k (hA.ext e1 r.sep) r') fun e a2 w2 p => Post.trans e1 p
  | _ => exact ⟨E', S', R', k, r', e1⟩
theorem CodeOk.cond {c : Operand} {x y : Code} {s : Sr} {b : Bool} (hs : s.fits N c = true) (hb : E.look s = .bool b) (h : CodeOk P N (if b then x else y) E K) : CodeOk P N (.cond c x y) E K := by
  intro xv a w S R hA r
  have lk := looked r hs
  rw [hb] at lk
  exact wp_cond lk.bool (h hA r)
def blockK (id : Nat) (K : Exit → Env → Prop) : Exit → Env → Prop
  | .exit id', E => if id' = id then K .normal E else K (.exit id') E
  | e, E => K e E
theorem CodeOk.block {id : Nat} {c : Code} (h : CodeOk P N c E (blockK id K)) : CodeOk P N (.block id c) E K := by
  intro xv a w S R hA r
  refine wp_block (wp_mono (h hA r) fun e a1 w1 hp => ?_)
  obtain ⟨E', S', R', k, r', e1⟩ := hp
  cases e with
  | exit id' =>
    simp only [blockK] at k
    simp only [Exit.inBlock]
    split <;> rename_i hid
    · rw [if_pos hid] at k; exact ⟨E', S', R', k, r', e1⟩
    · rw [if_neg hid] at k; exact ⟨E', S', R', k, r', e1⟩
  | _ => exact ⟨E', S', R', k, r', e1⟩
theorem CodeOk.loop {c : Code} (I : Nat → Env → Prop) (n : Nat) (h0 : I n E) (h : ∀ n E, I n E → CodeOk P N c E (thenK (fun E' => ∃ m, m < n ∧ I m E') K)) : CodeOk P N (.loop c) E K := by
  intro xv a w S R hA r
  refine wp_loop_ghost (fun n a' w' => ∃ E' S' R', I n E' ∧ Rel N xv E' a' w' S' R' ∧ Ext w S R w' S' R') n ⟨E, S, R, h0, r, Ext.refl _ _ _ _ fun _ h => h⟩ ?_
  rintro m a1 w1 ⟨E1, S1, R1, i1, r1, e1⟩
  refine wp_mono (h m E1 i1 (hA.ext e1 r.sep) r1) fun e a2 w2 p => ?_
  obtain ⟨E', S', R', k, r', e2⟩ := Post.trans e1 p
  cases e with
  | normal => obtain ⟨m', hlt, hi⟩ := k; exact ⟨m', hlt, E', S', R', hi, r', e2⟩
  | _ => exact ⟨E', S', R', k, r', e2⟩
end
end Go.Fm
set_option linter.unusedVariables false
set_option linter.unusedSimpArgs false
namespace Go.Fm
open Go
mutual
def FV.free : FV → Bool
  | .sl _ _ => false
  | .ref _ => false
  | .al _ _ | .ptr _ _ | .clo _ _ | .als _ _ _ _ | .alg _ _ _ => false
  | .arr es => freeLL es
  | .box cs => freeL cs
  | .agg cs => freeL cs
  | .tup vs => freeL vs
  | .fn _ cap => freeL cap
  | .iface _ v => v.free
  | _ => true
def freeL : List FV → Bool
  | [] => true
  | f :: fs => f.free && freeL fs
def freeLL : List (List FV) → Bool
  | [] => true
  | e :: es => freeL e && freeLL es
end
theorem freeL_all (l : List FV) : freeL l = l.all FV.free := by induction l <;> simp_all [freeL]
theorem freeLL_flatten (es : List (List FV)) : freeLL es = freeL es.flatten := by
  induction es with
  | nil => rfl
  | cons e es ih => simp only [freeLL, ih, List.flatten_cons, freeL_all, List.all_append]
theorem Rep.free {h : Array Obj} {S : Nat → Prop} {vs fs R} (r : Rep h S vs fs R) : ∀ {S' : Nat → Prop}, freeL fs = true → Rep h S' vs fs R := by
  induction r with
  | nil => intro _ _; exact .nil
  | undef _ ih => intro _ hf; simp only [freeL, Bool.and_eq_true] at hf; exact .undef (ih hf.2)
  | int _ ih => intro _ hf; simp only [freeL, Bool.and_eq_true] at hf; exact .int (ih hf.2)
  | bool _ ih => intro _ hf; simp only [freeL, Bool.and_eq_true] at hf; exact .bool (ih hf.2)
  | str _ ih => intro _ hf; simp only [freeL, Bool.and_eq_true] at hf; exact .str (ih hf.2)
  | nilp _ ih => intro _ hf; simp only [freeL, Bool.and_eq_true] at hf; exact .nilp (ih hf.2)
  | nilf _ ih => intro _ hf; simp only [freeL, Bool.and_eq_true] at hf; exact .nilf (ih hf.2)
  | nili _ ih => intro _ hf; simp only [freeL, Bool.and_eq_true] at hf; exact .nili (ih hf.2)
  | iface _ _ i1 i2 => intro _ hf; simp only [freeL, FV.free, Bool.and_eq_true] at hf; exact .iface (i1 (by simp [freeL, hf.1])) (i2 hf.2)
  | agg _ _ i1 i2 => intro _ hf; simp only [freeL, FV.free, Bool.and_eq_true] at hf; exact .agg (i1 hf.1) (i2 hf.2)
  | tup _ _ i1 i2 => intro _ hf; simp only [freeL, FV.free, Bool.and_eq_true] at hf; exact .tup (i1 hf.1) (i2 hf.2)
  | fn _ _ i1 i2 => intro _ hf; simp only [freeL, FV.free, Bool.and_eq_true] at hf; exact .fn (i1 hf.1) (i2 hf.2)
  | slNil _ ih => intro _ hf; simp [freeL, FV.free] at hf
  | sl _ _ _ _ _ _ _ _ _ _ _ _ _ => intro _ hf; simp [freeL, FV.free] at hf
  | ref _ _ _ _ _ _ _ => intro _ hf; simp [freeL, FV.free] at hf
  | arrNil _ ih => intro _ hf; simp only [freeL, Bool.and_eq_true] at hf; exact .arrNil (ih hf.2)
  | bufNil _ ih => intro _ hf; simp only [freeL, Bool.and_eq_true] at hf; exact .bufNil (ih hf.2)
  | arr hn hst hb hsz hcap hpos _ _ i1 i2 =>
    intro _ hf
    simp only [freeL, FV.free, freeLL_flatten, Bool.and_eq_true] at hf
    exact .arr hn hst hb hsz hcap hpos (i1 hf.1) (i2 hf.2)
  | box hb _ _ i1 i2 => intro _ hf; simp only [freeL, FV.free, Bool.and_eq_true] at hf; exact .box hb (i1 hf.1) (i2 hf.2)
  | iter hb _ ih => intro _ hf; simp only [freeL, Bool.and_eq_true] at hf; exact .iter hb (ih hf.2)
  | buf hb hsz hpos _ ih => intro _ hf; simp only [freeL, Bool.and_eq_true] at hf; exact .buf hb hsz hpos (ih hf.2)
section
variable {P : Program} {N : Nat} {o : Oper} {E : Env} {d : Nat} {xv : Nat → Value} {a : Act} {w : World} {S : Nat → Prop} {R : List Nat}
theorem Rel.seals (r : Rel N xv E a w S R) {S' : Nat → Prop} (h : ∀ b, S b → S' b) (hs : ∀ b, S' b → b < w.heap.size ∧ b ∉ R) : Rel N xv E a w S' R :=
  ⟨r.env.change h (Nat.le_refl _) (fun _ _ _ => rfl) (fun _ _ => rfl) (fun _ _ => rfl) (fun _ _ _ _ h => h) (fun _ _ _ _ h => h) (fun _ _ _ _ h => h) (fun _ _ _ _ _ _ h => h) (fun _ _ _ _ _ h => h), r.sorted, r.nodup, hs, r.size, r.small, r.nodef⟩
def Env.passM (E : Env) : List (Bool × Sr) → List FV × Env
  | [] => ([], E)
  | (m, s) :: ss => ((E.pass m s).1 :: ((E.pass m s).2.passM ss).1, ((E.pass m s).2.passM ss).2)
theorem passedM : ∀ {ss : List (Bool × Sr)} {xs : List Operand} {E : Env} {S : Nat → Prop} {R : List Nat} (r : Rel N xv E a w S R) (hs : List.all (ss.zip xs) (fun y => y.1.2.fits N y.2) = true) (hl : ss.length = xs.length),
    ∃ S' Rf R', PassedL N xv a w S R (xs.map a.eval) (E.passM ss).1 (E.passM ss).2 S' Rf R'
  | [], [], E, S, R, r, _, _ => ⟨S, [], R, .nil, r, by simp, by simp, fun _ h => h, fun _ h => .inl h, fun _ h => h, by simp⟩
  | s :: ss, [], E, S, R, r, _, hl => by simp at hl
  | [], x :: xs, E, S, R, r, _, hl => by simp at hl
  | (m, s) :: ss, x :: xs, E, S, R, r, hs, hl => by
    simp only [List.zip_cons_cons, List.all_cons, Bool.and_eq_true] at hs
    obtain ⟨S1, Rf1, R1, p1⟩ := passed r hs.1 m
    obtain ⟨S2, Rf2, R2, p2⟩ := passedM p1.rel hs.2 (by simpa using hl)
    refine ⟨S2, Rf1 ++ Rf2, R2, ?_, p2.rel, ?_, ?_, fun b h => p2.seals b (p1.seals b h), ?_, fun b m => p1.sub b (p2.sub b m), ?_⟩
    · simp only [Env.passM, List.map_cons]
      exact (p1.rep.mono p2.seals (Nat.le_refl _) (fun _ _ _ => rfl) (fun _ _ => rfl)).cons p2.rep
    · rw [List.nodup_append]
      exact ⟨p1.nodup, p2.nodup, fun b m b' m' e => (p1.apart b m).1 (e ▸ p2.subf b' m')⟩
    · intro b m
      rcases List.mem_append.1 m with m | m
      · refine ⟨fun m' => (p1.apart b m).1 (p2.sub b m'), fun hb => ?_⟩
        rcases p2.news b hb with h | h
        · exact (p1.apart b m).2 h
        · exact (p1.apart b m).1 h
      · exact p2.apart b m
    · intro b hb
      rcases p2.news b hb with h | h
      · exact p1.news b h
      · exact .inr (p1.sub b h)
    · intro b m
      rcases List.mem_append.1 m with m | m
      · exact p1.subf b m
      · exact p1.sub b (p2.subf b m)
def Env.lend (E : Env) : Sr → FV
  | .k v => v
  | .t n => match E.get n with
    | .al r p => (E.at r p).sealed
    | .ptr _ _ => .undef
    | .clo f rs => .fn f (rs.map fun r => (E.get r).sealed)
    | .als q lo m sz => .sl false (sealedLL (((E.get q).rows.drop lo).take m))
    | .alg q p k => match k with
      | .agg m => match getN (E.get q) p m with
        | some xs => .agg (sealedL xs)
        | none => .undef
      | .sub lo m sz => .sl false (sealedLL (((E.at q p).rows.drop lo).take m))
    | f => f.sealed
theorem sub_lent (r : Rel N xv E a w S R) {q lo n sz : Nat} {p : Path} {v : Value} (he : aggAt w.heap (valOf a xv) E q p (.sub lo n sz) = some v) : Rep w.heap (fun b => S b ∨ b ∈ R) [v] [.sl false (sealedLL (((E.at q p).rows.drop lo).take n))] [] := by
  simp only [aggAt] at he
  cases hh : hdrAt w.heap (valOf a xv) E q p with
  | none => rw [hh] at he; cases he
  | some u =>
    rw [hh] at he
    simp only at he
    obtain ⟨g, Rf, R2, h1, hsl, h2, h3, -⟩ := r.alAt hh
    have hat : (E.get q).atP p = E.at q p := by cases p <;> rfl
    rw [hat] at he
    rw [← h1] at h2
    obtain ⟨Rc, c1, c2, c3⟩ := h2.cut (subV_spec he) (List.nodup_append.1 (h3.nodup_iff.1 r.nodup)).1
    have h4 := c1.seal (S' := fun b => S b ∨ b ∈ R) (fun _ h => .inl h) (fun b m => .inr (h3.mem_iff.2 (by simp [c2 b m])))
    have e : (cutFV (E.at q p) lo n sz).sealed = .sl false (sealedLL (((E.at q p).rows.drop lo).take n)) := by
      unfold cutFV
      split
      · rename_i h0; subst h0; simp [FV.sealed, sealedLL]
      · simp [FV.sealed]
    simpa [sealedL, e] using h4
theorem lent (r : Rel N xv E a w S R) {s : Sr} {x : Operand} (hs : s.fits N x = true) : Rep w.heap (fun b => S b ∨ b ∈ R) [a.eval x] [E.lend s] [] := by
  cases s with
  | k v =>
    have h1 := (looked r hs).rep (by
      cases x with
      | const c => exact (constOk_rep w.heap S _ _ hs).noalias v (by simp)
      | func g => cases v <;> first | rfl | (simp [Sr.fits] at hs; done)
      | _ => simp [Sr.fits] at hs)
    exact h1.mono (fun _ h => .inl h) (Nat.le_refl _) (fun _ _ _ => rfl) (fun _ _ => rfl)
  | t n =>
    have hx : x = .tmp n ∧ n < N := by
      cases x <;> simp [Sr.fits] at hs
      exact ⟨by rw [hs.1], hs.2⟩
    obtain ⟨rfl, hn⟩ := hx
    have hval := eval_val (a := a) (xv := xv) r.small hn
    have own : ∀ f, E.get n = f → f.alias = false → Rep w.heap (fun b => S b ∨ b ∈ R) [a.eval (.tmp n)] [f.sealed] [] := fun f hg ha => by
      obtain ⟨R1, R2, h1, h2⟩ := r.get0 n hg ha
      rw [hval] at h1
      have := h1.seal (S' := fun b => S b ∨ b ∈ R) (fun _ h => .inl h) (fun b m => .inr (h2.mem_iff.2 (by simp [m])))
      simpa [sealedL] using this
    unfold Env.lend
    simp only
    cases hg : E.get n with
    | al q p =>
      have he := r.get_al hg
      rw [hval] at he
      obtain ⟨g, Rf, R2, h1, hsl, h2, h3, h4⟩ := r.alAt he
      simp only [h1]
      have := h2.seal (S' := fun b => S b ∨ b ∈ R) (fun _ h => .inl h) (fun b m => .inr (h3.mem_iff.2 (by simp [m])))
      simpa [sealedL] using this
    | ptr q p => exact .undef .nil
    | alg q p m =>
      have he := r.get_alg hg
      rw [hval] at he
      cases m with
      | sub lo m sz => exact sub_lent r he
      | agg m =>
      simp only [aggAt] at he
      cases hgn : getN (E.get q) p m with
      | none => rw [hgn] at he; cases he
      | some xs =>
        obtain ⟨b, o', c, T, Rx, R2, hloc, hb, hf, hr, hp, -, -⟩ := r.tree hgn
        rw [hgn, hloc] at he
        simp only [cellsAt, hb, Option.map_some, Option.some.injEq] at he
        simp only [hgn]
        rw [← he]
        exact .agg (R1 := []) (hr.seal (fun _ h => .inl h) (fun b m => .inr (hp.mem_iff.2 (by simp [m])))) .nil
    | als q lo m sz =>
      have hsub := r.get_als hg
      rw [hval] at hsub
      obtain ⟨R1, R2, h1, h2⟩ := r.get q (by have := hsub.owned; cases hq : E.get q <;> rw [hq] at this <;> first | rfl | cases this)
      obtain ⟨Rc, c1, c2, c3⟩ := h1.cut hsub (List.nodup_append.1 (h2.nodup_iff.1 r.nodup)).1
      have h3 := c1.seal (S' := fun b => S b ∨ b ∈ R) (fun _ h => .inl h) (fun b m => .inr (h2.mem_iff.2 (by simp [c2 b m])))
      have e : (cutFV (E.get q) lo m sz).sealed = .sl false (sealedLL (((E.get q).rows.drop lo).take m)) := by
        unfold cutFV
        split
        · rename_i h0; subst h0; simp [FV.sealed, sealedLL]
        · simp [FV.sealed]
      simpa [sealedL, e] using h3
    | clo f rs =>
      have he := r.get_clo hg
      rw [hval] at he
      have hown := cloAt_owned he
      unfold cloAt at he
      split at he
      case isFalse => cases he
      simp only [Option.some.injEq] at he
      rw [← he]
      have : ∀ rs : List Nat, (∀ r ∈ rs, (E.get r).owned = true) → Rep w.heap (fun b => S b ∨ b ∈ R) (rs.map (valOf a xv)) (rs.map fun r => (E.get r).sealed) [] := by
        intro rs
        induction rs with
        | nil => intro _; exact .nil
        | cons u rs ih =>
          intro ho
          obtain ⟨R1, R2, h1, h2⟩ := r.get u (by have := ho u (by simp); cases hg : E.get u <;> rw [hg] at this <;> first | rfl | cases this)
          have h3 := h1.seal (S' := fun b => S b ∨ b ∈ R) (fun _ h => .inl h) (fun b m => .inr (h2.mem_iff.2 (by simp [m])))
          exact Rep.cons (R1 := []) (by simpa [sealedL] using h3) (ih fun v m => ho v (by simp [m]))
      exact .fn (R1 := []) (this rs hown) .nil
    | _ => exact own _ hg rfl
theorem lentL (r : Rel N xv E a w S R) : ∀ {ss : List Sr} {xs : List Operand}, List.all (ss.zip xs) (fun y => y.1.fits N y.2) = true → ss.length = xs.length →
    Rep w.heap (fun b => S b ∨ b ∈ R) (xs.map a.eval) (ss.map E.lend) []
  | [], [], _, _ => .nil
  | s :: ss, [], _, hl => by simp at hl
  | [], x :: xs, _, hl => by simp at hl
  | s :: ss, x :: xs, hs, hl => by
    simp only [List.zip_cons_cons, List.all_cons, Bool.and_eq_true] at hs
    exact (lent r hs.1).cons (lentL r hs.2 (by simpa using hl))
def isFn (P : Program) (f : FuncId) : Bool :=
  match P.funcs[f]? with
  | some fn => fn.name != "runtime.NumGoroutine" && fn.body.isSome
  | none => false
theorem run_call {f : FuncId} {args : Array Operand} {ts : Array TypeId} (ho : o.op = .call { callee := .value (.func f), args := args, argTypes := ts }) (hf : isFn P f = true) :
    (execOp a.eval o).run P w = .ok (.enter f (args.toList.map a.eval).toArray) w := by
  unfold isFn at hf
  cases hg : P.funcs[f]? with
  | none => rw [hg] at hf; cases hf
  | some fn =>
  rw [hg] at hf
  simp only [Bool.and_eq_true, bne_iff_ne, ne_eq] at hf
  have h2 : fn.body ≠ none := fun hb => by have h4 := hf.2; rw [hb] at h4; cases h4
  have h3 : (args.map a.eval) = (args.toList.map a.eval).toArray := by rw [← Array.toList_map, Array.toArray_toList]
  simp [execOp, ho, resolve, Deferred.ofValue, Act.eval, invoke, callFunc, hg, hf.1, h2]
  exact h3
theorem ok_call {f : FuncId} {args : Array Operand} {ts : Array TypeId} {ss : List (Bool × Sr)} {K : Env → Prop} (ho : o.op = .call { callee := .value (.func f), args := args, argTypes := ts }) (hd : o.dst = some d) (hdN : d < N)
    (hf : isFn P f = true) (hs : List.all (ss.zip args.toList) (fun y => y.1.2.fits N y.2) = true) (hl : ss.length = args.toList.length)
    (hc : FCall P f (E.passM ss).1 (fun r => K ((E.passM ss).2.upd d r))) : OpOkA P N o E K := by
  intro xv a w S R hA r
  unfold Oper.wp
  rw [run_call ho hf]
  obtain ⟨S1, Rf, R1, p⟩ := passedM r hs hl
  refine (hc.out (hA.seals p.seals) p.rep p.nodup (fun b hb => ⟨(p.rel.sep b hb).1, fun m => (p.apart b m).2 hb⟩)).mono ?_
  rintro e w' ⟨v, r0, S2, R2, rfl, hk, hrep, hnd, hsep, ext⟩
  show Post N xv K w S R (a.put o.dst v) w'
  rw [hd]
  have r1 := p.rel.world ext.grow (fun b hb hS => ext.keep b hb (fun m => (p.apart b m).2 hS)) (fun b m => ext.keep b (p.rel.env.lt b m) (fun m' => (p.apart b m').1 m))
  have hR2 : ∀ b ∈ R2, b ∉ R1 := fun b m m' => by
    rcases ext.owns b m with h | h
    · exact (p.apart b h).1 m'
    · have := p.rel.env.lt b m'; omega
  have r2 : Rel N xv (E.passM ss).2 a w' S2 R1 := r1.seals ext.seals fun b hb => ⟨(hsep b hb).1, fun m => by
    rcases ext.news b hb with h | h | h
    · exact (p.rel.sep b h).2 m
    · exact (p.apart b h).1 m
    · have := p.rel.env.lt b m; omega⟩
  obtain ⟨R3, r3, h3⟩ := r2.upd hdN hrep (fun b m => ⟨hR2 b m, fun hb => (hsep b hb).2 m⟩) hnd
  refine ⟨_, S2, R3, hk, r3, ⟨fun b hb => ext.seals b (p.seals b hb), ?_, ?_, ext.grow, ?_, ext.os, ext.tape, ext.output, ext.spare⟩⟩
  · intro b hb
    rcases ext.news b hb with h | h | h
    · exact (p.news b h).imp id .inl
    · exact .inr (.inl (p.subf b h))
    · exact .inr (.inr h)
  · exact fun b hb hn => ext.keep b hb fun m => hn (p.subf b m)
  · intro b m
    rcases h3 b m with h | h
    · rcases ext.owns b h with h | h
      · exact .inl (p.subf b h)
      · exact .inr h
    · exact .inl (p.sub b h)
theorem ok_callB {f : FuncId} {args : Array Operand} {ts : Array TypeId} {ss : List Sr} {K : Env → Prop} (ho : o.op = .call { callee := .value (.func f), args := args, argTypes := ts }) (hd : o.dst = some d) (hdN : d < N)
    (hf : isFn P f = true) (hs : List.all (ss.zip args.toList) (fun y => y.1.fits N y.2) = true) (hl : ss.length = args.toList.length)
    (hc : FCall P f (ss.map E.lend) (fun r => r.free = true ∧ K (E.upd d r))) : OpOkA P N o E K := by
  intro xv a w S R hA r
  unfold Oper.wp
  rw [run_call ho hf]
  refine (hc.out (hA.seals fun _ h => .inl h) (lentL r hs hl) (by simp) (fun b hb => ⟨hb.elim (fun h => (r.sep b h).1) (fun m => r.env.lt b m), by simp⟩)).mono ?_
  rintro e w' ⟨v, r0, S2, R2, rfl, ⟨hfr, hk⟩, hrep, hnd, hsep, ext⟩
  show Post N xv K w S R (a.put o.dst v) w'
  rw [hd]
  have r1 := r.world ext.grow (fun b hb hS => ext.keep b hb (by simp)) (fun b m => ext.keep b (r.env.lt b m) (by simp))
  have hge : ∀ b ∈ R2, w.heap.size ≤ b := fun b m => (ext.owns b m).resolve_left (by simp)
  obtain ⟨R3, r3, h3⟩ := r1.upd hdN (hrep.free (S' := S) (by simp [freeL, hfr])) (fun b m => ⟨fun m' => by have := r.env.lt b m'; have := hge b m; omega, fun hb => by have := (r.sep b hb).1; have := hge b m; omega⟩) hnd
  refine ⟨_, S, R3, hk, r3, ⟨fun _ h => h, fun _ h => .inl h, fun b hb hn => ext.keep b hb (by simp), ext.grow, ?_, ext.os, ext.tape, ext.output, ext.spare⟩⟩
  intro b m
  rcases h3 b m with h | h
  · exact .inr (hge b h)
  · exact .inl h
theorem run_callV {x : Operand} {f : FuncId} {cap : List Value} {args : Array Operand} {ts : Array TypeId} (ho : o.op = .call { callee := .value x, args := args, argTypes := ts }) (hv : a.eval x = .func (.func f) #[] cap.toArray) (hf : isFn P f = true) :
    (execOp a.eval o).run P w = .ok (.enter f (args.toList.map a.eval ++ cap).toArray) w := by
  unfold isFn at hf
  cases hg : P.funcs[f]? with
  | none => rw [hg] at hf; cases hf
  | some fn =>
  rw [hg] at hf
  simp only [Bool.and_eq_true, bne_iff_ne, ne_eq] at hf
  have h2 : fn.body ≠ none := fun hb => by have h4 := hf.2; rw [hb] at h4; cases h4
  have h3 : (args.map a.eval) = (args.toList.map a.eval).toArray := by rw [← Array.toList_map, Array.toArray_toList]
  have h5 : args.map a.eval ++ cap.toArray = (args.toList.map a.eval ++ cap).toArray := by rw [h3, List.append_toArray]
  simp [execOp, ho, resolve, hv, Deferred.ofValue, invoke, callFunc, hg, hf.1, h2]
theorem ok_callF {f : FuncId} {x : Operand} {s : Sr} {args : Array Operand} {ts : Array TypeId} {ss : List (Bool × Sr)} {K : Env → Prop} (ho : o.op = .call { callee := .value x, args := args, argTypes := ts }) (hd : o.dst = some d) (hdN : d < N)
    (hx : s.fits N x = true) (hg : E.lend s = .fn f []) (hf : isFn P f = true) (hs : List.all (ss.zip args.toList) (fun y => y.1.2.fits N y.2) = true) (hl : ss.length = args.toList.length)
    (hc : FCall P f (E.passM ss).1 (fun r => K ((E.passM ss).2.upd d r))) : OpOkA P N o E K := by
  intro xv a w S R hA r
  unfold Oper.wp
  have hlx := lent r hx
  rw [hg] at hlx
  generalize hvx : a.eval x = v at hlx
  generalize hR0 : ([] : List Nat) = R0 at hlx
  cases hlx with
  | @fn _ cs _ _ _ R1 _ h1 h2 =>
  have hcs : cs = [] := by cases h1; rfl
  subst hcs
  rw [run_callV ho hvx hf, List.append_nil]
  obtain ⟨S1, Rf, R1, p⟩ := passedM r hs hl
  refine (hc.out (hA.seals p.seals) p.rep p.nodup (fun b hb => ⟨(p.rel.sep b hb).1, fun m => (p.apart b m).2 hb⟩)).mono ?_
  rintro e w' ⟨v, r0, S2, R2, rfl, hk, hrep, hnd, hsep, ext⟩
  show Post N xv K w S R (a.put o.dst v) w'
  rw [hd]
  have r1 := p.rel.world ext.grow (fun b hb hS => ext.keep b hb (fun m => (p.apart b m).2 hS)) (fun b m => ext.keep b (p.rel.env.lt b m) (fun m' => (p.apart b m').1 m))
  have hR2 : ∀ b ∈ R2, b ∉ R1 := fun b m m' => by
    rcases ext.owns b m with h | h
    · exact (p.apart b h).1 m'
    · have := p.rel.env.lt b m'; omega
  have r2 : Rel N xv (E.passM ss).2 a w' S2 R1 := r1.seals ext.seals fun b hb => ⟨(hsep b hb).1, fun m => by
    rcases ext.news b hb with h | h | h
    · exact (p.rel.sep b h).2 m
    · exact (p.apart b h).1 m
    · have := p.rel.env.lt b m; omega⟩
  obtain ⟨R3, r3, h3⟩ := r2.upd hdN hrep (fun b m => ⟨hR2 b m, fun hb => (hsep b hb).2 m⟩) hnd
  refine ⟨_, S2, R3, hk, r3, ⟨fun b hb => ext.seals b (p.seals b hb), ?_, ?_, ext.grow, ?_, ext.os, ext.tape, ext.output, ext.spare⟩⟩
  · intro b hb
    rcases ext.news b hb with h | h | h
    · exact (p.news b h).imp id .inl
    · exact .inr (.inl (p.subf b h))
    · exact .inr (.inr h)
  · exact fun b hb hn => ext.keep b hb fun m => hn (p.subf b m)
  · intro b m
    rcases h3 b m with h | h
    · rcases ext.owns b h with h | h
      · exact .inl (p.subf b h)
      · exact .inr h
    · exact .inl (p.sub b h)
theorem ok_callV {x : Operand} {s : Sr} {g : FuncId} {cap : List FV} {args : Array Operand} {ts : Array TypeId} {ss : List Sr} {K : Env → Prop} (ho : o.op = .call { callee := .value x, args := args, argTypes := ts }) (hd : o.dst = some d) (hdN : d < N)
    (hx : s.fits N x = true) (hg : E.lend s = .fn g cap) (hf : isFn P g = true) (hs : List.all (ss.zip args.toList) (fun y => y.1.fits N y.2) = true) (hl : ss.length = args.toList.length)
    (hc : FCall P g (ss.map E.lend ++ cap) (fun r => r.free = true ∧ K (E.upd d r))) : OpOkA P N o E K := by
  intro xv a w S R hA r
  unfold Oper.wp
  have hlx := lent r hx
  rw [hg] at hlx
  generalize hvx : a.eval x = v at hlx
  generalize hR0 : ([] : List Nat) = R0 at hlx
  cases hlx with
  | @fn _ cs _ _ _ R1 _ h1 h2 =>
  have hR1 : R1 = [] := (List.append_eq_nil_iff.1 hR0.symm).1
  subst hR1
  rw [run_callV ho hvx hf]
  refine (hc.out (hA.seals fun _ h => .inl h) ((lentL r hs hl).append h1) (by simp) (fun b hb => ⟨hb.elim (fun h => (r.sep b h).1) (fun m => r.env.lt b m), by simp⟩)).mono ?_
  rintro e w' ⟨v, r0, S2, R2, rfl, ⟨hfr, hk⟩, hrep, hnd, hsep, ext⟩
  show Post N xv K w S R (a.put o.dst v) w'
  rw [hd]
  have r1 := r.world ext.grow (fun b hb hS => ext.keep b hb (by simp)) (fun b m => ext.keep b (r.env.lt b m) (by simp))
  have hge : ∀ b ∈ R2, w.heap.size ≤ b := fun b m => (ext.owns b m).resolve_left (by simp)
  obtain ⟨R3, r3, h3⟩ := r1.upd hdN (hrep.free (S' := S) (by simp [freeL, hfr])) (fun b m => ⟨fun m' => by have := r.env.lt b m'; have := hge b m; omega, fun hb => by have := (r.sep b hb).1; have := hge b m; omega⟩) hnd
  refine ⟨_, S, R3, hk, r3, ⟨fun _ h => h, fun _ h => .inl h, fun b hb hn => ext.keep b hb (by simp), ext.grow, ?_, ext.os, ext.tape, ext.output, ext.spare⟩⟩
  intro b m
  rcases h3 b m with h | h
  · exact .inr (hge b h)
  · exact .inl h
structure FMut (P : Program) (f : FuncId) (es : List (List FV)) (K : List (List FV) → Prop) : Prop where
  out : ∀ {w : World} {S : Nat → Prop} {R : List Nat} {v : Value}, Amb P w S → Rep w.heap S [v] [.arr es] R → R.Nodup → (∀ b, S b → b < w.heap.size ∧ b ∉ R) →
    Calls P f #[v] w (fun e w' => ∃ es', e = .returned (.tuple #[]) ∧ K es' ∧ Rep w'.heap S [v] [.arr es'] R ∧ Ext w S R w' S R)
theorem put_same {d : Nat} (hd : d < a.tmps.size) : a.put (some d) (a.tmps.getD d undef) = a := by
  unfold Act.put
  cases a with
  | mk t df =>
    simp only at hd ⊢
    congr 1
    apply Array.ext
    · simp
    · intro i h1 h2
      rw [Array.getElem_setIfInBounds (by simpa using h1)]
      split
      · rename_i e; subst e; simp [Array.getD_eq_getD_getElem?, h2]
      · rfl
theorem ok_callM {f : FuncId} {args : Array Operand} {ts : Array TypeId} {s : Sr} {q : Nat} {es : List (List FV)} {K : Env → Prop} (ho : o.op = .call { callee := .value (.func f), args := args, argTypes := ts }) (hd : o.dst = some d) (hdN : d < N)
    (hf : isFn P f = true) (hs : List.all ([s].zip args.toList) (fun y => y.1.fits N y.2) = true) (hl : args.toList.length = 1) (hq : q < N) (hsl : E.look s = .al q []) (hg : E.get q = .arr es)
    (hc : FMut P f es (fun es' => K (((E.upd q .undef).upd q (.arr es')).upd d (.tup [])))) : OpOkA P N o E K := by
  intro xv a w S R hA r
  unfold Oper.wp
  rw [run_call ho hf]
  obtain ⟨x, hx⟩ : ∃ x, args.toList = [x] := by
    match h : args.toList, hl with
    | [x], _ => exact ⟨x, rfl⟩
  rw [hx] at hs ⊢
  simp only [List.zip_cons_cons, List.zip_nil_right, List.all_cons, List.all_nil, Bool.and_true] at hs
  have lk := looked r hs
  rw [hsl] at lk
  have hv : a.eval x = valOf a xv q := by
    generalize hvx : a.eval x = v at lk
    cases lk with
    | closed h => have := h.noalias _ (List.mem_singleton.2 rfl); cases this
    | al h =>
      simp only [hdrAt, hg, FV.isSl, if_true, Option.some.injEq] at h
      exact h.symm
  simp only [List.map_cons, List.map_nil, hv]
  obtain ⟨Rf, R2, h1, h2, h3⟩ := r.swap (d := q) (by rw [hg]; rfl)
  rw [hg] at h1
  have hnd := h2.nodup_iff.1 r.nodup
  obtain ⟨R', h4, h5⟩ := h3 (S' := S) (f := .undef) (Rg := []) (.undef .nil) (fun _ h => h) (fun b hb => ⟨(r.sep b hb).1, by simp, fun m => (r.sep b hb).2 (h2.mem_iff.2 (by simp [m]))⟩) (by simp) (by simp)
  have hR' : ∀ b, b ∈ R' → b ∈ R2 := fun b m => by simpa using h5.mem_iff.1 m
  have hap : ∀ b ∈ Rf, b ∉ R' := fun b m m' => (List.nodup_append.1 hnd).2.2 b m b (hR' b m') rfl
  have hsub : ∀ b ∈ Rf, b ∈ R := fun b m => h2.mem_iff.2 (by simp [m])
  refine (hc.out hA h1 (List.nodup_append.1 hnd).1 (fun b hb => ⟨(r.sep b hb).1, fun m => (r.sep b hb).2 (hsub b m)⟩)).mono ?_
  rintro e w' ⟨es', rfl, hk, hrep, ext⟩
  show Post N xv K w S R (a.put o.dst (.tuple #[])) w'
  rw [hd]
  have r1 := h4.world ext.grow (fun b hb hS => ext.keep b hb (fun m => (r.sep b hS).2 (hsub b m))) (fun b m => ext.keep b (h4.env.lt b m) (fun m' => hap b m' m))
  obtain ⟨R3, r3, h6⟩ := r1.upd hq hrep (fun b m => ⟨fun m' => hap b m m', fun hb => (r.sep b hb).2 (hsub b m)⟩) (List.nodup_append.1 hnd).1
  have hsame : a.put (some q) (valOf a xv q) = a := by
    unfold valOf
    rw [if_pos (by have := r.small; omega)]
    exact put_same (by rw [r.size]; exact hq)
  rw [hsame] at r3
  obtain ⟨R4, r4, h7⟩ := r3.upd hdN (v := .tuple #[]) (f := .tup []) (Rf := []) (.tup (cs := []) (R1 := []) .nil .nil) (by simp) (by simp)
  refine ⟨_, S, R4, hk, r4, ⟨fun _ h => h, fun _ h => .inl h, fun b hb hn => ext.keep b hb (fun m => hn (hsub b m)), ext.grow, ?_, ext.os, ext.tape, ext.output, ext.spare⟩⟩
  intro b m
  rcases h7 b m with h | h
  · simp at h
  · rcases h6 b h with h | h
    · exact .inl (hsub b h)
    · exact .inl (h2.mem_iff.2 (by simp [hR' b h]))
theorem run_nilQ {P : Program} (w : World) {t e : TypeId} (neg : Bool) (a : Option Addr) (n c : Nat) (ht : P.underlying t = some (.slice e)) :
    (binOp (if neg then .neq else .eql) t (.slice a n c) (.slice none 0 0)).run P w = .ok (.bool (if neg then !a.isNone else a.isNone)) w := by
  have h : ∀ d : Nat, (Op.equalIn (d + 1) t (.slice a n c) (.slice none 0 0)).run P w = .ok a.isNone w := fun d => by
    cases a <;> simp [Op.equalIn, run_underlying ht]
  cases neg
  · simp only [Bool.false_eq_true, if_false, binOp]
    simp [Op.equal, Op.maxDepth, h 9999]
  · simp only [if_true, binOp]
    simp [Op.equal, Op.maxDepth, h 9999]
def nilK (es : List (List FV)) (neg : Bool) (J : Bool → Prop) : Prop := (es = [] → ∀ b, J b) ∧ (es ≠ [] → J neg)
def nilOn (E : Env) (f : FV) (neg : Bool) (J : Bool → Prop) : Prop :=
  match f with
  | .sl _ es => nilK es neg J
  | .al q p => match E.at q p with
    | .arr es => nilK es neg J
    | .buf _ => nilK [] neg J
    | _ => False
  | _ => False
theorem ok_isNil {neg : Bool} {t u : TypeId} {s : Sr} {x : Operand} {K : Env → Prop} (ho : o.op = .binOp (if neg then .neq else .eql) t x (.const (.slice none 0 0)) u) (hd : o.dst = some d) (hdN : d < N) (hs : s.fits N x = true) (ht : isSliceT P t = true)
    (hc : nilOn E (E.look s) neg fun b => K (E.upd d (.bool b))) : OpOkA P N o E K := by
  intro xv a w S R hA r
  have hty : ∃ e, P.underlying t = some (.slice e) := by
    unfold isSliceT at ht
    cases hu : P.underlying t with
    | none => rw [hu] at ht; cases ht
    | some de => rw [hu] at ht; cases de <;> first | exact ⟨_, rfl⟩ | cases ht
  obtain ⟨e, hty⟩ := hty
  have go : ∀ (z : Option Addr) (n c : Nat), a.eval x = .slice z n c → K (E.upd d (.bool (if neg then !z.isNone else z.isNone))) → o.wp P a w (Post N xv K w S R) (fun _ _ _ => False) := fun z n c hv hk => by
    have hrun : (execOp a.eval o).run P w = .ok (.value (.bool (if neg then !z.isNone else z.isNone))) w := by
      rw [execOp, ho]
      have hg : ∀ op y, (eqGuard op t x y (.slice z n c) (.slice none 0 0)).run P w = .ok () w := by intro op y; unfold eqGuard; split <;> simp
      have h0 : a.eval (.const (.slice none 0 0)) = .slice none 0 0 := rfl
      simp only [Sem.run_bind, hv, h0, hg, Result.andThen_ok, run_nilQ w neg z n c hty, Sem.run_pure]
    refine wp_value hrun ?_
    rw [hd]
    obtain ⟨R', h1, h2⟩ := r.put_look hdN (f := .bool (if neg then !z.isNone else z.isNone)) (.closed (.bool .nil)) (notRoot_ne rfl)
    exact ⟨_, S, R', hk, h1, Ext.refl _ _ _ _ h2⟩
  have fin : ∀ {es : List (List FV)} (z : Option Addr) (n c : Nat), a.eval x = .slice z n c → (es ≠ [] → z ≠ none) → nilK es neg (fun b => K (E.upd d (.bool b))) → o.wp P a w (Post N xv K w S R) (fun _ _ _ => False) := fun {es} z n c hv hz hk => by
    refine go z n c hv ?_
    by_cases he : es = []
    · exact hk.1 he _
    · have h1 := hz he
      have h2 := hk.2 he
      cases z with
      | none => exact absurd rfl h1
      | some b => cases neg <;> simpa using h2
  have lk := looked r hs
  generalize hf : E.look s = f at lk hc
  cases f <;> simp only [nilOn] at hc <;> try (exact hc.elim)
  case sl full es =>
    have h1 := lk.rep rfl
    generalize hv : a.eval x = v at h1
    cases h1 with
    | slNil _ => exact fin (es := []) _ _ _ hv (fun h => absurd rfl h) hc
    | sl hn _ _ _ _ _ _ _ _ _ _ => exact fin _ _ _ hv (fun _ h => by cases h) hc
  case al q p =>
    have he : hdrAt w.heap (valOf a xv) E q p = some (a.eval x) := by
      cases lk with
      | closed h => have := h.noalias _ (List.mem_singleton.2 rfl); cases this
      | al h => exact h
    obtain ⟨g, Rf, R2, h1, hsl, h2, _, _⟩ := r.alAt he
    rw [h1] at hc
    cases g <;> simp only at hc <;> try (exact hc.elim)
    case arr es =>
      generalize hv : a.eval x = v at h2
      cases h2 with
      | arrNil _ => exact fin (es := []) _ _ _ hv (fun h => absurd rfl h) hc
      | arr hn _ _ _ _ _ _ _ => exact fin _ _ _ hv (fun _ h => by cases h) hc
    case buf st =>
      generalize hv : a.eval x = v at h2
      cases h2 with
      | buf _ _ _ _ => exact fin (es := []) _ _ _ hv (fun h => absurd rfl h) hc
      | bufNil _ => exact fin (es := []) _ _ _ hv (fun h => absurd rfl h) hc
theorem lookL (r : Rel N xv E a w S R) : ∀ {ss : List Sr} {xs : List Operand}, List.all (ss.zip xs) (fun y => y.1.fits N y.2) = true → ss.length = xs.length → (ss.all fun s => !(E.look s).alias) = true →
    Rep w.heap S (xs.map a.eval) (ss.map E.look) []
  | [], [], _, _, _ => .nil
  | s :: ss, [], _, hl, _ => by simp at hl
  | [], x :: xs, _, hl, _ => by simp at hl
  | s :: ss, x :: xs, hs, hl, ha => by
    simp only [List.zip_cons_cons, List.all_cons, Bool.and_eq_true] at hs
    simp only [List.all_cons, Bool.and_eq_true, Bool.not_eq_true'] at ha
    exact ((looked r hs.1).rep ha.1).cons (lookL r hs.2 (by simpa using hl) ha.2)
theorem ok_callL {f : FuncId} {args : Array Operand} {ts : Array TypeId} {ss : List Sr} {K : Env → Prop} (ho : o.op = .call { callee := .value (.func f), args := args, argTypes := ts }) (hd : o.dst = some d) (hdN : d < N)
    (hf : isFn P f = true) (hs : List.all (ss.zip args.toList) (fun y => y.1.fits N y.2) = true) (hl : ss.length = args.toList.length) (ha : (ss.all fun s => !(E.look s).alias) = true)
    (hc : FCall P f (ss.map E.look) (fun r => K (E.upd d r))) : OpOkA P N o E K := by
  intro xv a w S R hA r
  unfold Oper.wp
  rw [run_call ho hf]
  refine (hc.out hA (lookL r hs hl ha) (by simp) (fun b hb => ⟨(r.sep b hb).1, by simp⟩)).mono ?_
  rintro e w' ⟨v, r0, S2, R2, rfl, hk, hrep, hnd, hsep, ext⟩
  show Post N xv K w S R (a.put o.dst v) w'
  rw [hd]
  have r1 := r.world ext.grow (fun b hb hS => ext.keep b hb (by simp)) (fun b m => ext.keep b (r.env.lt b m) (by simp))
  have hge : ∀ b ∈ R2, w.heap.size ≤ b := fun b m => (ext.owns b m).resolve_left (by simp)
  have r2 : Rel N xv E a w' S2 R := r1.seals ext.seals fun b hb => ⟨(hsep b hb).1, fun m => by
    rcases ext.news b hb with h | h | h
    · exact (r.sep b h).2 m
    · simp at h
    · have := r.env.lt b m; omega⟩
  obtain ⟨R3, r3, h3⟩ := r2.upd hdN hrep (fun b m => ⟨fun m' => by have := r.env.lt b m'; have := hge b m; omega, fun hb => (hsep b hb).2 m⟩) hnd
  refine ⟨_, S2, R3, hk, r3, ⟨ext.seals, fun b hb => ?_, fun b hb hn => ext.keep b hb (by simp), ext.grow, ?_, ext.os, ext.tape, ext.output, ext.spare⟩⟩
  · rcases ext.news b hb with h | h | h
    · exact .inl h
    · simp at h
    · exact .inr (.inr h)
  · intro b m
    rcases h3 b m with h | h
    · exact .inr (hge b h)
    · exact .inl h
end
end Go.Fm
set_option linter.unusedVariables false
set_option linter.unusedSimpArgs false
namespace Go.Fm
open Go
structure FMutB (P : Program) (f : FuncId) (cs : List FV) (fs : List FV) (K : List FV → FV → Prop) : Prop where
  out : ∀ {w : World} {S : Nat → Prop} {R : List Nat} {v : Value} {vs : List Value}, Amb P w S → Rep w.heap S (v :: vs) (.box cs :: fs) R → R.Nodup → (∀ b, S b → b < w.heap.size ∧ b ∉ R) →
    Calls P f (v :: vs).toArray w (fun e w' => ∃ u r cs' S' R', e = .returned u ∧ (cs'.length = cs.length ∧ K cs' r) ∧ Rep w'.heap S' [v, u] [.box cs', r] R' ∧ R'.Nodup ∧ (∀ b, S' b → b < w'.heap.size ∧ b ∉ R') ∧ Ext w S R w' S' R')
theorem FMutB.mono {P : Program} {f : FuncId} {cs fs : List FV} {K K' : List FV → FV → Prop} (h : FMutB P f cs fs K) (hk : ∀ c r, c.length = cs.length → K c r → K' c r) : FMutB P f cs fs K' := by
  refine ⟨fun {w S R v vs} hA h1 h2 h3 => ?_⟩
  exact (h.out hA h1 h2 h3).mono fun e w' ⟨u, r, c, S', R', he, hr, rest⟩ => ⟨u, r, c, S', R', he, ⟨hr.1, hk c r hr.1 hr.2⟩, rest⟩
def isRoot (q : Nat) : FV → Bool
  | .ptr r [(0, 0)] => r == q
  | _ => false
theorem isRoot_eq {q : Nat} {f : FV} (h : isRoot q f = true) : f = .ptr q [(0, 0)] := by
  unfold isRoot at h
  split at h
  · rw [beq_iff_eq] at h; rw [h]
  · cases h
def Env.reb (E : Env) (q : Nat) (cs : List FV) : Env := if isRoot q (E.get X0) = true then ((E.upd q .undef).upd q (.box cs)).put X0 (.ptr q [(0, 0)]) else (E.upd q .undef).upd q (.box cs)
section
variable {P : Program} {N : Nat} {o : Oper} {E : Env} {d : Nat} {xv : Nat → Value} {a : Act} {w : World} {S : Nat → Prop} {R : List Nat}
theorem Rel.box_val (r : Rel N xv E a w S R) {q : Nat} {cs : List FV} (hg : E.get q = .box cs) : ∃ b, valOf a xv q = .pointer (some ⟨b, 0, none⟩) := by
  obtain ⟨Rf, R2, h1, -⟩ := r.swap (d := q) (by rw [hg]; rfl)
  rw [hg] at h1
  generalize valOf a xv q = v at h1
  cases h1 with
  | @box b c T _ _ _ Rx Ry hb hr ht => exact ⟨b, rfl⟩
theorem box_ptr {h : Array Obj} {val : Nat → Value} {q b : Nat} {cs : List FV} (hg : E.get q = .box cs) (hv : val q = .pointer (some ⟨b, 0, none⟩)) {v : Value} (he : ptrAt h val E q [(0, 0)] = some v) : v = val q := by
  unfold ptrAt at he
  rw [hg] at he
  split at he
  · split at he
    · rename_i b' o' hl
      simp only [locate, hv, blockOf, FV.kids, List.getElem?_cons_zero, offOf, Nat.zero_mul, Nat.add_zero, Option.some.injEq, Prod.mk.injEq] at hl
      obtain ⟨rfl, rfl⟩ := hl
      rw [hv]; exact (Option.some.inj he).symm
    · cases he
  · cases he
theorem ptr_box {h : Array Obj} {val : Nat → Value} {q b : Nat} {c : FV} {cs : List FV} (hg : E.get q = .box (c :: cs)) (hv : val q = .pointer (some ⟨b, 0, none⟩)) : ptrAt h val E q [(0, 0)] = some (val q) := by
  unfold ptrAt
  rw [hg, hv]
  simp [getN, FV.kids, locate, blockOf, offOf]
theorem Rel.putPtr (r : Rel N xv E a w S R) {q t : Nat} {c : FV} {cs : List FV} (hg : E.get q = .box (c :: cs)) (ht : (E.get t).owned = false) (hta : E.get t = .undef) (hne : t ≠ q) (hv : valOf a xv t = valOf a xv q) : ∃ R', Rel N xv (E.put t (.ptr q [(0, 0)])) a w S R' ∧ ∀ b, b ∈ R' ↔ b ∈ R := by
  obtain ⟨b, hb⟩ := r.box_val hg
  have hso := r.sorted
  obtain ⟨R1, R2, h2, hp, h3, _⟩ := r.env.del t
  have h3 := h3 (by rw [hta]; rfl)
  rw [hta] at h3
  have hR1 : R1 = [] := by
    generalize valOf a xv t = v at h3
    cases h3 with
    | undef h => cases h; rfl
  subst hR1
  have hq : (E.put t (.ptr q [(0, 0)])).get q = E.get q := by rw [Env.get_put _ _ _ _ hso, if_neg hne]
  have hother : ∀ u, (E.get u).owned = true → (E.put t (.ptr q [(0, 0)])).get u = E.get u := fun u hu => by
    rw [Env.get_put _ _ _ _ hso, if_neg]
    intro e; subst e; rw [ht] at hu; cases hu
  have h4 : REnv w.heap S (valOf a xv) (E.put t (.ptr q [(0, 0)])) (E.del t) R2 := by
    refine h2.change (fun _ h => h) (Nat.le_refl _) (fun _ _ _ => rfl) (fun _ _ => rfl) (fun x hx => rfl) ?_ ?_ ?_ ?_ ?_
    · intro u q' p hm he; rw [hdrAt_congr p (hother _ (hdrAt_owned he)) rfl, he]
    · intro u q' p hm he; rw [ptrAt_congr p (hother _ (ptrAt_owned he)) rfl, he]
    · intro u g rs hm he; exact (cloAt_congr rs (fun x m => by rw [hother _ (cloAt_owned he x m)]) (fun x m => rfl)).trans he
    · intro u q' lo n sz hm he; rw [hother _ he.owned]; exact he
    · intro u q' p n hm he; rw [aggAt_congr p n (hother _ (aggAt_owned he)) rfl, he]
  obtain ⟨R', h5, h6⟩ := REnv.put hso h4 (t := t) (f := .ptr q [(0, 0)]) (R1 := []) (.inr ⟨rfl, .inr (.inl ⟨q, _, rfl, by rw [hv]; exact ptr_box (by rw [hq]; exact hg) hb⟩)⟩)
  have hpr : R'.Perm R := by simpa using h6.trans (by simpa using hp.symm)
  exact ⟨R', ⟨h5, Env.sorted_put hso _ _, hpr.nodup_iff.2 r.nodup, fun b hb => ⟨(r.sep b hb).1, fun m => (r.sep b hb).2 (hpr.mem_iff.1 m)⟩, r.size, r.small, r.nodef⟩, fun b => hpr.mem_iff⟩
theorem upd_get_self (hso : E.Sorted) (q : Nat) (f : FV) : (E.upd q f).get q = f := by
  unfold Env.upd; rw [Env.get_put _ _ _ _ (Env.clear_sorted hso q), if_pos rfl]
theorem Rel.reb {E : Env} {q : Nat} {c : FV} {cs : List FV} {Ra R0 : List Nat} {cs0 : List FV} (hso : E.Sorted) (hq0 : E.get q = .box cs0) (hX : q ≠ X0) (r : Rel N xv (E.upd q .undef) a w S R0) (hv : isRoot q (E.get X0) = true → valOf a xv X0 = valOf a xv q)
    (hrep : Rep w.heap S [valOf a xv q] [.box (c :: cs)] Ra) (hnd : Ra.Nodup) (hdis : ∀ b ∈ Ra, b ∉ R0) (hsep : ∀ b, S b → b ∉ Ra) : ∃ R', Rel N xv (E.reb q (c :: cs)) a w S R' ∧ ∀ b, b ∈ R' ↔ (b ∈ Ra ∨ b ∈ R0) := by
  have hu : (E.upd q .undef).get q = .undef := upd_get_self hso q _
  obtain ⟨Rf, R2, h1, h2, h3⟩ := r.swap (d := q) (by rw [hu]; rfl)
  rw [hu] at h1
  have hRf : Rf = [] := by
    generalize valOf a xv q = v at h1
    cases h1 with
    | undef h => cases h; rfl
  subst hRf
  have hp : ∀ b, b ∈ R0 ↔ b ∈ R2 := fun b => by simpa using h2.mem_iff (a := b)
  obtain ⟨R', h4, h5⟩ := h3 (S' := S) (f := .box (c :: cs)) (Rg := Ra) hrep (fun _ h => h) (fun b hb => ⟨(r.sep b hb).1, hsep b hb, fun m => (r.sep b hb).2 ((hp b).2 m)⟩) hnd (fun b m m' => hdis b m ((hp b).2 m'))
  have hmem : ∀ b, b ∈ R' ↔ (b ∈ Ra ∨ b ∈ R0) := fun b => by rw [h5.mem_iff, List.mem_append, hp b]
  unfold Env.reb
  by_cases hr : isRoot q (E.get X0) = true
  · rw [if_pos hr]
    have hso1 := r.sorted
    have e1 : ((E.upd q .undef).upd q (.box (c :: cs))).get X0 = .undef := by
      unfold Env.upd
      rw [Env.get_put _ _ _ _ (Env.clear_sorted (Env.sorted_put (Env.clear_sorted hso q) _ _) q), if_neg hX]
      have e0 : (E.clear q).get X0 = .undef := by
        unfold Env.clear
        rw [hq0, if_pos (show (FV.box cs0).owned = true from rfl), Env.get_mapV _ _ rfl, isRoot_eq hr]
        simp [unroot]
      have e2 : ((E.clear q).put q .undef).get X0 = .undef := by
        rw [Env.get_put _ _ _ _ (Env.clear_sorted hso q), if_neg hX]; exact e0
      rw [Env.clear_get _ _ _ (by rw [e2]; rfl)]
      exact e2
    obtain ⟨R'', h6, h7⟩ := h4.putPtr (q := q) (t := X0) (upd_get_self r.sorted q _) (by rw [e1]; rfl) e1 (fun e => hX e.symm) (hv hr)
    exact ⟨R'', h6, fun b => (h7 b).trans (hmem b)⟩
  · rw [if_neg hr]
    exact ⟨R', h4, hmem⟩
theorem ok_callX {f : FuncId} {args : Array Operand} {ts : Array TypeId} {s : Sr} {q : Nat} {ss : List (Bool × Sr)} {c0 cs : List FV} {K : Env → Prop} (ho : o.op = .call { callee := .value (.func f), args := args, argTypes := ts }) (hd : o.dst = some d) (hdN : d < N)
    (hf : isFn P f = true) (hs : List.all (((false, s) :: ss).zip args.toList) (fun y => y.1.2.fits N y.2) = true) (hl : ss.length + 1 = args.toList.length) (hsl : isRoot q (E.look s) = true) (hX : q ≠ X0) (hg0 : E.get q = .box c0) (hg : (E.passM ss).2.get q = .box cs) (hcs : 0 < cs.length)
    (hc : FMutB P f cs (E.passM ss).1 (fun cs' r => K (((E.passM ss).2.reb q cs').upd d r))) : OpOkA P N o E K := by
  intro xv a w S R hA r
  unfold Oper.wp
  rw [run_call ho hf]
  obtain ⟨x0, xs, hx⟩ : ∃ x xs, args.toList = x :: xs := by
    match h : args.toList, hl with
    | x :: xs, _ => exact ⟨x, xs, rfl⟩
  rw [hx] at hs hl ⊢
  simp only [List.zip_cons_cons, List.all_cons, Bool.and_eq_true] at hs
  have lk := looked r hs.1
  rw [isRoot_eq hsl] at lk
  obtain ⟨b0, hb0⟩ := r.box_val hg0
  have hv : a.eval x0 = valOf a xv q := by
    generalize hvx : a.eval x0 = v at lk
    cases lk with
    | closed h => have := h.noalias _ (List.mem_singleton.2 rfl); cases this
    | ptr h => exact box_ptr hg0 hb0 h
  simp only [List.map_cons, hv]
  obtain ⟨S1, Rf, R1, p⟩ := passedM r hs.2 (by simpa using hl)
  obtain ⟨Rb, R2, h1, h2, h3⟩ := p.rel.swap (d := q) (by rw [hg]; rfl)
  rw [hg] at h1
  have hnd := h2.nodup_iff.1 p.rel.nodup
  obtain ⟨R', h4, h5⟩ := h3 (S' := S1) (f := .undef) (Rg := []) (.undef .nil) (fun _ h => h) (fun b hb => ⟨(p.rel.sep b hb).1, by simp, fun m => (p.rel.sep b hb).2 (h2.mem_iff.2 (by simp [m]))⟩) (by simp) (by simp)
  have hR' : ∀ b, b ∈ R' → b ∈ R2 := fun b m => by simpa using h5.mem_iff.1 m
  have hbR1 : ∀ b ∈ Rb, b ∈ R1 := fun b m => h2.mem_iff.2 (by simp [m])
  have hR'R1 : ∀ b ∈ R', b ∈ R1 := fun b m => h2.mem_iff.2 (by simp [hR' b m])
  have hapb : ∀ b ∈ Rb, b ∉ R' := fun b m m' => (List.nodup_append.1 hnd).2.2 b m b (hR' b m') rfl
  have hin : (Rb ++ Rf).Nodup := List.nodup_append.2 ⟨(List.nodup_append.1 hnd).1, p.nodup, fun b m b' m' e => (p.apart b' m').1 (e ▸ hbR1 b m)⟩
  have hXv : isRoot q ((E.passM ss).2.get X0) = true → valOf a xv X0 = valOf a xv q := fun hr => box_ptr hg hb0 (p.rel.get_ptr (isRoot_eq hr))
  refine (hc.out (hA.seals p.seals) (h1.cons p.rep) hin (fun b hb => ⟨(p.rel.sep b hb).1, fun m => by
    rcases List.mem_append.1 m with m | m
    · exact (p.rel.sep b hb).2 (hbR1 b m)
    · exact (p.apart b m).2 hb⟩)).mono ?_
  rintro e w' ⟨u, r0, cs', S2, R3, rfl, ⟨hlen, hk⟩, hrep, hnd3, hsep, ext⟩
  show Post N xv K w S R (a.put o.dst u) w'
  rw [hd]
  obtain ⟨Ra, Rr, k1, k2, rfl⟩ := hrep.cons_inv
  have hnd4 := List.nodup_append.1 hnd3
  have hout : ∀ b ∈ R', b ∉ Rb ++ Rf := fun b m m' => by
    rcases List.mem_append.1 m' with m' | m'
    · exact hapb b m' m
    · exact (p.apart b m').1 (hR'R1 b m)
  have r1 := h4.world ext.grow (fun b hb hS => ext.keep b hb (fun m => by
    rcases List.mem_append.1 m with m | m
    · exact (p.rel.sep b hS).2 (hbR1 b m)
    · exact (p.apart b m).2 hS)) (fun b m => ext.keep b (h4.env.lt b m) (hout b m))
  have hnew : ∀ b ∈ Ra ++ Rr, b ∉ R' := fun b m m' => by
    rcases ext.owns b m with h | h
    · exact hout b m' h
    · have := h4.env.lt b m'; omega
  have r2 : Rel N xv ((E.passM ss).2.upd q .undef) a w' S2 R' := r1.seals ext.seals fun b hb => ⟨(hsep b hb).1, fun m => by
    rcases ext.news b hb with h | h | h
    · exact (p.rel.sep b h).2 (hR'R1 b m)
    · exact hout b m h
    · have := h4.env.lt b m; omega⟩
  obtain ⟨c, cs1, rfl⟩ : ∃ c cs1, cs' = c :: cs1 := by
    match cs', hlen with
    | [], h => simp at h; omega
    | c :: cs1, _ => exact ⟨c, cs1, rfl⟩
  obtain ⟨R5, r5, h6⟩ := Rel.reb p.rel.sorted hg hX r2 hXv k1 hnd4.1 (fun b m => hnew b (by simp [m])) (fun b hb m => (hsep b hb).2 (by simp [m]))
  obtain ⟨R6, r6, h7⟩ := r5.upd hdN k2 (fun b m => ⟨fun m' => by
    rcases (h6 b).1 m' with m' | m'
    · exact hnd4.2.2 b m' b m rfl
    · exact hnew b (by simp [m]) m', fun hb => (hsep b hb).2 (by simp [m])⟩) hnd4.2.1
  have hsubRbf : ∀ b ∈ Rb ++ Rf, b ∈ R := fun b m => by
    rcases List.mem_append.1 m with m | m
    · exact p.sub b (hbR1 b m)
    · exact p.subf b m
  refine ⟨_, S2, R6, hk, r6, ⟨fun b hb => ext.seals b (p.seals b hb), ?_, ?_, ext.grow, ?_, ext.os, ext.tape, ext.output, ext.spare⟩⟩
  · intro b hb
    rcases ext.news b hb with h | h | h
    · exact (p.news b h).imp id .inl
    · exact .inr (.inl (hsubRbf b h))
    · exact .inr (.inr h)
  · exact fun b hb hn => ext.keep b hb fun m => hn (hsubRbf b m)
  · intro b m
    have fin : ∀ b ∈ Ra ++ Rr, b ∈ R ∨ w.heap.size ≤ b := fun b m => by
      rcases ext.owns b m with h | h
      · exact .inl (hsubRbf b h)
      · exact .inr h
    rcases h7 b m with h | h
    · exact fin b (by simp [h])
    · rcases (h6 b).1 h with h | h
      · exact fin b (by simp [h])
      · exact .inl (p.sub b (hR'R1 b h))
end
end Go.Fm
set_option linter.unusedVariables false
set_option linter.unusedSimpArgs false
namespace Go.Fm
open Go
inductive FK where
  | op (f : FOp)
  | call (f : FuncId) (ss : List (Bool × Sr))
  | callB (f : FuncId) (ss : List Sr)
  | callL (f : FuncId) (ss : List Sr)
  | callV (s : Sr) (ss : List Sr)
  | callF (s : Sr) (ss : List (Bool × Sr))
  | callM (f : FuncId) (s : Sr) (q : Nat)
  | isNil (neg : Bool) (s : Sr)
  /-- a value that owns nothing goes into the box of the slot, as a whole -/
  | storeW (s : Sr) (n : Nat)
  /-- a method that writes into the box of its receiver -/
  | callX (f : FuncId) (s : Sr) (ss : List (Bool × Sr))
structure FO where
  d : Nat
  k : FK
  /-- the slot that says whether it is done -/
  g : Option (Nat × Bool) := none
def skipped : FV := .tup []
def FK.isStore : FK → Bool
  | .op f => f.isStore
  | .storeW _ _ => true
  | _ => false
def FK.chk (P : Program) (N : Nat) (k : FK) (d : Nat) (o : Oper) : Bool :=
  match k with
  | .op f => f.chk P N o.op && dstOk N f d o
  | .call f ss => match o.op with
    | .call { callee := .value (.func g), args, argTypes := _ } => f == g && (isFn P f && (ss.length == args.toList.length && (List.all (ss.zip args.toList) (fun y => y.1.2.fits N y.2) && (o.dst == some d && decide (d < N)))))
    | _ => false
  | .callB f ss | .callL f ss => match o.op with
    | .call { callee := .value (.func g), args, argTypes := _ } => f == g && (isFn P f && (ss.length == args.toList.length && (List.all (ss.zip args.toList) (fun y => y.1.fits N y.2) && (o.dst == some d && decide (d < N)))))
    | _ => false
  | .callV s ss => match o.op with
    | .call { callee := .value x, args, argTypes := _ } => s.fits N x && (ss.length == args.toList.length && (List.all (ss.zip args.toList) (fun y => y.1.fits N y.2) && (o.dst == some d && decide (d < N))))
    | _ => false
  | .callF s ss => match o.op with
    | .call { callee := .value x, args, argTypes := _ } => s.fits N x && (ss.length == args.toList.length && (List.all (ss.zip args.toList) (fun y => y.1.2.fits N y.2) && (o.dst == some d && decide (d < N))))
    | _ => false
  | .callM f s q => match o.op with
    | .call { callee := .value (.func g), args, argTypes := _ } => f == g && (isFn P f && (args.toList.length == 1 && (List.all ([s].zip args.toList) (fun y => y.1.fits N y.2) && (decide (q < N) && (o.dst == some d && decide (d < N))))))
    | _ => false
  | .callX f s ss => match o.op with
    | .call { callee := .value (.func g), args, argTypes := _ } => f == g && (isFn P f && (ss.length + 1 == args.toList.length && (List.all (((false, s) :: ss).zip args.toList) (fun y => y.1.2.fits N y.2) && (o.dst == some d && decide (d < N)))))
    | _ => false
  | .isNil neg s => match o.op with
    | .binOp bo t x (.const (.slice none 0 0)) _ => bo == (if neg then .neq else .eql) && (s.fits N x && (isSliceT P t && (o.dst == some d && decide (d < N))))
    | _ => false
  | .storeW s n => match o.op with
    | .store t (.tmp q) y => q == d && (decide (d < N) && (s.fits N y && (sizeIs P t n && o.dst == none)))
    | _ => false
def guardOk (N : Nat) (ops : List Oper) (f : FO) (o : Oper) : Bool :=
  match f.g, o.guard with
  | none, none => true
  | some (t, want), some (j, want') => want == want' && (decide (t < N) && ((ops[j]?).bind (·.dst) == some t && (!f.k.isStore && (o.dst == some f.d && decide (f.d < N)))))
  | _, _ => false
def FO.chk (P : Program) (N : Nat) (ops : List Oper) (f : FO) (o : Oper) : Bool := f.k.chk P N f.d o && guardOk N ops f o
def chkL (P : Program) (N : Nat) (ops : List Oper) : List FO → List Oper → Bool
  | [], [] => true
  | f :: fs, o :: os => f.chk P N ops o && chkL P N ops fs os
  | _, _ => false
def rootOf : FV → Nat
  | .ptr r _ => r
  | _ => 0
def boxOf : FV → List FV
  | .box cs => cs
  | _ => []
theorem isBox_eq {f : FV} (h : f.isBox = true) : f = .box (boxOf f) := by cases f <;> first | rfl | cases h
def runK (P : Program) (k : FK) (d : Nat) (E : Env) (J : Env → Prop) : Prop :=
  match k with
  | .op f => ∃ E', f.eval E d = some E' ∧ J E'
  | .call f ss => FCall P f (E.passM ss).1 (fun r => J ((E.passM ss).2.upd d r))
  | .callB f ss => FCall P f (ss.map E.lend) (fun r => r.free = true ∧ J (E.upd d r))
  | .callL f ss => (ss.all fun s => !(E.look s).alias) = true ∧ FCall P f (ss.map E.look) (fun r => J (E.upd d r))
  | .callV s ss => match E.lend s with
    | .fn g cap => isFn P g = true ∧ FCall P g (ss.map E.lend ++ cap) (fun r => r.free = true ∧ J (E.upd d r))
    | _ => False
  | .callF s ss => match E.lend s with
    | .fn g cap => cap = [] ∧ isFn P g = true ∧ FCall P g (E.passM ss).1 (fun r => J ((E.passM ss).2.upd d r))
    | _ => False
  | .callX f s ss => isRoot (rootOf (E.look s)) (E.look s) = true ∧ rootOf (E.look s) ≠ X0 ∧ (E.get (rootOf (E.look s))).isBox = true ∧ ((E.passM ss).2.get (rootOf (E.look s))).isBox = true ∧ 0 < (boxOf ((E.passM ss).2.get (rootOf (E.look s)))).length ∧
    FMutB P f (boxOf ((E.passM ss).2.get (rootOf (E.look s)))) (E.passM ss).1 (fun cs' r => J (((E.passM ss).2.reb (rootOf (E.look s)) cs').upd d r))
  | .callM f s q => E.look s = .al q [] ∧ ∃ es, E.get q = .arr es ∧ FMut P f es (fun es' => J (((E.upd q .undef).upd q (.arr es')).upd d (.tup [])))
  | .isNil neg s => nilOn E (E.look s) neg fun b => J (E.upd d (.bool b))
  | .storeW s n => ∃ E1, stG E (E.look s) (.t d) n = some E1 ∧ (E.look s).alias = false ∧ J E1
def runOps (P : Program) : List FO → Env → (Env → Prop) → Prop
  | [], E, J => J E
  | f :: r, E, J => match f.g with
    | none => runK P f.k f.d E (fun E' => runOps P r E' J)
    | some (t, want) => match E.get t with
      | .bool b => (b = want → runK P f.k f.d E (fun E' => runOps P r E' J)) ∧ (b ≠ want → runOps P r (E.upd f.d skipped) J)
      | .tup [] => runOps P r (E.upd f.d skipped) J
      | _ => False
section
variable {P : Program} {N : Nat} {E : Env} {xv : Nat → Value} {a : Act} {w : World} {S : Nat → Prop} {R : List Nat}
theorem runK_ok {k : FK} {d : Nat} {o : Oper} {J : Env → Prop} (hc : k.chk P N d o = true) (h : runK P k d E J) : OpOkA P N o E J := by
  cases k with
  | op f =>
    simp only [FK.chk, Bool.and_eq_true] at hc
    obtain ⟨E', h1, h2⟩ := h
    exact fun _ r => OpOk.mono (fun r => FOp.sound hc.1 hc.2 h1 r) (fun E'' e => e ▸ h2) r
  | call f ss =>
    simp only [FK.chk] at hc
    split at hc <;> try (cases hc; done)
    rename_i g args ts heq
    simp only [Bool.and_eq_true, beq_iff_eq, decide_eq_true_eq] at hc
    obtain ⟨rfl, h1, h2, h3, h4, h5⟩ := hc
    exact ok_call heq h4 h5 h1 h3 h2 h
  | callB f ss =>
    simp only [FK.chk] at hc
    split at hc <;> try (cases hc; done)
    rename_i g args ts heq
    simp only [Bool.and_eq_true, beq_iff_eq, decide_eq_true_eq] at hc
    obtain ⟨rfl, h1, h2, h3, h4, h5⟩ := hc
    exact ok_callB heq h4 h5 h1 h3 h2 h
  | callL f ss =>
    simp only [FK.chk] at hc
    split at hc <;> try (cases hc; done)
    rename_i g args ts heq
    simp only [Bool.and_eq_true, beq_iff_eq, decide_eq_true_eq] at hc
    obtain ⟨rfl, h1, h2, h3, h4, h5⟩ := hc
    exact ok_callL heq h4 h5 h1 h3 h2 h.1 h.2
  | callV s ss =>
    simp only [FK.chk] at hc
    split at hc <;> try (cases hc; done)
    rename_i x args ts heq
    simp only [Bool.and_eq_true, beq_iff_eq, decide_eq_true_eq] at hc
    obtain ⟨h1, h2, h3, h4, h5⟩ := hc
    simp only [runK] at h
    split at h
    · rename_i g cap hg
      exact ok_callV heq h4 h5 h1 hg h.1 h3 h2 h.2
    · exact h.elim
  | callF s ss =>
    simp only [FK.chk] at hc
    split at hc <;> try (cases hc; done)
    rename_i x args ts heq
    simp only [Bool.and_eq_true, beq_iff_eq, decide_eq_true_eq] at hc
    obtain ⟨h1, h2, h3, h4, h5⟩ := hc
    simp only [runK] at h
    split at h
    · rename_i g cap hg
      obtain ⟨rfl, h6, h7⟩ := h
      exact ok_callF heq h4 h5 h1 hg h6 h3 h2 h7
    · exact h.elim
  | callM f s q =>
    simp only [FK.chk] at hc
    split at hc <;> try (cases hc; done)
    rename_i g args ts heq
    simp only [Bool.and_eq_true, beq_iff_eq, decide_eq_true_eq] at hc
    obtain ⟨rfl, h1, h2, h3, h4, h5, h6⟩ := hc
    obtain ⟨h7, es, h8, h9⟩ := h
    exact ok_callM heq h5 h6 h1 h3 h2 h4 h7 h8 h9
  | callX f s ss =>
    simp only [FK.chk] at hc
    split at hc <;> try (cases hc; done)
    rename_i g args ts heq
    simp only [Bool.and_eq_true, beq_iff_eq, decide_eq_true_eq] at hc
    obtain ⟨rfl, h1, h2, h3, h4, h5⟩ := hc
    obtain ⟨g1, g2, g3, g4, g5, g6⟩ := h
    exact ok_callX heq h4 h5 h1 h3 h2 g1 g2 (isBox_eq g3) (isBox_eq g4) g5 g6
  | isNil neg s =>
    simp only [FK.chk] at hc
    split at hc <;> try (cases hc; done)
    rename_i op t x u heq
    simp only [Bool.and_eq_true, beq_iff_eq, decide_eq_true_eq] at hc
    obtain ⟨rfl, h1, h2, h3, h4⟩ := hc
    exact ok_isNil heq h3 h4 h1 h2 h
  | storeW s n =>
    simp only [FK.chk] at hc
    split at hc <;> try (cases hc; done)
    rename_i t q y heq
    simp only [Bool.and_eq_true, beq_iff_eq, decide_eq_true_eq] at hc
    obtain ⟨rfl, h1, h2, h3, h4⟩ := hc
    obtain ⟨E1, h5, h6, h7⟩ := h
    exact fun _ r => OpOk.mono (fun r => ok_storeL (ad := .t q) heq h4 (by simp [Sr.fits, h1]) h2 h3 h6 h5 r) (fun E'' e => e ▸ h7) r
theorem wp_widen {o : Oper} {K K' : Act → World → Prop} {Q : Exit → Act → World → Prop} (h : o.wp P a w K (fun _ _ _ => False)) (hk : ∀ a w, K a w → K' a w) : o.wp P a w K' Q := by
  unfold Oper.wp at *
  revert h
  generalize (execOp a.eval o).run P w = x
  intro h1
  cases x with
  | ok n w' =>
    cases n <;> simp only [Oper.upon] at h1 ⊢
    case enter f args =>
      refine h1.mono fun e w'' he => ?_
      cases e with
      | returned v => exact hk _ _ he
      | panicked c => exact he.elim
      | outgrown => obtain ⟨_, _, he⟩ := he; exact he.elim
    case row row args => exact h1.mono fun v w'' he => hk _ _ he
    all_goals first | exact hk _ _ h1 | exact h1.elim
  | halt x w' => cases x <;> simp only [Oper.upon] at h1 ⊢
theorem Rel.skip (r : Rel N xv E a w S R) {d : Nat} (hd : d < N) : ∃ R', Rel N xv (E.upd d skipped) (a.put (some d) undef) w S R' ∧ Ext w S R w S R' := by
  obtain ⟨R', h1, h2⟩ := r.upd hd (v := undef) (f := skipped) (Rf := []) (by
    have : Rep w.heap S [.tuple (List.toArray [])] [.tup []] ([] ++ []) := .tup .nil .nil
    exact this) (by simp) (by simp)
  exact ⟨R', h1, Ext.refl _ _ _ _ fun b m => by rcases h2 b m with h | h; simp at h; exact h⟩
theorem reg_ok {ops : List Oper} {Q : Exit → Act → World → Prop} {J : Env → Prop} : ∀ {fs : List FO} {l : List Oper} {E : Env} {a : Act} {w : World} {S : Nat → Prop} {R : List Nat}, Amb P w S → Rel N xv E a w S R → chkL P N ops fs l = true → runOps P fs E J →
    (∀ a' w', Post N xv J w S R a' w' → Q .normal a' w') → wpList P ops.toArray Q l a w
  | [], [], E, a, w, S, R, _, r, _, h, hq => hq a w ⟨E, S, R, h, r, Ext.refl _ _ _ _ fun _ h => h⟩
  | _ :: _, [], _, _, _, _, _, _, _, hc, _, _ => by simp [chkL] at hc
  | [], _ :: _, _, _, _, _, _, _, _, hc, _, _ => by simp [chkL] at hc
  | f :: fs, o :: l, E, a, w, S, R, hA, r, hc, h, hq => by
    simp only [chkL, FO.chk, Bool.and_eq_true] at hc
    obtain ⟨⟨hk, hg⟩, hc⟩ := hc
    have go : runK P f.k f.d E (fun E' => runOps P fs E' J) → o.wp P a w (wpList P ops.toArray Q l) Q := fun h1 => by
      refine wp_widen (runK_ok hk h1 hA r) fun a' w' hp => ?_
      obtain ⟨E', S', R', k, r', e⟩ := hp
      exact reg_ok (hA.ext e r.sep) r' hc k fun a2 w2 p => hq a2 w2 (Post.trans e p)
    have skip : o.dst = some f.d → f.d < N → runOps P fs (E.upd f.d skipped) J → wpList P ops.toArray Q l (a.put o.dst undef) w := fun h1 h2 h3 => by
      obtain ⟨R', h4, h5⟩ := r.skip h2
      rw [h1]
      exact reg_ok hA h4 hc h3 fun a2 w2 p => hq a2 w2 (Post.trans h5 p)
    unfold wpList
    unfold guardOk at hg
    unfold runOps at h
    cases hfg : f.g with
    | none =>
      rw [hfg] at hg h
      cases hog : o.guard with
      | some x => rw [hog] at hg; cases hg
      | none =>
      simp only at h
      rw [if_pos (by simp [Region.wanted, hog])]
      exact .inl (go h)
    | some x =>
      obtain ⟨t, want⟩ := x
      rw [hfg] at hg h
      cases hog : o.guard with
      | none => rw [hog] at hg; cases hg
      | some y =>
      obtain ⟨j, want'⟩ := y
      rw [hog] at hg
      simp only [Bool.and_eq_true, beq_iff_eq, decide_eq_true_eq] at hg
      obtain ⟨rfl, ht, hj, _, hd, hdN⟩ := hg
      have hv : yielded ops.toArray a.tmps j = match a.tmps[t]? with | some (.bool b) => some b | _ => none := by
        unfold yielded
        have : (ops.toArray[j]?).bind (·.dst) = some t := by simpa using hj
        rw [this]
        rfl
      have hsz : t < a.tmps.size := by rw [r.size]; exact ht
      have hval := eval_val (a := a) (xv := xv) r.small ht
      have hget : a.tmps[t]? = some (valOf a xv t) := by
        rw [hval]
        simp [Act.eval, hsz]
      rw [hget] at hv
      simp only at h
      cases hE : E.get t with
      | bool b =>
        rw [hE] at h
        simp only at h
        obtain ⟨R1, _, h1, _⟩ := r.get0 t hE rfl
        have hb : valOf a xv t = .bool b := by
          generalize valOf a xv t = v at h1
          cases h1; rfl
        rw [hb] at hv
        simp only at hv
        by_cases hbw : b = want
        · rw [if_pos (by simp [Region.wanted, hog, hv, hbw])]
          exact .inl (go (h.1 hbw))
        · rw [if_neg (by simp [Region.wanted, hog, hv, hbw])]
          exact skip hd hdN (h.2 hbw)
      | tup vs =>
        rw [hE] at h
        cases vs with
        | cons _ _ => exact h.elim
        | nil =>
        simp only at h
        obtain ⟨R1, _, h1, _⟩ := r.get0 t hE rfl
        have hb : ∃ z, valOf a xv t = .tuple z := by
          generalize valOf a xv t = v at h1
          cases h1; exact ⟨_, rfl⟩
        obtain ⟨z, hb⟩ := hb
        rw [hb] at hv
        simp only at hv
        rw [if_neg (by simp [Region.wanted, hog, hv])]
        exact skip hd hdN h
      | _ => rw [hE] at h; exact h.elim
theorem CodeOk.region {id : Nat} {ops : List Oper} {fs : List FO} {K : Exit → Env → Prop} (hc : chkL P N ops fs ops = true) (h : runOps P fs E (K .normal)) : CodeOk P N (.region id ops.toArray false) E K := by
  intro xv a w S R hA r
  exact wp_region_lit (reg_ok hA r hc h fun a' w' p => p)
def Env.kill (E : Env) (k : Nat) : Env := (E.clear k).del k
def Env.kills (E : Env) (ks : List Nat) : Env := ks.foldl Env.kill E
theorem Rel.kill (r : Rel N xv E a w S R) (d : Nat) : ∃ R', Rel N xv (E.kill d) a w S R' ∧ ∀ b ∈ R', b ∈ R := by
  have hso := r.sorted
  have hclr := Env.clear_mem hso r.env d
  have e1 : REnv w.heap S (valOf a xv) E (E.clear d) R := by
    unfold Env.clear
    split
    · exact r.env.mapV _ (fun f h => unroot_alias d f h) (fun f h => unroot_alias2 d f h)
    · exact r.env
  obtain ⟨R1, R2, h2, hp, _, _⟩ := e1.del d
  have hsd := Env.sorted_del (Env.clear_sorted hso d) d
  have hgetq : ∀ q, q ≠ d → (E.get q).owned = true → (E.kill d).get q = E.get q := fun q hq ho => by
    unfold Env.kill
    rw [Env.get_del _ _ _ (Env.clear_sorted hso d), if_neg (fun e => hq e.symm), Env.clear_get]
    cases hg : E.get q <;> rw [hg] at ho <;> first | rfl | cases ho
  have h3 : REnv w.heap S (valOf a xv) (E.kill d) (E.kill d) R2 := by
    refine h2.change (fun _ h => h) (Nat.le_refl _) (fun _ _ _ => rfl) (fun _ _ => rfl) (fun x hx => rfl) ?_ ?_ ?_ ?_ ?_
    · intro t q p hm he
      have := (hclr.1 t q p (hsd.2 _ hm).1).1
      rw [hdrAt_congr p (hgetq q this (hdrAt_owned he)) rfl, he]
    · intro t q p hm he
      have := (hclr.2.1 t q p (hsd.2 _ hm).1).1
      rw [ptrAt_congr p (hgetq q this (ptrAt_owned he)) rfl, he]
    · intro t g rs hm he
      have := (hclr.2.2.1 t g rs (hsd.2 _ hm).1).1
      have hne : ∀ q ∈ rs, q ≠ d := fun q m e => this (e ▸ m)
      exact (cloAt_congr rs (fun q m => by rw [hgetq q (hne q m) (cloAt_owned he q m)]) (fun q m => rfl)).trans he
    · intro t q lo n sz hm he
      have := (hclr.2.2.2.1 t q lo n sz (hsd.2 _ hm).1).1
      rw [hgetq q this he.owned]; exact he
    · intro t q p n hm he
      have := (hclr.2.2.2.2 t q p n (hsd.2 _ hm).1).1
      rw [aggAt_congr p n (hgetq q this (aggAt_owned he)) rfl, he]
  have hnd2 : (R1 ++ R2).Nodup := hp.nodup_iff.1 r.nodup
  have hsub : ∀ b ∈ R2, b ∈ R := fun b m => hp.mem_iff.2 (by simp [m])
  exact ⟨R2, ⟨h3, hsd.1, (List.nodup_append.1 hnd2).2.1, fun b hb => ⟨(r.sep b hb).1, fun m => (r.sep b hb).2 (hsub b m)⟩, r.size, r.small, r.nodef⟩, hsub⟩
theorem Rel.kills : ∀ (ks : List Nat) {E : Env} {R : List Nat} (r : Rel N xv E a w S R), ∃ R', Rel N xv (E.kills ks) a w S R' ∧ ∀ b ∈ R', b ∈ R
  | [], E, R, r => ⟨R, r, fun _ h => h⟩
  | k :: ks, E, R, r => by
    obtain ⟨R1, r1, h1⟩ := r.kill k
    obtain ⟨R2, r2, h2⟩ := Rel.kills ks r1
    exact ⟨R2, r2, fun b m => h1 b (h2 b m)⟩
theorem CodeOk.kill {c : Code} {K : Exit → Env → Prop} (ks : List Nat) (h : CodeOk P N c (E.kills ks) K) : CodeOk P N c E K := by
  intro xv a w S R hA r
  obtain ⟨R', r', hs⟩ := r.kills ks
  exact wp_mono (h hA r') fun e a' w' p => Post.trans (Ext.refl _ _ _ _ hs) p
end
end Go.Fm
set_option linter.unusedVariables false
set_option linter.unusedSimpArgs false
namespace Go.Fm
open Go
def entryFrom : Nat → List FV → Env
  | _, [] => []
  | i, f :: fs => (i, f) :: entryFrom (i + 1) fs
theorem entry_mem : ∀ {fs : List FV} {i : Nat} {x : Nat × FV}, x ∈ entryFrom i fs → i ≤ x.1
  | [], _, _, h => by simp [entryFrom] at h
  | f :: fs, i, x, h => by
    simp only [entryFrom, List.mem_cons] at h
    rcases h with rfl | h
    · exact Nat.le_refl _
    · have := entry_mem h; omega
theorem entry_sorted : ∀ (fs : List FV) (i : Nat), (entryFrom i fs).Sorted
  | [], _ => List.Pairwise.nil
  | f :: fs, i => List.Pairwise.cons (fun x h => by have := entry_mem h; simp only; omega) (entry_sorted fs (i + 1))
theorem entry_renv {h : Array Obj} {S : Nat → Prop} {val : Nat → Value} {E : Env} : ∀ {fs : List FV} {vs : List Value} {R : List Nat} {i : Nat}, Rep h S vs fs R → (∀ k v, vs[k]? = some v → val (i + k) = v) → REnv h S val E (entryFrom i fs) R
  | [], vs, R, i, r, hv => by cases r; exact .nil
  | f :: fs, [], R, i, r, hv => by have := r.length; simp at this
  | f :: fs, v :: vs, R, i, r, hv => by
    obtain ⟨R1, R2, h1, h2, rfl⟩ := r.cons_inv
    refine .own (by have := hv 0 v (by simp); simp only [Nat.add_zero] at this; rw [this]; exact h1) (entry_renv h2 fun k u hk => ?_)
    have := hv (k + 1) u (by simpa using hk)
    rw [← this]; congr 1; omega
inductive RV where
  | t (n : Nat)
  | c (n size : Nat) (agg : Bool)
def RV.out (E : Env) : RV → Option (FV × Env)
  | .t n => some (E.pass true (.t n))
  | .c n size agg => match E.get n with
    | .box cs => if cs.length = size then (if agg then some (.agg cs, E.upd n .undef) else match cs with
        | [x] => some (x, E.upd n .undef)
        | _ => none) else none
    | _ => none
def outs (E : Env) : List RV → Option (List FV × Env)
  | [] => some ([], E)
  | r :: rs => match r.out E with
    | some (f, E1) => match outs E1 rs with
      | some (fs, E2) => some (f :: fs, E2)
      | none => none
    | none => none
def RV.chk (P : Program) (N : Nat) : RV → ResultVar → Bool
  | .t n, .tmp m => n == m && decide (n < N)
  | .c n size agg, .cell m ty => n == m && (decide (n < N) && (isAggT P ty == some agg && sizeIs P ty size))
  | _, _ => false
inductive All2 {α β : Type} (r : α → β → Prop) : List α → List β → Prop
  | nil : All2 r [] []
  | cons {x y xs ys} : r x y → All2 r xs ys → All2 r (x :: xs) (y :: ys)
def oneV (vs : List Value) : Value :=
  match vs with
  | [v] => v
  | vs => .tuple vs.toArray
def one (fs : List FV) : FV :=
  match fs with
  | [f] => f
  | _ => .tup fs
section
variable {P : Program} {N : Nat} {xv : Nat → Value} {a : Act} {w : World}
def rvRun (a : Act) : ResultVar → Sem Value
  | .tmp t => pure (a.tmps.getD t undef)
  | .cell b t => do loadVar t (← asAddr (a.tmps.getD b undef))
theorem out1 {E : Env} {S : Nat → Prop} {R : List Nat} (r : Rel N xv E a w S R) {q : RV} {x : ResultVar} (hc : q.chk P N x = true) {f : FV} {E' : Env} (h : q.out E = some (f, E')) :
    ∃ v S' Rf R', (rvRun a x).run P w = .ok v w ∧ Passed N xv a w S R v f E' S' Rf R' := by
  cases q with
  | t n =>
    cases x <;> simp only [RV.chk, Bool.false_eq_true] at hc
    simp only [Bool.and_eq_true, beq_iff_eq, decide_eq_true_eq] at hc
    obtain ⟨rfl, hn⟩ := hc
    obtain ⟨S', Rf, R', p⟩ := passed r (s := .t n) (x := .tmp n) (by simp [Sr.fits, hn]) true
    simp only [RV.out, Option.some.injEq] at h
    rw [h] at p
    exact ⟨_, S', Rf, R', rfl, p⟩
  | c n size agg =>
    cases x <;> simp only [RV.chk, Bool.false_eq_true] at hc
    rename_i m t
    simp only [Bool.and_eq_true, beq_iff_eq, decide_eq_true_eq] at hc
    obtain ⟨rfl, hn, ha, hs⟩ := hc
    simp only [RV.out] at h
    cases hg : E.get n <;> rw [hg] at h <;> try (cases h; done)
    rename_i cs
    simp only at h
    split at h <;> try (cases h; done)
    rename_i hlen
    obtain ⟨Rf, R2, h1, h2, h3⟩ := r.swap (d := n) (by rw [hg]; rfl)
    rw [hg] at h1
    have hval := eval_val (a := a) (xv := xv) r.small hn
    have hnd := h2.nodup_iff.1 r.nodup
    obtain ⟨R', h4, h5⟩ := h3 (S' := S) (f := .undef) (Rg := []) (.undef .nil) (fun _ h => h) (fun b hb => ⟨(r.sep b hb).1, by simp, fun m => (r.sep b hb).2 (h2.mem_iff.2 (by simp [m]))⟩) (by simp) (by simp)
    have hR' : ∀ b, b ∈ R' → b ∈ R2 := fun b m => by simpa using h5.mem_iff.1 m
    generalize hvv : valOf a xv n = v at h1
    cases h1 with
    | @box b c T _ _ _ Rx Ry hb hr ht =>
    cases ht
    simp only [List.append_nil] at h2 hnd
    have hv : a.tmps.getD n undef = .pointer (some ⟨b, 0, none⟩) := by
      have : a.eval (.tmp n) = .pointer (some ⟨b, 0, none⟩) := by rw [← hval, hvv]
      exact this
    have hcl : c.toList.length = size := by rw [← hlen]; exact hr.length
    have hcell : ∀ k, k < size → cellAt w.heap b (0 + k) = c.toList[k]? := fun k hk => by
      unfold cellAt; rw [hb]; simp
    have mk : ∀ {v f}, (rvRun a (.cell n t)).run P w = .ok v w → Rep w.heap S [v] [f] Rx → ∃ v S' Rf R', (rvRun a (.cell n t)).run P w = .ok v w ∧ Passed N xv a w S R v f (E.upd n .undef) S' Rf R' := fun hrun hrep => by
      have hsub : ∀ b, b ∈ Rx → b ∈ R := fun b m => h2.mem_iff.2 (by simp [m])
      refine ⟨_, S, Rx, R', hrun, hrep, h4, ?_, ?_, fun _ h => h, fun _ h => .inl h, fun b m => h2.mem_iff.2 (by simp [hR' b m]), hsub⟩
      · exact (List.nodup_append.1 (List.nodup_cons.1 hnd).2).1
      · exact fun b m => ⟨fun m' => (List.nodup_append.1 (List.nodup_cons.1 hnd).2).2.2 b m b (hR' b m') rfl, fun hb => (r.sep b hb).2 (hsub b m)⟩
    split at h
    · rename_i hagg
      subst hagg
      cases h
      refine mk (v := .agg c.toList.toArray) ?_ ?_
      · simp only [rvRun, hv, asAddr, Sem.run_bind, Sem.run_pure, Result.andThen_ok]
        exact run_loadVar_agg ha hs hcl hcell
      · have := Rep.agg (vs := []) (fs := []) (R := []) hr .nil
        simpa using this
    · rename_i hagg
      have hagg : agg = false := by simpa using hagg
      subst hagg
      split at h <;> try (cases h; done)
      rename_i x
      cases h
      have hc1 : ∃ y, c.toList = [y] := by
        have := hr.length
        match hcc : c.toList, this with
        | [y], _ => exact ⟨y, rfl⟩
      obtain ⟨y, hy⟩ := hc1
      rw [hy] at hr
      refine mk (v := y) ?_ hr
      simp only [rvRun, hv, asAddr, Sem.run_bind, Sem.run_pure, Result.andThen_ok]
      refine run_loadVar_one ha ?_
      have := hcell 0 (by rw [← hcl, hy]; simp)
      simpa [hy] using this
theorem outL : ∀ {qs : List RV} {xs : List ResultVar} {E : Env} {S : Nat → Prop} {R : List Nat} {fs : List FV} {E' : Env} (r : Rel N xv E a w S R) (hc : List.all (qs.zip xs) (fun y => y.1.chk P N y.2) = true) (hl : qs.length = xs.length) (h : outs E qs = some (fs, E')),
    ∃ vs S' Rf R', All2 (fun x v => (rvRun a x).run P w = .ok v w) xs vs ∧ PassedL N xv a w S R vs fs E' S' Rf R'
  | [], [], E, S, R, fs, E', r, _, _, h => by
    simp only [outs, Option.some.injEq, Prod.mk.injEq] at h
    obtain ⟨rfl, rfl⟩ := h
    exact ⟨[], S, [], R, .nil, .nil, r, by simp, by simp, fun _ h => h, fun _ h => .inl h, fun _ h => h, by simp⟩
  | q :: qs, [], E, S, R, fs, E', r, _, hl, _ => by simp at hl
  | [], x :: xs, E, S, R, fs, E', r, _, hl, _ => by simp at hl
  | q :: qs, x :: xs, E, S, R, fs, E', r, hc, hl, h => by
    simp only [List.zip_cons_cons, List.all_cons, Bool.and_eq_true] at hc
    simp only [outs] at h
    cases h1 : q.out E with
    | none => rw [h1] at h; cases h
    | some y =>
    obtain ⟨f, E1⟩ := y
    rw [h1] at h
    simp only at h
    cases h2 : outs E1 qs with
    | none => rw [h2] at h; cases h
    | some y =>
    obtain ⟨fs', E2⟩ := y
    rw [h2] at h
    simp only [Option.some.injEq, Prod.mk.injEq] at h
    obtain ⟨rfl, rfl⟩ := h
    obtain ⟨v, S1, Rf1, R1, hr1, p1⟩ := out1 r hc.1 h1
    obtain ⟨vs, S2, Rf2, R2, hr2, p2⟩ := outL p1.rel hc.2 (by simpa using hl) h2
    refine ⟨v :: vs, S2, Rf1 ++ Rf2, R2, .cons hr1 hr2, ?_, p2.rel, ?_, ?_, fun b h => p2.seals b (p1.seals b h), ?_, fun b m => p1.sub b (p2.sub b m), ?_⟩
    · exact (p1.rep.mono p2.seals (Nat.le_refl _) (fun _ _ _ => rfl) (fun _ _ => rfl)).cons p2.rep
    · rw [List.nodup_append]
      exact ⟨p1.nodup, p2.nodup, fun b m b' m' e => (p1.apart b m).1 (e ▸ p2.subf b' m')⟩
    · intro b m
      rcases List.mem_append.1 m with m | m
      · refine ⟨fun m' => (p1.apart b m).1 (p2.sub b m'), fun hb => ?_⟩
        rcases p2.news b hb with h | h
        · exact (p1.apart b m).2 h
        · exact (p1.apart b m).1 h
      · exact p2.apart b m
    · intro b hb
      rcases p2.news b hb with h | h
      · exact p1.news b h
      · exact .inr (p1.sub b h)
    · intro b m
      rcases List.mem_append.1 m with m | m
      · exact p1.subf b m
      · exact p1.sub b (p2.subf b m)
theorem run_results {fn : Func} {vs : List Value} (hl : fn.results.size ≤ 4) (h : All2 (fun x v => (rvRun a x).run P w = .ok v w) fn.results.toList vs) :
    (results fn a.tmps).run P w = .ok (oneV vs) w := by
  generalize hl0 : fn.results.toList = l at h
  have hl' : fn.results = List.toArray l := by rw [← hl0, Array.toArray_toList]
  rw [hl'] at hl
  simp only [List.size_toArray] at hl
  have step : ∀ x : ResultVar, (match x with | .tmp t => pure (a.tmps.getD t undef) | .cell b t => do loadVar t (← asAddr (a.tmps.getD b undef)) : Sem Value) = rvRun a x := fun x => by cases x <;> rfl
  have key : (results fn a.tmps).run P w = ((List.toArray l).mapM (rvRun a) >>= fun vs => pure (if h : vs.size = 1 then vs[0] else .tuple vs)).run P w := by
    unfold results
    rw [hl']
    rfl
  rw [key]
  cases h with
  | nil => simp [oneV]
  | cons h1 h =>
    cases h with
    | nil => simp [oneV, h1]
    | cons h2 h =>
      cases h with
      | nil => simp [oneV, h1, h2]
      | cons h3 h =>
        cases h with
        | nil => simp [oneV, h1, h2, h3]
        | cons h4 h =>
          cases h with
          | nil => simp [oneV, h1, h2, h3, h4]
          | cons _ _ => simp at hl
theorem one_rep {h : Array Obj} {S : Nat → Prop} {vs : List Value} {fs : List FV} {R : List Nat} (r : Rep h S vs fs R) : Rep h S [oneV vs] [one fs] R := by
  have hl := r.length
  have tup : Rep h S [.tuple vs.toArray] [.tup fs] R := by
    have := Rep.tup (vs := []) (fs := []) (R := []) r .nil
    simpa using this
  match vs, fs, hl with
  | [], [], _ => exact tup
  | [v], [f], _ => exact r
  | _ :: _ :: _, _ :: _ :: _, _ => exact tup
theorem FCall.body {f : FuncId} {fn : Func} {c : Code} {fs : List FV} {rs : List RV} {K : FV → Prop} (hf : P.funcs[f]? = some fn) (hb : fn.body = some c) (hN : fn.ntmps = N) (hX : N ≤ X0) (hlen : fs.length ≤ N)
    (hr : List.all (rs.zip fn.results.toList) (fun y => y.1.chk P N y.2) = true) (hrl : rs.length = fn.results.toList.length) (h4 : fn.results.size ≤ 4)
    (h : CodeOk P N c (entryFrom 0 fs) (fun e E' => (e = .normal ∨ e = .ret) ∧ ∃ x, outs E' rs = some x ∧ K (one x.1))) : FCall P f fs K := by
  refine ⟨fun {w S R vs} hA hrep hnd hsep => ?_⟩
  refine calls_of_wp hf hb ?_
  have hvl := hrep.length
  have hrel : Rel N (fun _ => undef) (entryFrom 0 fs) { tmps := vs.toArray ++ Array.replicate (fn.ntmps - vs.toArray.size) undef, defers := [] } w S R := by
    refine ⟨entry_renv hrep ?_, entry_sorted fs 0, hnd, hsep, by simp; omega, hX, rfl⟩
    intro k v hk
    have hkl : k < vs.length := by
      rcases Nat.lt_or_ge k vs.length with h | h
      · exact h
      · rw [List.getElem?_eq_none h] at hk; cases hk
    unfold valOf
    rw [if_pos (by omega), Nat.zero_add, Array.getD_eq_getD_getElem?, Array.getElem?_append_left (by simpa using hkl)]
    simp [hk]
  refine wp_mono (h hA hrel) fun e a w' hp => ?_
  obtain ⟨E', S', R', ⟨he, x, hx, hK⟩, r', e1⟩ := hp
  obtain ⟨fs', E2⟩ := x
  obtain ⟨vs', S2, Rf, R2, hall, p⟩ := outL r' hr hrl hx
  have hres := run_results (P := P) h4 hall
  have fin : bodyPost P fn (fun e w' => ∃ v r S' R', e = .returned v ∧ K r ∧ Rep w'.heap S' [v] [r] R' ∧ R'.Nodup ∧ (∀ b, S' b → b < w'.heap.size ∧ b ∉ R') ∧ Ext w S R w' S' R') .ret a w' := by
    refine ⟨r'.nodef, _, hres, _, one fs', S2, Rf, rfl, hK, one_rep p.rep, p.nodup, fun b hb => ⟨(p.rel.sep b hb).1, fun m => (p.apart b m).2 hb⟩, ?_⟩
    refine e1.trans ⟨p.seals, fun b hb => (p.news b hb).imp id .inl, fun _ _ _ => rfl, Nat.le_refl _, fun b m => .inl (p.subf b m), rfl, rfl, rfl, fun _ h => h⟩
  rcases he with rfl | rfl
  · exact fin
  · exact fin
end
end Go.Fm
