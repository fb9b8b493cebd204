/- From a row's reading of an argument to an abstract value. -/
import Derived.Test.YthfkhokmgolabaaDoorFmPrim
import GoSem.ClaimChange
set_option linter.unusedVariables false
set_option linter.unusedSimpArgs false
namespace Go.Fm
open Go

/-- the types that are read here: a struct is a chain of its fields -/
inductive Ty where
  | bool | int (k : IntKind) | str | sl (e : Ty) | nil | cons (a b : Ty)

def Ty.cells : Ty → Nat
  | .bool | .int _ | .str | .sl _ => 1
  | .nil => 0
  | .cons a b => a.cells + b.cells

/-- a value of a type, its strings and slices no longer than B -/
def Ty.has (B : Nat) : Ty → List FV → Prop
  | .bool, fs => ∃ b, fs = [.bool b]
  | .int k, fs => ∃ x, fs = [.int k x] ∧ (Lit.int k x).wf = true
  | .str, fs => ∃ s, fs = [.str s] ∧ s.length ≤ B
  | .sl e, fs => ∃ es, fs = [.sl false es] ∧ es.length ≤ B ∧ ∀ r ∈ es, e.has B r
  | .nil, fs => fs = []
  | .cons a b, fs => ∃ x y, fs = x ++ y ∧ a.has B x ∧ b.has B y

def tyFs (P : Program) (f : TypeId → Option Ty) : Nat → List (TypeId × Nat) → Option Ty
  | _, [] => some .nil
  | off, x :: xs => if x.2 = off then (f x.1).bind fun a => if P.cellsOf x.1 = a.cells then (tyFs P f (off + a.cells) xs).map (.cons a ·) else none else none
def tyOf (P : Program) : Nat → TypeId → Option Ty
  | 0, _ => none
  | n + 1, t => match P.underlying t with
    | some .bool => some .bool
    | some (.int k) => some (.int k)
    | some .string => some .str
    | some (.slice e) => (tyOf P n e).bind fun T => if P.cellsOf e = T.cells ∧ 0 < T.cells then some (.sl T) else none
    | some (.struct flds) => (tyFs P (tyOf P n) 0 (flds.toList.map fun f => (f.type, f.offset))).bind fun T => if P.cellsOf t = T.cells then some T else none
    | _ => none

structure Bnd {H : Type} (Bd : DataW H → Prop) (B : Nat) : Prop where
  str : ∀ {s}, Bd (.lit (.string s)) → s.length ≤ maxLen → s.length ≤ B
  sl : ∀ {es rest}, Bd (.slice es rest) → es.length ≤ maxLen → es.length ≤ B ∧ ∀ d ∈ es, Bd d
  agg : ∀ {xs}, Bd (.agg xs) → ∀ d ∈ xs, Bd d

theorem Ty.has_length {B : Nat} : ∀ {T : Ty} {fs : List FV}, T.has B fs → fs.length = T.cells
  | .bool, _, ⟨_, rfl⟩ | .int _, _, ⟨_, rfl, _⟩ | .str, _, ⟨_, rfl, _⟩ | .sl _, _, ⟨_, rfl, _⟩ => rfl
  | .nil, _, h => by obtain rfl : _ = [] := h; rfl
  | .cons a b, _, ⟨x, y, rfl, hx, hy⟩ => by simp [Ty.cells, has_length hx, has_length hy]

theorem mapM_some_iff {α β : Type} {f : α → Option β} : ∀ {l : List α} {r : List β}, l.mapM f = some r → l.length = r.length ∧ ∀ i : Nat, (l[i]?).bind f = r[i]?
  | [], r, h => by simp at h; subst h; simp
  | a :: l, r, h => by
    rw [List.mapM_cons] at h
    cases ha : f a with
    | none => simp [ha] at h
    | some b =>
      cases hl : l.mapM f with
      | none => simp [ha, hl] at h
      | some bs =>
        simp [ha, hl] at h
        subst h
        have ih := mapM_some_iff hl
        refine ⟨by simp [ih.1], fun i => ?_⟩
        cases i with
        | zero => simpa using ha
        | succ i => simpa using ih.2 i

theorem cells?_some {w : World} {a : Addr} {n : Nat} {cs : List Value} (h : w.cells? 0 a n = some cs) :
    cs.length = n ∧ ∀ k, k < n → w.cell? (a.add k) = cs[k]? := by
  unfold World.cells? at h
  rw [if_pos (Nat.zero_le _)] at h
  have := mapM_some_iff h
  refine ⟨by simpa using this.1.symm, fun k hk => ?_⟩
  have h2 := this.2 k
  rw [List.getElem?_range hk] at h2
  simpa using h2

theorem spot_none {w : World} {a : Addr} {v : Value} (h : w.cell? a = some v) : a = ⟨a.block, a.off, none⟩ ∧ a.block < w.heap.size := by
  obtain ⟨b, o, s⟩ := a
  unfold World.cell? at h
  cases e : w.heap[b]? with
  | none => simp [e] at h
  | some x =>
    refine ⟨?_, (Array.getElem?_eq_some_iff.1 e).1⟩
    cases s with
    | none => rfl
    | some s => cases x <;> simp [e] at h

def Reads (P : Program) (B : Nat) (w : World) (T : Ty) (cs : List Value) : Prop :=
  ∃ fs, T.has B fs ∧ Rep w.heap (fun b => b < w.heap.size) cs fs []

/-- many elements in a row -/
theorem reads_row {P : Program} {B : Nat} {w : World} {T : Ty} {st : Nat} : ∀ {rows : List (List Value)}, (∀ r ∈ rows, Reads P B w T r) →
    ∃ es : List (List FV), es.length = rows.length ∧ (∀ e ∈ es, T.has B e) ∧ Rep w.heap (fun b => b < w.heap.size) rows.flatten es.flatten []
  | [], _ => ⟨[], rfl, by simp, .nil⟩
  | r :: rows, h => by
    obtain ⟨f, h1, h2⟩ := h r (by simp)
    obtain ⟨es, h3, h4, h5⟩ := reads_row (st := st) (rows := rows) (fun r' m => h r' (List.mem_cons_of_mem _ m))
    exact ⟨f :: es, by simp [h3], by simp only [List.mem_cons]; rintro e (rfl | m); exact h1; exact h4 e m, by simpa using h2.append h5⟩

theorem flatten_get {α : Type} {st : Nat} : ∀ {rows : List (List α)}, (∀ r ∈ rows, r.length = st) → ∀ i j : Nat, j < st → rows.flatten[i * st + j]? = (rows[i]?).bind (·[j]?)
  | [], _, i, j, _ => by simp
  | r :: rows, h, i, j, hj => by
    have hr := h r (by simp)
    cases i with
    | zero => simp [List.getElem?_append, hr, hj]
    | succ i =>
      have := flatten_get (rows := rows) (fun r' m => h r' (by simp [m])) i j hj
      rw [List.flatten_cons, List.getElem?_append_right (by rw [hr, Nat.succ_mul]; omega)]
      rw [hr, Nat.succ_mul, show i * st + st + j - st = i * st + j by omega, this]
      simp

section
variable {H : Type} {enc : TypeId × Value → H} {P : Program} {w : World} {Bd : DataW H → Prop} {B : Nat}

theorem rep_struct {fuel n : Nat} {cs : List Value}
    (ih : ∀ t T c d ps, tyOf P n t = some T → DataW.trod enc P w 0 (fun _ => true) true fuel t c = some (d, ps) → Bd d → Reads P B w T c) :
    ∀ (flds : List (TypeId × Nat)) (off : Nat) (T : Ty) (xs : List (DataW H × List MemPlace)), tyFs P (tyOf P n) off flds = some T →
      (flds.mapM fun f => DataW.trod enc P w 0 (fun _ => true) true fuel f.1 ((cs.drop f.2).take (P.cellsOf f.1))) = some xs → (∀ x ∈ xs, Bd x.1) →
      cs.length = off + T.cells → Reads P B w T (cs.drop off)
  | [], off, T, xs, hT, hx, hb, hl => by
    simp [tyFs] at hT
    subst hT
    simp [Ty.cells] at hl
    exact ⟨[], rfl, by rw [List.drop_eq_nil_of_le (by omega)]; exact .nil⟩
  | f :: flds, off, T, xs, hT, hx, hb, hl => by
    simp only [tyFs] at hT
    split at hT
    case isFalse => cases hT
    case isTrue ho =>
    cases ha : tyOf P n f.1 with
    | none => simp [ha] at hT
    | some a =>
      simp only [ha, Option.bind_some] at hT
      split at hT
      case isFalse => cases hT
      case isTrue hc =>
      cases hr : tyFs P (tyOf P n) (off + a.cells) flds with
      | none => simp [hr] at hT
      | some b =>
        simp only [hr, Option.map_some, Option.some.injEq] at hT
        subst hT
        rw [List.mapM_cons] at hx
        cases h1 : DataW.trod enc P w 0 (fun _ => true) true fuel f.1 ((cs.drop f.2).take (P.cellsOf f.1)) with
        | none => simp [h1] at hx
        | some x =>
          cases h2 : (flds.mapM fun f => DataW.trod enc P w 0 (fun _ => true) true fuel f.1 ((cs.drop f.2).take (P.cellsOf f.1))) with
          | none => simp [h1, h2] at hx
          | some ys =>
            simp [h1, h2] at hx
            subst hx
            simp only [Ty.cells] at hl
            obtain ⟨fa, ha1, ha2⟩ := ih f.1 a _ x.1 x.2 ha h1 (hb x (by simp))
            obtain ⟨fb, hb1, hb2⟩ := rep_struct ih flds (off + a.cells) b ys hr h2 (fun y m => hb y (by simp [m])) (by omega)
            refine ⟨fa ++ fb, ⟨fa, fb, rfl, ha1, hb1⟩, ?_⟩
            have := ha2.append hb2
            rw [ho, hc] at this
            rwa [← List.drop_drop, List.take_append_drop] at this

theorem reads_of_trod (hB : Bnd Bd B) : ∀ (n fuel : Nat) (t : TypeId) (T : Ty) (cs : List Value) (d : DataW H) (ps : List MemPlace), tyOf P n t = some T →
    DataW.trod enc P w 0 (fun _ => true) true fuel t cs = some (d, ps) → Bd d → Reads P B w T cs
  | 0, _, _, _, _, _, _, hT, _, _ => by simp [tyOf] at hT
  | n + 1, 0, t, T, cs, d, ps, hT, ht, hd => by simp [DataW.trod] at ht
  | n + 1, fuel + 1, t, T, cs, d, ps, hT, ht, hd => by
    have ih := fun t T c d ps => reads_of_trod hB n fuel t T c d ps
    simp only [tyOf] at hT
    split at hT
    case h_6 => cases hT
    case h_1 hu =>
      simp only [Option.some.injEq] at hT
      subst hT
      unfold DataW.trod at ht
      rw [hu] at ht
      split at ht <;> simp_all
      obtain ⟨rfl, rfl⟩ := ht
      exact ⟨_, ⟨_, rfl⟩, .bool .nil⟩
    case h_2 k hu =>
      simp only [Option.some.injEq] at hT
      subst hT
      unfold DataW.trod at ht
      rw [hu] at ht
      split at ht <;> simp_all
      obtain ⟨⟨rfl, hw⟩, rfl, rfl⟩ := ht
      rename_i h1
      obtain rfl := h1
      exact ⟨_, ⟨_, rfl, hw⟩, .int .nil⟩
    case h_3 hu =>
      simp only [Option.some.injEq] at hT
      subst hT
      unfold DataW.trod at ht
      rw [hu] at ht
      split at ht <;> simp_all
      obtain ⟨hw, rfl, rfl⟩ := ht
      rename_i s
      obtain ⟨⟨s⟩⟩ := s
      exact ⟨_, ⟨s, rfl, hB.str hd (by simpa [ByteArray.size] using hw)⟩, .str .nil⟩
    case h_4 e hu =>
      cases he : tyOf P n e with
      | none => simp [he] at hT
      | some T' =>
      simp only [he, Option.bind_some] at hT
      split at hT
      case isFalse => cases hT
      case isTrue hc =>
      obtain ⟨hc, hpos⟩ := hc
      simp only [Option.some.injEq] at hT
      subst hT
      unfold DataW.trod at ht
      rw [hu] at ht
      split at ht <;> try (simp_all; done)
      · simp at ht
        exact ⟨[.sl false []], ⟨[], rfl, Nat.zero_le _, by simp⟩, .slNil .nil⟩
      · rename_i cs0 e' a len cap h2
        simp only [Option.some.injEq, TypeDesc.slice.injEq] at h2
        subst h2
        simp only [if_true] at ht
        split at ht
        case isFalse => cases ht
        case isTrue hl =>
        obtain ⟨_, hl1, hl2⟩ := hl
        cases hx : (List.mapM (fun i => (w.cells? 0 (a.add (i * P.cellsOf e)) (P.cellsOf e)).bind (DataW.trod enc P w 0 (fun _ => true) true fuel e)) (List.range len)) with
        | none => simp [hx] at ht
        | some xs =>
        cases hy : (List.mapM (fun j => (w.cells? 0 (a.add ((len + j) * P.cellsOf e)) (P.cellsOf e)).bind (DataW.trod enc P w 0 (fun _ => true) true fuel e)) (List.range (cap - len))) with
        | none => simp [hx, hy] at ht
        | some ys =>
        simp only [hx, hy, Option.map_some, Option.bind_some, Option.some.injEq, Prod.mk.injEq] at ht
        obtain ⟨rfl, rfl⟩ := ht
        obtain ⟨hxl, hxs⟩ := mapM_some_iff hx
        obtain ⟨hyl, hys⟩ := mapM_some_iff hy
        simp only [List.length_range] at hxl hyl
        by_cases hz : cap = 0
        · obtain rfl : len = 0 := by omega
          subst hz
          exact ⟨[.sl false []], ⟨[], rfl, Nat.zero_le _, by simp⟩, .slNil .nil⟩
        have hB2 := hB.sl hd (by simp; omega)
        have cell : ∀ i, i < len → ∃ c x, w.cells? 0 (a.add (i * P.cellsOf e)) (P.cellsOf e) = some c ∧ DataW.trod enc P w 0 (fun _ => true) true fuel e c = some x ∧ Bd x.1 := by
          intro i hi
          have h := hxs i
          rw [List.getElem?_range hi, Option.bind_some, List.getElem?_eq_getElem (by omega)] at h
          obtain ⟨c, h3, h4⟩ := Option.bind_eq_some_iff.1 h
          exact ⟨c, _, h3, h4, hB2.2 _ (List.mem_map.2 ⟨_, List.getElem_mem _, rfl⟩)⟩
        have first : a = ⟨a.block, a.off, none⟩ ∧ a.block < w.heap.size := by
          have : ∃ c, w.cells? 0 a (P.cellsOf e) = some c := by
            by_cases h0 : 0 < len
            · obtain ⟨c, _, h, _⟩ := cell 0 h0; exact ⟨c, by simpa [Addr.add] using h⟩
            · obtain rfl : len = 0 := by omega
              have h := hys 0
              rw [List.getElem?_range (by omega), Option.bind_some, List.getElem?_eq_getElem (by omega)] at h
              obtain ⟨c, h3, h4⟩ := Option.bind_eq_some_iff.1 h
              exact ⟨c, by simpa [Addr.add] using h3⟩
          obtain ⟨c, h⟩ := this
          have h2 := (cells?_some h).2 0 (by omega)
          rw [List.getElem?_eq_getElem (by rw [(cells?_some h).1]; omega)] at h2
          have := spot_none h2
          simpa [Addr.add] using this
        obtain ⟨bk, o, spt⟩ := a
        obtain ⟨rfl, hlt⟩ : spt = none ∧ bk < w.heap.size := by simpa using first
        let row : Nat → List Value := fun i => ((w.cells? 0 (Addr.add ⟨bk, o, none⟩ (i * P.cellsOf e)) (P.cellsOf e)).getD [])
        have hrow : ∀ i, i < len → Reads P B w T' (row i) ∧ (row i).length = T'.cells ∧ ∀ k, k < T'.cells → w.cell? ⟨bk, o + (i * T'.cells + k), none⟩ = (row i)[k]? := by
          intro i hi
          obtain ⟨c, x, h3, h4, h5⟩ := cell i hi
          have e1 : row i = c := by simp only [row, h3, Option.getD_some]
          rw [e1]
          obtain ⟨h6, h7⟩ := cells?_some h3
          refine ⟨ih e T' c x.1 x.2 he h4 h5, by rw [h6, hc], fun k hk => ?_⟩
          have := h7 k (by omega)
          rw [← this, ← hc]
          congr 1
          simp only [Addr.add]
          split <;> split <;> simp_all <;> omega
        obtain ⟨es, h3, h4, h5⟩ := reads_row (P := P) (B := B) (w := w) (T := T') (st := 0) (rows := (List.range len).map row) (by
          intro r m
          obtain ⟨i, hi, rfl⟩ := List.mem_map.1 m
          exact (hrow i (List.mem_range.1 hi)).1)
        simp only [List.length_map, List.length_range] at h3
        have hst : ∀ r ∈ (List.range len).map row, r.length = T'.cells := by
          intro r m
          obtain ⟨i, hi, rfl⟩ := List.mem_map.1 m
          exact (hrow i (List.mem_range.1 hi)).2.1
        have hfl : ((List.range len).map row).flatten.length = len * T'.cells := by
          have := h5.length
          have h6 : ∀ {rows : List (List Value)}, (∀ r ∈ rows, r.length = T'.cells) → rows.flatten.length = rows.length * T'.cells := by
            intro rows
            induction rows with
            | nil => simp
            | cons r rows ih2 => intro h; rw [List.flatten_cons, List.length_append, h r (by simp), ih2 fun r' m => h r' (by simp [m]), List.length_cons, Nat.succ_mul]; omega
          simpa using h6 hst
        refine ⟨[.sl false es], ⟨es, rfl, by rw [h3]; simpa [hxl] using hB2.1, h4⟩, ?_⟩
        refine .sl h3 (st := T'.cells) (cs := ((List.range len).map row).flatten) (fun r m => Ty.has_length (h4 r m)) hlt hlt hfl (fun k hk => ?_) hl1 (by simp) (by omega) h5 .nil
        have hk1 : k / T'.cells < len := Nat.div_lt_of_lt_mul (by rwa [Nat.mul_comm])
        have hk2 : k % T'.cells < T'.cells := Nat.mod_lt _ hpos
        have hk3 : k = k / T'.cells * T'.cells + k % T'.cells := by rw [Nat.mul_comm]; exact (Nat.div_add_mod k _).symm
        rw [hk3, flatten_get hst _ _ hk2, List.getElem?_map, List.getElem?_range hk1, ← cell?_eq]
        exact (hrow _ hk1).2.2 _ hk2
    case h_5 flds hu =>
      cases he : tyFs P (tyOf P n) 0 (flds.toList.map fun f => (f.type, f.offset)) with
      | none => simp [he] at hT
      | some T' =>
      simp only [he, Option.bind_some] at hT
      split at hT
      case isFalse => cases hT
      case isTrue hc =>
      simp only [Option.some.injEq] at hT
      subst hT
      unfold DataW.trod at ht
      rw [hu] at ht
      split at ht <;> try (simp_all; done)
      rename_i cs0 x1 cs1 flds' h1
      simp only [Option.some.injEq, TypeDesc.struct.injEq] at h1
      subst h1
      split at ht
      case isFalse => cases ht
      case isTrue hl =>
      cases hx : (flds.toList.mapM fun f => DataW.trod enc P w 0 (fun _ => true) true fuel f.type ((cs0.drop f.offset).take (P.cellsOf f.type))) with
      | none => simp [hx] at ht
      | some xs =>
      simp only [hx, Option.map_some, Option.some.injEq, Prod.mk.injEq] at ht
      obtain ⟨rfl, rfl⟩ := ht
      have := rep_struct (n := n) (cs := cs0) (fuel := fuel) (Bd := Bd) (B := B) (fun t T c d ps => ih t T c d ps) (flds.toList.map fun f => (f.type, f.offset)) 0 T' xs he (by rw [List.mapM_map]; exact hx) (fun x m => hB.agg hd _ (List.mem_map.2 ⟨x, m, rfl⟩)) (by rw [hl, hc, Nat.zero_add])
      exact this
end
end Go.Fm
