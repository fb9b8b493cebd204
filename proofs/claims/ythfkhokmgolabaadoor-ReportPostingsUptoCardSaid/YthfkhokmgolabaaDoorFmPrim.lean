/- Contracts of the library's functions, brought in. -/
import Derived.Test.YthfkhokmgolabaaDoorFmEval
import Derived.Below
import Derived.Deep.Draws
import Derived.Sort.Grow
import Derived.Lib.Join
set_option linter.unusedVariables false
set_option linter.unusedSimpArgs false
namespace Go.Fm
open Go

/-- nothing that was there has turned -/
structure Stood (w w' : World) : Prop where
  os : w'.os = w.os
  tape : w'.tape = w.tape
  output : w'.output = w.output
  size : w.heap.size ≤ w'.heap.size
  block : ∀ k, k < w.heap.size → w'.heap[k]? = w.heap[k]?
theorem Stood.refl (w : World) : Stood w w := ⟨rfl, rfl, rfl, Nat.le_refl _, fun _ _ => rfl⟩
theorem Stood.below {w w' : World} (h : RowKit.Below w.heap.size w w') : Stood w w' := ⟨h.os, h.tape, h.output, h.size, h.block⟩
theorem Stood.grow (w : World) (k : Nat) (os : Array Obj) : Stood w (Sort.grow (w.drewN k) os) := by
  refine ⟨rfl, rfl, rfl, ?_, fun i hi => ?_⟩
  · show w.heap.size ≤ (w.heap ++ os).size
    rw [Array.size_append]; omega
  · show (w.heap ++ os)[i]? = _
    rw [Array.getElem?_append_left hi]
theorem Stood.ext {w w' : World} (h : Stood w w') (S : Nat → Prop) (R : List Nat) : Ext w S R w' S [] :=
  ⟨fun _ h => h, fun _ h => .inl h, fun b hb _ => h.block b hb, h.size, by simp, h.os, h.tape, h.output, fun _ h => h⟩

/-- the value of a flat list -/
def FV.lit : FV → Option Value
  | .int k n => some (.int k n)
  | .bool b => some (.bool b)
  | .str s => some (.string ⟨s.toArray⟩)
  | _ => none
def lits : List FV → Option (List Value)
  | [] => some []
  | f :: fs => match f.lit, lits fs with
    | some v, some vs => some (v :: vs)
    | _, _ => none
theorem lits_rep {h : Array Obj} {S : Nat → Prop} : ∀ {fs : List FV} {us vs : List Value} {R : List Nat}, lits fs = some us → Rep h S vs fs R → vs = us ∧ R = []
  | [], us, vs, R, hl, r => by cases r; cases hl; exact ⟨rfl, rfl⟩
  | f :: fs, us, vs, R, hl, r => by
    cases vs with
    | nil => have := r.length; simp at this
    | cons v vs =>
    obtain ⟨R1, R2, h1, h2, rfl⟩ := r.cons_inv
    simp only [lits] at hl
    split at hl <;> try (cases hl; done)
    rename_i v0 vs0 hv hvs
    cases hl
    obtain ⟨rfl, rfl⟩ := lits_rep hvs h2
    cases f <;> simp only [FV.lit] at hv <;> cases hv <;> cases h1 <;> rename_i h3 <;> cases h3 <;> exact ⟨rfl, rfl⟩

theorem FCall.prim {P : Program} {f : FuncId} {fs : List FV} {us : List Value} {r : FV} {v : Value} (hl : lits fs = some us) (hv : constOk r v = true)
    (h : ∀ w S, Amb P w S → Calls P f us.toArray w (fun e w' => e = .returned v ∧ Stood w w')) : FCall P f fs (· = r) := by
  refine ⟨fun {w S R vs} hA hrep hnd hsep => ?_⟩
  obtain ⟨rfl, rfl⟩ := lits_rep hl hrep
  refine (h w S hA).mono ?_
  rintro e w' ⟨rfl, hw⟩
  exact ⟨v, r, S, [], rfl, rfl, constOk_rep _ _ _ _ hv, by simp, fun b hb => ⟨Nat.lt_of_lt_of_le (hsep b hb).1 hw.size, by simp⟩, hw.ext S []⟩

/-- a slice of strings -/
def strs (l : List (List UInt8)) : List (List FV) := l.map fun s => [.str s]
@[go_sem] theorem strs_length (l : List (List UInt8)) : (strs l).length = l.length := by simp [strs]
@[go_sem] theorem strs_rows (l : List (List UInt8)) : rowsOk 1 (strs l) = true := by
  unfold rowsOk strs
  rw [List.all_map, List.all_eq_true]
  intro x _
  rfl
theorem strs_snoc (l : List (List UInt8)) (s : List UInt8) : strs l ++ [[.str s]] = strs (l ++ [s]) := by simp [strs]
@[go_sem] theorem strs_sealed (l : List (List UInt8)) : sealedLL (strs l) = strs l := by
  induction l with
  | nil => rfl
  | cons s l ih => simp only [strs, List.map_cons, sealedLL, sealedL, FV.sealed] at ih ⊢; rw [ih]
theorem strs_get {l : List (List UInt8)} {i : Nat} (h : i < l.length) : (strs l)[i]? = some [.str l[i]] := by simp [strs, h]
def bytesOf (s : List UInt8) : ByteArray := ⟨s.toArray⟩
theorem strs_flatten (l : List (List UInt8)) : (strs l).flatten = l.map FV.str := by
  induction l with
  | nil => rfl
  | cons s l ih => simp only [strs, List.map_cons, List.flatten_cons] at ih ⊢; rw [ih]; rfl
theorem strs_rep {h : Array Obj} {S : Nat → Prop} : ∀ {l : List (List UInt8)} {cs : List Value} {R : List Nat}, Rep h S cs (l.map FV.str) R → cs = l.map (fun s => .string (bytesOf s)) ∧ R = []
  | [], cs, R, r => by cases r; exact ⟨rfl, rfl⟩
  | s :: l, cs, R, r => by
    cases cs with
    | nil => have := r.length; simp at this
    | cons c cs =>
    obtain ⟨R1, R2, h1, h2, rfl⟩ := r.cons_inv
    obtain ⟨rfl, rfl⟩ := strs_rep h2
    cases h1 with
    | str h => cases h; exact ⟨rfl, rfl⟩

/-- strings.Join -/
theorem FCall.join {P : Program} {f : FuncId} {full : Bool} {xs : List (List UInt8)} {sep : List UInt8}
    (h0 : ∀ (a : Option Addr) (c : Nat) (sep : ByteArray) (w : World), Calls P f #[.slice a 0 c, .string sep] w fun e w' => e = .returned (.string ⟨#[]⟩) ∧ w' = w)
    (h1 : ∀ (bk o c : Nat) (xs : List ByteArray) (sep : ByteArray) (w : World), (∀ (j : Nat) x, xs[j]? = some x → w.cell? ⟨bk, o + j, none⟩ = some (.string x)) → bk < w.heap.size → xs.length ≤ 140737488355328 → xs.length ≤ c →
      (Lib.join (xs.map (·.data.toList)) sep.data.toList).length ≤ 140737488355328 → Calls P f #[.slice (some ⟨bk, o, none⟩) xs.length c, .string sep] w fun e w' => e = .returned (.string ⟨(Lib.join (xs.map (·.data.toList)) sep.data.toList).toArray⟩) ∧ RowKit.Below w.heap.size w w')
    (hN : xs.length ≤ 140737488355328) (hl : (Lib.join xs sep).length ≤ 140737488355328) : FCall P f [.sl full (strs xs), .str sep] (· = .str (Lib.join xs sep)) := by
  refine ⟨fun {w S R vs} hA hrep hnd hsep => ?_⟩
  have hlen := hrep.length
  match vs, hlen with
  | [v1, v2], _ =>
  obtain ⟨R1, R2, r1, r2, rfl⟩ := hrep.cons_inv
  cases r2 with
  | str r2 =>
  cases r2
  have fin : ∀ {w' : World} {s : List UInt8}, Stood w w' → Rep w'.heap S [.string ⟨s.toArray⟩] [.str s] [] ∧ ([] : List Nat).Nodup ∧ (∀ b, S b → b < w'.heap.size ∧ b ∉ ([] : List Nat)) ∧ Ext w S (R1 ++ []) w' S [] := fun hw =>
    ⟨.str .nil, by simp, fun b hb => ⟨Nat.lt_of_lt_of_le (hsep b hb).1 hw.size, by simp⟩, hw.ext S _⟩
  generalize hes : strs xs = es at r1
  cases r1 with
  | slNil r1 =>
    have : xs = [] := by cases xs <;> simp [strs] at hes; rfl
    subst this
    refine (h0 _ 0 _ w).mono ?_
    rintro e w' ⟨rfl, rfl⟩
    exact ⟨_, .str (Lib.join [] sep), S, [], rfl, rfl, fin (Stood.refl _)⟩
  | @sl _ _ b o n cap st cs _ _ _ hn hst hS hlt hcs hc hcap hfull hpos hr ht =>
    subst hes
    rw [strs_flatten] at hr
    obtain ⟨rfl, _⟩ := strs_rep hr
    have hn' : xs.length = n := by rw [← hn]; simp [strs]
    by_cases hz : xs = []
    · subst hz
      simp at hn'
      subst hn'
      refine (h0 _ cap _ w).mono ?_
      rintro e w' ⟨rfl, rfl⟩
      exact ⟨_, .str (Lib.join [] sep), S, [], rfl, rfl, fin (Stood.refl _)⟩
    · have hst1 : st = 1 := by
        cases xs with
        | nil => exact absurd rfl hz
        | cons x xs => have := hst [.str x] (by simp [strs]); simpa using this.symm
      subst hst1
      have hmap : (xs.map bytesOf).map (fun x => x.data.toList) = xs := by simp [bytesOf, Function.comp_def]
      have hx := h1 b o cap (xs.map bytesOf) (bytesOf sep) w (fun j x hj => by
        have hj2 : j < xs.length := by
          rcases Nat.lt_or_ge j xs.length with h | h
          · exact h
          · rw [List.getElem?_eq_none (by simpa using h)] at hj; cases hj
        rw [cell?_eq, hc j (by omega)]
        rw [List.getElem?_map] at hj ⊢
        rw [List.getElem?_eq_getElem hj2] at hj ⊢
        simp only [Option.map_some, Option.some.injEq] at hj ⊢
        rw [hj]) hlt (by simpa using hN) (by simp; omega) (by rw [hmap]; exact hl)
      rw [hmap] at hx
      simp only [List.length_map] at hx
      rw [hn'] at hx
      refine hx.mono ?_
      rintro e w' ⟨rfl, hw⟩
      exact ⟨_, .str (Lib.join xs sep), S, [], rfl, rfl, fin (Stood.below hw)⟩
end Go.Fm
