/- Part of a proof: see the last text of the claim. -/
import Derived.Test.YtdjbhceoodcphaaGreatA5
import Derived.Test.YtdjbhceoodcphaaGreatA6
import Derived.Test.YtdjbhceoodcphaaGreatA7
import Derived.Test.YtdjbhceoodcphaaGreatA8
import Derived.Shelf.Lay
import Derived.Shelf.LaySoft
import Derived.Shelf.Small.Wraps
import Derived.Shelf.Strconv.Itoa0
import Derived.Shelf.Strings.Search1
import Derived.Shelf.Strings.Search2
import Derived.Shelf.Strings.Search3
import Derived.Shelf.LaysM
import Derived.Shelf.Strings.Shaped
import Derived.Shelf.Sort.Plain
import Derived.Ground.Names2Prog
import Derived.Shelf.Slices.CompactI
import Derived.Shelf.Slices.In.SortNone
import Derived.Test.YtdjbhceoodcphaaGreatProg
import Derived.Test.YtdjbhceoodcphaaGreatA3
import GoSem.ClaimChange
import Derived.Carry
import Derived.RowKit
import Derived.Stop.LaidErr
import Derived.WalkKit
import Derived.ProofKit
import Derived.OpenShut
import Derived.Deep.DeepHandedRow
import Derived.Sort.Grow
import Derived.Lib.IndexMore
import Derived.Test.YtdjbhceoodcphaaGreatRows

/-
  DERIVED: LAID BY THE SHELF's lay-shelf.mjs AT THE DUMP 'toys/ytdjbhceoodcphaagreat/ytdjbhceoodcphaagreat.cut.gsa' (alias 'Tryz'): THE LIBRARY CONTRACTS THAT ARE PROVED ONCE, OVER ANY PROGRAM AND ANY NUMBERING, AS THEOREMS OF THIS PROGRAM: WITHOUT A WALK: 'shelf_lay' reads the table of numbers off the bodies and has the kernel compare each body; then each contract is ONE APPLICATION. EACH COMMAND STANDS UNDER 'shelf_try': one that errs is rolled back and told in the build's print ('SHELF: NOT LAID: <name>: ..'); THE MODULE's LAST ROW OF PRINT COUNTS THEM ('SHELF: n LAID, m NOT LAID'): READ IT: a contract that is not laid is not there to be used.
-/
namespace Go.Proofs
open Go.Shelf
shelf_try shelf_lay Lays.n215 Nm 215 at Tryz as Tryz.lays215
shelf_try open Go.RowKit in
/-- cmp.isNaN at int: 'x != x': false. (LAID: no walk: one application.) -/
theorem Tryz.cmp_isNaN_int (x : Int) (w : World) :
    Calls Tryz.prog 182 #[.int .i64 x] w fun e w' => e = .returned (.bool false) ∧ w' = w := Any.cmp_isNaN_int Tryz.lays215 x w
shelf_try #print axioms Tryz.cmp_isNaN_int
shelf_try shelf_lay Lays.n129 Nm 129 at Tryz as Tryz.lays129
shelf_try /-- bits.Len64: "Len64 returns the minimum number of bits required to represent x; the result is 0 for x == 0.": IT RETURNS 'Lib.bitLen x'; the world is as it was. ('h0', 'h1': x is a uint64.) (LAID: no walk: one application.) -/
theorem Tryz.bits_Len64 (x : Int) (w : World) (h0 : 0 ≤ x) (h1 : x ≤ 18446744073709551615) :
    Calls Tryz.prog 166 #[.int .u64 x] w fun e w' => e = .returned (.int .i64 (Lib.bitLen x.toNat)) ∧ w' = w := Any.bits_Len64 Tryz.lays129 x w h0 h1
shelf_try #print axioms Tryz.bits_Len64
shelf_try shelf_lay Lays.n217 Nm 217 at Tryz as Tryz.lays217
shelf_try open Go.RowKit Go.Lib in
/-- internal/stringslite.IndexByte (what strings.IndexByte calls): IT RETURNS 'Lib.indexByte s c'; the world is as it was. (LAID: no walk: one application.) -/
theorem Tryz.stringslite_IndexByte (s : ByteArray) (c : Int) (w : World) :
    Calls Tryz.prog 184 #[.string s, .int .u8 c] w fun e w' => e = .returned (.int .i64 (Lib.indexByte s.data.toList c.toNat.toUInt8)) ∧ w' = w := Any.stringslite_IndexByte Tryz.lays217 s c w
shelf_try #print axioms Tryz.stringslite_IndexByte
shelf_try shelf_lay Lays.n224 Nm 224 at Tryz as Tryz.lays224
shelf_try open Go.RowKit Go.Lib in
/-- internal/bytealg.Cutover: "Cutover reports the number of failures of IndexByte we should tolerate before switching over to Index. n is the number of bytes processed so far.": on amd64: (n + 16) / 8. (LAID: no walk: one application.) -/
theorem Tryz.bytealg_Cutover (n : Int) (h0 : 0 ≤ n) (h1 : n < 4611686018427387904) (w : World) :
    Calls Tryz.prog 186 #[.int .i64 n] w fun e w' => e = .returned (.int .i64 ((n + 16) / 8)) ∧ w' = w := Any.bytealg_Cutover Tryz.lays224 n h0 h1 w
shelf_try #print axioms Tryz.bytealg_Cutover
shelf_try shelf_lay Lays.n314 Nm 314 at Tryz as Tryz.lays314
shelf_try open Go.RowKit Go.Lib in
/-- hashStr: "returns the hash and the appropriate multiplicative factor for use in Rabin-Karp algorithm": THE HASH OF ALL OF sep, AND 16777619 ^ len(sep), both in uint32. (LAID: no walk: one application.) -/
theorem Tryz.bytealg_hashStr (sep : ByteArray) (hs : sep.size < 4294967281) (w : World) :
    Calls Tryz.prog 197 #[.string sep] w fun e w' => e = .returned (.tuple #[.int .u32 (RK.H sep.data.toList % 4294967296), .int .u32 (16777619 ^ sep.size % 4294967296)]) ∧ w' = w := Any.bytealg_hashStr Tryz.lays314 sep hs w
shelf_try #print axioms Tryz.bytealg_hashStr
shelf_try shelf_lay Lays.n267 Nm 267 at Tryz as Tryz.lays267
shelf_try open Go.RowKit Go.Lib in
theorem Tryz.bytealg_IndexRabinKarp (s sep : ByteArray) (h1 : 1 ≤ sep.size) (h2 : sep.size ≤ s.size) (hs : s.size < 4294967281) (w : World) :
    Calls Tryz.prog 187 #[.string s, .string sep] w fun e w' => e = .returned (.int .i64 (Lib.index s.data.toList sep.data.toList)) ∧ w' = w := Any.bytealg_IndexRabinKarp Tryz.lays267 s sep h1 h2 hs w
shelf_try #print axioms Tryz.bytealg_IndexRabinKarp
shelf_try shelf_lay Lays.n219 Nm 219 at Tryz as Tryz.lays219
shelf_try open Go.RowKit Go.Lib in
/-- internal/stringslite.Index (what strings.Index calls) AT A substr OF ONE BYTE c: IT RETURNS 'Lib.indexByte s c'; the world is as it was. (LAID: no walk: one application.) -/
theorem Tryz.stringslite_Index_one (s : ByteArray) (c : UInt8) (w : World) :
    Calls Tryz.prog 169 #[.string s, .string ⟨#[c]⟩] w fun e w' => e = .returned (.int .i64 (Lib.indexByte s.data.toList c)) ∧ w' = w := Any.stringslite_Index_one Tryz.lays219 s c w
shelf_try #print axioms Tryz.stringslite_Index_one
shelf_try open Go.RowKit Go.Lib in
/-- internal/stringslite.Index (what strings.Index calls) AT A substr OF WHATEVER LENGTH: IT RETURNS 'Lib.index s substr'; the world is as it was. 'm': what internal/bytealg.MaxLen holds: whatever. (LAID: no walk: one application.) -/
theorem Tryz.stringslite_Index (s sub : ByteArray) (m : Int) (w : World) (hs : s.size < 4294967281) (hm : w.cell? ⟨0, 0, none⟩ = some (.int .i64 m)) :
    Calls Tryz.prog 169 #[.string s, .string sub] w fun e w' => e = .returned (.int .i64 (Lib.index s.data.toList sub.data.toList)) ∧ w' = w := Any.stringslite_Index Tryz.lays219 s sub m w hs hm
shelf_try #print axioms Tryz.stringslite_Index
shelf_try shelf_lay Lays.n143 Nm 143 at Tryz as Tryz.lays143
shelf_try open Go.RowKit Go.Lib in
/-- strings.Index: "Index returns the index of the first instance of substr in s, or -1 if substr is not present in s.": AT A substr OF ONE BYTE c: IT RETURNS 'Lib.indexByte s c'; the world is as it was. (LAID: no walk: one application.) -/
theorem Tryz.strings_Index_one (s : ByteArray) (c : UInt8) (w : World) :
    Calls Tryz.prog 137 #[.string s, .string ⟨#[c]⟩] w fun e w' => e = .returned (.int .i64 (Lib.indexByte s.data.toList c)) ∧ w' = w := Any.strings_Index_one Tryz.lays143 s c w
shelf_try #print axioms Tryz.strings_Index_one
shelf_try open Go.RowKit Go.Lib in
/-- strings.Index: "Index returns the index of the first instance of substr in s, or -1 if substr is not present in s.": IT RETURNS 'Lib.index s substr'; the world is as it was. (LAID: no walk: one application.) -/
theorem Tryz.strings_Index (s sub : ByteArray) (m : Int) (w : World) (hs : s.size < 4294967281) (hm : w.cell? ⟨0, 0, none⟩ = some (.int .i64 m)) :
    Calls Tryz.prog 137 #[.string s, .string sub] w fun e w' => e = .returned (.int .i64 (Lib.index s.data.toList sub.data.toList)) ∧ w' = w := Any.strings_Index Tryz.lays143 s sub m w hs hm
shelf_try #print axioms Tryz.strings_Index
shelf_try shelf_lay Lays.n144 Nm 144 at Tryz as Tryz.lays144
shelf_try open Go.RowKit Go.Lib in
/-- strings.Contains: "Contains reports whether substr is within s.": AT A substr OF ONE BYTE c: IT RETURNS 'decide (0 ≤ Lib.indexByte s c)'; the world is as it was. (LAID: no walk: one application.) -/
theorem Tryz.strings_Contains_one (s : ByteArray) (c : UInt8) (w : World) :
    Calls Tryz.prog 104 #[.string s, .string ⟨#[c]⟩] w fun e w' => e = .returned (.bool (decide (0 ≤ Lib.indexByte s.data.toList c))) ∧ w' = w := Any.strings_Contains_one Tryz.lays144 s c w
shelf_try #print axioms Tryz.strings_Contains_one
shelf_try open Go.RowKit Go.Lib in
/-- strings.Contains: "Contains reports whether substr is within s.": IT RETURNS 'Lib.contains s substr'; the world is as it was. (LAID: no walk: one application.) -/
theorem Tryz.strings_Contains (s sub : ByteArray) (m : Int) (w : World) (hs : s.size < 4294967281) (hm : w.cell? ⟨0, 0, none⟩ = some (.int .i64 m)) :
    Calls Tryz.prog 104 #[.string s, .string sub] w fun e w' => e = .returned (.bool (Lib.contains s.data.toList sub.data.toList)) ∧ w' = w := Any.strings_Contains Tryz.lays144 s sub m w hs hm
shelf_try #print axioms Tryz.strings_Contains
shelf_try shelf_lay LaysM.n219 Nm 219 at Tryz as Tryz.laysM219
shelf_try open Go.RowKit Go.Lib in
theorem Tryz.stringslite_Index_shaped (s sub : ByteArray) (w : World) (h : w.ShapedOpen Tryz.prog) (hs : s.size < 4294967281) :
    Calls Tryz.prog 169 #[.string s, .string sub] w fun e w' => e = .returned (.int .i64 (Lib.index s.data.toList sub.data.toList)) ∧ w' = w := Any.stringslite_Index_shaped Tryz.laysM219 s sub w h hs
shelf_try #print axioms Tryz.stringslite_Index_shaped
shelf_try shelf_lay LaysM.n143 Nm 143 at Tryz as Tryz.laysM143
shelf_try open Go.RowKit Go.Lib in
theorem Tryz.strings_Index_shaped (s sub : ByteArray) (w : World) (h : w.ShapedOpen Tryz.prog) (hs : s.size < 4294967281) :
    Calls Tryz.prog 137 #[.string s, .string sub] w fun e w' => e = .returned (.int .i64 (Lib.index s.data.toList sub.data.toList)) ∧ w' = w := Any.strings_Index_shaped Tryz.laysM143 s sub w h hs
shelf_try #print axioms Tryz.strings_Index_shaped
shelf_try shelf_lay LaysM.n144 Nm 144 at Tryz as Tryz.laysM144
shelf_try open Go.RowKit Go.Lib in
theorem Tryz.strings_Contains_shaped (s sub : ByteArray) (w : World) (h : w.ShapedOpen Tryz.prog) (hs : s.size < 4294967281) :
    Calls Tryz.prog 104 #[.string s, .string sub] w fun e w' => e = .returned (.bool (Lib.contains s.data.toList sub.data.toList)) ∧ w' = w := Any.strings_Contains_shaped Tryz.laysM144 s sub w h hs
shelf_try #print axioms Tryz.strings_Contains_shaped
shelf_try shelf_lay Lays.n189 Nm 189 at Tryz as Tryz.lays189
shelf_try open Go.Sort Go.RowKit in
theorem Tryz.slices_Sort_int (blk off cap : Nat) (zs : List Int) (w : World) (hH : Holds (Value.int .i64) w blk off zs.toArray) (hblk : blk < w.heap.size) (hsz : zs.length < 4611686018427387904) :
    Calls Tryz.prog 90 #[.slice (some ⟨blk, off, none⟩) zs.length cap] w fun e w' =>
      e = .returned (.tuple #[]) ∧ ∃ n os, w' = grow (putRow (Value.int .i64) (Sort.ahead w n) blk off (zs.mergeSort fun x y => decide (x ≤ y)).toArray) os := Any.slices_Sort_int Tryz.lays189 blk off cap zs w hH hblk hsz
shelf_try #print axioms Tryz.slices_Sort_int
shelf_try shelf_lay Lays2.n20 Nm2 20 at Tryz as Tryz.laysNm220
shelf_try open Go.RowKit Go.Lib Go.Sort in
/-- slices.Compact at []int, over an array: the library's two loops are walked. (LAID: no walk: one application.) -/
theorem Tryz.slices_Compact_int_arr (blk off cap : Nat) (d : Array Int) (w : World) (hH : Holds encI w blk off d) (hsz : d.size ≤ 9223372036854775807) (hcap : d.size ≤ cap) :
    Calls Tryz.prog 91 #[.slice (some ⟨blk, off, none⟩) d.size cap] w fun e w' => e = .returned (.slice (some ⟨blk, off, none⟩) (compactUpTo d d.size).length cap) ∧ ∃ q, w' = putRow encI (Sort.ahead w q) blk off (compactUpTo d d.size ++ List.replicate (d.size - (compactUpTo d d.size).length) 0).toArray := Any.slices_Compact_int_arr Tryz.laysNm220 blk off cap d w hH hsz hcap
shelf_try #print axioms Tryz.slices_Compact_int_arr
shelf_try open Go.RowKit Go.Lib Go.Sort in
/-- slices.Compact at []int: "Compact replaces consecutive runs of equal elements with a single copy. This is like the uniq command found on Unix. Compact modifies the contents of the slice s and returns the modified slice, which may have a smaller length. Compact zeroes the elements between the new length and the original length. The result preserves the nilness of s.": IT RETURNS THE SLICE CUT TO 'Lib.compact zs'; ITS CELLS HOLD 'Lib.compact zs', THEN ZERO VALUES up to the old length; all else is as it was, but for the count of draws. IN THE WORDS OF slices.Sort's CONTRACT ('Holds', 'putRow'): so the everyday 'slices.Sort(xs); xs = slices.Compact(xs)' goes from the one contract to the other. It asks 'zs.length ≤ cap' (every slice's: the reslicing 's[:k]' looks at it). Length 0, nil: '.._empty'. (LAID: no walk: one application.) -/
theorem Tryz.slices_Compact_int (blk off cap : Nat) (zs : List Int) (w : World) (hH : Holds (Value.int .i64) w blk off zs.toArray) (hsz : zs.length ≤ 9223372036854775807) (hcap : zs.length ≤ cap) :
    Calls Tryz.prog 91 #[.slice (some ⟨blk, off, none⟩) zs.length cap] w fun e w' => e = .returned (.slice (some ⟨blk, off, none⟩) (Lib.compact zs).length cap) ∧ ∃ q, w' = putRow (Value.int .i64) (Sort.ahead w q) blk off (Lib.compact zs ++ List.replicate (zs.length - (Lib.compact zs).length) 0).toArray := Any.slices_Compact_int Tryz.laysNm220 blk off cap zs w hH hsz hcap
shelf_try #print axioms Tryz.slices_Compact_int
shelf_try open Go.RowKit Go.Lib Go.Sort in
/-- The same at a slice of length 0, a nil one too: it comes back as it is. (LAID: no walk: one application.) -/
theorem Tryz.slices_Compact_int_empty (a : Option Addr) (cap : Nat) (w : World) :
    Calls Tryz.prog 91 #[.slice a 0 cap] w fun e w' => e = .returned (.slice a 0 cap) ∧ w' = w := Any.slices_Compact_int_empty Tryz.laysNm220 a cap w
shelf_try #print axioms Tryz.slices_Compact_int_empty
shelf_try open Go.RowKit Go.Sort in
/-- .. and plain. (LAID: no walk: one application.) -/
theorem Tryz.slices_Sort_int_none (p : Option Addr) (cap : Nat) (w : World) :
    Calls Tryz.prog 90 #[.slice p 0 cap] w fun e w' => e = .returned (.tuple #[]) ∧ w' = w := Any.slices_Sort_int_none Tryz.lays189 p cap w
shelf_try #print axioms Tryz.slices_Sort_int_none
shelf_tried
end Go.Proofs
/- From a row's reading of an argument to an abstract value. -/
set_option linter.unusedVariables false
set_option linter.unusedSimpArgs false
namespace Go.Fm
open Go

/-- the types that are read here: a struct is a chain of its fields -/
inductive Ty where
  | bool | int (k : IntKind) | str | sl (e : Ty) | nil | cons (a b : Ty)

def Ty.cells : Ty → Nat
  | .bool | .int _ | .str | .sl _ => 1
  | .nil => 0
  | .cons a b => a.cells + b.cells

/-- a value of a type, its strings and slices no longer than B -/
def Ty.has (B : Nat) : Ty → List FV → Prop
  | .bool, fs => ∃ b, fs = [.bool b]
  | .int k, fs => ∃ x, fs = [.int k x] ∧ (Lit.int k x).wf = true
  | .str, fs => ∃ s, fs = [.str s] ∧ s.length ≤ B
  | .sl e, fs => ∃ es, fs = [.sl false es] ∧ es.length ≤ B ∧ ∀ r ∈ es, e.has B r
  | .nil, fs => fs = []
  | .cons a b, fs => ∃ x y, fs = x ++ y ∧ a.has B x ∧ b.has B y

def tyFs (P : Program) (f : TypeId → Option Ty) : Nat → List (TypeId × Nat) → Option Ty
  | _, [] => some .nil
  | off, x :: xs => if x.2 = off then (f x.1).bind fun a => if P.cellsOf x.1 = a.cells then (tyFs P f (off + a.cells) xs).map (.cons a ·) else none else none
def tyOf (P : Program) : Nat → TypeId → Option Ty
  | 0, _ => none
  | n + 1, t => match P.underlying t with
    | some .bool => some .bool
    | some (.int k) => some (.int k)
    | some .string => some .str
    | some (.slice e) => (tyOf P n e).bind fun T => if P.cellsOf e = T.cells ∧ 0 < T.cells then some (.sl T) else none
    | some (.struct flds) => (tyFs P (tyOf P n) 0 (flds.toList.map fun f => (f.type, f.offset))).bind fun T => if P.cellsOf t = T.cells then some T else none
    | _ => none

structure Bnd {H : Type} (Bd : DataW H → Prop) (B : Nat) : Prop where
  str : ∀ {s}, Bd (.lit (.string s)) → s.length ≤ maxLen → s.length ≤ B
  sl : ∀ {es rest}, Bd (.slice es rest) → es.length ≤ maxLen → es.length ≤ B ∧ ∀ d ∈ es, Bd d
  agg : ∀ {xs}, Bd (.agg xs) → ∀ d ∈ xs, Bd d

theorem Ty.has_length {B : Nat} : ∀ {T : Ty} {fs : List FV}, T.has B fs → fs.length = T.cells
  | .bool, _, ⟨_, rfl⟩ | .int _, _, ⟨_, rfl, _⟩ | .str, _, ⟨_, rfl, _⟩ | .sl _, _, ⟨_, rfl, _⟩ => rfl
  | .nil, _, h => by obtain rfl : _ = [] := h; rfl
  | .cons a b, _, ⟨x, y, rfl, hx, hy⟩ => by simp [Ty.cells, has_length hx, has_length hy]

theorem mapM_some_iff {α β : Type} {f : α → Option β} : ∀ {l : List α} {r : List β}, l.mapM f = some r → l.length = r.length ∧ ∀ i : Nat, (l[i]?).bind f = r[i]?
  | [], r, h => by simp at h; subst h; simp
  | a :: l, r, h => by
    rw [List.mapM_cons] at h
    cases ha : f a with
    | none => simp [ha] at h
    | some b =>
      cases hl : l.mapM f with
      | none => simp [ha, hl] at h
      | some bs =>
        simp [ha, hl] at h
        subst h
        have ih := mapM_some_iff hl
        refine ⟨by simp [ih.1], fun i => ?_⟩
        cases i with
        | zero => simpa using ha
        | succ i => simpa using ih.2 i

theorem cells?_some {w : World} {a : Addr} {n : Nat} {cs : List Value} (h : w.cells? 0 a n = some cs) :
    cs.length = n ∧ ∀ k, k < n → w.cell? (a.add k) = cs[k]? := by
  unfold World.cells? at h
  rw [if_pos (Nat.zero_le _)] at h
  have := mapM_some_iff h
  refine ⟨by simpa using this.1.symm, fun k hk => ?_⟩
  have h2 := this.2 k
  rw [List.getElem?_range hk] at h2
  simpa using h2

theorem spot_none {w : World} {a : Addr} {v : Value} (h : w.cell? a = some v) : a = ⟨a.block, a.off, none⟩ ∧ a.block < w.heap.size := by
  obtain ⟨b, o, s⟩ := a
  unfold World.cell? at h
  cases e : w.heap[b]? with
  | none => simp [e] at h
  | some x =>
    refine ⟨?_, (Array.getElem?_eq_some_iff.1 e).1⟩
    cases s with
    | none => rfl
    | some s => cases x <;> simp [e] at h

def Reads (P : Program) (B : Nat) (w : World) (T : Ty) (cs : List Value) : Prop :=
  ∃ fs, T.has B fs ∧ Rep w.heap (fun b => b < w.heap.size) cs fs []

/-- many elements in a row -/
theorem reads_row {P : Program} {B : Nat} {w : World} {T : Ty} {st : Nat} : ∀ {rows : List (List Value)}, (∀ r ∈ rows, Reads P B w T r) →
    ∃ es : List (List FV), es.length = rows.length ∧ (∀ e ∈ es, T.has B e) ∧ Rep w.heap (fun b => b < w.heap.size) rows.flatten es.flatten []
  | [], _ => ⟨[], rfl, by simp, .nil⟩
  | r :: rows, h => by
    obtain ⟨f, h1, h2⟩ := h r (by simp)
    obtain ⟨es, h3, h4, h5⟩ := reads_row (st := st) (rows := rows) (fun r' m => h r' (List.mem_cons_of_mem _ m))
    exact ⟨f :: es, by simp [h3], by simp only [List.mem_cons]; rintro e (rfl | m); exact h1; exact h4 e m, by simpa using h2.append h5⟩

theorem flatten_get {α : Type} {st : Nat} : ∀ {rows : List (List α)}, (∀ r ∈ rows, r.length = st) → ∀ i j : Nat, j < st → rows.flatten[i * st + j]? = (rows[i]?).bind (·[j]?)
  | [], _, i, j, _ => by simp
  | r :: rows, h, i, j, hj => by
    have hr := h r (by simp)
    cases i with
    | zero => simp [List.getElem?_append, hr, hj]
    | succ i =>
      have := flatten_get (rows := rows) (fun r' m => h r' (by simp [m])) i j hj
      rw [List.flatten_cons, List.getElem?_append_right (by rw [hr, Nat.succ_mul]; omega)]
      rw [hr, Nat.succ_mul, show i * st + st + j - st = i * st + j by omega, this]
      simp

section
variable {H : Type} {enc : TypeId × Value → H} {P : Program} {w : World} {Bd : DataW H → Prop} {B : Nat}

theorem rep_struct {fuel n : Nat} {cs : List Value}
    (ih : ∀ t T c d ps, tyOf P n t = some T → DataW.trod enc P w 0 (fun _ => true) true fuel t c = some (d, ps) → Bd d → Reads P B w T c) :
    ∀ (flds : List (TypeId × Nat)) (off : Nat) (T : Ty) (xs : List (DataW H × List MemPlace)), tyFs P (tyOf P n) off flds = some T →
      (flds.mapM fun f => DataW.trod enc P w 0 (fun _ => true) true fuel f.1 ((cs.drop f.2).take (P.cellsOf f.1))) = some xs → (∀ x ∈ xs, Bd x.1) →
      cs.length = off + T.cells → Reads P B w T (cs.drop off)
  | [], off, T, xs, hT, hx, hb, hl => by
    simp [tyFs] at hT
    subst hT
    simp [Ty.cells] at hl
    exact ⟨[], rfl, by rw [List.drop_eq_nil_of_le (by omega)]; exact .nil⟩
  | f :: flds, off, T, xs, hT, hx, hb, hl => by
    simp only [tyFs] at hT
    split at hT
    case isFalse => cases hT
    case isTrue ho =>
    cases ha : tyOf P n f.1 with
    | none => simp [ha] at hT
    | some a =>
      simp only [ha, Option.bind_some] at hT
      split at hT
      case isFalse => cases hT
      case isTrue hc =>
      cases hr : tyFs P (tyOf P n) (off + a.cells) flds with
      | none => simp [hr] at hT
      | some b =>
        simp only [hr, Option.map_some, Option.some.injEq] at hT
        subst hT
        rw [List.mapM_cons] at hx
        cases h1 : DataW.trod enc P w 0 (fun _ => true) true fuel f.1 ((cs.drop f.2).take (P.cellsOf f.1)) with
        | none => simp [h1] at hx
        | some x =>
          cases h2 : (flds.mapM fun f => DataW.trod enc P w 0 (fun _ => true) true fuel f.1 ((cs.drop f.2).take (P.cellsOf f.1))) with
          | none => simp [h1, h2] at hx
          | some ys =>
            simp [h1, h2] at hx
            subst hx
            simp only [Ty.cells] at hl
            obtain ⟨fa, ha1, ha2⟩ := ih f.1 a _ x.1 x.2 ha h1 (hb x (by simp))
            obtain ⟨fb, hb1, hb2⟩ := rep_struct ih flds (off + a.cells) b ys hr h2 (fun y m => hb y (by simp [m])) (by omega)
            refine ⟨fa ++ fb, ⟨fa, fb, rfl, ha1, hb1⟩, ?_⟩
            have := ha2.append hb2
            rw [ho, hc] at this
            rwa [← List.drop_drop, List.take_append_drop] at this

theorem reads_of_trod (hB : Bnd Bd B) : ∀ (n fuel : Nat) (t : TypeId) (T : Ty) (cs : List Value) (d : DataW H) (ps : List MemPlace), tyOf P n t = some T →
    DataW.trod enc P w 0 (fun _ => true) true fuel t cs = some (d, ps) → Bd d → Reads P B w T cs
  | 0, _, _, _, _, _, _, hT, _, _ => by simp [tyOf] at hT
  | n + 1, 0, t, T, cs, d, ps, hT, ht, hd => by simp [DataW.trod] at ht
  | n + 1, fuel + 1, t, T, cs, d, ps, hT, ht, hd => by
    have ih := fun t T c d ps => reads_of_trod hB n fuel t T c d ps
    simp only [tyOf] at hT
    split at hT
    case h_6 => cases hT
    case h_1 hu =>
      simp only [Option.some.injEq] at hT
      subst hT
      unfold DataW.trod at ht
      rw [hu] at ht
      split at ht <;> simp_all
      obtain ⟨rfl, rfl⟩ := ht
      exact ⟨_, ⟨_, rfl⟩, .bool .nil⟩
    case h_2 k hu =>
      simp only [Option.some.injEq] at hT
      subst hT
      unfold DataW.trod at ht
      rw [hu] at ht
      split at ht <;> simp_all
      obtain ⟨⟨rfl, hw⟩, rfl, rfl⟩ := ht
      rename_i h1
      obtain rfl := h1
      exact ⟨_, ⟨_, rfl, hw⟩, .int .nil⟩
    case h_3 hu =>
      simp only [Option.some.injEq] at hT
      subst hT
      unfold DataW.trod at ht
      rw [hu] at ht
      split at ht <;> simp_all
      obtain ⟨hw, rfl, rfl⟩ := ht
      rename_i s
      obtain ⟨⟨s⟩⟩ := s
      exact ⟨_, ⟨s, rfl, hB.str hd (by simpa [ByteArray.size] using hw)⟩, .str .nil⟩
    case h_4 e hu =>
      cases he : tyOf P n e with
      | none => simp [he] at hT
      | some T' =>
      simp only [he, Option.bind_some] at hT
      split at hT
      case isFalse => cases hT
      case isTrue hc =>
      obtain ⟨hc, hpos⟩ := hc
      simp only [Option.some.injEq] at hT
      subst hT
      unfold DataW.trod at ht
      rw [hu] at ht
      split at ht <;> try (simp_all; done)
      · simp at ht
        exact ⟨[.sl false []], ⟨[], rfl, Nat.zero_le _, by simp⟩, .slNil .nil⟩
      · rename_i cs0 e' a len cap h2
        simp only [Option.some.injEq, TypeDesc.slice.injEq] at h2
        subst h2
        simp only [if_true] at ht
        split at ht
        case isFalse => cases ht
        case isTrue hl =>
        obtain ⟨_, hl1, hl2⟩ := hl
        cases hx : (List.mapM (fun i => (w.cells? 0 (a.add (i * P.cellsOf e)) (P.cellsOf e)).bind (DataW.trod enc P w 0 (fun _ => true) true fuel e)) (List.range len)) with
        | none => simp [hx] at ht
        | some xs =>
        cases hy : (List.mapM (fun j => (w.cells? 0 (a.add ((len + j) * P.cellsOf e)) (P.cellsOf e)).bind (DataW.trod enc P w 0 (fun _ => true) true fuel e)) (List.range (cap - len))) with
        | none => simp [hx, hy] at ht
        | some ys =>
        simp only [hx, hy, Option.map_some, Option.bind_some, Option.some.injEq, Prod.mk.injEq] at ht
        obtain ⟨rfl, rfl⟩ := ht
        obtain ⟨hxl, hxs⟩ := mapM_some_iff hx
        obtain ⟨hyl, hys⟩ := mapM_some_iff hy
        simp only [List.length_range] at hxl hyl
        by_cases hz : cap = 0
        · obtain rfl : len = 0 := by omega
          subst hz
          exact ⟨[.sl false []], ⟨[], rfl, Nat.zero_le _, by simp⟩, .slNil .nil⟩
        have hB2 := hB.sl hd (by simp; omega)
        have cell : ∀ i, i < len → ∃ c x, w.cells? 0 (a.add (i * P.cellsOf e)) (P.cellsOf e) = some c ∧ DataW.trod enc P w 0 (fun _ => true) true fuel e c = some x ∧ Bd x.1 := by
          intro i hi
          have h := hxs i
          rw [List.getElem?_range hi, Option.bind_some, List.getElem?_eq_getElem (by omega)] at h
          obtain ⟨c, h3, h4⟩ := Option.bind_eq_some_iff.1 h
          exact ⟨c, _, h3, h4, hB2.2 _ (List.mem_map.2 ⟨_, List.getElem_mem _, rfl⟩)⟩
        have first : a = ⟨a.block, a.off, none⟩ ∧ a.block < w.heap.size := by
          have : ∃ c, w.cells? 0 a (P.cellsOf e) = some c := by
            by_cases h0 : 0 < len
            · obtain ⟨c, _, h, _⟩ := cell 0 h0; exact ⟨c, by simpa [Addr.add] using h⟩
            · obtain rfl : len = 0 := by omega
              have h := hys 0
              rw [List.getElem?_range (by omega), Option.bind_some, List.getElem?_eq_getElem (by omega)] at h
              obtain ⟨c, h3, h4⟩ := Option.bind_eq_some_iff.1 h
              exact ⟨c, by simpa [Addr.add] using h3⟩
          obtain ⟨c, h⟩ := this
          have h2 := (cells?_some h).2 0 (by omega)
          rw [List.getElem?_eq_getElem (by rw [(cells?_some h).1]; omega)] at h2
          have := spot_none h2
          simpa [Addr.add] using this
        obtain ⟨bk, o, spt⟩ := a
        obtain ⟨rfl, hlt⟩ : spt = none ∧ bk < w.heap.size := by simpa using first
        let row : Nat → List Value := fun i => ((w.cells? 0 (Addr.add ⟨bk, o, none⟩ (i * P.cellsOf e)) (P.cellsOf e)).getD [])
        have hrow : ∀ i, i < len → Reads P B w T' (row i) ∧ (row i).length = T'.cells ∧ ∀ k, k < T'.cells → w.cell? ⟨bk, o + (i * T'.cells + k), none⟩ = (row i)[k]? := by
          intro i hi
          obtain ⟨c, x, h3, h4, h5⟩ := cell i hi
          have e1 : row i = c := by simp only [row, h3, Option.getD_some]
          rw [e1]
          obtain ⟨h6, h7⟩ := cells?_some h3
          refine ⟨ih e T' c x.1 x.2 he h4 h5, by rw [h6, hc], fun k hk => ?_⟩
          have := h7 k (by omega)
          rw [← this, ← hc]
          congr 1
          simp only [Addr.add]
          split <;> split <;> simp_all <;> omega
        obtain ⟨es, h3, h4, h5⟩ := reads_row (P := P) (B := B) (w := w) (T := T') (st := 0) (rows := (List.range len).map row) (by
          intro r m
          obtain ⟨i, hi, rfl⟩ := List.mem_map.1 m
          exact (hrow i (List.mem_range.1 hi)).1)
        simp only [List.length_map, List.length_range] at h3
        have hst : ∀ r ∈ (List.range len).map row, r.length = T'.cells := by
          intro r m
          obtain ⟨i, hi, rfl⟩ := List.mem_map.1 m
          exact (hrow i (List.mem_range.1 hi)).2.1
        have hfl : ((List.range len).map row).flatten.length = len * T'.cells := by
          have := h5.length
          have h6 : ∀ {rows : List (List Value)}, (∀ r ∈ rows, r.length = T'.cells) → rows.flatten.length = rows.length * T'.cells := by
            intro rows
            induction rows with
            | nil => simp
            | cons r rows ih2 => intro h; rw [List.flatten_cons, List.length_append, h r (by simp), ih2 fun r' m => h r' (by simp [m]), List.length_cons, Nat.succ_mul]; omega
          simpa using h6 hst
        refine ⟨[.sl false es], ⟨es, rfl, by rw [h3]; simpa [hxl] using hB2.1, h4⟩, ?_⟩
        refine .sl h3 (st := T'.cells) (cs := ((List.range len).map row).flatten) (fun r m => Ty.has_length (h4 r m)) hlt hlt hfl (fun k hk => ?_) hl1 (by simp) (by omega) h5 .nil
        have hk1 : k / T'.cells < len := Nat.div_lt_of_lt_mul (by rwa [Nat.mul_comm])
        have hk2 : k % T'.cells < T'.cells := Nat.mod_lt _ hpos
        have hk3 : k = k / T'.cells * T'.cells + k % T'.cells := by rw [Nat.mul_comm]; exact (Nat.div_add_mod k _).symm
        rw [hk3, flatten_get hst _ _ hk2, List.getElem?_map, List.getElem?_range hk1, ← cell?_eq]
        exact (hrow _ hk1).2.2 _ hk2
    case h_5 flds hu =>
      cases he : tyFs P (tyOf P n) 0 (flds.toList.map fun f => (f.type, f.offset)) with
      | none => simp [he] at hT
      | some T' =>
      simp only [he, Option.bind_some] at hT
      split at hT
      case isFalse => cases hT
      case isTrue hc =>
      simp only [Option.some.injEq] at hT
      subst hT
      unfold DataW.trod at ht
      rw [hu] at ht
      split at ht <;> try (simp_all; done)
      rename_i cs0 x1 cs1 flds' h1
      simp only [Option.some.injEq, TypeDesc.struct.injEq] at h1
      subst h1
      split at ht
      case isFalse => cases ht
      case isTrue hl =>
      cases hx : (flds.toList.mapM fun f => DataW.trod enc P w 0 (fun _ => true) true fuel f.type ((cs0.drop f.offset).take (P.cellsOf f.type))) with
      | none => simp [hx] at ht
      | some xs =>
      simp only [hx, Option.map_some, Option.some.injEq, Prod.mk.injEq] at ht
      obtain ⟨rfl, rfl⟩ := ht
      have := rep_struct (n := n) (cs := cs0) (fuel := fuel) (Bd := Bd) (B := B) (fun t T c d ps => ih t T c d ps) (flds.toList.map fun f => (f.type, f.offset)) 0 T' xs he (by rw [List.mapM_map]; exact hx) (fun x m => hB.agg hd _ (List.mem_map.2 ⟨x, m, rfl⟩)) (by rw [hl, hc, Nat.zero_add])
      exact this
end
end Go.Fm
/- A contract of a function that yields true, brought to a row: what was there when the call began reads as it did. -/
set_option linter.unusedVariables false
set_option linter.unusedSimpArgs false
namespace Go.Fm
open Go Go.ChangeShapes Go.WideShapes Go.RowKit Go.WideElems

section
variable {H : Type} {enc : TypeId × Value → H} {P : Program}

theorem Ext.below {W W' : World} {S S' : Nat → Prop} {R' : List Nat} (e : Ext W S [] W' S' R') : Below W.heap.size W W' :=
  ⟨e.os, e.tape, e.output, e.grow, fun k hk => e.keep k hk (by simp)⟩

theorem trodAll_below (hl : laidOutB P = true) {W W' : World} (hb : Below W.heap.size W W') {sp : Nat → Bool} : ∀ {ts : List TypeId} {vs : List Value} {ds : List (DataW H)} {ps : List MemPlace},
    (∀ t ∈ ts, P.readableRec t = true ∧ t < P.types.size) → DataW.TrodAll enc P W 0 (fun _ => true) true ts vs ds ps → (∀ p ∈ ps, p.block < W.heap.size) → (∀ p ∈ ps, sp p.block = true) →
    DataW.TrodAll enc P W' 0 sp true ts vs ds ps
  | [], vs, ds, ps, _, h, _, _ => by obtain ⟨rfl, rfl, rfl⟩ := trodAll_nil h; exact trodAll_mk0
  | t :: ts, vs, ds, ps, hr, h, hlt, hs => by
    obtain ⟨v, vs1, d, ds1, a, b, rfl, rfl, rfl, h1, h2⟩ := trodAll_cons h
    have := hr t (by simp)
    exact ⟨a, b, Trod_stays hl this.1 this.2 h1 (fun x hx => hb.same (hlt x (by simp [hx]))) (fun x hx => hs x (by simp [hx])),
      trodAll_below hl hb (fun t m => hr t (by simp [m])) h2 (fun x hx => hlt x (by simp [hx])) (fun x hx => hs x (by simp [hx])), rfl⟩

theorem post_of_below {f : Func} {s : ChangeSpec} {apart fresh handsOn again : Bool} {W W' : World} {args : Array Value} {v : Value} {ds gs : List (DataW H)} {before pa pv : List MemPlace}
    (hW : DataW.Whole enc P f.params.toList s.vars apart W args.toList ds gs before)
    (hres : ∀ (b : Nat) (sp : Nat → Bool) (hd : Bool), DataW.TrodAll enc P W' b sp hd f.resultTypes.toList (v.resultList f.resultTypes.size) (s.fn H (ds ++ gs)).results [])
    (hargs : ∀ sp : Nat → Bool, (∀ p ∈ before, sp p.block = true) → DataW.TrodAll enc P W' 0 sp true f.params.toList args.toList (s.fn H (ds ++ gs)).args pa)
    (hvars : ∀ sp : Nat → Bool, (∀ p ∈ before, sp p.block = true) → DataW.TrodVars enc P W' sp s.vars (s.fn H (ds ++ gs)).vars pv)
    (hps : before = pa ++ pv) (hb : Below W.heap.size W W')
    (hok : ∀ (j : Nat) (t : TypeId) (r : Value), f.resultTypes[j]? = some t → (v.resultList f.resultTypes.size)[j]? = some r → Value.okWide P W' .any 0 t r) :
    s.post enc P f apart fresh handsOn again W args v W' := by
  have hold : ∀ p ∈ before, (fun b => decide (b < W.heap.size)) p.block = true := fun p hp => by simpa using hW.lt p hp
  have hlt := hW.lt
  refine ⟨ds, gs, before, [], pa, pv, hW, hres _ _ _, hargs _ hold, hvars _ hold, hb.frame _, fun _ => ?_⟩
  obtain ⟨_, _, _, _, _, hz, hn⟩ := hW
  refine ⟨hok, _, _, ([] ++ pa) ++ pv, ⟨[] ++ pa, pv, trodAll_append (hargs _ (fun _ _ => rfl)) (hres _ _ _), hvars _ (fun _ _ => rfl), rfl, ?_, ?_⟩, ?_⟩
  · intro b off hp
    have hm : MemPlace.cell b off ∈ before := by rw [hps]; simpa using hp
    rw [hb.frozen (hlt _ hm)]
    exact hz b off hm
  · intro ha
    have := hn ha
    rw [hps] at this
    simpa using this
  · intro p hp _
    rw [hps]
    simpa using hp

/-- THE CONTRACT OF A ROW whose function yields true -/
theorem row_true {f : FuncId} {fn : Func} {s : ChangeSpec} {apart fresh handsOn again : Bool} {W : World} {args : Array Value} {ds : List (DataW H)} {before : List MemPlace} {fs : List FV} {tb : TypeId}
    (hl : laidOutB P = true) (hr : ∀ t ∈ fn.params.toList, P.readableRec t = true ∧ t < P.types.size)
    (hW : DataW.Whole enc P fn.params.toList s.vars apart W args.toList ds [] before) (hv : s.vars = [])
    (hs : s.fn H (ds ++ []) = { results := [.lit (.bool true)], args := ds }) (hres : fn.resultTypes = #[tb]) (htb : P.underlying tb = some .bool)
    (hA : Amb P W (fun b => b < W.heap.size)) (hR : Rep W.heap (fun b => b < W.heap.size) args.toList fs []) (hc : FCall P f fs (· = .bool true)) :
    Calls P f args W fun e W' => ∃ v, e = .returned v ∧ s.post enc P fn apart fresh handsOn again W args v W' := by
  have := hc.out hA hR (by simp) (fun b hb => ⟨hb, by simp⟩)
  rw [Array.toArray_toList] at this
  refine this.mono fun e W' ⟨v, r, S', R', he, hr', hrep, _, _, hext⟩ => ?_
  subst hr'
  subst he
  cases hrep with
  | bool hrest =>
  have hb := hext.below
  have hW' := hW
  obtain ⟨p, q, hA0, hV, rfl, hfz, hnd⟩ := hW
  rw [hv] at hV
  obtain ⟨_, rfl⟩ := trodVars_none hV
  have hlt := hW'.lt
  refine ⟨_, rfl, post_of_below (pa := p) (pv := []) hW' (fun _ _ _ => ?_) (fun sp hsp => ?_) (fun _ _ => ?_) rfl hb (ok_one hres rfl (okWide_bool_mk htb _))⟩
  · rw [hs, hres]
    exact trodAll_cons_mk (shut_bool htb _) trodAll_mk0
  · rw [hs]
    exact trodAll_below hl hb hr hA0 (fun x hx => hlt x (by simp [hx])) (fun x hx => hsp x (by simp [hx]))
  · rw [hs, hv]; rfl

/-- the table, where it stands third on the row's list -/
theorem amb_third {W : World} {x y : String × DataW Unit} {rest : List (String × DataW Unit)} {g t e : Nat}
    (hg : P.globalNamed "internal/strconv.uint64pow10" = some g) (hty : (P.globals[g]?).map (·.type) = some t) (ht : P.underlying t = some (.array 20 e)) (he : P.underlying e = some (.int .u64)) (hce : P.cellsOf e = 1) (hct : P.cellsOf t = 20)
    (h1 : laidMet P (x :: y :: ("internal/strconv.uint64pow10", Lib.tabData .u64 Lib.pow10Tab) :: rest) W)
    (hi : ∀ g, P.globalNamed "internal/bytealg.MaxLen" = some g → g < W.heap.size ∧ ∃ m : Int, W.cell? ⟨g, 0, none⟩ = some (.int .i64 m)) : Amb P W (fun b => b < W.heap.size) := by
  have h2 := Lib.tabIs_of_head hg hty ht he hce hct h1.tail.tail
  refine ⟨fun z hz g' hg' => ?_, fun z hz g' hg' => by
    simp only [ambInts, List.mem_singleton] at hz
    subst hz
    exact hi g' hg'⟩
  simp only [ambTabs, List.mem_singleton] at hz
  subst hz
  obtain rfl := Option.some.inj (hg.symm.trans hg')
  refine ⟨?_, h2⟩
  have h3 := h2.cell hg 0 (by decide)
  exact (spot_none h3).2
end
end Go.Fm
/- From the reading of a row's arguments to abstract values, for any list of parameters; a row whose function yields true. -/
set_option linter.unusedVariables false
set_option linter.unusedSimpArgs false
namespace Go.Fm
open Go Go.ChangeShapes Go.WideShapes Go.RowKit Go.WideElems

/-- an argument: a struct is one value, made of cells -/
def argHas (B : Nat) : Bool × Ty → FV → Prop
  | (true, T), f => ∃ g, f = .agg g ∧ T.has B g
  | (false, T), f => T.has B [f]
def ArgsHave (B : Nat) : List (Bool × Ty) → List FV → Prop
  | [], fs => fs = []
  | x :: r, fs => ∃ f fs', fs = f :: fs' ∧ argHas B x f ∧ ArgsHave B r fs'
def argTy (P : Program) (n : Nat) (t : TypeId) : Option (Bool × Ty) :=
  match P.underlying t with
  | some (.struct _) => (tyOf P n t).map (true, ·)
  | some (.slice _) | some (.int _) | some .bool | some .string => (tyOf P n t).map (false, ·)
  | _ => none
def argTys (P : Program) (n : Nat) : List TypeId → Option (List (Bool × Ty))
  | [] => some []
  | t :: ts => (argTy P n t).bind fun x => (argTys P n ts).map (x :: ·)

section
variable {H : Type} {enc : TypeId × Value → H} {P : Program} {w : World} {Bd : DataW H → Prop} {B : Nat}
theorem arg_of_trod (hB : Bnd Bd B) {n base : Nat} {t : TypeId} {x : Bool × Ty} {v : Value} {d : DataW H} {ps : List MemPlace} (hx : argTy P n t = some x) (hv : Value.okWide P w .any base t v)
    (h : DataW.Trod enc P w 0 (fun _ => true) true t v d ps) (hd : Bd d) : ∃ f, argHas B x f ∧ Rep w.heap (fun b => b < w.heap.size) [v] [f] [] := by
  obtain ⟨fuel, h⟩ := h
  unfold argTy at hx
  have one : ∀ {T : Ty}, tyOf P n t = some T → v.cells.toList = [v] → T.cells = 1 → ∃ f, argHas B (false, T) f ∧ Rep w.heap (fun b => b < w.heap.size) [v] [f] [] := fun hT hc h1 => by
    rw [hc] at h
    obtain ⟨fs, h2, h3⟩ := reads_of_trod hB n fuel t _ _ d ps hT h hd
    have hl := Ty.has_length h2
    rw [h1] at hl
    match fs, hl with
    | [f], _ => exact ⟨f, h2, h3⟩
  have cells1 : ∀ {T : Ty}, tyOf P n t = some T → (∀ fl, P.underlying t ≠ some (.struct fl)) → T.cells = 1 := fun hT hn => by
    cases n with
    | zero => simp [tyOf] at hT
    | succ n =>
      simp only [tyOf] at hT
      split at hT <;> try (simp only [Option.some.injEq] at hT; subst hT; rfl)
      · rename_i e he
        cases hh : tyOf P n e with
        | none => simp [hh] at hT
        | some T' =>
          simp only [hh, Option.bind_some] at hT
          split at hT
          · simp only [Option.some.injEq] at hT; subst hT; rfl
          · cases hT
      · rename_i fl hfl; exact absurd hfl (hn fl)
      · cases hT
  split at hx
  · rename_i fl hu
    obtain ⟨cs, rfl, _⟩ := okWide_struct hu hv
    simp only [Option.map_eq_some_iff] at hx
    obtain ⟨T, hT, rfl⟩ := hx
    obtain ⟨fs, h2, h3⟩ := reads_of_trod hB n fuel t _ _ d ps hT h hd
    refine ⟨.agg fs, ⟨fs, rfl, h2⟩, ?_⟩
    have := Rep.agg (cs := cs.toList) (vs := []) (fs := []) (R := []) (by simpa [Value.cells] using h3) .nil
    simpa using this
  · rename_i e hu
    obtain ⟨a, len, cap, rfl⟩ := okWide_slice hu hv
    simp only [Option.map_eq_some_iff] at hx
    obtain ⟨T, hT, rfl⟩ := hx
    exact one hT rfl (cells1 hT fun fl he => by rw [hu] at he; cases he)
  · rename_i k hu
    obtain ⟨a, rfl⟩ := okWide_int hu hv
    simp only [Option.map_eq_some_iff] at hx
    obtain ⟨T, hT, rfl⟩ := hx
    exact one hT rfl (cells1 hT fun fl he => by rw [hu] at he; cases he)
  · rename_i hu
    obtain ⟨a, rfl⟩ := okWide_bool hu hv
    simp only [Option.map_eq_some_iff] at hx
    obtain ⟨T, hT, rfl⟩ := hx
    exact one hT rfl (cells1 hT fun fl he => by rw [hu] at he; cases he)
  · rename_i hu
    obtain ⟨a, rfl⟩ := okWide_string hu hv
    simp only [Option.map_eq_some_iff] at hx
    obtain ⟨T, hT, rfl⟩ := hx
    exact one hT rfl (cells1 hT fun fl he => by rw [hu] at he; cases he)
  · cases hx

theorem args_of_trod (hB : Bnd Bd B) {n base : Nat} : ∀ {ts : List TypeId} {Ts : List (Bool × Ty)} {vs : List Value} {ds : List (DataW H)} {ps : List MemPlace}, argTys P n ts = some Ts →
    (∀ (j : Nat) t v, ts[j]? = some t → vs[j]? = some v → Value.okWide P w .any base t v) → DataW.TrodAll enc P w 0 (fun _ => true) true ts vs ds ps → (∀ d ∈ ds, Bd d) →
    ∃ fs, ArgsHave B Ts fs ∧ Rep w.heap (fun b => b < w.heap.size) vs fs []
  | [], Ts, vs, ds, ps, hT, hv, h, hd => by
    obtain ⟨rfl, rfl, rfl⟩ := trodAll_nil h
    simp only [argTys, Option.some.injEq] at hT
    subst hT
    exact ⟨[], rfl, .nil⟩
  | t :: ts, Ts, vs, ds, ps, hT, hv, h, hd => by
    obtain ⟨v, vs1, d, ds1, a, b, rfl, rfl, rfl, h1, h2⟩ := trodAll_cons h
    simp only [argTys] at hT
    cases hx : argTy P n t with
    | none => simp [hx] at hT
    | some x =>
    cases hr : argTys P n ts with
    | none => simp [hx, hr] at hT
    | some Tr =>
    simp only [hx, hr, Option.bind_some, Option.map_some, Option.some.injEq] at hT
    subst hT
    obtain ⟨fs, h3, h4⟩ := args_of_trod hB hr (fun j t v h1 h2 => hv (j + 1) t v (by simpa using h1) (by simpa using h2)) h2 (fun d m => hd d (List.mem_cons_of_mem _ m))
    have hv0 := hv 0 t v rfl rfl
    obtain ⟨f, h5, h6⟩ := arg_of_trod hB hx hv0 h1 (hd d (by simp))
    exact ⟨f :: fs, ⟨f, fs, rfl, h5, h3⟩, h6.cons h4⟩

theorem trodAll_length : ∀ {ts : List TypeId} {vs : List Value} {ds : List (DataW H)} {ps : List MemPlace}, DataW.TrodAll enc P w 0 (fun _ => true) true ts vs ds ps → ds.length = ts.length
  | [], _, _, _, h => by obtain ⟨rfl, rfl, rfl⟩ := trodAll_nil h; rfl
  | t :: ts, _, _, _, h => by
    obtain ⟨v, vs1, d, ds1, a, b, rfl, rfl, rfl, _, h2⟩ := trodAll_cons h
    simp [trodAll_length h2]

/-- THE CONTRACT OF A ROW whose function yields true at all arguments of its types -/
theorem row_all {f : FuncId} {fn : Func} {s : ChangeSpec} {n : Nat} {Ts : List (Bool × Ty)} {tb : TypeId} (hB : Bnd Bd B) (hl : laidOutB P = true) (hv : s.vars = [])
    (hr : (fn.params.toList.all fun t => P.readableRec t && decide (t < P.types.size)) = true) (hT : argTys P n fn.params.toList = some Ts)
    (hs : ∀ ds : List (DataW H), ds.length = fn.params.toList.length → s.fn H (ds ++ []) = { results := [.lit (.bool true)], args := ds }) (hres : fn.resultTypes = #[tb]) (htb : P.underlying tb = some .bool)
    (hc : ∀ fs, ArgsHave B Ts fs → FCall P f fs (· = .bool true)) {W : World} {base : Nat} {args : Array Value} {ds gs : List (DataW H)} {before : List MemPlace}
    (hval : ∀ (j : Nat) t v, fn.params[j]? = some t → args[j]? = some v → Value.okWide P W .any base t v) (hW : DataW.Whole enc P fn.params.toList s.vars false W args.toList ds gs before)
    (hd : ∀ d ∈ ds, Bd d) (hA : Amb P W (fun b => b < W.heap.size)) :
    Calls P f args W fun e W' => ∃ v, e = .returned v ∧ s.post enc P fn false true false false W args v W' := by
  have hW' := hW
  obtain ⟨p, q, hA0, hV, rfl, hfz, hnd⟩ := hW
  rw [hv] at hV
  obtain ⟨rfl, rfl⟩ := trodVars_none hV
  obtain ⟨fs, h1, h2⟩ := args_of_trod hB hT (fun j t v h3 h4 => hval j t v (by simpa using h3) (by simpa using h4)) hA0 hd
  refine row_true hl (fun t m => ?_) hW' hv (hs ds (trodAll_length hA0)) hres htb hA h2 (hc fs h1)
  have := List.all_eq_true.1 hr t m
  simpa using this
theorem amb_none {W : World} (h : P.globalNamed "internal/strconv.uint64pow10" = none) (hi : ∀ g, P.globalNamed "internal/bytealg.MaxLen" = some g → g < W.heap.size ∧ ∃ m : Int, W.cell? ⟨g, 0, none⟩ = some (.int .i64 m)) : Amb P W (fun b => b < W.heap.size) := by
  refine ⟨fun x hx g hg => ?_, fun x hx g hg => ?_⟩
  · simp only [ambTabs, List.mem_singleton] at hx
    subst hx
    rw [h] at hg
    cases hg
  · simp only [ambInts, List.mem_singleton] at hx
    subst hx
    exact hi g hg
end
/-- slices of what is typed -/
theorem slHas {α : Type} {B : Nat} {T : Ty} {row : α → List FV} {p : α → Prop} (h : ∀ fs, T.has B fs → ∃ x, fs = row x ∧ p x) : ∀ {fs : List FV}, (Ty.sl T).has B fs → ∃ l : List α, fs = [.sl false (l.map row)] ∧ l.length ≤ B ∧ ∀ x ∈ l, p x := by
  rintro fs ⟨es, rfl, hl, hes⟩
  have : ∀ es : List (List FV), (∀ r ∈ es, T.has B r) → ∃ l : List α, es = l.map row ∧ ∀ x ∈ l, p x := by
    intro es
    induction es with
    | nil => intro _; exact ⟨[], rfl, by simp⟩
    | cons e es ih =>
      intro h2
      obtain ⟨l, rfl, hl⟩ := ih fun r m => h2 r (by simp [m])
      obtain ⟨x, rfl, hx⟩ := h _ (h2 _ (List.mem_cons_self ..))
      exact ⟨x :: l, rfl, by simp only [List.mem_cons]; rintro y (rfl | m); exact hx; exact hl y m⟩
  obtain ⟨l, rfl, h2⟩ := this es hes
  exact ⟨l, rfl, by simpa using hl, h2⟩
end Go.Fm
/- slices.Sort and slices.Compact at []int, out of their contracts off the shelf. -/
set_option linter.unusedVariables false
set_option linter.unusedSimpArgs false
namespace Go.Fm
open Go Go.Sort

/-- a slice of ints -/
def ints (zs : List Int) : List (List FV) := zs.map fun z => [.int .i64 z]
theorem ints_length (zs : List Int) : (ints zs).length = zs.length := by simp [ints]
theorem ints_flatten (zs : List Int) : (ints zs).flatten = zs.map (FV.int .i64) := by
  induction zs with
  | nil => rfl
  | cons z zs ih => simp only [ints, List.map_cons, List.flatten_cons] at ih ⊢; rw [ih]; rfl
theorem ints_rep {h : Array Obj} {S : Nat → Prop} : ∀ {zs : List Int} {cs : List Value} {R : List Nat}, Rep h S cs (zs.map (FV.int .i64)) R → cs = zs.map (Value.int .i64) ∧ R = []
  | [], cs, R, r => by cases r; exact ⟨rfl, rfl⟩
  | z :: zs, cs, R, r => by
    cases r with
    | int r1 => obtain ⟨rfl, rfl⟩ := ints_rep r1; exact ⟨rfl, rfl⟩
theorem rep_ints {h : Array Obj} {S : Nat → Prop} : ∀ (zs : List Int), Rep h S (zs.map (Value.int .i64)) (zs.map (FV.int .i64)) []
  | [] => .nil
  | z :: zs => .int (rep_ints zs)

theorem heap_put {w : World} {n b o : Nat} {d : Array Int} {os : Array Obj} {k : Nat} (hk : k < w.heap.size) :
    (grow (putRow (Value.int .i64) (Sort.ahead w n) b o d) os).heap[k]? = if k = b then (w.heap[k]?).map (onCells (putCells (Value.int .i64) o d)) else w.heap[k]? := by
  unfold grow putRow mapBlock Sort.ahead
  simp only
  rw [Array.getElem?_append_left (by simpa using hk), Array.getElem?_modify]
  by_cases h : k = b
  · subst h; simp
  · rw [if_neg h, if_neg (fun e => h e.symm)]

theorem putCells_row {c : Array Value} {o : Nat} {ds : List Int} (h : o + ds.length ≤ c.size) : (((putCells (Value.int .i64) o ds.toArray c).toList.drop o).take ds.length) = ds.map (Value.int .i64) := by
  refine List.ext_getElem? fun j => ?_
  rw [List.getElem?_take, List.getElem?_drop, List.getElem?_map]
  by_cases hj : j < ds.length
  · rw [if_pos hj]
    unfold putCells
    rw [Array.getElem?_toList, Array.getElem?_mapIdx, Array.getElem?_eq_getElem (show o + j < c.size by omega)]
    simp only [Option.map_some]
    rw [if_pos ⟨by omega, by simp; omega⟩]
    simp [hj]
  · rw [if_neg hj, List.getElem?_eq_none (by omega)]; rfl

/-- what stands behind a row of an owned slice written anew -/
theorem row_ext {w : World} {S : Nat → Prop} {n b o : Nat} {d : Array Int} {os : Array Obj} : Ext w S [b] (grow (putRow (Value.int .i64) (Sort.ahead w n) b o d) os) S [b] := by
  refine ⟨fun _ h => h, fun _ h => .inl h, fun k hk hn => ?_, ?_, fun k m => .inl m, rfl, rfl, rfl, fun _ h => h⟩
  · rw [heap_put hk, if_neg]
    intro e; exact hn (by simp [e])
  · unfold grow putRow mapBlock Sort.ahead
    simp

theorem compact_le (zs : List Int) : (Lib.compact zs).length ≤ zs.length := by
  unfold Lib.compact Lib.compactUpTo
  rw [List.length_map]
  exact Nat.le_trans (List.length_filter_le _ _) (by simp)
theorem compact_nil : Lib.compact ([] : List Int) = [] := rfl
theorem compact_ne {zs : List Int} (h : zs ≠ []) : Lib.compact zs ≠ [] := by
  unfold Lib.compact Lib.compactUpTo
  intro e
  rw [List.map_eq_nil_iff, List.filter_eq_nil_iff] at e
  have := e 0 (List.mem_range.2 (List.length_pos_iff.2 h))
  simp [Lib.keeps] at this

section
variable {P : Program}
theorem FMut.sort {f : FuncId} {zs : List Int}
    (h1 : ∀ (blk off cap : Nat) (zs : List Int) (w : World), Holds (Value.int .i64) w blk off zs.toArray → blk < w.heap.size → zs.length < 4611686018427387904 →
      Calls P f #[.slice (some ⟨blk, off, none⟩) zs.length cap] w fun e w' => e = .returned (.tuple #[]) ∧ ∃ n os, w' = grow (putRow (Value.int .i64) (Sort.ahead w n) blk off (zs.mergeSort fun x y => decide (x ≤ y)).toArray) os)
    (h0 : ∀ (p : Option Addr) (cap : Nat) (w : World), Calls P f #[.slice p 0 cap] w fun e w' => e = .returned (.tuple #[]) ∧ w' = w)
    (hl : zs.length < 4611686018427387904) : FMut P f (ints zs) (· = ints (zs.mergeSort fun x y => decide (x ≤ y))) := by
  refine ⟨fun {w S R v} hA hrep hnd hsep => ?_⟩
  generalize hes : ints zs = es at hrep
  cases hrep with
  | arrNil ht =>
    cases ht
    have : zs = [] := by cases zs <;> simp [ints] at hes; rfl
    subst this
    refine (h0 _ _ _).mono ?_
    rintro e w' ⟨rfl, rfl⟩
    refine ⟨_, rfl, rfl, ?_, Ext.refl _ _ _ _ fun _ m => m⟩
    have e1 : ints (([] : List Int).mergeSort fun x y => decide (x ≤ y)) = [] := by simp [ints]
    rw [e1]
    exact .arrNil .nil
  | @arr _ b o n cap st c T _ _ R1 _ hn hst hb hsz hcap hpos hr ht =>
    cases ht
    subst hes
    rw [ints_length] at hn
    subst hn
    have hst1 : st = 1 := by
      cases zs with
      | nil => simp at hpos
      | cons z zs => exact (hst [.int .i64 z] (by simp [ints])).symm
    subst hst1
    rw [Nat.mul_one] at hsz hr
    rw [ints_flatten] at hr
    obtain ⟨hcs, rfl⟩ := ints_rep hr
    have hblk : b < w.heap.size := (Array.getElem?_eq_some_iff.1 hb).1
    have hH : Holds (Value.int .i64) w b o zs.toArray := fun j hj => by
      have hj' : j < zs.length := by simpa using hj
      have e1 := congrArg (fun l => l[j]?) hcs
      simp only [List.getElem?_take, List.getElem?_drop, List.getElem?_map, if_pos hj'] at e1
      refine ⟨?_, ?_⟩
      · rw [cell?_eq]
        unfold cellAt
        rw [hb]
        simp only
        rw [Array.getElem?_toList] at e1
        rw [e1]
        simp [hj']
      · unfold World.frozen?
        rw [hb]
        simp
    refine (h1 b o cap zs w hH hblk hl).mono ?_
    rintro e w' ⟨rfl, q, os, rfl⟩
    have hlen : (zs.mergeSort fun x y => decide (x ≤ y)).length = zs.length := List.length_mergeSort _
    refine ⟨_, rfl, rfl, ?_, by simpa using row_ext⟩
    refine .arr (c := putCells (Value.int .i64) o (zs.mergeSort fun x y => decide (x ≤ y)).toArray c) (T := T) (st := 1) (R1 := []) (by rw [ints_length, hlen]) (fun e m => ?_) ?_ ?_ hcap hpos ?_ .nil
    · unfold ints at m
      obtain ⟨z, _, rfl⟩ := List.mem_map.1 m
      rfl
    · rw [heap_put hblk, if_pos rfl, hb]; rfl
    · unfold putCells; simpa using hsz
    · rw [Nat.mul_one, ints_flatten, ← hlen, putCells_row (by omega)]
      exact rep_ints _
/-- slices.Compact at an owned slice of ints that is handed over -/
theorem FCall.compact {f : FuncId} {zs : List Int}
    (h1 : ∀ (blk off cap : Nat) (zs : List Int) (w : World), Holds (Value.int .i64) w blk off zs.toArray → zs.length ≤ 9223372036854775807 → zs.length ≤ cap →
      Calls P f #[.slice (some ⟨blk, off, none⟩) zs.length cap] w fun e w' => e = .returned (.slice (some ⟨blk, off, none⟩) (Lib.compact zs).length cap) ∧ ∃ q, w' = putRow (Value.int .i64) (Sort.ahead w q) blk off (Lib.compact zs ++ List.replicate (zs.length - (Lib.compact zs).length) 0).toArray)
    (h0 : ∀ (p : Option Addr) (cap : Nat) (w : World), Calls P f #[.slice p 0 cap] w fun e w' => e = .returned (.slice p 0 cap) ∧ w' = w)
    (hl : zs.length ≤ 9223372036854775807) : FCall P f [.arr (ints zs)] (· = .arr (ints (Lib.compact zs))) := by
  refine ⟨fun {w S R vs} hA hrep hnd hsep => ?_⟩
  have hlen := hrep.length
  match vs, hlen with
  | [v], _ =>
  generalize hes : ints zs = es at hrep
  cases hrep with
  | arrNil ht =>
    cases ht
    have : zs = [] := by cases zs <;> simp [ints] at hes; rfl
    subst this
    refine (h0 _ _ _).mono ?_
    rintro e w' ⟨rfl, rfl⟩
    refine ⟨_, .arr (ints (Lib.compact ([] : List Int))), S, [], rfl, rfl, ?_, by simp, fun b hb => ⟨(hsep b hb).1, by simp⟩, Ext.refl _ _ _ _ (by simp)⟩
    rw [compact_nil]
    exact .arrNil .nil
  | @arr _ b o n cap st c T _ _ R1 _ hn hst hb hsz hcap hpos hr ht =>
    cases ht
    subst hes
    rw [ints_length] at hn
    subst hn
    have hst1 : st = 1 := by
      cases zs with
      | nil => simp at hpos
      | cons z zs => exact (hst [.int .i64 z] (by simp [ints])).symm
    subst hst1
    rw [Nat.mul_one] at hsz hr
    rw [ints_flatten] at hr
    obtain ⟨hcs, rfl⟩ := ints_rep hr
    have hblk : b < w.heap.size := (Array.getElem?_eq_some_iff.1 hb).1
    have hH : Holds (Value.int .i64) w b o zs.toArray := fun j hj => by
      have hj' : j < zs.length := by simpa using hj
      have e1 := congrArg (fun l => l[j]?) hcs
      simp only [List.getElem?_take, List.getElem?_drop, List.getElem?_map, if_pos hj'] at e1
      refine ⟨?_, ?_⟩
      · rw [cell?_eq]
        unfold cellAt
        rw [hb]
        simp only
        rw [Array.getElem?_toList] at e1
        rw [e1]
        simp [hj']
      · unfold World.frozen?
        rw [hb]
        simp
    refine (h1 b o cap zs w hH hl hcap).mono ?_
    rintro e w' ⟨rfl, q, rfl⟩
    have hne' : Lib.compact zs ≠ [] := compact_ne (by intro e; subst e; simp at hpos)
    have hle := compact_le zs
    have hpos' : 0 < (Lib.compact zs).length := List.length_pos_iff.2 hne'
    have hg : ∀ d : Array Int, putRow (Value.int .i64) (Sort.ahead w q) b o d = grow (putRow (Value.int .i64) (Sort.ahead w q) b o d) #[] := fun d => by simp
    rw [hg]
    have hfull : (Lib.compact zs ++ List.replicate (zs.length - (Lib.compact zs).length) 0).length = zs.length := by simp; omega
    have hext := row_ext (w := w) (S := S) (n := q) (b := b) (o := o) (d := (Lib.compact zs ++ List.replicate (zs.length - (Lib.compact zs).length) 0).toArray) (os := #[])
    refine ⟨_, .arr (ints (Lib.compact zs)), S, [b], rfl, rfl, ?_, by simp, fun k hk => ?_, hext⟩
    · refine .arr (c := putCells (Value.int .i64) o (Lib.compact zs ++ List.replicate (zs.length - (Lib.compact zs).length) 0).toArray c) (T := T) (st := 1) (R1 := []) (ints_length _) (fun e m => ?_) ?_ ?_ (by omega) hpos' ?_ .nil
      · unfold ints at m
        obtain ⟨z, _, rfl⟩ := List.mem_map.1 m
        rfl
      · rw [heap_put hblk, if_pos rfl, hb]; rfl
      · unfold putCells; simpa using hsz
      · rw [Nat.mul_one, ints_flatten]
        have e2 := putCells_row (c := c) (o := o) (ds := Lib.compact zs ++ List.replicate (zs.length - (Lib.compact zs).length) 0) (by omega)
        have e3 := congrArg (List.take (Lib.compact zs).length) e2
        rw [List.take_take, Nat.min_eq_left (by omega), List.map_append, List.take_left' (by simp)] at e3
        rw [e3]
        exact rep_ints _
    · obtain ⟨h2, h3⟩ := hsep k hk
      refine ⟨?_, by simpa using h3⟩
      unfold grow putRow mapBlock Sort.ahead
      simpa using h2
end
end Go.Fm
/- The library's functions that the seat's code calls: strings.Contains, slices.Compact. -/
namespace Go.Fx.Tryz
open Go Go.Fm Go.Proofs
theorem p_contains {a b : List UInt8} (ha : a.length < 4294967281) : FCall Tryz.prog n_strings_Contains [.str a, .str b] (· = .bool (Lib.contains a b)) := by
  refine FCall.prim (us := [.string (bytesOf a), .string (bytesOf b)]) (v := .bool (Lib.contains a b)) rfl (by simp [constOk]) fun w S hA => ?_
  obtain ⟨_, m, hm⟩ := hA.ints "internal/bytealg.MaxLen" (by simp [ambInts]) 0 (by kernel_rfl)
  refine (Go.Proofs.Tryz.strings_Contains (bytesOf a) (bytesOf b) m w (by simpa [bytesOf, ByteArray.size] using ha) hm).mono ?_
  rintro e w' ⟨rfl, rfl⟩
  exact ⟨by simp [bytesOf], Stood.refl _⟩
theorem p_compact {zs : List Int} (h : zs.length ≤ 9223372036854775807) : FCall Tryz.prog n_slices_Compact_int_int [.arr (ints zs)] (· = .arr (ints (Lib.compact zs))) :=
  FCall.compact (fun blk off cap zs w => Go.Proofs.Tryz.slices_Compact_int blk off cap zs w) (fun p cap w => Go.Proofs.Tryz.slices_Compact_int_empty p cap w) h
end Go.Fx.Tryz
/- The data of the api, typed: structures and their cells; words on bounds and truth values. -/
set_option linter.unusedVariables false
set_option linter.unusedSimpArgs false
namespace Go.Fm
open Go
def I64 (n : Int) : Prop := -9223372036854775808 ≤ n ∧ n ≤ 9223372036854775807
theorem w64 {n : Int} (h : I64 n) : IntKind.i64.wrap n = n := by
  obtain ⟨h1, h2⟩ := h
  simp only [IntKind.wrap, IntKind.bits, IntKind.signed]
  have e : (2 ^ 64 : Int) = 18446744073709551616 := by decide
  have e2 : (2 ^ (64 - 1) : Int) = 9223372036854775808 := by decide
  simp only [e, e2, Bool.true_and, decide_eq_true_eq]
  split <;> rename_i hc <;> omega

theorem wu64 {n : Int} (h : 0 ≤ n ∧ n < 18446744073709551616) : IntKind.u64.wrap n = n := by
  obtain ⟨h1, h2⟩ := h
  simp only [IntKind.wrap, IntKind.bits, IntKind.signed]
  have e : (2 ^ 64 : Int) = 18446744073709551616 := by decide
  simp only [e, Bool.false_and, Bool.false_eq_true, if_false]
  omega
theorem wu8 {n : Int} (h : 0 ≤ n ∧ n < 256) : IntKind.u8.wrap n = n := by
  obtain ⟨h1, h2⟩ := h
  simp only [IntKind.wrap, IntKind.bits, IntKind.signed]
  have e : (2 ^ 8 : Int) = 256 := by decide
  simp only [e, Bool.false_and, Bool.false_eq_true, if_false]
  omega

noncomputable def bp (p : Prop) : Bool := @decide p (Classical.propDecidable p)
theorem bp_true {p : Prop} (h : p) : bp p = true := @decide_eq_true p (Classical.propDecidable p) h
theorem bp_false {p : Prop} (h : ¬ p) : bp p = false := @decide_eq_false p (Classical.propDecidable p) h
theorem fbp_true {p : Prop} (h : p) : FV.bool true = .bool (bp p) := by rw [bp_true h]
theorem fbp_false {p : Prop} (h : ¬ p) : FV.bool false = .bool (bp p) := by rw [bp_false h]
theorem orF {c p rest : Prop} (h : c → ¬ p) (hr : ¬ c → rest) : (c → FV.bool false = .bool (bp p)) ∧ (¬ c → rest) := ⟨fun a => fbp_false (h a), hr⟩
theorem orT {c : Prop} {p : Prop} {rest : Prop} (h : ¬ c → ¬ p) (hr : c → rest) : (c → rest) ∧ (¬ c → FV.bool false = .bool (bp p)) := ⟨hr, fun a => fbp_false (h a)⟩
theorem bp_iff {p : Prop} : bp p = true ↔ p := by
  by_cases h : p
  · rw [bp_true h]; exact ⟨fun _ => h, fun _ => rfl⟩
  · rw [bp_false h]; exact ⟨fun e => (by cases e), fun e => absurd e h⟩
theorem ltT {i n : Nat} (h : i < n) : ((i : Int) < (n : Int)) = True := eq_true (by omega)
theorem ltF {i n : Nat} (h : ¬ i < n) : ((i : Int) < (n : Int)) = False := eq_false (by omega)
theorem w64s {i : Nat} (h : i < 2 ^ 62) : IntKind.i64.wrap ((i : Int) + 1) = ((i + 1 : Nat) : Int) := by rw [w64 (by unfold I64; omega)]; rfl
theorem u8eq {c : UInt8} {k : Nat} (hk : k < 256) : (c.toNat : Int) = (k : Int) ↔ c = UInt8.ofNat k := by
  constructor
  · intro h
    apply UInt8.toNat.inj
    rw [UInt8.toNat_ofNat_of_lt' (by simpa using hk)]
    omega
  · rintro rfl
    rw [UInt8.toNat_ofNat_of_lt' (by simpa using hk)]
structure EnumL where
  name : List UInt8
  full : Bool
  members : List (List UInt8)
def EnumL.row (e : EnumL) : List FV := [.str e.name, .sl e.full (strs e.members)]
def enumsV (l : List EnumL) : List (List FV) := l.map EnumL.row
@[go_sem] theorem enumsV_length (l : List EnumL) : (enumsV l).length = l.length := by simp [enumsV]

structure NodeL where
  op : Int
  n : Int
def NodeL.row (x : NodeL) : List FV := [.int .i64 x.op, .int .i64 x.n]
structure FieldL where
  name : List UInt8
  k : Int
  e : Int
def FieldL.row (x : FieldL) : List FV := [.str x.name, .int .i64 x.k, .int .i64 x.e]
structure RuleL where
  name : List UInt8
  d : Int
  p : Int
  pr : Int
  f : Int
  t : Int
  gfull : Bool
  guard : List NodeL
  vfull : Bool
  value : List NodeL
  src : List UInt8
def nodesV (l : List NodeL) : List (List FV) := l.map NodeL.row
def RuleL.row (x : RuleL) : List FV := [.str x.name, .int .i64 x.d, .int .i64 x.p, .int .i64 x.pr, .int .i64 x.f, .int .i64 x.t, .sl x.gfull (nodesV x.guard), .sl x.vfull (nodesV x.value), .str x.src]
structure RowL where
  f : Int
  t : Int
  lo : Int
  hi : Int
  n : Int
def RowL.row (x : RowL) : List FV := [.int .i64 x.f, .int .i64 x.t, .int .i64 x.lo, .int .i64 x.hi, .int .i64 x.n]
structure TableL where
  name : List UInt8
  kk : Int
  ke : Int
  vk : Int
  ve : Int
  rfull : Bool
  rows : List RowL
def rowsV (l : List RowL) : List (List FV) := l.map RowL.row
def TableL.row (x : TableL) : List FV := [.str x.name, .int .i64 x.kk, .int .i64 x.ke, .int .i64 x.vk, .int .i64 x.ve, .sl x.rfull (rowsV x.rows)]
def fieldsV (l : List FieldL) : List (List FV) := l.map FieldL.row
def rulesV (l : List RuleL) : List (List FV) := l.map RuleL.row
structure ScopeL where
  name : List UInt8
  ms : Int
  ifull : Bool
  inputs : List FieldL
  dfull : Bool
  defs : List FieldL
  rfull : Bool
  rules : List RuleL
def ScopeL.row (x : ScopeL) : List FV := [.str x.name, .int .i64 x.ms, .sl x.ifull (fieldsV x.inputs), .sl x.dfull (fieldsV x.defs), .sl x.rfull (rulesV x.rules)]
def tablesV (l : List TableL) : List (List FV) := l.map TableL.row
def scopesV (l : List ScopeL) : List (List FV) := l.map ScopeL.row
structure LawL where
  efull : Bool
  enums : List EnumL
  tfull : Bool
  tables : List TableL
  sfull : Bool
  scopes : List ScopeL
def LawL.row (x : LawL) : List FV := [.sl x.efull (enumsV x.enums), .sl x.tfull (tablesV x.tables), .sl x.sfull (scopesV x.scopes)]
@[go_sem] theorem nodesV_length (l : List NodeL) : (nodesV l).length = l.length := by simp [nodesV]
@[go_sem] theorem fieldsV_length (l : List FieldL) : (fieldsV l).length = l.length := by simp [fieldsV]
@[go_sem] theorem rulesV_length (l : List RuleL) : (rulesV l).length = l.length := by simp [rulesV]
@[go_sem] theorem rowsV_length (l : List RowL) : (rowsV l).length = l.length := by simp [rowsV]
@[go_sem] theorem tablesV_length (l : List TableL) : (tablesV l).length = l.length := by simp [tablesV]
@[go_sem] theorem scopesV_length (l : List ScopeL) : (scopesV l).length = l.length := by simp [scopesV]
theorem fieldsV_get {l : List FieldL} {i : Nat} (h : i < l.length) : (fieldsV l)[i]? = some l[i].row := by simp [fieldsV, h]
theorem rulesV_get {l : List RuleL} {i : Nat} (h : i < l.length) : (rulesV l)[i]? = some l[i].row := by simp [rulesV, h]
theorem tablesV_get {l : List TableL} {i : Nat} (h : i < l.length) : (tablesV l)[i]? = some l[i].row := by simp [tablesV, h]
theorem rowsV_get {l : List RowL} {i : Nat} (h : i < l.length) : (rowsV l)[i]? = some l[i].row := by simp [rowsV, h]
theorem scopesV_get {l : List ScopeL} {i : Nat} (h : i < l.length) : (scopesV l)[i]? = some l[i].row := by simp [scopesV, h]
end Go.Fm
set_option linter.unusedVariables false
set_option linter.unusedSimpArgs false
namespace Go.Fx.Tryz
open Go Go.Fm Go.Proofs

theorem enumsV_get {en : List EnumL} {i : Nat} (h : i < en.length) : (enumsV en)[i]? = some [.str en[i].name, .sl en[i].full (strs en[i].members)] := by simp [enumsV, h, EnumL.row]
def ruleSm (r : RuleL) : Prop := r.name.length ≤ 80 ∧ r.src.length ≤ 80 ∧ r.guard.length ≤ 50 ∧ r.value.length ≤ 50
def smallScopeP (s : ScopeL) : Prop := s.name.length ≤ 80 ∧ s.inputs.length ≤ 14 ∧ s.defs.length ≤ 14 ∧ s.rules.length ≤ 60 ∧ (∀ f ∈ s.inputs, f.name.length ≤ 80) ∧ (∀ f ∈ s.defs, f.name.length ≤ 80) ∧ ∀ r ∈ s.rules, ruleSm r
theorem smallScope_call {s : ScopeL} : FCall Tryz.prog n_same_smallScope [.agg s.row] (· = .bool (bp (smallScopeP s))) := by
  refine FCall.walk u_same_smallScope k_same_smallScope rfl ?_
  unfold c_same_smallScope
  simp only [go_sem, simprocAttr, ScopeL.row]
  refine orF (fun h g => by have := g.1; omega) fun h1 => orF (fun h g => by have := g.2.1; omega) fun h2 => orF (fun h g => by have := g.2.2.1; omega) fun h3 => orF (fun h g => by have := g.2.2.2.1; omega) fun h4 => ?_
  refine FWT.count [] s.inputs.length (fun i => [(3, .int .i64 i)]) (fun i => ∀ f ∈ s.inputs.take i, f.name.length ≤ 80) rfl (by simp) ?_
  intro i hi hg
  by_cases h : i < s.inputs.length
  · have hx := fieldsV_get h
    simp only [go_sem, simprocAttr, ltT h, Int.toNat_natCast, hx, FieldL.row]
    refine ⟨fun h5 => fbp_false fun g => by have := g.2.2.2.2.1 _ (List.getElem_mem h); omega, fun h5 => ⟨by rw [w64s (by omega)], (all_take_succ h).2 ⟨hg, by omega⟩, h⟩⟩
  simp only [go_sem, simprocAttr, ltF h]
  rw [List.take_of_length_le (by omega)] at hg
  refine FWT.count [] s.defs.length (fun i => [(4, .int .i64 i)]) (fun i => ∀ f ∈ s.defs.take i, f.name.length ≤ 80) rfl (by simp) ?_
  intro i hi hg2
  by_cases h : i < s.defs.length
  · have hx := fieldsV_get h
    simp only [go_sem, simprocAttr, ltT h, Int.toNat_natCast, hx, FieldL.row]
    refine ⟨fun h5 => fbp_false fun g => by have := g.2.2.2.2.2.1 _ (List.getElem_mem h); omega, fun h5 => ⟨by rw [w64s (by omega)], (all_take_succ h).2 ⟨hg2, by omega⟩, h⟩⟩
  simp only [go_sem, simprocAttr, ltF h]
  rw [List.take_of_length_le (by omega)] at hg2
  refine FWT.count [] s.rules.length (fun i => [(5, .int .i64 i)]) (fun i => ∀ f ∈ s.rules.take i, ruleSm f) rfl (by simp) ?_
  intro i hi hg3
  by_cases h : i < s.rules.length
  · have hx := rulesV_get h
    simp only [go_sem, simprocAttr, ltT h, Int.toNat_natCast, hx, RuleL.row]
    refine orF (fun h5 g => by have := (g.2.2.2.2.2.2 _ (List.getElem_mem h)).1; omega) fun h5 => orF (fun h6 g => by have := (g.2.2.2.2.2.2 _ (List.getElem_mem h)).2.1; omega) fun h6 =>
      orF (fun h7 g => by have := (g.2.2.2.2.2.2 _ (List.getElem_mem h)).2.2.1; omega) fun h7 => orF (fun h8 g => by have := (g.2.2.2.2.2.2 _ (List.getElem_mem h)).2.2.2; omega) fun h8 => ⟨by rw [w64s (by omega)], (all_take_succ h).2 ⟨hg3, by omega, by omega, by omega, by omega⟩, h⟩
  simp only [go_sem, simprocAttr, ltF h]
  rw [List.take_of_length_le (by omega)] at hg3
  exact fbp_true ⟨by omega, by omega, by omega, by omega, hg, hg2, hg3⟩
def rowsN (l : List TableL) (i : Nat) : Nat := ((l.take i).map (·.rows.length)).sum
def rulesN (l : List ScopeL) (i : Nat) : Nat := ((l.take i).map (·.rules.length)).sum
theorem rowsN_succ {l : List TableL} {i : Nat} (h : i < l.length) : rowsN l (i + 1) = rowsN l i + l[i].rows.length := by
  unfold rowsN; rw [List.take_succ_eq_append_getElem h, List.map_append, List.sum_append]; rfl
theorem rulesN_succ {l : List ScopeL} {i : Nat} (h : i < l.length) : rulesN l (i + 1) = rulesN l i + l[i].rules.length := by
  unfold rulesN; rw [List.take_succ_eq_append_getElem h, List.map_append, List.sum_append]; rfl
theorem rowsN_mono (l : List TableL) {i j : Nat} (h : i ≤ j) : rowsN l i ≤ rowsN l j := by
  induction h with
  | refl => exact Nat.le_refl _
  | @step m _ ih =>
    refine Nat.le_trans ih ?_
    by_cases hm : m < l.length
    · rw [rowsN_succ hm]; omega
    · unfold rowsN; rw [List.take_of_length_le (by omega), List.take_of_length_le (by omega)]; omega
theorem rulesN_mono (l : List ScopeL) {i j : Nat} (h : i ≤ j) : rulesN l i ≤ rulesN l j := by
  induction h with
  | refl => exact Nat.le_refl _
  | @step m _ ih =>
    refine Nat.le_trans ih ?_
    by_cases hm : m < l.length
    · rw [rulesN_succ hm]; omega
    · unfold rulesN; rw [List.take_of_length_le (by omega), List.take_of_length_le (by omega)]; omega
def enumSm (e : EnumL) : Prop := e.name.length ≤ 80 ∧ e.members.length ≤ 20 ∧ ∀ m ∈ e.members, m.length ≤ 80
def smallLawP (l : LawL) : Prop := l.enums.length ≤ 9 ∧ l.tables.length ≤ 9 ∧ l.scopes.length ≤ 5 ∧ (∀ e ∈ l.enums, enumSm e) ∧ (∀ t ∈ l.tables, t.name.length ≤ 80) ∧ rowsN l.tables l.tables.length ≤ 150 ∧ rulesN l.scopes l.scopes.length ≤ 60 ∧ ∀ s ∈ l.scopes, smallScopeP s
theorem smallLaw_call {l : LawL} (hr : ∀ t ∈ l.tables, t.rows.length < 2 ^ 60) (hu : ∀ s ∈ l.scopes, s.rules.length < 2 ^ 60) : FCall Tryz.prog n_same_SmallLaw [.agg l.row] (· = .bool (bp (smallLawP l))) := by
  refine FCall.walk u_same_SmallLaw k_same_SmallLaw rfl ?_
  unfold c_same_SmallLaw
  simp only [go_sem, simprocAttr, LawL.row]
  refine orF (fun h g => by have := g.1; omega) fun h1 => orF (fun h g => by have := g.2.1; omega) fun h2 => orF (fun h g => by have := g.2.2.1; omega) fun h3 => ?_
  refine FWT.count [] l.enums.length (fun i => [(5, .int .i64 i)]) (fun i => ∀ f ∈ l.enums.take i, enumSm f) rfl (by simp) ?_
  intro i hi hg
  by_cases h : i < l.enums.length
  · have hx := enumsV_get h
    simp only [go_sem, simprocAttr, ltT h, Int.toNat_natCast, hx, EnumL.row]
    refine orF (fun h4 g => by have := (g.2.2.2.1 _ (List.getElem_mem h)).1; omega) fun h4 => orF (fun h5 g => by have := (g.2.2.2.1 _ (List.getElem_mem h)).2.1; omega) fun h5 => ?_
    refine FWT.count [] l.enums[i].members.length (fun k => [(6, .int .i64 k)]) (fun k => ∀ m ∈ l.enums[i].members.take k, m.length ≤ 80) rfl (by simp) ?_
    intro k hk hgk
    by_cases h6 : k < l.enums[i].members.length
    · have hx2 := strs_get h6
      simp only [go_sem, simprocAttr, ltT h6, Int.toNat_natCast, hx, hx2]
      refine orF (fun h7 g => by have := (g.2.2.2.1 _ (List.getElem_mem h)).2.2 _ (List.getElem_mem h6); omega) fun h7 => ⟨by rw [w64s (by omega)], (all_take_succ h6).2 ⟨hgk, by omega⟩, h6⟩
    simp only [go_sem, simprocAttr, ltF h6, Int.toNat_natCast, hx]
    rw [List.take_of_length_le (by omega)] at hgk
    exact ⟨by rw [w64s (by omega)], (all_take_succ h).2 ⟨hg, by omega, by omega, hgk⟩, h⟩
  simp only [go_sem, simprocAttr, ltF h]
  rw [List.take_of_length_le (by omega)] at hg
  refine FWT.count [] l.tables.length (fun i => [(3, .int .i64 (rowsN l.tables i)), (7, .int .i64 i)]) (fun i => (∀ f ∈ l.tables.take i, f.name.length ≤ 80) ∧ rowsN l.tables i ≤ 150) rfl ⟨by simp, by simp [rowsN]⟩ ?_
  intro i hi hg2
  by_cases h : i < l.tables.length
  · have hx := tablesV_get h
    have hw : IntKind.i64.wrap ((rowsN l.tables i : Int) + (l.tables[i].rows.length : Int)) = (rowsN l.tables (i + 1) : Int) := by
      rw [rowsN_succ h, w64 (by have := hr _ (List.getElem_mem h); unfold I64; omega)]; omega
    simp only [go_sem, simprocAttr, ltT h, Int.toNat_natCast, hx, TableL.row, hw]
    refine orF (fun h4 g => by have := g.2.2.2.2.1 _ (List.getElem_mem h); omega) fun h4 => orF (fun h5 g => by have := g.2.2.2.2.2.1; have := rowsN_mono l.tables (show i + 1 ≤ l.tables.length from h); omega) fun h5 => ⟨by rw [w64s (by omega)], ⟨(all_take_succ h).2 ⟨hg2.1, by omega⟩, by omega⟩, h⟩
  simp only [go_sem, simprocAttr, ltF h]
  rw [List.take_of_length_le (by omega)] at hg2
  have hie : i = l.tables.length := by omega
  refine FWT.count [] l.scopes.length (fun i => [(4, .int .i64 (rulesN l.scopes i)), (8, .int .i64 i)]) (fun i => (∀ f ∈ l.scopes.take i, smallScopeP f) ∧ rulesN l.scopes i ≤ 60) rfl ⟨by simp, by simp [rulesN]⟩ ?_
  intro j hj hg3
  by_cases h : j < l.scopes.length
  · have hx := scopesV_get h
    have hw : IntKind.i64.wrap ((rulesN l.scopes j : Int) + (l.scopes[j].rules.length : Int)) = (rulesN l.scopes (j + 1) : Int) := by
      rw [rulesN_succ h, w64 (by have := hu _ (List.getElem_mem h); unfold I64; omega)]; omega
    simp only [go_sem, simprocAttr, ltT h, Int.toNat_natCast, hx, ScopeL.row, hw]
    refine orF (fun h4 g => by have := g.2.2.2.2.2.2.1; have := rulesN_mono l.scopes (show j + 1 ≤ l.scopes.length from h); omega) fun h4 => ?_
    refine FCallT.of (smallScope_call (s := l.scopes[j])) ?_
    rintro _ rfl
    simp only [go_sem, simprocAttr]
    refine ⟨fun h5 => ?_, fun h5 => ?_⟩
    · exact fbp_false fun g => by rw [bp_true (g.2.2.2.2.2.2.2 _ (List.getElem_mem h))] at h5; cases h5
    · exact ⟨by rw [w64s (by omega)], ⟨(all_take_succ h).2 ⟨hg3.1, bp_iff.1 h5⟩, by omega⟩, h⟩
  simp only [go_sem, simprocAttr, ltF h]
  rw [List.take_of_length_le (by omega)] at hg3
  have hje : j = l.scopes.length := by omega
  subst hie; subst hje
  exact fbp_true ⟨by omega, by omega, by omega, hg, hg2.1, hg2.2, hg3.2, hg3.1⟩
end Go.Fx.Tryz
/- Words between blanks: what strings.Contains tells of a list of words. -/
set_option linter.unusedVariables false
namespace Go.Fm
open Go
/-- the words, a blank ahead of each and one at the end -/
def spaced : List (List UInt8) → List UInt8
  | [] => [32]
  | w :: ws => 32 :: (w ++ spaced ws)
theorem split_blank : ∀ {a b x y : List UInt8}, (∀ c ∈ a, c ≠ 32) → (∀ c ∈ b, c ≠ 32) → a ++ 32 :: x = b ++ 32 :: y → a = b ∧ x = y
  | [], [], x, y, _, _, h => ⟨rfl, by simpa using h⟩
  | [], d :: b, x, y, _, hb, h => by
    simp only [List.nil_append, List.cons_append, List.cons.injEq] at h
    exact absurd h.1.symm (hb d (by simp))
  | c :: a, [], x, y, ha, _, h => by
    simp only [List.nil_append, List.cons_append, List.cons.injEq] at h
    exact absurd h.1 (ha c (by simp))
  | c :: a, d :: b, x, y, ha, hb, h => by
    simp only [List.cons_append, List.cons.injEq] at h
    obtain ⟨h1, h2⟩ := split_blank (fun z hz => ha z (by simp [hz])) (fun z hz => hb z (by simp [hz])) h.2
    exact ⟨by rw [h.1, h1], h2⟩
theorem past_word : ∀ {w x p y : List UInt8}, (∀ c ∈ w, c ≠ 32) → w ++ x = p ++ 32 :: y → ∃ q, p = w ++ q ∧ x = q ++ 32 :: y
  | [], x, p, y, _, h => ⟨p, rfl, h⟩
  | c :: w, x, [], y, hw, h => by
    simp only [List.cons_append, List.nil_append, List.cons.injEq] at h
    exact absurd h.1 (hw c (by simp))
  | c :: w, x, d :: p, y, hw, h => by
    simp only [List.cons_append, List.cons.injEq] at h
    obtain ⟨q, rfl, h2⟩ := past_word (fun z hz => hw z (by simp [hz])) h.2
    exact ⟨q, by rw [h.1]; rfl, h2⟩
theorem spaced_head : ∀ ws : List (List UInt8), ∃ r, spaced ws = 32 :: r
  | [] => ⟨[], rfl⟩
  | w :: ws => ⟨_, rfl⟩
theorem spaced_iff : ∀ {ws : List (List UInt8)} {s : List UInt8}, (∀ w ∈ ws, ∀ c ∈ w, c ≠ 32) → (∀ c ∈ s, c ≠ 32) → ((∃ p q, spaced ws = p ++ (32 :: (s ++ 32 :: q))) ↔ s ∈ ws)
  | [], s, _, hs => by
    constructor
    · rintro ⟨p, q, h⟩
      have := congrArg List.length h
      simp [spaced] at this
      omega
    · intro h; cases h
  | w :: ws, s, hw, hs => by
    have ih := spaced_iff (ws := ws) (s := s) (fun x hx => hw x (by simp [hx])) hs
    constructor
    · rintro ⟨p, q, h⟩
      simp only [spaced] at h
      cases p with
      | nil =>
        simp only [List.nil_append, List.cons.injEq, true_and] at h
        obtain ⟨r, hr⟩ := spaced_head ws
        rw [hr] at h
        have := (split_blank (hw w (by simp)) hs h).1
        rw [this]; simp
      | cons c p =>
        simp only [List.cons_append, List.cons.injEq] at h
        obtain ⟨p', rfl, h2⟩ := past_word (hw w (by simp)) h.2
        exact List.mem_cons_of_mem _ (ih.1 ⟨p', q, h2⟩)
    · intro h
      rcases List.mem_cons.1 h with rfl | h
      · obtain ⟨r, hr⟩ := spaced_head ws
        exact ⟨[], r, by simp only [spaced, hr, List.nil_append]⟩
      · obtain ⟨p, q, h2⟩ := ih.2 h
        exact ⟨32 :: (w ++ p), q, by simp only [spaced, h2, List.cons_append, List.append_assoc]⟩
theorem index_iff : ∀ {a b : List UInt8}, 0 ≤ Lib.index a b ↔ ∃ p q, a = p ++ (b ++ q)
  | [], b => by
    unfold Lib.index
    cases b with
    | nil => exact ⟨fun _ => ⟨[], [], rfl⟩, fun _ => by simp⟩
    | cons c b =>
      constructor
      · intro h; simp at h
      · rintro ⟨p, q, h⟩; simp at h
  | x :: l, b => by
    have ih := index_iff (a := l) (b := b)
    unfold Lib.index
    by_cases hp : b.isPrefixOf (x :: l) = true
    · rw [if_pos hp]
      rw [List.isPrefixOf_iff_prefix] at hp
      obtain ⟨q, hq⟩ := hp
      exact ⟨fun _ => ⟨[], q, by simp [hq]⟩, fun _ => Int.le_refl _⟩
    · rw [if_neg hp]
      have hge := Lib.index_ge l b
      have e1 : (0 ≤ if Lib.index l b == -1 then -1 else Lib.index l b + 1) ↔ 0 ≤ Lib.index l b := by
        by_cases hm : Lib.index l b = -1
        · simp [hm]
        · have : (Lib.index l b == -1) = false := by simpa using hm
          rw [this]
          simp only [Bool.false_eq_true, if_false]
          omega
      rw [e1, ih]
      constructor
      · rintro ⟨p, q, h⟩; exact ⟨x :: p, q, by rw [h]; rfl⟩
      · rintro ⟨p, q, h⟩
        cases p with
        | nil =>
          exfalso
          apply hp
          rw [List.isPrefixOf_iff_prefix]
          exact ⟨q, by simpa using h.symm⟩
        | cons y p =>
          simp only [List.cons_append, List.cons.injEq] at h
          exact ⟨p, q, h.2⟩
theorem contains_iff {a b : List UInt8} : Lib.contains a b = true ↔ ∃ p q, a = p ++ (b ++ q) := by
  unfold Lib.contains
  rw [decide_eq_true_eq]
  exact index_iff
end Go.Fm
set_option linter.unusedVariables false
set_option linter.unusedSimpArgs false
namespace Go.Fx.Tryz
open Go Go.Fm Go.Proofs

def lowP (c : UInt8) : Bool := decide (97 ≤ c.toNat) && decide (c.toNat ≤ 122)
def digP (c : UInt8) : Bool := decide (48 ≤ c.toNat) && decide (c.toNat ≤ 57)
def partP (c : UInt8) : Bool := lowP c || digP c || decide (c.toNat = 95)
theorem low_and {a b c : Prop} [Decidable a] [Decidable b] [Decidable c] (h1 : a ↔ c) : (a → FV.bool (decide b) = FV.bool (decide c && decide b)) ∧ (¬ a → FV.bool false = FV.bool (decide c && decide b)) := by
  refine ⟨fun h => by rw [decide_eq_true (h1.1 h), Bool.true_and], fun h => by rw [decide_eq_false fun x => h (h1.2 x), Bool.false_and]⟩
theorem lower_call {c : UInt8} : FCall Tryz.prog n_lexer_lower [.int .u8 c.toNat] (· = .bool (lowP c)) := by
  refine FCall.walk u_lexer_lower k_lexer_lower rfl ?_
  unfold c_lexer_lower
  simp only [go_sem, simprocAttr]
  unfold lowP
  have e1 : ((97 : Int) ≤ (c.toNat : Int)) ↔ 97 ≤ c.toNat := by omega
  have e2 : decide ((c.toNat : Int) ≤ 122) = decide (c.toNat ≤ 122) := decide_eq_decide.2 (by omega)
  rw [e2]
  exact low_and e1
theorem digit_call {c : UInt8} : FCall Tryz.prog n_lexer_digit [.int .u8 c.toNat] (· = .bool (digP c)) := by
  refine FCall.walk u_lexer_digit k_lexer_digit rfl ?_
  unfold c_lexer_digit
  simp only [go_sem, simprocAttr]
  unfold digP
  have e1 : ((48 : Int) ≤ (c.toNat : Int)) ↔ 48 ≤ c.toNat := by omega
  have e2 : decide ((c.toNat : Int) ≤ 57) = decide (c.toNat ≤ 57) := decide_eq_decide.2 (by omega)
  rw [e2]
  exact low_and e1
theorem lowerR_call {c : UInt8} : FCall Tryz.prog n_ref08_lower [.int .u8 c.toNat] (· = .bool (lowP c)) := by
  refine FCall.walk u_ref08_lower k_ref08_lower rfl ?_
  unfold c_ref08_lower
  simp only [go_sem, simprocAttr]
  unfold lowP
  have e1 : ((97 : Int) ≤ (c.toNat : Int)) ↔ 97 ≤ c.toNat := by omega
  have e2 : decide ((c.toNat : Int) ≤ 122) = decide (c.toNat ≤ 122) := decide_eq_decide.2 (by omega)
  rw [e2]
  exact low_and e1
theorem digitR_call {c : UInt8} : FCall Tryz.prog n_ref08_digit [.int .u8 c.toNat] (· = .bool (digP c)) := by
  refine FCall.walk u_ref08_digit k_ref08_digit rfl ?_
  unfold c_ref08_digit
  simp only [go_sem, simprocAttr]
  unfold digP
  have e1 : ((48 : Int) ≤ (c.toNat : Int)) ↔ 48 ≤ c.toNat := by omega
  have e2 : decide ((c.toNat : Int) ≤ 57) = decide (c.toNat ≤ 57) := decide_eq_decide.2 (by omega)
  rw [e2]
  exact low_and e1
theorem part_call {c : UInt8} : FCall Tryz.prog n_lexer_part [.int .u8 c.toNat] (· = .bool (partP c)) := by
  refine FCall.walk u_lexer_part k_lexer_part rfl ?_
  unfold c_lexer_part
  simp only [go_sem, simprocAttr]
  refine FCallT.of (lower_call) ?_
  rintro _ rfl
  simp only [go_sem, simprocAttr]
  refine ⟨fun h => by unfold partP; rw [h]; rfl, fun h => ?_⟩
  refine FCallT.of (digit_call) ?_
  rintro _ rfl
  simp only [go_sem, simprocAttr]
  have e1 : decide ((c.toNat : Int) = 95) = decide (c.toNat = 95) := decide_eq_decide.2 (by omega)
  rw [e1]
  unfold partP
  rw [h]
  refine ⟨fun h2 => by rw [h2]; rfl, fun h2 => by rw [h2]; rfl⟩
theorem word_call {c : UInt8} : FCall Tryz.prog n_ref08_word [.int .u8 c.toNat] (· = .bool (partP c)) := by
  refine FCall.walk u_ref08_word k_ref08_word rfl ?_
  unfold c_ref08_word
  simp only [go_sem, simprocAttr]
  refine FCallT.of (lowerR_call) ?_
  rintro _ rfl
  simp only [go_sem, simprocAttr]
  refine ⟨fun h => by unfold partP; rw [h]; rfl, fun h => ?_⟩
  refine FCallT.of (digitR_call) ?_
  rintro _ rfl
  simp only [go_sem, simprocAttr]
  have e1 : decide ((c.toNat : Int) = 95) = decide (c.toNat = 95) := decide_eq_decide.2 (by omega)
  rw [e1]
  unfold partP
  rw [h]
  refine ⟨fun h2 => by rw [h2]; rfl, fun h2 => by rw [h2]; rfl⟩
end Go.Fx.Tryz
set_option linter.unusedVariables false
set_option linter.unusedSimpArgs false
namespace Go.Fx.Tryz
open Go Go.Fm Go.Proofs

/-- how many bytes at the start are parts of words -/
def runN (s : List UInt8) : Nat := (s.takeWhile partP).length
theorem runN_all {s : List UInt8} (h : ∀ c ∈ s, partP c = true) : runN s = s.length := by
  unfold runN
  induction s with
  | nil => rfl
  | cons a s ih =>
    rw [List.takeWhile_cons, h a (by simp)]
    simp [ih fun c hc => h c (by simp [hc])]
theorem runN_at : ∀ {s : List UInt8} {i : Nat} (h : i < s.length), (∀ c ∈ s.take i, partP c = true) → partP s[i] = false → runN s = i
  | [], i, h, _, _ => by simp at h
  | a :: s, 0, h, _, h2 => by
    have h2 : partP a = false := h2
    unfold runN
    rw [List.takeWhile_cons, h2]; rfl
  | a :: s, i + 1, h, h1, h2 => by
    have ha := h1 a (by simp)
    have ih := runN_at (s := s) (i := i) (by simpa using h) (fun c hc => h1 c (by simp [hc])) (by simpa using h2)
    unfold runN at ih ⊢
    rw [List.takeWhile_cons, ha]
    simp [ih]
theorem isFn_part : isFn Tryz.prog n_lexer_part = true := by kernel_rfl
theorem run_call {s : List UInt8} (hs : s.length < 2 ^ 60) : FCall Tryz.prog n_lexer_run [.str s, .fn n_lexer_part []] (· = .int .i64 (runN s)) := by
  refine FCall.walk u_lexer_run k_lexer_run rfl ?_
  unfold c_lexer_run
  simp only [go_sem, simprocAttr]
  refine FWT.upd [] (fun i : Nat => [(5, .int .i64 i)]) (fun i => s.length - i) (fun i => i ≤ s.length ∧ ∀ c ∈ s.take i, partP c = true) 0 rfl ⟨by simp, by simp⟩ ?_
  intro i hg
  by_cases h : i < s.length
  · simp only [go_sem, simprocAttr, ltT h, Int.toNat_natCast, List.getElem?_eq_getElem h, isFn_part]
    refine FCallT.of (part_call (c := s[i])) ?_
    rintro _ rfl
    simp only [go_sem, simprocAttr]
    refine ⟨fun h2 => ⟨i + 1, by rw [w64s (by omega)], ⟨h, (all_take_succ h).2 ⟨hg.2, h2⟩⟩, by omega⟩, fun h2 => by rw [runN_at h hg.2 h2]⟩
  simp only [go_sem, simprocAttr, ltF h]
  have := hg.2
  rw [List.take_of_length_le (by omega)] at this
  rw [runN_all this]
  have : i = s.length := by omega
  rw [this]
end Go.Fx.Tryz
set_option linter.unusedVariables false
set_option linter.unusedSimpArgs false
namespace Go.Fx.Tryz
open Go Go.Fm Go.Proofs
/-- the reserved words -/
def reservedW : List (List UInt8) := [[105, 102],
  [116, 104, 101, 110],
  [101, 108, 115, 101],
  [111, 114],
  [97, 110, 100],
  [110, 111, 116],
  [116, 114, 117, 101],
  [102, 97, 108, 115, 101],
  [116, 111, 100, 97, 121],
  [115, 104, 97, 114, 101],
  [100, 105, 118],
  [114, 111, 117, 110, 100],
  [109, 105, 110],
  [109, 97, 120],
  [112, 108, 117, 115],
  [109, 111, 110, 116, 104, 115],
  [100, 97, 121, 115],
  [121, 101, 97, 114, 115],
  [121, 101, 97, 114],
  [109, 111, 110, 116, 104],
  [116, 97, 98],
  [98, 97, 110, 100],
  [99, 111, 117, 110, 116],
  [115, 117, 109],
  [97, 108, 108],
  [97, 110, 121],
  [109, 111, 115, 116],
  [101, 110, 117, 109],
  [116, 97, 98, 108, 101],
  [114, 111, 119],
  [115, 99, 111, 112, 101],
  [109, 101, 109, 98, 101, 114, 115],
  [105, 110, 112, 117, 116],
  [100, 101, 102],
  [114, 117, 108, 101],
  [111, 102],
  [111, 118, 101, 114],
  [112, 114, 105, 111],
  [102, 114, 111, 109],
  [116, 111],
  [101, 110, 100],
  [119, 104, 101, 110],
  [105, 115],
  [115, 114, 99],
  [98, 111, 111, 108],
  [105, 110, 116],
  [109, 111, 110, 101, 121],
  [114, 97, 116, 101],
  [100, 97, 116, 101],
  [100, 111, 119, 110],
  [117, 112],
  [122, 101, 114, 111],
  [97, 119, 97, 121],
  [104, 97, 108, 102],
  [101, 118, 101, 110]]
set_option maxRecDepth 100000 in
theorem reserved_eq : spaced reservedW = [32, 105, 102, 32, 116, 104, 101, 110, 32, 101, 108, 115, 101, 32, 111, 114, 32, 97, 110, 100, 32, 110, 111, 116, 32, 116, 114, 117, 101, 32, 102, 97, 108, 115, 101, 32, 116, 111, 100, 97, 121, 32, 115, 104, 97, 114, 101, 32, 100, 105, 118, 32, 114, 111, 117, 110, 100, 32, 109, 105, 110, 32, 109, 97, 120, 32, 112, 108, 117, 115, 32, 109, 111, 110, 116, 104, 115, 32, 100, 97, 121, 115, 32, 121, 101, 97, 114, 115, 32, 121, 101, 97, 114, 32, 109, 111, 110, 116, 104, 32, 116, 97, 98, 32, 98, 97, 110, 100, 32, 99, 111, 117, 110, 116, 32, 115, 117, 109, 32, 97, 108, 108, 32, 97, 110, 121, 32, 109, 111, 115, 116, 32, 101, 110, 117, 109, 32, 116, 97, 98, 108, 101, 32, 114, 111, 119, 32, 115, 99, 111, 112, 101, 32, 109, 101, 109, 98, 101, 114, 115, 32, 105, 110, 112, 117, 116, 32, 100, 101, 102, 32, 114, 117, 108, 101, 32, 111, 102, 32, 111, 118, 101, 114, 32, 112, 114, 105, 111, 32, 102, 114, 111, 109, 32, 116, 111, 32, 101, 110, 100, 32, 119, 104, 101, 110, 32, 105, 115, 32, 115, 114, 99, 32, 98, 111, 111, 108, 32, 105, 110, 116, 32, 109, 111, 110, 101, 121, 32, 114, 97, 116, 101, 32, 100, 97, 116, 101, 32, 100, 111, 119, 110, 32, 117, 112, 32, 122, 101, 114, 111, 32, 97, 119, 97, 121, 32, 104, 97, 108, 102, 32, 101, 118, 101, 110, 32] := by rfl
theorem reserved_plain : ∀ w ∈ reservedW, ∀ c ∈ w, c ≠ 32 := by decide
theorem runN_le : ∀ s : List UInt8, runN s ≤ s.length := fun s => by unfold runN; exact (List.takeWhile_prefix _).length_le
theorem runN_full : ∀ {s : List UInt8}, runN s = s.length ↔ s.all partP = true
  | [] => by simp [runN]
  | c :: s => by
    have ih := runN_full (s := s)
    have h := runN_le s
    unfold runN at ih h ⊢
    rw [List.takeWhile_cons, List.all_cons]
    by_cases hc : partP c = true
    · simp only [hc, if_true, List.length_cons, Bool.true_and, ← ih]; omega
    · simp [hc]
/-- an identifier -/
def isIdB (s : List UInt8) : Bool := match s with
  | [] => false
  | c :: _ => decide (s.length ≤ 16) && (lowP c && (s.all partP && !decide (s ∈ reservedW)))
theorem part_blank {c : UInt8} (h : partP c = true) : c ≠ 32 := by
  intro e; subst e; revert h; decide
theorem contains_res {s : List UInt8} (h : s.all partP = true) : Lib.contains (spaced reservedW) (32 :: (s ++ [32])) = decide (s ∈ reservedW) := by
  have h1 := contains_iff (a := spaced reservedW) (b := 32 :: (s ++ [32]))
  have h2 := spaced_iff (ws := reservedW) (s := s) reserved_plain fun c hc => part_blank (List.all_eq_true.1 h c hc)
  rw [Bool.eq_iff_iff, h1, decide_eq_true_eq, ← h2]
  constructor
  · rintro ⟨p, q, e⟩; exact ⟨p, q, by rw [e]; simp⟩
  · rintro ⟨p, q, e⟩; exact ⟨p, q, by rw [e]; simp⟩
set_option maxRecDepth 100000 in
theorem isId_call {s : List UInt8} : FCall Tryz.prog n_lexer_IsIdentifier [.str s] (· = .bool (isIdB s)) := by
  cases s with
  | nil =>
    refine FCall.walk u_lexer_IsIdentifier k_lexer_IsIdentifier rfl ?_
    unfold c_lexer_IsIdentifier
    simp only [go_sem, simprocAttr]
    simp [isIdB]
  | cons c r =>
  refine FCall.walk u_lexer_IsIdentifier k_lexer_IsIdentifier rfl ?_
  unfold c_lexer_IsIdentifier
  simp only [go_sem, simprocAttr]
  refine ⟨fun h => ?_, fun h => by simp [isIdB]; omega⟩
  refine FCallT.of (lower_call) ?_
  rintro _ rfl
  simp only [go_sem, simprocAttr]
  refine ⟨fun h2 => ?_, fun h2 => by simp [isIdB, h2]⟩
  refine FCallT.of (run_call (s := c :: r) (by simp; omega)) ?_
  rintro _ rfl
  simp only [go_sem, simprocAttr]
  have hl : (c :: r).length = r.length + 1 := rfl
  refine ⟨fun h3 => ⟨by omega, by omega, ?_⟩, fun h3 => ?_⟩
  · have h4 : (c :: r).all partP = true := runN_full.1 (by omega)
    refine FCallT.of (p_contains (b := 32 :: ((c :: r) ++ [32])) (by decide)) ?_
    rintro _ rfl
    rw [← reserved_eq, contains_res h4]
    simp only [go_sem, simprocAttr]
    have h5 : (c :: r).length ≤ 16 := by omega
    simp only [isIdB, h2, h4, Bool.true_and, h5, decide_true]
  · have h4 : (c :: r).all partP = false := by
      rw [Bool.eq_false_iff]; intro h5; have := runN_full.2 h5; omega
    simp only [isIdB, h2, h4, Bool.false_and, Bool.and_false]
theorem reserved_call : FCall Tryz.prog n_ref08_Reserved [] (· = .arr (strs reservedW)) := by
  refine FCall.walk u_ref08_Reserved k_ref08_Reserved rfl ?_
  unfold c_ref08_Reserved
  simp only [go_sem, simprocAttr]
  rfl
theorem isIdR_call {s : List UInt8} (hs : s.length < 2 ^ 60) : FCall Tryz.prog n_ref08_IsIdentifier [.str s] (· = .bool (isIdB s)) := by
  cases s with
  | nil =>
    refine FCall.walk u_ref08_IsIdentifier k_ref08_IsIdentifier rfl ?_
    unfold c_ref08_IsIdentifier
    simp only [go_sem, simprocAttr]
    simp [isIdB]
  | cons c r =>
  refine FCall.walk u_ref08_IsIdentifier k_ref08_IsIdentifier rfl ?_
  unfold c_ref08_IsIdentifier
  simp only [go_sem, simprocAttr]
  refine ⟨fun h => by simp [isIdB]; omega, fun h => ?_⟩
  try refine ⟨fun h => by simp [isIdB]; omega, fun h => ?_⟩
  refine FCallT.of (lowerR_call) ?_
  rintro _ rfl
  simp only [go_sem, simprocAttr]
  refine ⟨fun h2 => by simp [isIdB, h2], fun h2 => ?_⟩
  refine FWT.count [] (c :: r).length (fun i => [(3, .int .i64 i)]) (fun i => ∀ x ∈ (c :: r).take i, partP x = true) rfl (by simp) ?_
  intro i hi hg
  by_cases h3 : i < (c :: r).length
  · have h4 := ltT h3
    rw [List.length_cons] at h4
    simp only [go_sem, simprocAttr, h4, Int.toNat_natCast, List.getElem?_eq_getElem h3]
    refine FCallT.of (word_call (c := (c :: r)[i])) ?_
    rintro _ rfl
    simp only [go_sem, simprocAttr]
    refine ⟨fun h5 => ?_, fun h5 => ⟨by rw [w64s (by omega)], (all_take_succ h3).2 ⟨hg, h5⟩, h3⟩⟩
    have : (c :: r).all partP = false := by
      rw [Bool.eq_false_iff]; intro h6; rw [List.all_eq_true.1 h6 _ (List.getElem_mem h3)] at h5; cases h5
    simp only [isIdB, this, Bool.false_and, Bool.and_false]
  have h4 := ltF h3
  rw [List.length_cons] at h4
  simp only [go_sem, simprocAttr, h4]
  refine FCallT.of (reserved_call) ?_
  rintro _ rfl
  simp only [go_sem, simprocAttr]
  rw [List.take_of_length_le (by omega)] at hg
  have hall : (c :: r).all partP = true := List.all_eq_true.2 hg
  refine FWT.count [] reservedW.length (fun k => [(5, .int .i64 k)]) (fun k => ∀ w ∈ reservedW.take k, w ≠ c :: r) rfl (by simp) ?_
  intro k hk hgk
  by_cases h5 : k < reservedW.length
  · have hx := strs_get h5
    simp only [go_sem, simprocAttr, ltT h5, Int.toNat_natCast, hx]
    refine ⟨fun e => ?_, fun e => ⟨by rw [w64s (by have : reservedW.length = 55 := rfl; omega)], (all_take_succ h5).2 ⟨hgk, e⟩, h5⟩⟩
    have : c :: r ∈ reservedW := e ▸ List.getElem_mem h5
    simp [isIdB, this]
  simp only [go_sem, simprocAttr, ltF h5]
  rw [List.take_of_length_le (by omega)] at hgk
  have h6 : ¬ (c :: r ∈ reservedW) := fun m => hgk _ m rfl
  have h7 : (c :: r).length ≤ 16 := by rw [List.length_cons]; omega
  simp only [isIdB, h2, hall, h7, decide_true, h6, decide_false, Bool.not_false, Bool.true_and]
end Go.Fx.Tryz
/- Places in lists: what searching loops yield. -/
set_option linter.unusedVariables false
set_option linter.unusedSimpArgs false
namespace Go.Fm
open Go
/-- the first place with a property, or -1 -/
def idxZ {α : Type} (p : α → Bool) : List α → Int
  | [] => -1
  | x :: l => if p x then 0 else if idxZ p l < 0 then -1 else idxZ p l + 1
theorem idxZ_none {α : Type} {p : α → Bool} : ∀ {l : List α}, (∀ x ∈ l, p x = false) → idxZ p l = -1
  | [], _ => rfl
  | x :: l, h => by
    have ih := idxZ_none (p := p) (l := l) fun y m => h y (by simp [m])
    simp [idxZ, h x (by simp), ih]
theorem idxZ_at {α : Type} {p : α → Bool} : ∀ {l : List α} {i : Nat} (h : i < l.length), (∀ x ∈ l.take i, p x = false) → p l[i] = true → idxZ p l = i
  | [], i, h, _, _ => by simp at h
  | x :: l, 0, h, _, h2 => by
    have h2 : p x = true := h2
    simp [idxZ, h2]
  | x :: l, i + 1, h, h1, h2 => by
    have ih := idxZ_at (p := p) (l := l) (i := i) (by simpa using h) (fun y m => h1 y (by simp [m])) (by simpa using h2)
    simp only [idxZ, h1 x (by simp), Bool.false_eq_true, if_false, ih]
    rw [if_neg (by omega)]; rfl
theorem idxZ_cases {α : Type} (p : α → Bool) (l : List α) : (idxZ p l = -1 ∧ ∀ x ∈ l, p x = false) ∨ ∃ i : Nat, ∃ h : i < l.length, idxZ p l = i ∧ p l[i] = true ∧ ∀ x ∈ l.take i, p x = false := by
  induction l with
  | nil => left; exact ⟨rfl, by simp⟩
  | cons x l ih =>
    by_cases hx : p x = true
    · right; exact ⟨0, by simp, by simp [idxZ, hx], hx, by simp⟩
    · rcases ih with ⟨h1, h2⟩ | ⟨i, h, h1, h2, h3⟩
      · left
        refine ⟨by simp [idxZ, hx, h1], ?_⟩
        simp only [List.mem_cons]
        rintro y (rfl | m)
        · simpa using hx
        · exact h2 y m
      · right
        refine ⟨i + 1, by simpa using h, ?_, by simpa using h2, ?_⟩
        · simp only [idxZ, hx, Bool.false_eq_true, if_false, h1]
          rw [if_neg (by omega)]; rfl
        · simp only [List.take_succ_cons, List.mem_cons]
          rintro y (rfl | m)
          · simpa using hx
          · exact h3 y m
theorem idxZ_mem {α : Type} {p : α → Bool} {l : List α} : 0 ≤ idxZ p l ↔ ∃ x ∈ l, p x = true := by
  rcases idxZ_cases p l with ⟨h1, h2⟩ | ⟨i, h, h1, h2, h3⟩
  · rw [h1]; constructor
    · intro h; omega
    · rintro ⟨x, m, e⟩; rw [h2 x m] at e; cases e
  · rw [h1]; exact ⟨fun _ => ⟨_, List.getElem_mem h, h2⟩, fun _ => by omega⟩
theorem idxZ_lt {α : Type} (p : α → Bool) (l : List α) : idxZ p l < l.length := by
  rcases idxZ_cases p l with ⟨h1, h2⟩ | ⟨i, h, h1, h2, h3⟩ <;> rw [h1] <;> omega
theorem beq_of {a b : List UInt8} : (a == b) = decide (a = b) := by
  by_cases h : a = b
  · subst h; simp
  · simp [h]
end Go.Fm
set_option linter.unusedVariables false
set_option linter.unusedSimpArgs false
namespace Go.Fx.Tryz
open Go Go.Fm Go.Proofs
theorem fieldIndex_call {l : List FieldL} {u : Bool} {s : List UInt8} (hl : l.length < 2 ^ 60) : FCall Tryz.prog n_ref17_fieldIndex [.sl u (fieldsV l), .str s] (· = .int .i64 (idxZ (fun f => decide (f.name = s)) l)) := by
  refine FCall.walk u_ref17_fieldIndex k_ref17_fieldIndex rfl ?_
  unfold c_ref17_fieldIndex
  simp only [go_sem, simprocAttr]
  refine FWT.count [] l.length (fun i => [(5, .int .i64 i)]) (fun i => ∀ f ∈ l.take i, ¬ f.name = s) rfl (by simp) ?_
  intro i hi hg
  by_cases h : i < l.length
  · have hx := fieldsV_get h
    simp only [go_sem, simprocAttr, ltT h, Int.toNat_natCast, hx, FieldL.row]
    refine ⟨fun e => ?_, fun e => ⟨by rw [w64s (by omega)], (all_take_succ h).2 ⟨hg, e⟩, h⟩⟩
    rw [idxZ_at h (fun f m => decide_eq_false (hg f m)) (decide_eq_true e)]
  simp only [go_sem, simprocAttr, ltF h]
  rw [List.take_of_length_le (by omega)] at hg
  rw [idxZ_none fun f m => decide_eq_false (hg f m)]
theorem indexScope_call {l : List ScopeL} {u : Bool} {g : FuncId} {cap : List FV} {p : ScopeL → Bool} (hl : l.length < 2 ^ 60) (hf : isFn Tryz.prog g = true) (hc : cap.all FV.plain = true) (hs : sealedL cap = cap) (hp : ∀ x ∈ l, FCall Tryz.prog g ([.agg x.row] ++ cap) (· = .bool (p x))) :
    FCall Tryz.prog n_slices_IndexFunc_api_Scope_api_Scope [.sl u (scopesV l), .fn g cap] (· = .int .i64 (idxZ p l)) := by
  refine FCall.walk u_slices_IndexFunc_api_Scope_api_Scope k_slices_IndexFunc_api_Scope_api_Scope rfl ?_
  unfold c_slices_IndexFunc_api_Scope_api_Scope
  simp only [go_sem, simprocAttr, hc]
  refine FWT.count [5] l.length (fun i => [(8, .int .i64 i)]) (fun i => ∀ f ∈ l.take i, p f = false) rfl (by simp) ?_
  intro i hi hg
  by_cases h : i < l.length
  · have hx := scopesV_get h
    simp only [go_sem, simprocAttr, ltT h, Int.toNat_natCast, hx, ScopeL.row, hc, hs]
    refine ⟨hf, ?_⟩
    refine FCallT.of (hp l[i] (List.getElem_mem h)) ?_
    rintro _ rfl
    simp only [go_sem, simprocAttr]
    refine ⟨fun e => ?_, fun e => ⟨by rw [w64s (by omega)], (all_take_succ h).2 ⟨hg, e⟩, h⟩⟩
    rw [idxZ_at h hg e]
  simp only [go_sem, simprocAttr, ltF h]
  rw [List.take_of_length_le (by omega)] at hg
  rw [idxZ_none hg]
theorem indexField_call {l : List FieldL} {u : Bool} {g : FuncId} {cap : List FV} {p : FieldL → Bool} (hl : l.length < 2 ^ 60) (hf : isFn Tryz.prog g = true) (hc : cap.all FV.plain = true) (hs : sealedL cap = cap) (hp : ∀ x ∈ l, FCall Tryz.prog g ([.agg x.row] ++ cap) (· = .bool (p x))) :
    FCall Tryz.prog n_slices_IndexFunc_api_Field_api_Field [.sl u (fieldsV l), .fn g cap] (· = .int .i64 (idxZ p l)) := by
  refine FCall.walk u_slices_IndexFunc_api_Field_api_Field k_slices_IndexFunc_api_Field_api_Field rfl ?_
  unfold c_slices_IndexFunc_api_Field_api_Field
  simp only [go_sem, simprocAttr, hc]
  refine FWT.count [5] l.length (fun i => [(8, .int .i64 i)]) (fun i => ∀ f ∈ l.take i, p f = false) rfl (by simp) ?_
  intro i hi hg
  by_cases h : i < l.length
  · have hx := fieldsV_get h
    simp only [go_sem, simprocAttr, ltT h, Int.toNat_natCast, hx, FieldL.row, hc, hs]
    refine ⟨hf, ?_⟩
    refine FCallT.of (hp l[i] (List.getElem_mem h)) ?_
    rintro _ rfl
    simp only [go_sem, simprocAttr]
    refine ⟨fun e => ?_, fun e => ⟨by rw [w64s (by omega)], (all_take_succ h).2 ⟨hg, e⟩, h⟩⟩
    rw [idxZ_at h hg e]
  simp only [go_sem, simprocAttr, ltF h]
  rw [List.take_of_length_le (by omega)] at hg
  rw [idxZ_none hg]
theorem find1_call {x : ScopeL} {s : List UInt8} : FCall Tryz.prog n_law_Find_1 [.agg x.row, .ref [.str s]] (· = .bool (decide (x.name = s))) := by
  refine FCall.walk u_law_Find_1 k_law_Find_1 rfl ?_
  unfold c_law_Find_1
  simp only [go_sem, simprocAttr, ScopeL.row]
theorem find2_call {x : FieldL} {s : List UInt8} : FCall Tryz.prog n_law_Find_2 [.agg x.row, .ref [.str s]] (· = .bool (decide (x.name = s))) := by
  refine FCall.walk u_law_Find_2 k_law_Find_2 rfl ?_
  unfold c_law_Find_2
  simp only [go_sem, simprocAttr, FieldL.row]
theorem isFn_find1 : isFn Tryz.prog n_law_Find_1 = true := by kernel_rfl
theorem isFn_find2 : isFn Tryz.prog n_law_Find_2 = true := by kernel_rfl
/-- where a scope, a definition and an input of a name stand -/
def findL (l : LawL) (s n : List UInt8) : FV :=
  let i := idxZ (fun x => decide (x.name = s)) l.scopes
  if i < 0 then .tup [.int .i64 (-1), .int .i64 (-1), .int .i64 (-1)] else
  match l.scopes[i.toNat]? with
  | some x => .tup [.int .i64 i, .int .i64 (idxZ (fun f => decide (f.name = n)) x.defs), .int .i64 (idxZ (fun f => decide (f.name = n)) x.inputs)]
  | none => .undef
theorem find_call {l : LawL} {s n : List UInt8} (hl : l.scopes.length < 2 ^ 60) (hx : ∀ x ∈ l.scopes, x.defs.length < 2 ^ 60 ∧ x.inputs.length < 2 ^ 60) : FCall Tryz.prog n_law_Find [.agg l.row, .str s, .str n] (· = findL l s n) := by
  refine FCall.walk u_law_Find k_law_Find rfl ?_
  unfold c_law_Find
  simp only [go_sem, simprocAttr, LawL.row]
  refine FCallT.of (indexScope_call (p := fun x => decide (x.name = s)) hl isFn_find1 rfl rfl (fun x _ => find1_call)) ?_
  rintro _ rfl
  simp only [go_sem, simprocAttr]
  rcases idxZ_cases (fun x : ScopeL => decide (x.name = s)) l.scopes with ⟨h1, h2⟩ | ⟨i, h, h1, h2, h3⟩
  · simp only [go_sem, simprocAttr, h1]
    simp [findL, h1]
  · have hg := scopesV_get h
    have h4 : ¬ (i : Int) < 0 := by omega
    obtain ⟨k1, k2⟩ := hx _ (List.getElem_mem h)
    simp only [go_sem, simprocAttr, h1, h4, Int.toNat_natCast, hg, ScopeL.row]
    refine detCallB_of _ (indexField_call (p := fun f => decide (f.name = n)) k1 isFn_find2 rfl rfl (fun x _ => find2_call)) rfl ?_
    simp only [go_sem, simprocAttr, h1, h4, Int.toNat_natCast, hg, ScopeL.row]
    refine detCallB_of _ (indexField_call (p := fun f => decide (f.name = n)) k2 isFn_find2 rfl rfl (fun x _ => find2_call)) rfl ?_
    simp only [go_sem, simprocAttr]
    simp [findL, h1, h]
theorem findR_call {l : LawL} {s n : List UInt8} (hl : l.scopes.length < 2 ^ 60) (hx : ∀ x ∈ l.scopes, x.defs.length < 2 ^ 60 ∧ x.inputs.length < 2 ^ 60) : FCall Tryz.prog n_ref17_Find [.agg l.row, .str s, .str n] (· = findL l s n) := by
  refine FCall.walk u_ref17_Find k_ref17_Find rfl ?_
  unfold c_ref17_Find
  simp only [go_sem, simprocAttr, LawL.row]
  refine FWT.count [] l.scopes.length (fun i => [(9, .int .i64 i)]) (fun i => ∀ x ∈ l.scopes.take i, ¬ x.name = s) rfl (by simp) ?_
  intro i hi hg
  by_cases h : i < l.scopes.length
  · have hq := scopesV_get h
    obtain ⟨k1, k2⟩ := hx _ (List.getElem_mem h)
    simp only [go_sem, simprocAttr, ltT h, Int.toNat_natCast, hq, ScopeL.row]
    refine ⟨fun e => ?_, fun e => ⟨by rw [w64s (by omega)], (all_take_succ h).2 ⟨hg, e⟩, h⟩⟩
    refine detCall_of _ (fieldIndex_call (s := n) k1) ?_
    simp only [go_sem, simprocAttr, Int.toNat_natCast, hq, ScopeL.row]
    refine detCall_of _ (fieldIndex_call (s := n) k2) ?_
    simp only [go_sem, simprocAttr]
    have h1 : idxZ (fun x : ScopeL => decide (x.name = s)) l.scopes = i := idxZ_at h (fun f m => decide_eq_false (hg f m)) (decide_eq_true e)
    have h4 : ¬ (i : Int) < 0 := by omega
    simp [findL, h1, h, h4]
  simp only [go_sem, simprocAttr, ltF h]
  rw [List.take_of_length_le (by omega)] at hg
  have h1 : idxZ (fun x : ScopeL => decide (x.name = s)) l.scopes = -1 := idxZ_none fun f m => decide_eq_false (hg f m)
  simp [findL, h1]
theorem findL_tup (l : LawL) (s n : List UInt8) : ∃ a b c : Int, findL l s n = .tup [.int .i64 a, .int .i64 b, .int .i64 c] := by
  rcases idxZ_cases (fun x : ScopeL => decide (x.name = s)) l.scopes with ⟨h1, h2⟩ | ⟨i, h, h1, h2, h3⟩
  · exact ⟨-1, -1, -1, by simp [findL, h1]⟩
  · have h4 : ¬ (i : Int) < 0 := by omega
    refine ⟨i, idxZ (fun f => decide (f.name = n)) l.scopes[i].defs, idxZ (fun f => decide (f.name = n)) l.scopes[i].inputs, ?_⟩
    simp only [findL, h1, h4, if_false, Int.toNat_natCast, List.getElem?_eq_getElem h]
theorem law_find {l : LawL} {s n : List UInt8} (hr : ∀ t ∈ l.tables, t.rows.length < 2 ^ 60) (hu : ∀ s ∈ l.scopes, s.rules.length < 2 ^ 60) (hl : l.scopes.length < 2 ^ 60) (hx : ∀ x ∈ l.scopes, x.defs.length < 2 ^ 60 ∧ x.inputs.length < 2 ^ 60)
    (ha : FCall Tryz.prog n_law17_awake [] (· = .bool true)) : FCall Tryz.prog n_law17_LawFind [.agg l.row, .str s, .str n] (· = .bool true) := by
  refine FCall.walk u_law17_LawFind k_law17_LawFind rfl ?_
  unfold c_law17_LawFind
  simp only [go_sem, simprocAttr, LawL.row]
  refine FCallT.of (smallLaw_call (l := l) hr hu) ?_
  rintro _ rfl
  simp only [go_sem, simprocAttr]
  obtain ⟨a, b, c, he⟩ := findL_tup l s n
  have f1 := find_call (l := l) (s := s) (n := n) hl hx
  have f2 := findR_call (l := l) (s := s) (n := n) hl hx
  rw [he] at f1 f2
  refine ⟨fun hsm => ?_, fun hsm => ?_⟩
  · refine FCallT.of (ha) ?_
    rintro _ rfl
    simp only [go_sem, simprocAttr]
  · refine FCallT.of (f1) ?_
    rintro _ rfl
    simp only [go_sem, simprocAttr, LawL.row]
    refine FCallT.of (f2) ?_
    rintro _ rfl
    simp only [go_sem, simprocAttr]
    refine FCallT.of (ha) ?_
    rintro _ rfl
    simp only [go_sem, simprocAttr]
end Go.Fx.Tryz
/- Types, signatures and the typing of expressions, as plain functions. -/
set_option linter.unusedVariables false
set_option linter.unusedSimpArgs false
namespace Go.Fm
open Go
structure TyL where
  k : Int
  e : Int
  deriving DecidableEq
def TyL.row (t : TyL) : List FV := [.int .i64 t.k, .int .i64 t.e]
def tysV (l : List TyL) : List (List FV) := l.map TyL.row
@[go_sem] theorem tysV_length (l : List TyL) : (tysV l).length = l.length := by simp [tysV]
theorem tysV_get {l : List TyL} {i : Nat} (h : i < l.length) : (tysV l)[i]? = some [.int .i64 l[i].k, .int .i64 l[i].e] := by simp [tysV, h, TyL.row]
def FieldL.ty (f : FieldL) : TyL := ⟨f.k, f.e⟩
structure SigL where
  efull : Bool
  enums : List EnumL
  tfull : Bool
  tables : List TableL
  ifull : Bool
  inputs : List TyL
  dfull : Bool
  defs : List TyL
  mfull : Bool
  mems : List TyL
  has : Bool
def SigL.row (s : SigL) : List FV := [.sl s.efull (enumsV s.enums), .sl s.tfull (tablesV s.tables), .sl s.ifull (tysV s.inputs), .sl s.dfull (tysV s.defs), .sl s.mfull (tysV s.mems), .bool s.has]
/-- a type that is one -/
def validT (t : TyL) (ne : Nat) : Prop := (t.k = 6 ∧ 0 ≤ t.e ∧ t.e < ne) ∨ (1 ≤ t.k ∧ t.k ≤ 5 ∧ t.e = 0)
instance (t : TyL) (ne : Nat) : Decidable (validT t ne) := by unfold validT; infer_instance
/-- the least and the greatest number of a type -/
def loT (t : TyL) (en : List EnumL) : Int := if validT t en.length then if t.k = 2 then -1000000000000 else if t.k = 3 then -1000000000000000 else if t.k = 4 then -1000000000 else 0 else 0
def hiT (t : TyL) (en : List EnumL) : Int :=
  if validT t en.length then if t.k = 1 then 1 else if t.k = 2 then 1000000000000 else if t.k = 3 then 1000000000000000 else if t.k = 4 then 1000000000 else if t.k = 5 then 109572 else (((en[t.e.toNat]?).map fun e => (e.members.length : Int)).getD 0) - 1 else -1
/-- how many operands an operation has; -1: there is no such operation -/
def arityZ (op : Int) : Int :=
  if op < 1 ∨ 39 < op then -1 else if op = 26 then 3 else if op = 10 ∨ op = 25 ∨ op = 31 ∨ op = 32 ∨ op = 33 ∨ op = 34 then 1 else if op ≤ 9 ∨ 35 ≤ op then 0 else 2
/-- the structure of an expression: where each subexpression starts; or the place of the error and the error -/
def structGo (i : Nat) (stack out : List Int) : List NodeL → List Int × Int × Int
  | [] => if 1 < stack.length then ([], i, 4) else (out, 0, 0)
  | n :: r =>
    if arityZ n.op < 0 then ([], i, 2) else if (stack.length : Int) < arityZ n.op then ([], i, 5) else
    let k := (arityZ n.op).toNat
    let from_ := if 0 < k then (stack[stack.length - k]?).getD 0 else (i : Int)
    let st := stack.take (stack.length - k) ++ [from_]
    if 12 < st.length then ([], i, 16) else structGo (i + 1) st (out ++ [from_]) r
def structL (e : List NodeL) : List Int × Int × Int := if 48 < e.length then ([], 0, 4) else if e = [] then ([], 0, 5) else structGo 0 [] [] e
/-- the operations whose number has a meaning -/
def meanP (op : Int) : Prop := (1 ≤ op ∧ op ≤ 8) ∨ (36 ≤ op ∧ op ≤ 39) ∨ op = 14 ∨ op = 15 ∨ op = 16 ∨ op = 33 ∨ op = 34
instance (op : Int) : Decidable (meanP op) := by unfold meanP; infer_instance
def rangedP (n : NodeL) : Prop :=
  (1 ≤ n.op ∧ n.op ≤ 5 → loT ⟨n.op, 0⟩ [] ≤ n.n ∧ n.n ≤ hiT ⟨n.op, 0⟩ []) ∧ (14 ≤ n.op ∧ n.op ≤ 16 → 0 ≤ n.n ∧ n.n ≤ 5) ∧ (n.op = 34 → 0 ≤ n.n ∧ n.n % 8 ≤ 5) ∧ (n.op = 6 → 0 ≤ n.n)
instance (n : NodeL) : Decidable (rangedP n) := by unfold rangedP; infer_instance
/-- the errors of a node's number -/
def numE (n : NodeL) : Int := if n.n ≠ 0 ∧ ¬ meanP n.op then 2 else if rangedP n then 0 else 3
def memN (en : List EnumL) (i : Int) : Int := ((en[i.toNat]?).map fun e => (e.members.length : Int)).getD 0
def foundP (n : NodeL) (s : SigL) : Prop :=
  (n.op = 6 → n.n / 16 < s.enums.length ∧ n.n % 16 < memN s.enums (n.n / 16)) ∧ (n.op = 7 → 0 ≤ n.n ∧ n.n < s.inputs.length) ∧ (n.op = 8 → 0 ≤ n.n ∧ n.n < s.defs.length) ∧
  (n.op = 33 → 0 ≤ n.n ∧ n.n < s.tables.length) ∧ (n.op = 34 → n.n / 8 < s.tables.length) ∧ (n.op = 35 → s.has = true) ∧ (36 ≤ n.op ∧ n.op ≤ 39 → s.has = true ∧ 0 ≤ n.n ∧ n.n < s.mems.length)
instance (n : NodeL) (s : SigL) : Decidable (foundP n s) := by unfold foundP; infer_instance
def numK (k : Int) : Prop := 2 ≤ k ∧ k ≤ 4
def ordK (k : Int) : Prop := 2 ≤ k ∧ k ≤ 5
instance (k : Int) : Decidable (numK k) := by unfold numK; infer_instance
instance (k : Int) : Decidable (ordK k) := by unfold ordK; infer_instance
def kindT (k : Int) : TyL := ⟨k, 0⟩
def tyAt (l : List TyL) (i : Int) : TyL := (l[i.toNat]?).getD ⟨0, 0⟩
def leafT (n : NodeL) (s : SigL) : TyL :=
  if n.op = 6 then ⟨6, n.n / 16⟩ else if n.op = 7 then tyAt s.inputs n.n else if n.op = 8 then tyAt s.defs n.n else if n.op = 9 then kindT 5 else if n.op = 35 then kindT 2 else if 36 ≤ n.op ∧ n.op ≤ 39 then tyAt s.mems n.n else kindT n.op
def aggP (op k : Int) : Prop := (op = 36 → k = 2 ∨ k = 3) ∧ (op = 37 ∨ op = 38 → k = 1) ∧ (op = 39 → ordK k)
instance (op k : Int) : Decidable (aggP op k) := by unfold aggP; infer_instance
def tabAt (l : List TableL) (i : Int) : TableL := (l[i.toNat]?).getD ⟨[], 0, 0, 0, 0, true, []⟩
def unT (n : NodeL) (a : TyL) (s : SigL) : TyL × Bool :=
  if n.op = 10 then (a, decide (numK a.k)) else if n.op = 25 then (a, decide (a.k = 1)) else if n.op = 31 ∨ n.op = 32 then (kindT 2, decide (a.k = 5)) else
  if n.op = 33 then let t := tabAt s.tables n.n; (⟨t.vk, t.ve⟩, decide (validT ⟨t.kk, t.ke⟩ s.enums.length ∧ validT ⟨t.vk, t.ve⟩ s.enums.length ∧ a = ⟨t.kk, t.ke⟩)) else
  let t := tabAt s.tables (n.n / 8); (a, decide (a.k = 3 ∧ t.kk = 3 ∧ t.ke = 0 ∧ t.vk = 4 ∧ t.ve = 0))
def scT (op a b : Int) : TyL × Bool :=
  if op = 13 then (kindT a, decide (b = 2 ∧ (a = 2 ∨ a = 3))) else if op = 14 then (kindT a, decide (b = 4 ∧ (a = 3 ∨ a = 4))) else
  if a = 3 ∧ b = 3 then (kindT 4, true) else (kindT a, decide (b = 2 ∧ (a = 2 ∨ a = 3)))
def binT (op : Int) (a b : TyL) : TyL × Bool :=
  if op = 11 ∨ op = 12 then (a, decide (a = b ∧ numK a.k)) else if op = 13 ∨ op = 14 ∨ op = 15 then scT op a.k b.k else if op = 16 then (a, decide (a.k = 3 ∧ b.k = 3)) else
  if op = 17 ∨ op = 18 then (a, decide (a = b ∧ ordK a.k)) else if op = 19 ∨ op = 20 then (kindT 1, decide (a = b)) else if op = 21 ∨ op = 22 then (kindT 1, decide (a = b ∧ ordK a.k)) else
  if op = 23 ∨ op = 24 then (a, decide (a.k = 1 ∧ b.k = 1)) else if op = 27 ∨ op = 28 then (a, decide (a.k = 5 ∧ b.k = 2)) else (kindT 2, decide (a.k = 5 ∧ b.k = 5))
def triT (a b c : TyL) : TyL × Bool := (b, decide (a.k = 1 ∧ b = c))
/-- the type of a node whose operands have the types l, and the error -/
def nodeT (n : NodeL) (l : List TyL) (s : SigL) : TyL × Int :=
  if numE n ≠ 0 then (⟨0, 0⟩, numE n) else if ¬ foundP n s then (⟨0, 0⟩, 6) else
  let r : TyL × Bool := match l with
    | [] => (leafT n s, decide (validT (leafT n s) s.enums.length ∧ aggP n.op (leafT n s).k))
    | [a] => unT n a s
    | [a, b] => binT n.op a b
    | a :: b :: c :: _ => triT a b c
  if r.2 then (r.1, 0) else (⟨0, 0⟩, 8)
/-- the type of an expression whose structure is sound -/
def typeGo (s : SigL) (i : Nat) (st : List TyL) : List NodeL → TyL × Int × Int
  | [] => ((st[0]?).getD ⟨0, 0⟩, 0, 0)
  | n :: r =>
    let k := st.length - (arityZ n.op).toNat
    let x := nodeT n (st.drop k) s
    if x.2 ≠ 0 then (⟨0, 0⟩, i, x.2) else typeGo s (i + 1) (st.take k ++ [x.1]) r
def typeL (e : List NodeL) (s : SigL) : TyL × Int × Int := if (structL e).2.2 ≠ 0 then (⟨0, 0⟩, (structL e).2.1, (structL e).2.2) else typeGo s 0 [] e
end Go.Fm
/- Rows of cells: what appending asks of them, and how lists of rows grow. -/
set_option linter.unusedVariables false
set_option linter.unusedSimpArgs false
namespace Go.Fm
open Go
theorem nodesV_get {l : List NodeL} {i : Nat} (h : i < l.length) : (nodesV l)[i]? = some l[i].row := by simp [nodesV, h]
theorem enumsV_get {l : List EnumL} {i : Nat} (h : i < l.length) : (enumsV l)[i]? = some l[i].row := by simp [enumsV, h]
@[go_sem] theorem e_at_cons (E : Env) (r : Nat) (x : Nat × Nat) (p : Path) : E.at r (x :: p) = match getN (E.get r) (x :: p) 1 with
  | some [y] => y
  | _ => .undef := rfl
theorem rowsOk_map {α : Type} {n : Nat} {f : α → List FV} (h : ∀ x, ((f x).length == n && (f x).all FV.one) = true) : ∀ l : List α, rowsOk n (l.map f) = true
  | [] => rfl
  | x :: l => by rw [List.map_cons, rowsOk_cons, h x, rowsOk_map h l]; rfl
theorem map_take_succ {α β : Type} {f : α → β} {l : List α} {i : Nat} (h : i < l.length) : (l.take (i + 1)).map f = (l.take i).map f ++ [f l[i]] := by
  rw [List.take_succ_eq_append_getElem h, List.map_append]; rfl
theorem take_eq_succ {α : Type} {a b : List α} {i : Nat} (h : i < a.length) (h2 : i < b.length) (hg : a.take i = b.take i) (e : a[i] = b[i]) : a.take (i + 1) = b.take (i + 1) := by
  rw [List.take_succ_eq_append_getElem h, List.take_succ_eq_append_getElem h2, hg, e]
theorem take_all_eq {α : Type} {a b : List α} {i : Nat} (h : a.length ≤ i) (h2 : b.length ≤ i) (hg : a.take i = b.take i) : a = b := by
  rwa [List.take_of_length_le h, List.take_of_length_le h2] at hg
@[go_sem] theorem rowsOk_strs (l : List (List UInt8)) : rowsOk 1 (strs l) = true := rowsOk_map (fun _ => rfl) l
@[go_sem] theorem rowsOk_ints (l : List Int) : rowsOk 1 (ints l) = true := rowsOk_map (fun _ => rfl) l
@[go_sem] theorem rowsOk_tysV (l : List TyL) : rowsOk 2 (tysV l) = true := rowsOk_map (fun _ => rfl) l
@[go_sem] theorem rowsOk_nodesV (l : List NodeL) : rowsOk 2 (nodesV l) = true := rowsOk_map (fun _ => rfl) l
@[go_sem] theorem rowsOk_fieldsV (l : List FieldL) : rowsOk 3 (fieldsV l) = true := rowsOk_map (fun _ => rfl) l
@[go_sem] theorem rowsOk_rowsV (l : List RowL) : rowsOk 5 (rowsV l) = true := rowsOk_map (fun _ => rfl) l
@[go_sem] theorem rowsOk_rulesV (l : List RuleL) : rowsOk 9 (rulesV l) = true := rowsOk_map (fun _ => rfl) l
@[go_sem] theorem rowsOk_tablesV (l : List TableL) : rowsOk 6 (tablesV l) = true := rowsOk_map (fun _ => rfl) l
@[go_sem] theorem rowsOk_enumsV (l : List EnumL) : rowsOk 2 (enumsV l) = true := rowsOk_map (fun _ => rfl) l
@[go_sem] theorem rowsOk_scopesV (l : List ScopeL) : rowsOk 5 (scopesV l) = true := rowsOk_map (fun _ => rfl) l
theorem ints_snoc (l : List Int) (x : Int) : ints (l ++ [x]) = ints l ++ [[.int .i64 x]] := by simp [ints]
theorem tysV_snoc (l : List TyL) (x : TyL) : tysV (l ++ [x]) = tysV l ++ [x.row] := by simp [tysV]
theorem nodesV_snoc (l : List NodeL) (x : NodeL) : nodesV (l ++ [x]) = nodesV l ++ [x.row] := by simp [nodesV]
theorem fieldsV_snoc (l : List FieldL) (x : FieldL) : fieldsV (l ++ [x]) = fieldsV l ++ [x.row] := by simp [fieldsV]
theorem rowsV_snoc (l : List RowL) (x : RowL) : rowsV (l ++ [x]) = rowsV l ++ [x.row] := by simp [rowsV]
/-- what owns its parts -/
def EnumL.own (e : EnumL) : List FV := [.str e.name, .arr (strs e.members)]
def enumsO (l : List EnumL) : List (List FV) := l.map EnumL.own
def TableL.own (x : TableL) : List FV := [.str x.name, .int .i64 x.kk, .int .i64 x.ke, .int .i64 x.vk, .int .i64 x.ve, .arr (rowsV x.rows)]
def tablesO (l : List TableL) : List (List FV) := l.map TableL.own
@[go_sem] theorem enumsO_length (l : List EnumL) : (enumsO l).length = l.length := by simp [enumsO]
@[go_sem] theorem tablesO_length (l : List TableL) : (tablesO l).length = l.length := by simp [tablesO]
@[go_sem] theorem rowsOk_enumsO (l : List EnumL) : rowsOk 2 (enumsO l) = true := rowsOk_map (fun _ => rfl) l
@[go_sem] theorem rowsOk_tablesO (l : List TableL) : rowsOk 6 (tablesO l) = true := rowsOk_map (fun _ => rfl) l
theorem enumsO_snoc (l : List EnumL) (x : EnumL) : enumsO (l ++ [x]) = enumsO l ++ [x.own] := by simp [enumsO]
theorem tablesO_snoc (l : List TableL) (x : TableL) : tablesO (l ++ [x]) = tablesO l ++ [x.own] := by simp [tablesO]
/-- an enumeration whose slice is not known to be full -/
def EnumL.bare (e : EnumL) : EnumL := { e with full := false }
def TableL.bare (e : TableL) : TableL := { e with rfull := false }
/-- plain rows, sealed -/
theorem sealedLL_map {α : Type} {f g : α → List FV} (h : ∀ x, sealedL (f x) = g x) : ∀ l : List α, sealedLL (l.map f) = l.map g
  | [] => rfl
  | x :: l => by rw [List.map_cons, sealedLL, h x, sealedLL_map h l]; rfl
@[go_sem] theorem sealed_strs (l : List (List UInt8)) : sealedLL (strs l) = strs l := sealedLL_map (fun _ => rfl) l
@[go_sem] theorem sealed_ints (l : List Int) : sealedLL (ints l) = ints l := sealedLL_map (fun _ => rfl) l
@[go_sem] theorem sealed_tysV (l : List TyL) : sealedLL (tysV l) = tysV l := sealedLL_map (fun _ => rfl) l
@[go_sem] theorem sealed_nodesV (l : List NodeL) : sealedLL (nodesV l) = nodesV l := sealedLL_map (fun _ => rfl) l
@[go_sem] theorem sealed_fieldsV (l : List FieldL) : sealedLL (fieldsV l) = fieldsV l := sealedLL_map (fun _ => rfl) l
@[go_sem] theorem sealed_rowsV (l : List RowL) : sealedLL (rowsV l) = rowsV l := sealedLL_map (fun _ => rfl) l
@[go_sem] theorem sealed_enumsO (l : List EnumL) : sealedLL (enumsO l) = enumsV (l.map EnumL.bare) := by
  rw [enumsO, sealedLL_map (g := fun e => e.bare.row) (fun x => by simp only [EnumL.own, sealedL, FV.sealed, sealed_strs]; rfl), enumsV, List.map_map]; rfl
@[go_sem] theorem sealed_tablesO (l : List TableL) : sealedLL (tablesO l) = tablesV (l.map TableL.bare) := by
  rw [tablesO, sealedLL_map (g := fun e => e.bare.row) (fun x => by simp only [TableL.own, sealedL, FV.sealed, sealed_rowsV]; rfl), tablesV, List.map_map]; rfl
theorem TyL.eqB (x y : TyL) : (decide (x.k = y.k) && decide (x.e = y.e)) = bp (x = y) := by
  rw [Bool.eq_iff_iff, bp_iff]; cases x; cases y; simp
theorem NodeL.eqB (x y : NodeL) : (decide (x.op = y.op) && decide (x.n = y.n)) = bp (x = y) := by
  rw [Bool.eq_iff_iff, bp_iff]; cases x; cases y; simp
theorem RowL.eqB (x y : RowL) : (decide (x.f = y.f) && (decide (x.t = y.t) && (decide (x.lo = y.lo) && (decide (x.hi = y.hi) && decide (x.n = y.n))))) = bp (x = y) := by
  rw [Bool.eq_iff_iff, bp_iff]; cases x; cases y; simp
theorem FieldL.eqB (x y : FieldL) : (decide (x.name = y.name) && (decide (x.k = y.k) && decide (x.e = y.e))) = bp (x = y) := by
  rw [Bool.eq_iff_iff, bp_iff]; cases x; cases y; simp
/-- the end of a round that compares -/
theorem cmp_round {α : Type} {a b : List α} {i : Nat} (h2 : i < a.length) (h3 : i < b.length) (hg : a.take i = b.take i) {E E' : Env} (hE : E = E') :
    (bp (a[i] = b[i]) = false → FV.bool false = FV.bool (bp (a = b))) ∧ (bp (a[i] = b[i]) = true → E = E' ∧ a.take (i + 1) = b.take (i + 1) ∧ i < a.length) := by
  refine ⟨fun e => fbp_false fun hh => ?_, fun e => ⟨hE, take_eq_succ h2 h3 hg (bp_iff.1 e), h2⟩⟩
  subst hh
  rw [bp_true rfl] at e; cases e
theorem cmp_roundM {α β : Type} {f : α → β} {a b : List α} {i : Nat} (h2 : i < a.length) (h3 : i < b.length) (hg : (a.take i).map f = (b.take i).map f) {E E' : Env} (hE : E = E') :
    (bp (f a[i] = f b[i]) = false → FV.bool false = FV.bool (bp (a.map f = b.map f))) ∧ (bp (f a[i] = f b[i]) = true → E = E' ∧ (a.take (i + 1)).map f = (b.take (i + 1)).map f ∧ i < a.length) := by
  refine ⟨fun e => fbp_false fun hh => ?_, fun e => ⟨hE, by rw [map_take_succ h2, map_take_succ h3, hg, bp_iff.1 e], h2⟩⟩
  have h4 : (a.map f)[i]? = (b.map f)[i]? := by rw [hh]
  simp only [List.getElem?_map, List.getElem?_eq_getElem h2, List.getElem?_eq_getElem h3, Option.map_some, Option.some.injEq] at h4
  rw [bp_true h4] at e; cases e
theorem bpf_and {p q : Prop} : (bp p && bp q) = bp (p ∧ q) := by
  rw [Bool.eq_iff_iff, Bool.and_eq_true, bp_iff, bp_iff, bp_iff]
theorem bp_congr {p q : Prop} (h : p ↔ q) : bp p = bp q := by rw [Bool.eq_iff_iff, bp_iff, bp_iff, h]
theorem dec_bp {p : Prop} [Decidable p] : decide p = bp p := by rw [Bool.eq_iff_iff, decide_eq_true_eq, bp_iff]
def EnumL.core (e : EnumL) : List UInt8 × List (List UInt8) := (e.name, e.members)
def TableL.core (x : TableL) : List UInt8 × TyL × TyL × List RowL := (x.name, ⟨x.kk, x.ke⟩, ⟨x.vk, x.ve⟩, x.rows)
def RuleL.core (x : RuleL) : List UInt8 × Int × Int × Int × Int × Int × List NodeL × List NodeL × List UInt8 := (x.name, x.d, x.p, x.pr, x.f, x.t, x.guard, x.value, x.src)
def ScopeL.core (x : ScopeL) := (x.name, x.ms, x.inputs, x.defs, x.rules.map RuleL.core)
def LawL.core (x : LawL) := (x.enums.map EnumL.core, x.tables.map TableL.core, x.scopes.map ScopeL.core)
/-- a scope without anything -/
def zeroScope : ScopeL := ⟨[], 0, true, [], true, [], true, []⟩
theorem inR3 (i : Int) (n : Nat) : i < 0 ∨ (¬ i < 0 ∧ (n : Int) ≤ i) ∨ (∃ j : Nat, i = j ∧ j < n) := by
  by_cases h1 : i < 0
  · exact .inl h1
  · by_cases h2 : (n : Int) ≤ i
    · exact .inr (.inl ⟨h1, h2⟩)
    · exact .inr (.inr ⟨i.toNat, by omega, by omega⟩)
end Go.Fm
set_option linter.unusedVariables false
set_option linter.unusedSimpArgs false
namespace Go.Fx.Tryz
open Go Go.Fm Go.Proofs
theorem Strings_call {a b : List (List UInt8)} {u v : Bool} (hl : a.length < 2 ^ 60) : FCall Tryz.prog n_same_Strings [.sl u (strs a), .sl v (strs b)] (· = .bool (bp (a = b))) := by
  refine FCall.walk u_same_Strings k_same_Strings rfl ?_
  unfold c_same_Strings
  simp only [go_sem, simprocAttr]
  refine ⟨fun h => fbp_false fun e => h (by rw [e]), fun h => ?_⟩
  refine FWT.count [] a.length (fun i => [(5, .int .i64 i)]) (fun i => a.take i = b.take i) rfl (by simp) ?_
  intro i hi hg
  by_cases h2 : i < a.length
  · have h3 : i < b.length := by omega
    have hx := strs_get h2
    have hy := strs_get h3
    simp only [go_sem, simprocAttr, ltT h2, ltT h3, Int.toNat_natCast, hx, hy]
    refine ⟨fun e => fbp_false fun hh => ?_, fun e => ⟨by rw [w64s (by omega)], take_eq_succ h2 h3 hg e, h2⟩⟩
    subst hh; exact e rfl
  have h3 : ¬ i < b.length := by omega
  simp only [go_sem, simprocAttr, ltF h2, ltF h3]
  exact fbp_true (take_all_eq (by omega) (by omega) hg)
theorem Types_call {a b : List TyL} {u v : Bool} (hl : a.length < 2 ^ 60) : FCall Tryz.prog n_same_Types [.sl u (tysV a), .sl v (tysV b)] (· = .bool (bp (a = b))) := by
  refine FCall.walk u_same_Types k_same_Types rfl ?_
  unfold c_same_Types
  simp only [go_sem, simprocAttr]
  refine ⟨fun h => fbp_false fun e => h (by rw [e]), fun h => ?_⟩
  refine FWT.count [] a.length (fun i => [(5, .int .i64 i)]) (fun i => a.take i = b.take i) rfl (by simp) ?_
  intro i hi hg
  by_cases h2 : i < a.length
  · have h3 : i < b.length := by omega
    have hx := tysV_get h2
    have hy := tysV_get h3
    simp only [go_sem, simprocAttr, ltT h2, ltT h3, Int.toNat_natCast, hx, hy]
    simp only [TyL.eqB]
    exact cmp_round h2 h3 hg (by rw [w64s (by omega)])
  have h3 : ¬ i < b.length := by omega
  simp only [go_sem, simprocAttr, ltF h2, ltF h3]
  exact fbp_true (take_all_eq (by omega) (by omega) hg)
theorem Nodes_call {a b : List NodeL} {u v : Bool} (hl : a.length < 2 ^ 60) : FCall Tryz.prog n_same_Nodes [.sl u (nodesV a), .sl v (nodesV b)] (· = .bool (bp (a = b))) := by
  refine FCall.walk u_same_Nodes k_same_Nodes rfl ?_
  unfold c_same_Nodes
  simp only [go_sem, simprocAttr]
  refine ⟨fun h => fbp_false fun e => h (by rw [e]), fun h => ?_⟩
  refine FWT.count [] a.length (fun i => [(5, .int .i64 i)]) (fun i => a.take i = b.take i) rfl (by simp) ?_
  intro i hi hg
  by_cases h2 : i < a.length
  · have h3 : i < b.length := by omega
    have hx := nodesV_get h2
    have hy := nodesV_get h3
    simp only [go_sem, simprocAttr, ltT h2, ltT h3, Int.toNat_natCast, hx, hy, NodeL.row]
    simp only [NodeL.eqB]
    exact cmp_round h2 h3 hg (by rw [w64s (by omega)])
  have h3 : ¬ i < b.length := by omega
  simp only [go_sem, simprocAttr, ltF h2, ltF h3]
  exact fbp_true (take_all_eq (by omega) (by omega) hg)
theorem Rows_call {a b : List RowL} {u v : Bool} (hl : a.length < 2 ^ 60) : FCall Tryz.prog n_same_Rows [.sl u (rowsV a), .sl v (rowsV b)] (· = .bool (bp (a = b))) := by
  refine FCall.walk u_same_Rows k_same_Rows rfl ?_
  unfold c_same_Rows
  simp only [go_sem, simprocAttr]
  refine ⟨fun h => fbp_false fun e => h (by rw [e]), fun h => ?_⟩
  refine FWT.count [] a.length (fun i => [(5, .int .i64 i)]) (fun i => a.take i = b.take i) rfl (by simp) ?_
  intro i hi hg
  by_cases h2 : i < a.length
  · have h3 : i < b.length := by omega
    have hx := rowsV_get h2
    have hy := rowsV_get h3
    simp only [go_sem, simprocAttr, ltT h2, ltT h3, Int.toNat_natCast, hx, hy, RowL.row]
    simp only [RowL.eqB]
    exact cmp_round h2 h3 hg (by rw [w64s (by omega)])
  have h3 : ¬ i < b.length := by omega
  simp only [go_sem, simprocAttr, ltF h2, ltF h3]
  exact fbp_true (take_all_eq (by omega) (by omega) hg)
theorem Fields_call {a b : List FieldL} {u v : Bool} (hl : a.length < 2 ^ 60) : FCall Tryz.prog n_same_Fields [.sl u (fieldsV a), .sl v (fieldsV b)] (· = .bool (bp (a = b))) := by
  refine FCall.walk u_same_Fields k_same_Fields rfl ?_
  unfold c_same_Fields
  simp only [go_sem, simprocAttr]
  refine ⟨fun h => fbp_false fun e => h (by rw [e]), fun h => ?_⟩
  refine FWT.count [] a.length (fun i => [(5, .int .i64 i)]) (fun i => a.take i = b.take i) rfl (by simp) ?_
  intro i hi hg
  by_cases h2 : i < a.length
  · have h3 : i < b.length := by omega
    have hx := fieldsV_get h2
    have hy := fieldsV_get h3
    simp only [go_sem, simprocAttr, ltT h2, ltT h3, Int.toNat_natCast, hx, hy, FieldL.row]
    simp only [FieldL.eqB]
    exact cmp_round h2 h3 hg (by rw [w64s (by omega)])
  have h3 : ¬ i < b.length := by omega
  simp only [go_sem, simprocAttr, ltF h2, ltF h3]
  exact fbp_true (take_all_eq (by omega) (by omega) hg)
end Go.Fx.Tryz
set_option linter.unusedVariables false
set_option linter.unusedSimpArgs false
namespace Go.Fx.Tryz
open Go Go.Fm Go.Proofs
theorem Enum_call {x y : EnumL} (hm : x.members.length < 2 ^ 60) : FCall Tryz.prog n_same_Enum [.agg x.row, .agg y.row] (· = .bool (bp (x.core = y.core))) := by
  refine FCall.walk u_same_Enum k_same_Enum rfl ?_
  unfold c_same_Enum
  simp only [go_sem, simprocAttr, EnumL.row]
  refine ⟨fun e => ?_, fun e => fbp_false fun h => e (congrArg Prod.fst h)⟩
  refine FCallT.of (Strings_call (a := x.members) (b := y.members) hm) ?_
  rintro _ rfl
  simp only [go_sem, simprocAttr]
  exact congrArg FV.bool (bp_congr (by simp [EnumL.core, e]))
theorem Table_call {x y : TableL} (hm : x.rows.length < 2 ^ 60) : FCall Tryz.prog n_same_Table [.agg x.row, .agg y.row] (· = .bool (bp (x.core = y.core))) := by
  refine FCall.walk u_same_Table k_same_Table rfl ?_
  unfold c_same_Table
  simp only [go_sem, simprocAttr, TableL.row]
  refine ⟨fun e => ?_, fun e => fbp_false fun h => e (congrArg Prod.fst h)⟩
  refine ⟨fun e2 => ?_, fun e2 => fbp_false fun h => by simp only [TableL.core, Prod.mk.injEq, TyL.mk.injEq] at h; simp [h] at e2⟩
  refine ⟨fun e3 => ?_, fun e3 => fbp_false fun h => by simp only [TableL.core, Prod.mk.injEq, TyL.mk.injEq] at h; simp [h] at e3⟩
  refine FCallT.of (Rows_call (a := x.rows) (b := y.rows) hm) ?_
  rintro _ rfl
  simp only [go_sem, simprocAttr]
  simp only [Bool.and_eq_true, decide_eq_true_eq] at e2 e3
  exact congrArg FV.bool (bp_congr (by simp [TableL.core, e, e2, e3]))
theorem Rule_call {x y : RuleL} (hm : x.guard.length < 2 ^ 60) (hv : x.value.length < 2 ^ 60) : FCall Tryz.prog n_same_Rule [.agg x.row, .agg y.row] (· = .bool (bp (x.core = y.core))) := by
  refine FCall.walk u_same_Rule k_same_Rule rfl ?_
  unfold c_same_Rule
  simp only [go_sem, simprocAttr, RuleL.row]
  refine ⟨fun e1 => ?_, fun e => fbp_false fun h => by simp only [RuleL.core, Prod.mk.injEq] at h; simp [h] at e⟩
  refine ⟨fun e2 => ?_, fun e => fbp_false fun h => by simp only [RuleL.core, Prod.mk.injEq] at h; simp [h] at e⟩
  refine ⟨fun e3 => ?_, fun e => fbp_false fun h => by simp only [RuleL.core, Prod.mk.injEq] at h; simp [h] at e⟩
  refine ⟨fun e4 => ?_, fun e => fbp_false fun h => by simp only [RuleL.core, Prod.mk.injEq] at h; simp [h] at e⟩
  refine ⟨fun e5 => ?_, fun e => fbp_false fun h => by simp only [RuleL.core, Prod.mk.injEq] at h; simp [h] at e⟩
  refine ⟨fun e6 => ?_, fun e => fbp_false fun h => by simp only [RuleL.core, Prod.mk.injEq] at h; simp [h] at e⟩
  refine FCallT.of (Nodes_call (a := x.guard) (b := y.guard) hm) ?_
  rintro _ rfl
  simp only [go_sem, simprocAttr]
  refine ⟨fun e7 => ?_, fun e => fbp_false fun h => by simp only [RuleL.core, Prod.mk.injEq] at h; rw [bp_true h.2.2.2.2.2.2.1] at e; cases e⟩
  refine FCallT.of (Nodes_call (a := x.value) (b := y.value) hv) ?_
  rintro _ rfl
  simp only [go_sem, simprocAttr]
  simp only [Bool.and_eq_true, decide_eq_true_eq] at e5
  exact congrArg FV.bool (bp_congr (by simp [RuleL.core, e1, e2, e3, e4, e5, e6, bp_iff.1 e7]))
theorem Enums_call {a b : List EnumL} {u v : Bool} (hl : a.length < 2 ^ 60) (hm : ∀ x ∈ a, x.members.length < 2 ^ 60) : FCall Tryz.prog n_same_Enums [.sl u (enumsV a), .sl v (enumsV b)] (· = .bool (bp (a.map EnumL.core = b.map EnumL.core))) := by
  refine FCall.walk u_same_Enums k_same_Enums rfl ?_
  unfold c_same_Enums
  simp only [go_sem, simprocAttr]
  refine ⟨fun h => fbp_false fun e => h (by have := congrArg List.length e; rw [List.length_map, List.length_map] at this; rw [this]), fun h => ?_⟩
  refine FWT.count [] a.length (fun i => [(5, .int .i64 i)]) (fun i => (a.take i).map EnumL.core = (b.take i).map EnumL.core) rfl (by simp) ?_
  intro i hi hg
  by_cases h2 : i < a.length
  · have h3 : i < b.length := by omega
    have hx := Go.Fm.enumsV_get h2
    have hy := Go.Fm.enumsV_get h3
    simp only [go_sem, simprocAttr, ltT h2, ltT h3, Int.toNat_natCast, hx, hy, EnumL.row]
    refine detCall_of _ (Enum_call (x := a[i]) (y := b[i]) (hm _ (List.getElem_mem h2))) ?_
    simp only [go_sem, simprocAttr]
    exact cmp_roundM h2 h3 hg (by rw [w64s (by omega)])
  have h3 : ¬ i < b.length := by omega
  simp only [go_sem, simprocAttr, ltF h2, ltF h3]
  rw [List.take_of_length_le (by omega), List.take_of_length_le (by omega)] at hg
  exact fbp_true hg
theorem Tables_call {a b : List TableL} {u v : Bool} (hl : a.length < 2 ^ 60) (hm : ∀ x ∈ a, x.rows.length < 2 ^ 60) : FCall Tryz.prog n_same_Tables [.sl u (tablesV a), .sl v (tablesV b)] (· = .bool (bp (a.map TableL.core = b.map TableL.core))) := by
  refine FCall.walk u_same_Tables k_same_Tables rfl ?_
  unfold c_same_Tables
  simp only [go_sem, simprocAttr]
  refine ⟨fun h => fbp_false fun e => h (by have := congrArg List.length e; rw [List.length_map, List.length_map] at this; rw [this]), fun h => ?_⟩
  refine FWT.count [] a.length (fun i => [(5, .int .i64 i)]) (fun i => (a.take i).map TableL.core = (b.take i).map TableL.core) rfl (by simp) ?_
  intro i hi hg
  by_cases h2 : i < a.length
  · have h3 : i < b.length := by omega
    have hx := tablesV_get h2
    have hy := tablesV_get h3
    simp only [go_sem, simprocAttr, ltT h2, ltT h3, Int.toNat_natCast, hx, hy, TableL.row]
    refine detCall_of _ (Table_call (x := a[i]) (y := b[i]) (hm _ (List.getElem_mem h2))) ?_
    simp only [go_sem, simprocAttr]
    exact cmp_roundM h2 h3 hg (by rw [w64s (by omega)])
  have h3 : ¬ i < b.length := by omega
  simp only [go_sem, simprocAttr, ltF h2, ltF h3]
  rw [List.take_of_length_le (by omega), List.take_of_length_le (by omega)] at hg
  exact fbp_true hg
theorem Rules_call {a b : List RuleL} {u v : Bool} (hl : a.length < 2 ^ 60) (hm : ∀ x ∈ a, x.guard.length < 2 ^ 60 ∧ x.value.length < 2 ^ 60) : FCall Tryz.prog n_same_Rules [.sl u (rulesV a), .sl v (rulesV b)] (· = .bool (bp (a.map RuleL.core = b.map RuleL.core))) := by
  refine FCall.walk u_same_Rules k_same_Rules rfl ?_
  unfold c_same_Rules
  simp only [go_sem, simprocAttr]
  refine ⟨fun h => fbp_false fun e => h (by have := congrArg List.length e; rw [List.length_map, List.length_map] at this; rw [this]), fun h => ?_⟩
  refine FWT.count [] a.length (fun i => [(5, .int .i64 i)]) (fun i => (a.take i).map RuleL.core = (b.take i).map RuleL.core) rfl (by simp) ?_
  intro i hi hg
  by_cases h2 : i < a.length
  · have h3 : i < b.length := by omega
    have hx := rulesV_get h2
    have hy := rulesV_get h3
    simp only [go_sem, simprocAttr, ltT h2, ltT h3, Int.toNat_natCast, hx, hy, RuleL.row]
    refine detCall_of _ (Rule_call (x := a[i]) (y := b[i]) (hm _ (List.getElem_mem h2)).1 (hm _ (List.getElem_mem h2)).2) ?_
    simp only [go_sem, simprocAttr]
    exact cmp_roundM h2 h3 hg (by rw [w64s (by omega)])
  have h3 : ¬ i < b.length := by omega
  simp only [go_sem, simprocAttr, ltF h2, ltF h3]
  rw [List.take_of_length_le (by omega), List.take_of_length_le (by omega)] at hg
  exact fbp_true hg
def ScopeL.fit (x : ScopeL) : Prop := x.inputs.length < 2 ^ 60 ∧ x.defs.length < 2 ^ 60 ∧ x.rules.length < 2 ^ 60 ∧ ∀ r ∈ x.rules, r.guard.length < 2 ^ 60 ∧ r.value.length < 2 ^ 60
def LawL.fit (l : LawL) : Prop := l.enums.length < 2 ^ 60 ∧ (∀ x ∈ l.enums, x.members.length < 2 ^ 60) ∧ l.tables.length < 2 ^ 60 ∧ (∀ x ∈ l.tables, x.rows.length < 2 ^ 60) ∧ l.scopes.length < 2 ^ 60 ∧ ∀ x ∈ l.scopes, ScopeL.fit x
theorem Scope_call {x y : ScopeL} (hm : ScopeL.fit x) : FCall Tryz.prog n_same_Scope [.agg x.row, .agg y.row] (· = .bool (bp (x.core = y.core))) := by
  refine FCall.walk u_same_Scope k_same_Scope rfl ?_
  unfold c_same_Scope
  simp only [go_sem, simprocAttr, ScopeL.row]
  refine ⟨fun e1 => ?_, fun e => fbp_false fun h => by simp only [ScopeL.core, Prod.mk.injEq] at h; simp [h] at e⟩
  refine ⟨fun e2 => ?_, fun e => fbp_false fun h => by simp only [ScopeL.core, Prod.mk.injEq] at h; simp [h] at e⟩
  refine FCallT.of (Fields_call (a := x.inputs) (b := y.inputs) hm.1) ?_
  rintro _ rfl
  simp only [go_sem, simprocAttr]
  refine ⟨fun e3 => ?_, fun e => fbp_false fun h => by simp only [ScopeL.core, Prod.mk.injEq] at h; rw [bp_true h.2.2.1] at e; cases e⟩
  refine FCallT.of (Fields_call (a := x.defs) (b := y.defs) hm.2.1) ?_
  rintro _ rfl
  simp only [go_sem, simprocAttr]
  refine ⟨fun e4 => ?_, fun e => fbp_false fun h => by simp only [ScopeL.core, Prod.mk.injEq] at h; rw [bp_true h.2.2.2.1] at e; cases e⟩
  refine FCallT.of (Rules_call (a := x.rules) (b := y.rules) hm.2.2.1 hm.2.2.2) ?_
  rintro _ rfl
  simp only [go_sem, simprocAttr]
  exact congrArg FV.bool (bp_congr (by simp [ScopeL.core, e1, e2, bp_iff.1 e3, bp_iff.1 e4]))
theorem Scopes_call {a b : List ScopeL} {u v : Bool} (hl : a.length < 2 ^ 60) (hm : ∀ x ∈ a, ScopeL.fit x) : FCall Tryz.prog n_same_Scopes [.sl u (scopesV a), .sl v (scopesV b)] (· = .bool (bp (a.map ScopeL.core = b.map ScopeL.core))) := by
  refine FCall.walk u_same_Scopes k_same_Scopes rfl ?_
  unfold c_same_Scopes
  simp only [go_sem, simprocAttr]
  refine ⟨fun h => fbp_false fun e => h (by have := congrArg List.length e; rw [List.length_map, List.length_map] at this; rw [this]), fun h => ?_⟩
  refine FWT.count [] a.length (fun i => [(5, .int .i64 i)]) (fun i => (a.take i).map ScopeL.core = (b.take i).map ScopeL.core) rfl (by simp) ?_
  intro i hi hg
  by_cases h2 : i < a.length
  · have h3 : i < b.length := by omega
    have hx := scopesV_get h2
    have hy := scopesV_get h3
    simp only [go_sem, simprocAttr, ltT h2, ltT h3, Int.toNat_natCast, hx, hy, ScopeL.row]
    refine detCall_of _ (Scope_call (x := a[i]) (y := b[i]) (hm _ (List.getElem_mem h2))) ?_
    simp only [go_sem, simprocAttr]
    exact cmp_roundM h2 h3 hg (by rw [w64s (by omega)])
  have h3 : ¬ i < b.length := by omega
  simp only [go_sem, simprocAttr, ltF h2, ltF h3]
  rw [List.take_of_length_le (by omega), List.take_of_length_le (by omega)] at hg
  exact fbp_true hg
theorem Law_call {x y : LawL} (hm : LawL.fit x) : FCall Tryz.prog n_same_Law [.agg x.row, .agg y.row] (· = .bool (bp (x.core = y.core))) := by
  refine FCall.walk u_same_Law k_same_Law rfl ?_
  unfold c_same_Law
  simp only [go_sem, simprocAttr, LawL.row]
  refine FCallT.of (Enums_call (a := x.enums) (b := y.enums) hm.1 hm.2.1) ?_
  rintro _ rfl
  simp only [go_sem, simprocAttr]
  refine ⟨fun e3 => ?_, fun e => fbp_false fun h => by simp only [LawL.core, Prod.mk.injEq] at h; rw [bp_true h.1] at e; cases e⟩
  refine FCallT.of (Tables_call (a := x.tables) (b := y.tables) hm.2.2.1 hm.2.2.2.1) ?_
  rintro _ rfl
  simp only [go_sem, simprocAttr]
  refine ⟨fun e4 => ?_, fun e => fbp_false fun h => by simp only [LawL.core, Prod.mk.injEq] at h; rw [bp_true h.2.1] at e; cases e⟩
  refine FCallT.of (Scopes_call (a := x.scopes) (b := y.scopes) hm.2.2.2.2.1 hm.2.2.2.2.2) ?_
  rintro _ rfl
  simp only [go_sem, simprocAttr]
  exact congrArg FV.bool (bp_congr (by simp [LawL.core, bp_iff.1 e3, bp_iff.1 e4]))
end Go.Fx.Tryz
/- Signatures of scopes. -/
set_option linter.unusedVariables false
set_option linter.unusedSimpArgs false
namespace Go.Fm
open Go
/-- the scope by which the members are evaluated -/
def memOf (l : LawL) (x : ScopeL) : ScopeL := if x.ms < 0 then zeroScope else (l.scopes[x.ms.toNat]?).getD zeroScope
def hasMem (l : LawL) (x : ScopeL) : Bool := decide (0 ≤ x.ms ∧ x.ms < l.scopes.length)
/-- what the expressions of a scope may refer to -/
def sigL (l : LawL) (i : Int) : SigL :=
  if i < 0 then ⟨false, [], false, [], false, [], false, [], false, [], false⟩ else match l.scopes[i.toNat]? with
  | none => ⟨false, [], false, [], false, [], false, [], false, [], false⟩
  | some x => ⟨false, l.enums.map EnumL.bare, false, l.tables.map TableL.bare, false, x.inputs.map FieldL.ty, false, x.defs.map FieldL.ty, false, if hasMem l x then (memOf l x).defs.map FieldL.ty else [], hasMem l x⟩
/-- the same as the function hands it over -/
def sigO (l : LawL) (i : Int) : FV :=
  if i < 0 then .agg [.sl true [], .sl true [], .sl true [], .sl true [], .sl true [], .bool false] else match l.scopes[i.toNat]? with
  | none => .agg [.sl true [], .sl true [], .sl true [], .sl true [], .sl true [], .bool false]
  | some x => .agg [.arr (enumsO l.enums), .arr (tablesO l.tables), .arr (tysV (x.inputs.map FieldL.ty)), .arr (tysV (x.defs.map FieldL.ty)), if hasMem l x then .arr (tysV ((memOf l x).defs.map FieldL.ty)) else .sl true [], .bool (hasMem l x)]
/-- a law whose slices are of no great length -/
def LawL.mid (l : LawL) : Prop := l.enums.length < 2 ^ 40 ∧ (∀ x ∈ l.enums, x.members.length < 2 ^ 40) ∧ l.tables.length < 2 ^ 40 ∧ (∀ x ∈ l.tables, x.rows.length < 2 ^ 40) ∧ l.scopes.length < 2 ^ 40 ∧ ∀ x ∈ l.scopes, x.inputs.length < 2 ^ 40 ∧ x.defs.length < 2 ^ 40
theorem memOf_mid {l : LawL} (h : l.mid) (x : ScopeL) : (memOf l x).defs.length < 2 ^ 40 := by
  unfold memOf
  split
  · decide
  · cases hx : l.scopes[x.ms.toNat]? with
    | none => decide
    | some y => exact (h.2.2.2.2.2 y (List.mem_of_getElem? hx)).2
/-- the reference's signature, as its function hands it over -/
def sigR (l : LawL) (i : Int) : FV :=
  if i < 0 then .agg [.sl true [], .sl true [], .sl true [], .sl true [], .sl true [], .bool false] else match l.scopes[i.toNat]? with
  | none => .agg [.sl true [], .sl true [], .sl true [], .sl true [], .sl true [], .bool false]
  | some x => .agg [.sl l.efull (enumsV l.enums), .sl l.tfull (tablesV l.tables), .arr (tysV (x.inputs.map FieldL.ty)), .arr (tysV (x.defs.map FieldL.ty)), if hasMem l x then .arr (tysV ((memOf l x).defs.map FieldL.ty)) else .sl true [], .bool (hasMem l x)]
theorem sig_cases (l : LawL) (i : Int) :
    (sigO l i = .agg [.sl true [], .sl true [], .sl true [], .sl true [], .sl true [], .bool false] ∧ sigR l i = .agg [.sl true [], .sl true [], .sl true [], .sl true [], .sl true [], .bool false]) ∨
    (∃ x ∈ l.scopes, sigO l i = .agg [.arr (enumsO l.enums), .arr (tablesO l.tables), .arr (tysV (x.inputs.map FieldL.ty)), .arr (tysV (x.defs.map FieldL.ty)), .sl true [], .bool false] ∧
      sigR l i = .agg [.sl l.efull (enumsV l.enums), .sl l.tfull (tablesV l.tables), .arr (tysV (x.inputs.map FieldL.ty)), .arr (tysV (x.defs.map FieldL.ty)), .sl true [], .bool false]) ∨
    (∃ x ∈ l.scopes, sigO l i = .agg [.arr (enumsO l.enums), .arr (tablesO l.tables), .arr (tysV (x.inputs.map FieldL.ty)), .arr (tysV (x.defs.map FieldL.ty)), .arr (tysV ((memOf l x).defs.map FieldL.ty)), .bool true] ∧
      sigR l i = .agg [.sl l.efull (enumsV l.enums), .sl l.tfull (tablesV l.tables), .arr (tysV (x.inputs.map FieldL.ty)), .arr (tysV (x.defs.map FieldL.ty)), .arr (tysV ((memOf l x).defs.map FieldL.ty)), .bool true]) := by
  unfold sigO sigR
  by_cases h : i < 0
  · left; simp [h]
  · simp only [h, if_false]
    cases hx : l.scopes[i.toNat]? with
    | none => left; simp
    | some x =>
      right
      have hm := List.mem_of_getElem? hx
      cases hh : hasMem l x with
      | false => left; exact ⟨x, hm, by simp [hh]⟩
      | true => right; exact ⟨x, hm, by simp [hh]⟩
/-- the names used in the expressions of a scope -/
structure NamesL where
  efull : Bool
  enums : List EnumL
  tfull : Bool
  tables : List (List UInt8)
  ifull : Bool
  inputs : List (List UInt8)
  dfull : Bool
  defs : List (List UInt8)
  mfull : Bool
  mems : List (List UInt8)
def NamesL.row (s : NamesL) : List FV := [.sl s.efull (enumsV s.enums), .sl s.tfull (strs s.tables), .sl s.ifull (strs s.inputs), .sl s.dfull (strs s.defs), .sl s.mfull (strs s.mems)]
def NamesL.core (s : NamesL) := (s.enums.map EnumL.core, s.tables, s.inputs, s.defs, s.mems)
def SigL.core (s : SigL) := (s.enums.map EnumL.core, s.tables.map TableL.core, s.inputs, s.defs, s.mems, s.has)
theorem core_bare (l : List EnumL) : (l.map EnumL.bare).map EnumL.core = l.map EnumL.core := by rw [List.map_map]; rfl
theorem core_bareT (l : List TableL) : (l.map TableL.bare).map TableL.core = l.map TableL.core := by rw [List.map_map]; rfl
def namesTail (l : LawL) (x : ScopeL) : FV := if hasMem l x then .arr (strs ((memOf l x).defs.map FieldL.name)) else .sl true []
def tabNames (ts : List TableL) : FV := match ts with
  | [] => .sl true []
  | _ => .arr (strs (ts.map TableL.name))
theorem tabNames_cases (ts : List TableL) : (tabNames ts = .sl true [] ∧ ts = []) ∨ tabNames ts = .arr (strs (ts.map TableL.name)) := by
  cases ts with
  | nil => exact .inl ⟨rfl, rfl⟩
  | cons t ts => exact .inr rfl
theorem tabNames_snoc (ts : List TableL) (x : TableL) : tabNames (ts ++ [x]) = .arr (strs (ts.map TableL.name) ++ [[.str x.name]]) := by
  have h : ts ++ [x] ≠ [] := by simp
  rcases tabNames_cases (ts ++ [x]) with ⟨_, e⟩ | e
  · exact absurd e h
  · rw [e, List.map_append, strs_snoc]; rfl
/-- the names, as the functions hand them over (own: the enumerations are a copy) -/
def namesO (own : Bool) (l : LawL) (i : Int) : FV :=
  if i < 0 then .agg [.sl true [], .sl true [], .sl true [], .sl true [], .sl true []] else match l.scopes[i.toNat]? with
  | none => .agg [.sl true [], .sl true [], .sl true [], .sl true [], .sl true []]
  | some x => .agg [if own then .arr (enumsO l.enums) else .sl l.efull (enumsV l.enums), tabNames l.tables, .arr (strs (x.inputs.map FieldL.name)), .arr (strs (x.defs.map FieldL.name)), namesTail l x]
/-- what both signatures hold -/
def sigC (l : LawL) (i : Int) : List (List UInt8 × List (List UInt8)) × List (List UInt8 × TyL × TyL × List RowL) × List TyL × List TyL × List TyL × Bool :=
  if i < 0 then ([], [], [], [], [], false) else match l.scopes[i.toNat]? with
  | none => ([], [], [], [], [], false)
  | some x => (l.enums.map EnumL.core, l.tables.map TableL.core, x.inputs.map FieldL.ty, x.defs.map FieldL.ty, if hasMem l x then (memOf l x).defs.map FieldL.ty else [], hasMem l x)
def SigL.fit (x : SigL) : Prop := x.enums.length < 2 ^ 60 ∧ (∀ e ∈ x.enums, e.members.length < 2 ^ 60) ∧ x.tables.length < 2 ^ 60 ∧ (∀ e ∈ x.tables, e.rows.length < 2 ^ 60) ∧ x.inputs.length < 2 ^ 60 ∧ x.defs.length < 2 ^ 60 ∧ x.mems.length < 2 ^ 60
theorem zero_fit : (⟨true, [], true, [], true, [], true, [], true, [], false⟩ : SigL).fit := by
  refine ⟨by decide, by simp, by decide, by simp, by decide, by decide, by decide⟩
theorem sigO_form {l : LawL} (hl : l.mid) (i : Int) : ∃ cs y, sigO l i = .agg cs ∧ sealedL cs = SigL.row y ∧ y.core = sigC l i ∧ y.fit := by
  unfold sigO sigC
  by_cases h : i < 0
  · simp only [h, if_true]
    exact ⟨_, ⟨true, [], true, [], true, [], true, [], true, [], false⟩, rfl, rfl, rfl, zero_fit⟩
  · simp only [h, if_false]
    cases hx : l.scopes[i.toNat]? with
    | none => exact ⟨_, ⟨true, [], true, [], true, [], true, [], true, [], false⟩, rfl, rfl, rfl, zero_fit⟩
    | some x =>
      obtain ⟨h1, h2, h3, h4, h5, h6⟩ := hl
      obtain ⟨k1, k2⟩ := h6 x (List.mem_of_getElem? hx)
      have k3 := memOf_mid (l := l) ⟨h1, h2, h3, h4, h5, h6⟩ x
      have m1 : ∀ e ∈ l.enums.map EnumL.bare, e.members.length < 2 ^ 60 := by
        intro e he; obtain ⟨z, hz, rfl⟩ := List.mem_map.1 he; have := h2 z hz; show z.members.length < _; omega
      have m2 : ∀ e ∈ l.tables.map TableL.bare, e.rows.length < 2 ^ 60 := by
        intro e he; obtain ⟨z, hz, rfl⟩ := List.mem_map.1 he; have := h4 z hz; show z.rows.length < _; omega
      cases hh : hasMem l x with
      | false =>
        refine ⟨_, ⟨false, l.enums.map EnumL.bare, false, l.tables.map TableL.bare, false, x.inputs.map FieldL.ty, false, x.defs.map FieldL.ty, true, [], false⟩, rfl, ?_, ?_, ?_⟩
        · simp only [hh, Bool.false_eq_true, if_false, sealedL, FV.sealed, sealed_enumsO, sealed_tablesO, sealed_tysV, SigL.row]; rfl
        · simp only [SigL.core, core_bare, core_bareT, hh, Bool.false_eq_true, if_false]
        · exact ⟨by simp; omega, m1, by simp; omega, m2, by simp; omega, by simp; omega, by simp⟩
      | true =>
        refine ⟨_, ⟨false, l.enums.map EnumL.bare, false, l.tables.map TableL.bare, false, x.inputs.map FieldL.ty, false, x.defs.map FieldL.ty, false, (memOf l x).defs.map FieldL.ty, true⟩, rfl, ?_, ?_, ?_⟩
        · simp only [hh, if_true, sealedL, FV.sealed, sealed_enumsO, sealed_tablesO, sealed_tysV, SigL.row]
        · simp only [SigL.core, core_bare, core_bareT, hh, if_true]
        · exact ⟨by simp; omega, m1, by simp; omega, m2, by simp; omega, by simp; omega, by simp; omega⟩
theorem sealed_enumsV (l : List EnumL) : sealedLL (enumsV l) = enumsV l := sealedLL_map (fun _ => rfl) l
theorem sigR_form (l : LawL) (i : Int) : ∃ cs y, sigR l i = .agg cs ∧ sealedL cs = SigL.row y ∧ y.core = sigC l i := by
  unfold sigR sigC
  by_cases h : i < 0
  · simp only [h, if_true]
    exact ⟨_, ⟨true, [], true, [], true, [], true, [], true, [], false⟩, rfl, rfl, rfl⟩
  · simp only [h, if_false]
    cases hx : l.scopes[i.toNat]? with
    | none => exact ⟨_, ⟨true, [], true, [], true, [], true, [], true, [], false⟩, rfl, rfl, rfl⟩
    | some x =>
      cases hh : hasMem l x with
      | false =>
        refine ⟨_, ⟨l.efull, l.enums, l.tfull, l.tables, false, x.inputs.map FieldL.ty, false, x.defs.map FieldL.ty, true, [], false⟩, rfl, ?_, ?_⟩
        · simp only [hh, Bool.false_eq_true, if_false, sealedL, FV.sealed, sealed_tysV, SigL.row]; rfl
        · simp only [SigL.core, hh, Bool.false_eq_true, if_false]
      | true =>
        refine ⟨_, ⟨l.efull, l.enums, l.tfull, l.tables, false, x.inputs.map FieldL.ty, false, x.defs.map FieldL.ty, false, (memOf l x).defs.map FieldL.ty, true⟩, rfl, ?_, ?_⟩
        · simp only [hh, if_true, sealedL, FV.sealed, sealed_tysV, SigL.row]
        · simp only [SigL.core, hh, if_true]
def NamesL.fit (x : NamesL) : Prop := x.enums.length < 2 ^ 60 ∧ (∀ e ∈ x.enums, e.members.length < 2 ^ 60) ∧ x.tables.length < 2 ^ 60 ∧ x.inputs.length < 2 ^ 60 ∧ x.defs.length < 2 ^ 60 ∧ x.mems.length < 2 ^ 60
theorem zeroN_fit : (⟨true, [], true, [], true, [], true, [], true, []⟩ : NamesL).fit := ⟨by decide, by simp, by decide, by decide, by decide, by decide⟩
def namesC (l : LawL) (i : Int) : List (List UInt8 × List (List UInt8)) × List (List UInt8) × List (List UInt8) × List (List UInt8) × List (List UInt8) :=
  if i < 0 then ([], [], [], [], []) else match l.scopes[i.toNat]? with
  | none => ([], [], [], [], [])
  | some x => (l.enums.map EnumL.core, l.tables.map TableL.name, x.inputs.map FieldL.name, x.defs.map FieldL.name, if hasMem l x then (memOf l x).defs.map FieldL.name else [])
theorem namesO_form {l : LawL} (hl : l.mid) (own : Bool) (i : Int) : ∃ cs y, namesO own l i = .agg cs ∧ sealedL cs = NamesL.row y ∧ y.core = namesC l i ∧ y.fit := by
  unfold namesO namesC
  by_cases h : i < 0
  · simp only [h, if_true]
    exact ⟨_, ⟨true, [], true, [], true, [], true, [], true, []⟩, rfl, rfl, rfl, zeroN_fit⟩
  · simp only [h, if_false]
    cases hx : l.scopes[i.toNat]? with
    | none => exact ⟨_, ⟨true, [], true, [], true, [], true, [], true, []⟩, rfl, rfl, rfl, zeroN_fit⟩
    | some x =>
      obtain ⟨h1, h2, h3, h4, h5, h6⟩ := hl
      obtain ⟨k1, k2⟩ := h6 x (List.mem_of_getElem? hx)
      have k3 := memOf_mid (l := l) ⟨h1, h2, h3, h4, h5, h6⟩ x
      have m1 : ∀ e ∈ l.enums.map EnumL.bare, e.members.length < 2 ^ 60 := by
        intro e he; obtain ⟨z, hz, rfl⟩ := List.mem_map.1 he; have := h2 z hz; show z.members.length < _; omega
      have m3 : ∀ e ∈ l.enums, e.members.length < 2 ^ 60 := fun e he => by have := h2 e he; omega
      have ⟨bt, ht⟩ : ∃ b, (tabNames l.tables).sealed = .sl b (strs (l.tables.map TableL.name)) := by
        rcases tabNames_cases l.tables with ⟨e, e2⟩ | e
        · exact ⟨true, by rw [e, e2]; rfl⟩
        · exact ⟨false, by rw [e, FV.sealed, strs_sealed]⟩
      have ⟨bm, hm⟩ : ∃ b, (namesTail l x).sealed = .sl b (strs (if hasMem l x then (memOf l x).defs.map FieldL.name else [])) := by
        unfold namesTail
        cases hasMem l x with
        | true => exact ⟨false, by simp [FV.sealed, strs_sealed]⟩
        | false => exact ⟨true, by simp [FV.sealed, strs]⟩
      have k4 : (if hasMem l x then (memOf l x).defs.map FieldL.name else []).length < 2 ^ 60 := by split <;> simp; omega
      cases own with
      | true =>
        refine ⟨_, ⟨false, l.enums.map EnumL.bare, bt, l.tables.map TableL.name, false, x.inputs.map FieldL.name, false, x.defs.map FieldL.name, bm, if hasMem l x then (memOf l x).defs.map FieldL.name else []⟩, rfl, ?_, ?_, ?_⟩
        rotate_left
        · simp only [NamesL.core, core_bare]
        · exact ⟨by simp; omega, m1, by simp; omega, by simp; omega, by simp; omega, k4⟩
        · simp only [sealedL, ht, hm, NamesL.row, if_true, FV.sealed, sealed_enumsO, strs_sealed]
      | false =>
        refine ⟨_, ⟨l.efull, l.enums, bt, l.tables.map TableL.name, false, x.inputs.map FieldL.name, false, x.defs.map FieldL.name, bm, if hasMem l x then (memOf l x).defs.map FieldL.name else []⟩, rfl, ?_, ?_, ?_⟩
        rotate_left
        · simp only [NamesL.core]
        · exact ⟨by show l.enums.length < _; omega, m3, by simp; omega, by simp; omega, by simp; omega, k4⟩
        · simp only [sealedL, ht, hm, NamesL.row, Bool.false_eq_true, if_false, FV.sealed, strs_sealed]
end Go.Fm
set_option linter.unusedVariables false
set_option linter.unusedSimpArgs false
namespace Go.Fx.Tryz
open Go Go.Fm Go.Proofs
theorem cloneStr_call {u : Bool} {xs : List (List UInt8)} (h : xs.length < 2 ^ 40) : FCall Tryz.prog n_slices_Clone_string_string [.sl u (strs xs)] (· = .arr (strs xs)) := by
  refine FCall.walk u_slices_Clone_string_string k_slices_Clone_string_string rfl ?_
  unfold c_slices_Clone_string_string
  simp only [go_sem, simprocAttr]
  refine nilKT_of fun b hb => ?_
  simp only [go_sem, simprocAttr]
  refine ⟨fun e => ?_, fun e => by omega⟩
  have : strs xs = [] := by subst e; simpa using hb
  rw [this]
theorem cloneRow_call {u : Bool} {xs : List RowL} (h : xs.length < 2 ^ 40) : FCall Tryz.prog n_slices_Clone_api_Row_api_Row [.sl u (rowsV xs)] (· = .arr (rowsV xs)) := by
  refine FCall.walk u_slices_Clone_api_Row_api_Row k_slices_Clone_api_Row_api_Row rfl ?_
  unfold c_slices_Clone_api_Row_api_Row
  simp only [go_sem, simprocAttr]
  refine nilKT_of fun b hb => ?_
  simp only [go_sem, simprocAttr]
  refine ⟨fun e => ?_, fun e => by omega⟩
  have : rowsV xs = [] := by subst e; simpa using hb
  rw [this]
theorem cloneField_call {u : Bool} {xs : List FieldL} (h : xs.length < 2 ^ 40) : FCall Tryz.prog n_slices_Clone_api_Field_api_Field [.sl u (fieldsV xs)] (· = .arr (fieldsV xs)) := by
  refine FCall.walk u_slices_Clone_api_Field_api_Field k_slices_Clone_api_Field_api_Field rfl ?_
  unfold c_slices_Clone_api_Field_api_Field
  simp only [go_sem, simprocAttr]
  refine nilKT_of fun b hb => ?_
  simp only [go_sem, simprocAttr]
  refine ⟨fun e => ?_, fun e => by omega⟩
  have : fieldsV xs = [] := by subst e; simpa using hb
  rw [this]
theorem cloneNode_call {u : Bool} {xs : List NodeL} (h : xs.length < 2 ^ 40) : FCall Tryz.prog n_slices_Clone_api_Node_api_Node [.sl u (nodesV xs)] (· = .arr (nodesV xs)) := by
  refine FCall.walk u_slices_Clone_api_Node_api_Node k_slices_Clone_api_Node_api_Node rfl ?_
  unfold c_slices_Clone_api_Node_api_Node
  simp only [go_sem, simprocAttr]
  refine nilKT_of fun b hb => ?_
  simp only [go_sem, simprocAttr]
  refine ⟨fun e => ?_, fun e => by omega⟩
  have : nodesV xs = [] := by subst e; simpa using hb
  rw [this]
theorem types_call {u : Bool} {l : List FieldL} (h : l.length < 2 ^ 40) : FCall Tryz.prog n_law_types [.sl u (fieldsV l)] (· = .arr (tysV (l.map FieldL.ty))) := by
  refine FCall.walk u_law_types k_law_types rfl ?_
  unfold c_law_types
  simp only [go_sem, simprocAttr]
  refine FWT.count [5] l.length (fun i => [(3, .arr (tysV ((l.take i).map FieldL.ty))), (8, .int .i64 i)]) (fun i => True) rfl trivial ?_
  intro i hi hg
  by_cases h2 : i < l.length
  · have hx := fieldsV_get h2
    simp only [go_sem, simprocAttr, ltT h2, Int.toNat_natCast, hx, FieldL.row]
    exact ⟨by simp; omega, by rw [map_take_succ h2, tysV_snoc, w64s (by omega)]; rfl, h2⟩
  simp only [go_sem, simprocAttr, ltF h2]
  rw [List.take_of_length_le (by omega)]
theorem names_call {u : Bool} {l : List FieldL} (h : l.length < 2 ^ 40) : FCall Tryz.prog n_law_names [.sl u (fieldsV l)] (· = .arr (strs (l.map FieldL.name))) := by
  refine FCall.walk u_law_names k_law_names rfl ?_
  unfold c_law_names
  simp only [go_sem, simprocAttr]
  refine FWT.count [5] l.length (fun i => [(3, .arr (strs ((l.take i).map FieldL.name))), (8, .int .i64 i)]) (fun i => True) rfl trivial ?_
  intro i hi hg
  by_cases h2 : i < l.length
  · have hx := fieldsV_get h2
    simp only [go_sem, simprocAttr, ltT h2, Int.toNat_natCast, hx, FieldL.row]
    exact ⟨by simp; omega, by rw [map_take_succ h2, ← strs_snoc, w64s (by omega)], h2⟩
  simp only [go_sem, simprocAttr, ltF h2]
  rw [List.take_of_length_le (by omega)]
theorem fieldTypes_call {u : Bool} {l : List FieldL} (h : l.length < 2 ^ 40) : FCall Tryz.prog n_ref17_fieldTypes [.sl u (fieldsV l)] (· = .arr (tysV (l.map FieldL.ty))) := by
  refine FCall.walk u_ref17_fieldTypes k_ref17_fieldTypes rfl ?_
  unfold c_ref17_fieldTypes
  simp only [go_sem, simprocAttr]
  refine FWT.count [] l.length (fun i => [(3, .arr (tysV ((l.take i).map FieldL.ty))), (4, .int .i64 i)]) (fun i => True) rfl trivial ?_
  intro i hi hg
  by_cases h2 : i < l.length
  · have hx := fieldsV_get h2
    simp only [go_sem, simprocAttr, ltT h2, Int.toNat_natCast, hx, FieldL.row]
    exact ⟨by simp; omega, by rw [map_take_succ h2, tysV_snoc, w64s (by omega)]; rfl, h2⟩
  simp only [go_sem, simprocAttr, ltF h2]
  rw [List.take_of_length_le (by omega)]
theorem fieldNames_call {u : Bool} {l : List FieldL} (h : l.length < 2 ^ 40) : FCall Tryz.prog n_ref17_fieldNames [.sl u (fieldsV l)] (· = .arr (strs (l.map FieldL.name))) := by
  refine FCall.walk u_ref17_fieldNames k_ref17_fieldNames rfl ?_
  unfold c_ref17_fieldNames
  simp only [go_sem, simprocAttr]
  refine FWT.count [] l.length (fun i => [(3, .arr (strs ((l.take i).map FieldL.name))), (4, .int .i64 i)]) (fun i => True) rfl trivial ?_
  intro i hi hg
  by_cases h2 : i < l.length
  · have hx := fieldsV_get h2
    simp only [go_sem, simprocAttr, ltT h2, Int.toNat_natCast, hx, FieldL.row]
    exact ⟨by simp; omega, by rw [map_take_succ h2, ← strs_snoc, w64s (by omega)], h2⟩
  simp only [go_sem, simprocAttr, ltF h2]
  rw [List.take_of_length_le (by omega)]
theorem enums_call {u : Bool} {l : List EnumL} (h : l.length < 2 ^ 40) (hm : ∀ x ∈ l, x.members.length < 2 ^ 40) : FCall Tryz.prog n_law_enums [.sl u (enumsV l)] (· = .arr (enumsO l)) := by
  refine FCall.walk u_law_enums k_law_enums rfl ?_
  unfold c_law_enums
  simp only [go_sem, simprocAttr]
  refine FWT.count [5] l.length (fun i => [(3, .arr (enumsO (l.take i))), (8, .int .i64 i)]) (fun i => True) rfl trivial ?_
  intro i hi hg
  by_cases h2 : i < l.length
  · have hx := Go.Fm.enumsV_get h2
    simp only [go_sem, simprocAttr, ltT h2, Int.toNat_natCast, hx, EnumL.row]
    refine detCall_of _ (cloneStr_call (xs := l[i].members) (hm _ (List.getElem_mem h2))) ?_
    simp only [go_sem, simprocAttr]
    exact ⟨by simp; omega, by rw [List.take_succ_eq_append_getElem h2, enumsO_snoc, w64s (by omega)]; rfl, h2⟩
  simp only [go_sem, simprocAttr, ltF h2]
  rw [List.take_of_length_le (by omega)]
theorem tables_call {u : Bool} {l : List TableL} (h : l.length < 2 ^ 40) (hm : ∀ x ∈ l, x.rows.length < 2 ^ 40) : FCall Tryz.prog n_law_tables [.sl u (tablesV l)] (· = .arr (tablesO l)) := by
  refine FCall.walk u_law_tables k_law_tables rfl ?_
  unfold c_law_tables
  simp only [go_sem, simprocAttr]
  refine FWT.count [5] l.length (fun i => [(3, .arr (tablesO (l.take i))), (8, .int .i64 i)]) (fun i => True) rfl trivial ?_
  intro i hi hg
  by_cases h2 : i < l.length
  · have hx := tablesV_get h2
    simp only [go_sem, simprocAttr, ltT h2, Int.toNat_natCast, hx, TableL.row]
    refine FCallT.of (cloneRow_call (xs := l[i].rows) (hm _ (List.getElem_mem h2))) ?_
    rintro _ rfl
    simp only [go_sem, simprocAttr]
    exact ⟨by simp; omega, by rw [List.take_succ_eq_append_getElem h2, tablesO_snoc, w64s (by omega)]; rfl, h2⟩
  simp only [go_sem, simprocAttr, ltF h2]
  rw [List.take_of_length_le (by omega)]
theorem member_call {l : LawL} {x : ScopeL} : FCall Tryz.prog n_law_member [.agg l.row, .agg x.row] (· = .tup [.agg (memOf l x).row, .bool (hasMem l x)]) := by
  rcases inR3 x.ms l.scopes.length with h | ⟨h, h2⟩ | ⟨j, h, h2⟩
  · refine FCall.walk u_law_member k_law_member rfl ?_
    unfold c_law_member
    simp only [go_sem, simprocAttr, LawL.row, ScopeL.row, h]
    simp [memOf, hasMem, h, zeroScope, fieldsV, rulesV, ScopeL.row]; omega
  · refine FCall.walk u_law_member k_law_member rfl ?_
    unfold c_law_member
    simp only [go_sem, simprocAttr, LawL.row, ScopeL.row, h, h2]
    have : l.scopes[x.ms.toNat]? = none := List.getElem?_eq_none (by omega)
    simp [memOf, hasMem, h, zeroScope, fieldsV, rulesV, ScopeL.row, this]; omega
  · have hx := scopesV_get h2
    have h3 : ¬ (j : Int) < 0 := by omega
    have h4 : ¬ (l.scopes.length : Int) ≤ (j : Int) := by omega
    refine FCall.walk u_law_member k_law_member rfl ?_
    unfold c_law_member
    simp only [go_sem, simprocAttr, LawL.row, ScopeL.row, h, h3, h4, Int.toNat_natCast, hx]
    have e1 : memOf l x = l.scopes[j] := by unfold memOf; rw [if_neg (by omega), h, Int.toNat_natCast, List.getElem?_eq_getElem h2]; rfl
    have e2 : hasMem l x = true := by unfold hasMem; exact decide_eq_true (by omega)
    rw [e1, e2]
theorem signature_call {l : LawL} {i : Int} (hl : l.mid) : FCall Tryz.prog n_law_Signature [.agg l.row, .int .i64 i] (· = sigO l i) := by
  rcases inR3 i l.scopes.length with h | ⟨h, h2⟩ | ⟨j, h, h2⟩
  · refine FCall.walk u_law_Signature k_law_Signature rfl ?_
    unfold c_law_Signature
    simp only [go_sem, simprocAttr, LawL.row, h]
    simp [sigO, h]
  · refine FCall.walk u_law_Signature k_law_Signature rfl ?_
    unfold c_law_Signature
    simp only [go_sem, simprocAttr, LawL.row, h, h2]
    have : l.scopes[i.toNat]? = none := List.getElem?_eq_none (by omega)
    simp [sigO, h, this]
  · subst h
    have hx := scopesV_get h2
    have h3 : ¬ (j : Int) < 0 := by omega
    have h4 : ¬ (l.scopes.length : Int) ≤ (j : Int) := by omega
    obtain ⟨m1, m2⟩ := hl.2.2.2.2.2 _ (List.getElem_mem h2)
    refine FCall.walk u_law_Signature k_law_Signature rfl ?_
    unfold c_law_Signature
    simp only [go_sem, simprocAttr, LawL.row, ScopeL.row, h3, h4, Int.toNat_natCast, hx]
    refine detCall_of _ (enums_call (l := l.enums) hl.1 hl.2.1) ?_
    simp only [go_sem, simprocAttr]
    refine detCall_of _ (tables_call (l := l.tables) hl.2.2.1 hl.2.2.2.1) ?_
    simp only [go_sem, simprocAttr]
    refine detCall_of _ (types_call (l := l.scopes[j].inputs) m1) ?_
    simp only [go_sem, simprocAttr]
    refine detCall_of _ (types_call (l := l.scopes[j].defs) m2) ?_
    simp only [go_sem, simprocAttr]
    refine FCallT.of (member_call (l := l) (x := l.scopes[j])) ?_
    rintro _ rfl
    simp only [go_sem, simprocAttr, LawL.row, ScopeL.row]
    have hq : l.scopes[j]? = some l.scopes[j] := List.getElem?_eq_getElem h2
    refine ⟨fun e => ?_, fun e => ?_⟩
    · refine FCallT.of (types_call (l := (memOf l l.scopes[j]).defs) (memOf_mid hl _)) ?_
      rintro _ rfl
      simp only [go_sem, simprocAttr]
      simp [sigO, h3, hq, e]
    · simp [sigO, h3, hq, e]
theorem signatureR_call {l : LawL} {i : Int} (hl : l.mid) : FCall Tryz.prog n_ref17_Signature [.agg l.row, .int .i64 i] (· = sigR l i) := by
  rcases inR3 i l.scopes.length with h | ⟨h, h2⟩ | ⟨j, h, h2⟩
  · refine FCall.walk u_ref17_Signature k_ref17_Signature rfl ?_
    unfold c_ref17_Signature
    simp only [go_sem, simprocAttr, LawL.row, h]
    simp [sigR, h]
  · refine FCall.walk u_ref17_Signature k_ref17_Signature rfl ?_
    unfold c_ref17_Signature
    simp only [go_sem, simprocAttr, LawL.row, h, h2]
    have : l.scopes[i.toNat]? = none := List.getElem?_eq_none (by omega)
    simp [sigR, h, this]
  · subst h
    have hx := scopesV_get h2
    have h3 : ¬ (j : Int) < 0 := by omega
    have h4 : ¬ (l.scopes.length : Int) ≤ (j : Int) := by omega
    have hq : l.scopes[j]? = some l.scopes[j] := List.getElem?_eq_getElem h2
    obtain ⟨m1, m2⟩ := hl.2.2.2.2.2 _ (List.getElem_mem h2)
    refine FCall.walk u_ref17_Signature k_ref17_Signature rfl ?_
    unfold c_ref17_Signature
    simp only [go_sem, simprocAttr, LawL.row, ScopeL.row, h3, h4, Int.toNat_natCast, hx]
    refine detCall_of _ (fieldTypes_call (l := l.scopes[j].inputs) m1) ?_
    simp only [go_sem, simprocAttr]
    refine detCall_of _ (fieldTypes_call (l := l.scopes[j].defs) m2) ?_
    simp only [go_sem, simprocAttr]
    rcases inR3 l.scopes[j].ms l.scopes.length with k | ⟨k, k2⟩ | ⟨m, k, k2⟩
    · have k4 : hasMem l l.scopes[j] = false := by unfold hasMem; exact decide_eq_false (by omega)
      have k5 : ¬ 0 ≤ l.scopes[j].ms := by omega
      simp only [go_sem, simprocAttr, k5]
      simp [sigR, h3, hq, k4]
    · have k4 : hasMem l l.scopes[j] = false := by unfold hasMem; exact decide_eq_false (by omega)
      have k5 : 0 ≤ l.scopes[j].ms := by omega
      have k6 : ¬ l.scopes[j].ms < l.scopes.length := by omega
      simp only [go_sem, simprocAttr, k5, k6]
      simp [sigR, h3, hq, k4]
    · have k4 : hasMem l l.scopes[j] = true := by unfold hasMem; exact decide_eq_true (by omega)
      have k5 : (0 : Int) ≤ m := by omega
      have k6 : (m : Int) < l.scopes.length := by omega
      have ky := scopesV_get k2
      have k7 : memOf l l.scopes[j] = l.scopes[m] := by unfold memOf; rw [if_neg (by omega), k, Int.toNat_natCast, List.getElem?_eq_getElem k2]; rfl
      simp only [go_sem, simprocAttr, k, k5, k6, Int.toNat_natCast, ky, ScopeL.row]
      refine FCallT.of (fieldTypes_call (l := l.scopes[m].defs) (hl.2.2.2.2.2 _ (List.getElem_mem k2)).2) ?_
      rintro _ rfl
      simp only [go_sem, simprocAttr]
      simp [sigR, h3, hq, k4, k7]
theorem sameSig_call {x y : SigL} (h1 : x.enums.length < 2 ^ 60) (h2 : ∀ e ∈ x.enums, e.members.length < 2 ^ 60) (h3 : x.tables.length < 2 ^ 60) (h4 : ∀ e ∈ x.tables, e.rows.length < 2 ^ 60) (h5 : x.inputs.length < 2 ^ 60) (h6 : x.defs.length < 2 ^ 60) (h7 : x.mems.length < 2 ^ 60) :
    FCall Tryz.prog n_same_Signature [.agg x.row, .agg y.row] (· = .bool (bp (x.core = y.core))) := by
  refine FCall.walk u_same_Signature k_same_Signature rfl ?_
  unfold c_same_Signature
  simp only [go_sem, simprocAttr, SigL.row]
  refine FCallT.of (Enums_call (a := x.enums) (b := y.enums) h1 h2) ?_
  rintro _ rfl
  simp only [go_sem, simprocAttr]
  refine ⟨fun e1 => ?_, fun e => fbp_false fun h => by simp only [SigL.core, Prod.mk.injEq] at h; rw [bp_true h.1] at e; cases e⟩
  refine FCallT.of (Tables_call (a := x.tables) (b := y.tables) h3 h4) ?_
  rintro _ rfl
  simp only [go_sem, simprocAttr]
  refine ⟨fun e2 => ?_, fun e => fbp_false fun h => by simp only [SigL.core, Prod.mk.injEq] at h; rw [bp_true h.2.1] at e; cases e⟩
  refine FCallT.of (Types_call (a := x.inputs) (b := y.inputs) h5) ?_
  rintro _ rfl
  simp only [go_sem, simprocAttr]
  refine ⟨fun e3 => ?_, fun e => fbp_false fun h => by simp only [SigL.core, Prod.mk.injEq] at h; rw [bp_true h.2.2.1] at e; cases e⟩
  refine FCallT.of (Types_call (a := x.defs) (b := y.defs) h6) ?_
  rintro _ rfl
  simp only [go_sem, simprocAttr]
  refine ⟨fun e4 => ?_, fun e => fbp_false fun h => by simp only [SigL.core, Prod.mk.injEq] at h; rw [bp_true h.2.2.2.1] at e; cases e⟩
  refine FCallT.of (Types_call (a := x.mems) (b := y.mems) h7) ?_
  rintro _ rfl
  simp only [go_sem, simprocAttr]
  refine ⟨fun e5 => ?_, fun e => fbp_false fun h => by simp only [SigL.core, Prod.mk.injEq] at h; rw [bp_true h.2.2.2.2.1] at e; cases e⟩
  have e6 : (x.has == y.has) = bp (x.has = y.has) := by rw [← dec_bp]; cases x.has <;> cases y.has <;> rfl
  rw [e6]
  exact congrArg FV.bool (bp_congr (by simp [SigL.core, bp_iff.1 e1, bp_iff.1 e2, bp_iff.1 e3, bp_iff.1 e4, bp_iff.1 e5]))
theorem sameNames_call {x y : NamesL} (h1 : x.enums.length < 2 ^ 60) (h2 : ∀ e ∈ x.enums, e.members.length < 2 ^ 60) (h3 : x.tables.length < 2 ^ 60) (h5 : x.inputs.length < 2 ^ 60) (h6 : x.defs.length < 2 ^ 60) (h7 : x.mems.length < 2 ^ 60) :
    FCall Tryz.prog n_same_SymbolNames [.agg x.row, .agg y.row] (· = .bool (bp (x.core = y.core))) := by
  refine FCall.walk u_same_SymbolNames k_same_SymbolNames rfl ?_
  unfold c_same_SymbolNames
  simp only [go_sem, simprocAttr, NamesL.row]
  refine FCallT.of (Enums_call (a := x.enums) (b := y.enums) h1 h2) ?_
  rintro _ rfl
  simp only [go_sem, simprocAttr]
  refine ⟨fun e1 => ?_, fun e => fbp_false fun h => by simp only [NamesL.core, Prod.mk.injEq] at h; rw [bp_true h.1] at e; cases e⟩
  refine FCallT.of (Strings_call (a := x.tables) (b := y.tables) h3) ?_
  rintro _ rfl
  simp only [go_sem, simprocAttr]
  refine ⟨fun e2 => ?_, fun e => fbp_false fun h => by simp only [NamesL.core, Prod.mk.injEq] at h; rw [bp_true h.2.1] at e; cases e⟩
  refine FCallT.of (Strings_call (a := x.inputs) (b := y.inputs) h5) ?_
  rintro _ rfl
  simp only [go_sem, simprocAttr]
  refine ⟨fun e3 => ?_, fun e => fbp_false fun h => by simp only [NamesL.core, Prod.mk.injEq] at h; rw [bp_true h.2.2.1] at e; cases e⟩
  refine FCallT.of (Strings_call (a := x.defs) (b := y.defs) h6) ?_
  rintro _ rfl
  simp only [go_sem, simprocAttr]
  refine ⟨fun e4 => ?_, fun e => fbp_false fun h => by simp only [NamesL.core, Prod.mk.injEq] at h; rw [bp_true h.2.2.2.1] at e; cases e⟩
  refine FCallT.of (Strings_call (a := x.mems) (b := y.mems) h7) ?_
  rintro _ rfl
  simp only [go_sem, simprocAttr]
  exact congrArg FV.bool (bp_congr (by simp [NamesL.core, bp_iff.1 e1, bp_iff.1 e2, bp_iff.1 e3, bp_iff.1 e4]))
end Go.Fx.Tryz
set_option linter.unusedVariables false
set_option linter.unusedSimpArgs false
namespace Go.Fx.Tryz
open Go Go.Fm Go.Proofs
theorem symbolNames_call {l : LawL} {i : Int} (hl : l.mid) : FCall Tryz.prog n_law_SymbolNames [.agg l.row, .int .i64 i] (· = namesO true l i) := by
  rcases inR3 i l.scopes.length with h | ⟨h, h2⟩ | ⟨j, h, h2⟩
  · refine FCall.walk u_law_SymbolNames k_law_SymbolNames rfl ?_
    unfold c_law_SymbolNames
    simp only [go_sem, simprocAttr, LawL.row, h]
    simp [namesO, h]
  · refine FCall.walk u_law_SymbolNames k_law_SymbolNames rfl ?_
    unfold c_law_SymbolNames
    simp only [go_sem, simprocAttr, LawL.row, h, h2]
    have : l.scopes[i.toNat]? = none := List.getElem?_eq_none (by omega)
    simp [namesO, h, this]
  · subst h
    have hx := scopesV_get h2
    have h3 : ¬ (j : Int) < 0 := by omega
    have h4 : ¬ (l.scopes.length : Int) ≤ (j : Int) := by omega
    have hq : l.scopes[j]? = some l.scopes[j] := List.getElem?_eq_getElem h2
    obtain ⟨m1, m2⟩ := hl.2.2.2.2.2 _ (List.getElem_mem h2)
    refine FCall.walk u_law_SymbolNames k_law_SymbolNames rfl ?_
    unfold c_law_SymbolNames
    simp only [go_sem, simprocAttr, LawL.row, ScopeL.row, h3, h4, Int.toNat_natCast, hx]
    refine detCall_of _ (enums_call (l := l.enums) hl.1 hl.2.1) ?_
    simp only [go_sem, simprocAttr]
    refine detCall_of _ (names_call (l := l.scopes[j].inputs) m1) ?_
    simp only [go_sem, simprocAttr]
    refine detCall_of _ (names_call (l := l.scopes[j].defs) m2) ?_
    simp only [go_sem, simprocAttr]
    refine FWT.count [8] l.tables.length (fun i => [(6, .box [.arr (enumsO l.enums), tabNames (l.tables.take i), .arr (strs (l.scopes[j].inputs.map FieldL.name)), .arr (strs (l.scopes[j].defs.map FieldL.name)), .sl true []]), (39, .int .i64 i)]) (fun i => True) rfl trivial ?_
    intro i hi hg
    by_cases h5 : i < l.tables.length
    · have hy := tablesV_get h5
      have := hl.2.2.1
      have hs : l.tables.take (i + 1) = l.tables.take i ++ [l.tables[i]] := List.take_succ_eq_append_getElem h5
      have hlen : (l.tables.take i).length ≤ l.tables.length := by simp; omega
      rw [hs, tabNames_snoc]
      rcases tabNames_cases (l.tables.take i) with ⟨e, e2⟩ | e
      · rw [e, e2]
        simp only [go_sem, simprocAttr, ltT h5, Int.toNat_natCast, hy, TableL.row]
        exact ⟨by rw [w64s (by omega)]; rfl, h5⟩
      · rw [e]
        simp only [go_sem, simprocAttr, ltT h5, Int.toNat_natCast, hy, TableL.row]
        exact ⟨by simp; omega, by rw [w64s (by omega)], h5⟩
    rw [List.take_of_length_le (by omega)]
    have hT := tabNames_cases l.tables
    rcases tabNames_cases l.tables with ⟨e, e2⟩ | e
    all_goals
      rw [e]
      simp only [go_sem, simprocAttr, ltF h5]
      refine FCallT.of (member_call (l := l) (x := l.scopes[j])) ?_
      rintro _ rfl
      simp only [go_sem, simprocAttr, LawL.row, ScopeL.row]
      refine ⟨fun k => ?_, fun k => ?_⟩
      · refine FCallT.of (names_call (l := (memOf l l.scopes[j]).defs) (memOf_mid hl _)) ?_
        rintro _ rfl
        simp only [go_sem, simprocAttr]
        simp [namesO, h3, hq, namesTail, k, e]
      · simp [namesO, h3, hq, namesTail, k, e]
theorem symbolNamesR_call {l : LawL} {i : Int} (hl : l.mid) : FCall Tryz.prog n_ref17_SymbolNames [.agg l.row, .int .i64 i] (· = namesO false l i) := by
  rcases inR3 i l.scopes.length with h | ⟨h, h2⟩ | ⟨j, h, h2⟩
  · refine FCall.walk u_ref17_SymbolNames k_ref17_SymbolNames rfl ?_
    unfold c_ref17_SymbolNames
    simp only [go_sem, simprocAttr, LawL.row, h]
    simp [namesO, h]
  · refine FCall.walk u_ref17_SymbolNames k_ref17_SymbolNames rfl ?_
    unfold c_ref17_SymbolNames
    simp only [go_sem, simprocAttr, LawL.row, h, h2]
    have : l.scopes[i.toNat]? = none := List.getElem?_eq_none (by omega)
    simp [namesO, h, this]
  · subst h
    have hx := scopesV_get h2
    have h3 : ¬ (j : Int) < 0 := by omega
    have h4 : ¬ (l.scopes.length : Int) ≤ (j : Int) := by omega
    have hq : l.scopes[j]? = some l.scopes[j] := List.getElem?_eq_getElem h2
    obtain ⟨m1, m2⟩ := hl.2.2.2.2.2 _ (List.getElem_mem h2)
    refine FCall.walk u_ref17_SymbolNames k_ref17_SymbolNames rfl ?_
    unfold c_ref17_SymbolNames
    simp only [go_sem, simprocAttr, LawL.row, ScopeL.row, h3, h4, Int.toNat_natCast, hx]
    refine detCall_of _ (fieldNames_call (l := l.scopes[j].inputs) m1) ?_
    simp only [go_sem, simprocAttr]
    refine detCall_of _ (fieldNames_call (l := l.scopes[j].defs) m2) ?_
    simp only [go_sem, simprocAttr]
    refine FWT.count [] l.tables.length (fun i => [(6, .box [.sl l.efull (enumsV l.enums), tabNames (l.tables.take i), .arr (strs (l.scopes[j].inputs.map FieldL.name)), .arr (strs (l.scopes[j].defs.map FieldL.name)), .sl true []]), (7, .int .i64 i)]) (fun i => True) rfl trivial ?_
    intro i hi hg
    by_cases h5 : i < l.tables.length
    · have hy := tablesV_get h5
      have := hl.2.2.1
      have hs : l.tables.take (i + 1) = l.tables.take i ++ [l.tables[i]] := List.take_succ_eq_append_getElem h5
      have hlen : (l.tables.take i).length ≤ l.tables.length := by simp; omega
      rw [hs, tabNames_snoc]
      rcases tabNames_cases (l.tables.take i) with ⟨e, e2⟩ | e
      · rw [e, e2]
        simp only [go_sem, simprocAttr, ltT h5, Int.toNat_natCast, hy, TableL.row]
        exact ⟨by rw [w64s (by omega)]; rfl, h5⟩
      · rw [e]
        simp only [go_sem, simprocAttr, ltT h5, Int.toNat_natCast, hy, TableL.row]
        exact ⟨by simp; omega, by rw [w64s (by omega)], h5⟩
    rw [List.take_of_length_le (by omega)]
    rcases tabNames_cases l.tables with ⟨e, e2⟩ | e
    all_goals
      rw [e]
      rcases inR3 l.scopes[j].ms l.scopes.length with k | ⟨k, k2⟩ | ⟨m, k, k2⟩
      · have k4 : hasMem l l.scopes[j] = false := by unfold hasMem; exact decide_eq_false (by omega)
        have k5 : ¬ 0 ≤ l.scopes[j].ms := by omega
        simp only [go_sem, simprocAttr, ltF h5, k5]
        simp [namesO, h3, hq, k4, namesTail, e]
      · have k4 : hasMem l l.scopes[j] = false := by unfold hasMem; exact decide_eq_false (by omega)
        have k5 : 0 ≤ l.scopes[j].ms := by omega
        have k6 : ¬ l.scopes[j].ms < l.scopes.length := by omega
        simp only [go_sem, simprocAttr, ltF h5, k5, k6]
        simp [namesO, h3, hq, k4, namesTail, e]
      · have k4 : hasMem l l.scopes[j] = true := by unfold hasMem; exact decide_eq_true (by omega)
        have k5 : (0 : Int) ≤ m := by omega
        have k6 : (m : Int) < l.scopes.length := by omega
        have ky := scopesV_get k2
        have k7 : memOf l l.scopes[j] = l.scopes[m] := by unfold memOf; rw [if_neg (by omega), k, Int.toNat_natCast, List.getElem?_eq_getElem k2]; rfl
        simp only [go_sem, simprocAttr, ltF h5, k, k5, k6, Int.toNat_natCast, ky, ScopeL.row]
        refine FCallT.of (fieldNames_call (l := l.scopes[m].defs) (hl.2.2.2.2.2 _ (List.getElem_mem k2)).2) ?_
        rintro _ rfl
        simp only [go_sem, simprocAttr]
        simp [namesO, h3, hq, k4, k7, namesTail, e]
theorem law_signature {l : LawL} {i : Int} (hr : ∀ t ∈ l.tables, t.rows.length < 2 ^ 60) (hu : ∀ s ∈ l.scopes, s.rules.length < 2 ^ 60) (hl : l.mid)
    (ha : FCall Tryz.prog n_law17_awake [] (· = .bool true)) : FCall Tryz.prog n_law17_LawSignature [.agg l.row, .int .i64 i] (· = .bool true) := by
  refine FCall.walk u_law17_LawSignature k_law17_LawSignature rfl ?_
  unfold c_law17_LawSignature
  simp only [go_sem, simprocAttr, LawL.row]
  refine FCallT.of (smallLaw_call (l := l) hr hu) ?_
  rintro _ rfl
  simp only [go_sem, simprocAttr]
  refine ⟨fun hsm => ?_, fun hsm => ?_⟩
  · refine FCallT.of (ha) ?_
    rintro _ rfl
    simp only [go_sem, simprocAttr]
  have f1 := signature_call (i := i) hl
  have f2 := signatureR_call (i := i) hl
  have f3 := symbolNames_call (i := i) hl
  have f4 := symbolNamesR_call (i := i) hl
  obtain ⟨c1, y1, e1, s1, k1, t1⟩ := sigO_form hl i
  obtain ⟨c2, y2, e2, s2, k2⟩ := sigR_form l i
  obtain ⟨c3, y3, e3, s3, k3, t3⟩ := namesO_form hl true i
  obtain ⟨c4, y4, e4, s4, k4, t4⟩ := namesO_form hl false i
  rw [e1] at f1; rw [e2] at f2; rw [e3] at f3; rw [e4] at f4
  have g1 := sameSig_call (x := y1) (y := y2) t1.1 t1.2.1 t1.2.2.1 t1.2.2.2.1 t1.2.2.2.2.1 t1.2.2.2.2.2.1 t1.2.2.2.2.2.2
  have g2 := sameNames_call (x := y3) (y := y4) t3.1 t3.2.1 t3.2.2.1 t3.2.2.2.1 t3.2.2.2.2.1 t3.2.2.2.2.2
  rw [bp_true (by rw [k1, k2])] at g1
  rw [bp_true (by rw [k3, k4])] at g2
  refine detCall_of _ (f1) ?_
  simp only [go_sem, simprocAttr, LawL.row]
  refine detCall_of _ (f2) ?_
  simp only [go_sem, simprocAttr, LawL.row, s1, s2]
  refine detCallB_of _ g1 rfl ?_
  simp only [go_sem, simprocAttr, LawL.row]
  refine detCall_of _ (f3) ?_
  simp only [go_sem, simprocAttr, LawL.row]
  refine detCall_of _ (f4) ?_
  simp only [go_sem, simprocAttr, LawL.row, s3, s4]
  refine detCallB_of _ g2 rfl ?_
  simp only [go_sem, simprocAttr]
  refine detCall_of _ (ha) ?_
  simp only [go_sem, simprocAttr]
end Go.Fx.Tryz
/- A package variable that holds one integer holds some integer when a call begins. -/
set_option linter.unusedVariables false
namespace Go.Fm
open Go
theorem int_of_shape {P : Program} {w : World} {g : Nat} {t : TypeId} {zero : Array Value} {k : IntKind} (h : w.ShapedOpen P) (hg : g < P.globals.size)
    (h0 : ((begin P (fun _ _ => 0) default).world.heap[g]?).bind Obj.row? = some (zero, t)) (hz : zero.size = 1)
    (hb : P.buildable t = true) (hc : P.cellTypes P.depth t = some [t]) (hu : P.underlying t = some (.int k)) : g < w.heap.size ∧ ∃ m : Int, w.cell? ⟨g, 0, none⟩ = some (.int k m) := by
  obtain ⟨cs, hh, hs, hr⟩ := h.1 g zero t hg h0
  obtain ⟨ts, hts, _, hall⟩ := hr hb
  rw [hc] at hts
  cases hts
  have h1 : 0 < cs.size := by omega
  obtain ⟨u, hu', hok⟩ := hall 0 cs[0] (by simp [h1])
  have : u = t := by simpa using hu'.symm
  subst this
  have hcell : w.cell? ⟨g, 0, none⟩ = some cs[0] := by simp [World.cell?, hh, h1]
  refine ⟨(Array.getElem?_eq_some_iff.1 hh).1, ?_⟩
  rw [hcell]
  unfold Cell.ok at hok
  rw [hu] at hok
  cases hv : cs[0] <;> rw [hv] at hok <;> first | (simp at hok; done) | (simp at hok; exact ⟨_, by rw [hok.1]⟩) | (simp at hok; exact ⟨_, by rw [hok]⟩)
end Go.Fm
/- The api types: what is read of an argument is the data of a structure. -/
set_option linter.unusedVariables false
namespace Go.Fm
open Go
abbrev ty_Str : Ty := .str
abbrev ty_Int : Ty := .int .i64
theorem i64_wf {n : Int} (h : (Lit.int .i64 n).wf = true) : I64 n := by
  simp only [Lit.wf, Bool.and_eq_true, decide_eq_true_eq] at h
  exact h
theorem has_Str {B : Nat} : ∀ fs, ty_Str.has B fs → ∃ s : List UInt8, fs = [.str s] ∧ s.length ≤ B := fun _ h => h
theorem has_Int {B : Nat} : ∀ fs, ty_Int.has B fs → ∃ n : Int, fs = [.int .i64 n] ∧ I64 n := fun _ ⟨n, h1, h2⟩ => ⟨n, h1, i64_wf h2⟩
abbrev ty_Node : Ty := (.cons (.int .i64) (.cons (.int .i64) .nil))
def NodeL.bnd (B : Nat) (x : NodeL) : Prop := I64 x.op ∧ I64 x.n
theorem has_Node {B : Nat} : ∀ fs, ty_Node.has B fs → ∃ x : NodeL, fs = x.row ∧ x.bnd B := by
  rintro _ ⟨_, _, rfl, ⟨a0, rfl, h0⟩, ⟨_, _, rfl, ⟨a1, rfl, h1⟩, rfl⟩⟩
  exact ⟨⟨a0, a1⟩, rfl, i64_wf h0, i64_wf h1⟩
abbrev ty_Enum : Ty := (.cons .str (.cons (.sl ty_Str) .nil))
def EnumL.bnd (B : Nat) (x : EnumL) : Prop := x.name.length ≤ B ∧ x.members.length ≤ B ∧ (∀ s ∈ x.members, s.length ≤ B)
theorem has_Enum {B : Nat} : ∀ fs, ty_Enum.has B fs → ∃ x : EnumL, fs = x.row ∧ x.bnd B := by
  rintro _ ⟨_, _, rfl, ⟨a0, rfl, h0⟩, ⟨_, _, rfl, h1, rfl⟩⟩
  obtain ⟨l1, rfl, k1, p1⟩ := slHas has_Str h1
  exact ⟨⟨a0, false, l1⟩, rfl, h0, k1, p1⟩
abbrev ty_Field : Ty := (.cons .str (.cons (.cons (.int .i64) (.cons (.int .i64) .nil)) .nil))
def FieldL.bnd (B : Nat) (x : FieldL) : Prop := x.name.length ≤ B ∧ I64 x.k ∧ I64 x.e
theorem has_Field {B : Nat} : ∀ fs, ty_Field.has B fs → ∃ x : FieldL, fs = x.row ∧ x.bnd B := by
  rintro _ ⟨_, _, rfl, ⟨a0, rfl, h0⟩, ⟨_, _, rfl, ⟨_, _, rfl, ⟨a1, rfl, h1⟩, ⟨_, _, rfl, ⟨a2, rfl, h2⟩, rfl⟩⟩, rfl⟩⟩
  exact ⟨⟨a0, a1, a2⟩, rfl, h0, i64_wf h1, i64_wf h2⟩
abbrev ty_Rule : Ty := (.cons .str (.cons (.int .i64) (.cons (.int .i64) (.cons (.int .i64) (.cons (.cons (.int .i64) (.cons (.int .i64) .nil)) (.cons (.sl ty_Node) (.cons (.sl ty_Node) (.cons .str .nil))))))))
def RuleL.bnd (B : Nat) (x : RuleL) : Prop := x.name.length ≤ B ∧ I64 x.d ∧ I64 x.p ∧ I64 x.pr ∧ I64 x.f ∧ I64 x.t ∧ x.guard.length ≤ B ∧ (∀ y ∈ x.guard, y.bnd B) ∧ x.value.length ≤ B ∧ (∀ y ∈ x.value, y.bnd B) ∧ x.src.length ≤ B
theorem has_Rule {B : Nat} : ∀ fs, ty_Rule.has B fs → ∃ x : RuleL, fs = x.row ∧ x.bnd B := by
  rintro _ ⟨_, _, rfl, ⟨a0, rfl, h0⟩, ⟨_, _, rfl, ⟨a1, rfl, h1⟩, ⟨_, _, rfl, ⟨a2, rfl, h2⟩, ⟨_, _, rfl, ⟨a3, rfl, h3⟩, ⟨_, _, rfl, ⟨_, _, rfl, ⟨a4, rfl, h4⟩, ⟨_, _, rfl, ⟨a5, rfl, h5⟩, rfl⟩⟩, ⟨_, _, rfl, h6, ⟨_, _, rfl, h7, ⟨_, _, rfl, ⟨a8, rfl, h8⟩, rfl⟩⟩⟩⟩⟩⟩⟩⟩
  obtain ⟨l6, rfl, k6, p6⟩ := slHas has_Node h6
  obtain ⟨l7, rfl, k7, p7⟩ := slHas has_Node h7
  exact ⟨⟨a0, a1, a2, a3, a4, a5, false, l6, false, l7, a8⟩, rfl, h0, i64_wf h1, i64_wf h2, i64_wf h3, i64_wf h4, i64_wf h5, k6, p6, k7, p7, h8⟩
abbrev ty_Row : Ty := (.cons (.cons (.int .i64) (.cons (.int .i64) .nil)) (.cons (.int .i64) (.cons (.int .i64) (.cons (.int .i64) .nil))))
def RowL.bnd (B : Nat) (x : RowL) : Prop := I64 x.f ∧ I64 x.t ∧ I64 x.lo ∧ I64 x.hi ∧ I64 x.n
theorem has_Row {B : Nat} : ∀ fs, ty_Row.has B fs → ∃ x : RowL, fs = x.row ∧ x.bnd B := by
  rintro _ ⟨_, _, rfl, ⟨_, _, rfl, ⟨a0, rfl, h0⟩, ⟨_, _, rfl, ⟨a1, rfl, h1⟩, rfl⟩⟩, ⟨_, _, rfl, ⟨a2, rfl, h2⟩, ⟨_, _, rfl, ⟨a3, rfl, h3⟩, ⟨_, _, rfl, ⟨a4, rfl, h4⟩, rfl⟩⟩⟩⟩
  exact ⟨⟨a0, a1, a2, a3, a4⟩, rfl, i64_wf h0, i64_wf h1, i64_wf h2, i64_wf h3, i64_wf h4⟩
abbrev ty_Table : Ty := (.cons .str (.cons (.cons (.int .i64) (.cons (.int .i64) .nil)) (.cons (.cons (.int .i64) (.cons (.int .i64) .nil)) (.cons (.sl ty_Row) .nil))))
def TableL.bnd (B : Nat) (x : TableL) : Prop := x.name.length ≤ B ∧ I64 x.kk ∧ I64 x.ke ∧ I64 x.vk ∧ I64 x.ve ∧ x.rows.length ≤ B ∧ (∀ y ∈ x.rows, y.bnd B)
theorem has_Table {B : Nat} : ∀ fs, ty_Table.has B fs → ∃ x : TableL, fs = x.row ∧ x.bnd B := by
  rintro _ ⟨_, _, rfl, ⟨a0, rfl, h0⟩, ⟨_, _, rfl, ⟨_, _, rfl, ⟨a1, rfl, h1⟩, ⟨_, _, rfl, ⟨a2, rfl, h2⟩, rfl⟩⟩, ⟨_, _, rfl, ⟨_, _, rfl, ⟨a3, rfl, h3⟩, ⟨_, _, rfl, ⟨a4, rfl, h4⟩, rfl⟩⟩, ⟨_, _, rfl, h5, rfl⟩⟩⟩⟩
  obtain ⟨l5, rfl, k5, p5⟩ := slHas has_Row h5
  exact ⟨⟨a0, a1, a2, a3, a4, false, l5⟩, rfl, h0, i64_wf h1, i64_wf h2, i64_wf h3, i64_wf h4, k5, p5⟩
abbrev ty_Scope : Ty := (.cons .str (.cons (.int .i64) (.cons (.sl ty_Field) (.cons (.sl ty_Field) (.cons (.sl ty_Rule) .nil)))))
def ScopeL.bnd (B : Nat) (x : ScopeL) : Prop := x.name.length ≤ B ∧ I64 x.ms ∧ x.inputs.length ≤ B ∧ (∀ y ∈ x.inputs, y.bnd B) ∧ x.defs.length ≤ B ∧ (∀ y ∈ x.defs, y.bnd B) ∧ x.rules.length ≤ B ∧ (∀ y ∈ x.rules, y.bnd B)
theorem has_Scope {B : Nat} : ∀ fs, ty_Scope.has B fs → ∃ x : ScopeL, fs = x.row ∧ x.bnd B := by
  rintro _ ⟨_, _, rfl, ⟨a0, rfl, h0⟩, ⟨_, _, rfl, ⟨a1, rfl, h1⟩, ⟨_, _, rfl, h2, ⟨_, _, rfl, h3, ⟨_, _, rfl, h4, rfl⟩⟩⟩⟩⟩
  obtain ⟨l2, rfl, k2, p2⟩ := slHas has_Field h2
  obtain ⟨l3, rfl, k3, p3⟩ := slHas has_Field h3
  obtain ⟨l4, rfl, k4, p4⟩ := slHas has_Rule h4
  exact ⟨⟨a0, a1, false, l2, false, l3, false, l4⟩, rfl, h0, i64_wf h1, k2, p2, k3, p3, k4, p4⟩
abbrev ty_Law : Ty := (.cons (.sl ty_Enum) (.cons (.sl ty_Table) (.cons (.sl ty_Scope) .nil)))
def LawL.bnd (B : Nat) (x : LawL) : Prop := x.enums.length ≤ B ∧ (∀ y ∈ x.enums, y.bnd B) ∧ x.tables.length ≤ B ∧ (∀ y ∈ x.tables, y.bnd B) ∧ x.scopes.length ≤ B ∧ (∀ y ∈ x.scopes, y.bnd B)
theorem has_Law {B : Nat} : ∀ fs, ty_Law.has B fs → ∃ x : LawL, fs = x.row ∧ x.bnd B := by
  rintro _ ⟨_, _, rfl, h0, ⟨_, _, rfl, h1, ⟨_, _, rfl, h2, rfl⟩⟩⟩
  obtain ⟨l0, rfl, k0, p0⟩ := slHas has_Enum h0
  obtain ⟨l1, rfl, k1, p1⟩ := slHas has_Table h1
  obtain ⟨l2, rfl, k2, p2⟩ := slHas has_Scope h2
  exact ⟨⟨false, l0, false, l1, false, l2⟩, rfl, k0, p0, k1, p1, k2, p2⟩

end Go.Fm
/- A walk on given arguments, computed: what a function returns is found by running its form. -/
set_option linter.unusedVariables false
set_option linter.unusedSimpArgs false
namespace Go.Fm
open Go

abbrev Calls := FuncId → List FV → Option FV
abbrev Muts := FuncId → List (List FV) → Option (List (List FV))
def SoundC (P : Program) (c : Calls) : Prop := ∀ f fs v, c f fs = some v → FCall P f fs (· = v)
def SoundM (P : Program) (m : Muts) : Prop := ∀ f es es', m f es = some es' → FMut P f es (· = es')

def xFree (c : Calls) (f : FuncId) (fs : List FV) : Option FV := match c f fs with
  | some r => cond r.free (some r) none
  | none => none
def xNil (neg : Bool) (d : Nat) (E : Env) (es : List (List FV)) : Option Env := match es with
  | [] => none
  | _ :: _ => some (E.upd d (.bool neg))
def xNilOn (E : Env) (d : Nat) (neg : Bool) (f : FV) : Option Env := match f with
  | .sl _ es => xNil neg d E es
  | .al q p => match E.at q p with
    | .arr es => xNil neg d E es
    | _ => none
  | _ => none
def xStW (E : Env) (f : FV) (d n : Nat) : Option Env := cond f.alias none (stG E f (.t d) n)
def xM (m : Muts) (f : FuncId) (q d : Nat) (E : Env) (l g : FV) : Option Env := match l with
  | .al q' p => match p with
    | [] => cond (Nat.beq q' q) (match g with
      | .arr es => match m f es with
        | some es' => some (((E.upd q .undef).upd q (.arr es')).upd d (.tup []))
        | none => none
      | _ => none) none
    | _ => none
  | _ => none
def xV (P : Program) (c : Calls) (s : FV) (fs : List FV) : Option FV := match s with
  | .fn g cap => cond (isFn P g) (xFree c g (fs ++ cap)) none
  | _ => none
def xF (P : Program) (c : Calls) (s : FV) (fs : List FV) : Option FV := match s with
  | .fn g cap => match cap with
    | [] => cond (isFn P g) (c g fs) none
    | _ => none
  | _ => none
def xK (P : Program) (c : Calls) (m : Muts) (k : FK) (d : Nat) (E : Env) : Option Env :=
  match k with
  | .op f => f.eval E d
  | .call f ss => match c f (E.passM ss).1 with
    | some r => some ((E.passM ss).2.upd d r)
    | none => none
  | .callB f ss => match xFree c f (ss.map E.lend) with
    | some r => some (E.upd d r)
    | none => none
  | .callL f ss => cond (ss.all fun s => !(E.look s).alias) (match c f (ss.map E.look) with
    | some r => some (E.upd d r)
    | none => none) none
  | .callV s ss => match xV P c (E.lend s) (ss.map E.lend) with
    | some r => some (E.upd d r)
    | none => none
  | .callM f s q => xM m f q d E (E.look s) (E.get q)
  | .callF s ss => match xF P c (E.lend s) (E.passM ss).1 with
    | some r => some ((E.passM ss).2.upd d r)
    | none => none
  | .isNil neg s => xNilOn E d neg (E.look s)
  | .storeW s n => xStW E (E.look s) d n

section
variable {P : Program} {c : Calls} {m : Muts}
theorem xFree_sound (hc : SoundC P c) {f : FuncId} {fs : List FV} {v : FV} {J : FV → Prop} (h : xFree c f fs = some v) (hj : J v) : FCall P f fs (fun r => r.free = true ∧ J r) := by
  unfold xFree at h
  split at h <;> try (cases h; done)
  rename_i r hr
  cases hf : r.free <;> rw [hf] at h <;> cases h
  exact (hc _ _ _ hr).mono fun r hr => by subst hr; exact ⟨hf, hj⟩
theorem xNil_sound {neg : Bool} {d : Nat} {E E' : Env} {es : List (List FV)} {J : Env → Prop} (h : xNil neg d E es = some E') (hj : J E') : nilK es neg fun b => J (E.upd d (.bool b)) := by
  cases es with
  | nil => cases h
  | cons x es => cases h; exact ⟨fun h => by simp at h, fun _ => hj⟩

theorem xK_sound (hc : SoundC P c) (hm : SoundM P m) {k : FK} {d : Nat} {E E' : Env} {J : Env → Prop} (h : xK P c m k d E = some E') (hj : J E') : runK P k d E J := by
  cases k with
  | op f => exact ⟨E', h, hj⟩
  | call f ss =>
    simp only [xK] at h
    split at h <;> cases h
    rename_i r hr
    exact (hc _ _ _ hr).mono fun r hr => by subst hr; exact hj
  | callB f ss =>
    simp only [xK] at h
    split at h <;> cases h
    rename_i r hr
    exact xFree_sound hc hr hj
  | callL f ss =>
    simp only [xK] at h
    cases ha : (ss.all fun s => !(E.look s).alias) <;> rw [ha] at h <;> simp only [cond_true, cond_false] at h
    · cases h
    · split at h <;> cases h
      rename_i r hr
      exact ⟨ha, (hc _ _ _ hr).mono fun r hr => by subst hr; exact hj⟩
  | callV s ss =>
    simp only [xK] at h
    split at h <;> cases h
    rename_i r hr
    unfold xV at hr
    simp only [runK]
    split at hr <;> try (cases hr; done)
    rename_i g cap hs
    simp only [hs]
    cases hi : isFn P g <;> rw [hi] at hr <;> simp only [cond_true, cond_false] at hr
    · cases hr
    · exact ⟨rfl, xFree_sound hc hr hj⟩
  | callF s ss =>
    simp only [xK] at h
    split at h <;> cases h
    rename_i r hr
    unfold xF at hr
    simp only [runK]
    split at hr <;> try (cases hr; done)
    rename_i g cap hs
    simp only [hs]
    split at hr <;> try (cases hr; done)
    cases hi : isFn P g <;> rw [hi] at hr <;> simp only [cond_true, cond_false] at hr
    · cases hr
    · exact ⟨rfl, rfl, (hc _ _ _ hr).mono fun r hr => by subst hr; exact hj⟩
  | callM f s q =>
    simp only [xK, xM] at h
    split at h <;> try (cases h; done)
    rename_i q' p hl
    split at h <;> try (cases h; done)
    cases hq : Nat.beq q' q <;> rw [hq] at h <;> simp only [cond_true, cond_false] at h
    · cases h
    · have := Nat.eq_of_beq_eq_true hq
      subst this
      split at h <;> try (cases h; done)
      rename_i es he
      split at h <;> try (cases h; done)
      rename_i es' hes
      cases h
      exact ⟨hl, es, he, (hm _ _ _ hes).mono fun r hr => by subst hr; exact hj⟩
  | isNil neg s =>
    simp only [xK, xNilOn] at h
    simp only [runK, nilOn]
    split at h <;> try (cases h; done)
    · rename_i b es hl
      rw [hl]
      exact xNil_sound h hj
    · rename_i q p hl
      rw [hl]
      simp only
      split at h <;> try (cases h; done)
      rename_i es he
      rw [he]
      exact xNil_sound h hj
  | storeW s n =>
    simp only [xK, xStW] at h
    cases ha : (E.look s).alias <;> rw [ha] at h <;> simp only [cond_true, cond_false] at h
    · exact ⟨E', h, ha, hj⟩
    · cases h

/-- one step with its guard -/
def xG (P : Program) (c : Calls) (m : Muts) (f : FO) (E : Env) : Option Env := match f.g with
  | none => xK P c m f.k f.d E
  | some (t, want) => match E.get t with
    | .bool b => cond (b == want) (xK P c m f.k f.d E) (some (E.upd f.d skipped))
    | .tup [] => some (E.upd f.d skipped)
    | _ => none
def xOps (P : Program) (c : Calls) (m : Muts) : List FO → Env → Option Env
  | [], E => some E
  | f :: r, E => match xG P c m f E with
    | some E' => xOps P c m r E'
    | none => none
theorem xG_sound (hc : SoundC P c) (hm : SoundM P m) {f : FO} {E E' : Env} {J : Env → Prop} (h : xG P c m f E = some E') (hj : J E') : stepG P f E J := by
  unfold xG at h
  unfold stepG
  cases hg : f.g with
  | none => rw [hg] at h; exact xK_sound hc hm h hj
  | some x =>
    obtain ⟨t, want⟩ := x
    rw [hg] at h
    simp only at h ⊢
    split at h <;> try (cases h; done)
    · rename_i b hb
      rw [hb]
      cases hbw : b == want <;> rw [hbw] at h <;> simp only [cond_true, cond_false] at h
      · cases h
        exact ⟨fun e => by subst e; simp at hbw, fun _ => hj⟩
      · exact ⟨fun _ => xK_sound hc hm h hj, fun e => absurd (by simpa using hbw) e⟩
    · rename_i hb
      rw [hb]
      cases h
      exact hj
theorem xOps_sound (hc : SoundC P c) (hm : SoundM P m) : ∀ {fs : List FO} {E E' : Env} {J : Env → Prop}, xOps P c m fs E = some E' → J E' → runOps P fs E J
  | [], E, E', J, h, hj => by cases h; exact hj
  | f :: r, E, E', J, h, hj => by
    simp only [xOps] at h
    split at h <;> try (cases h; done)
    rename_i E1 h1
    rw [runOps_cons]
    exact xG_sound hc hm h1 (xOps_sound hc hm h hj)

def xDOp (E : Env) (d : Nat) (f : FOp) : Option Env := match f with
  | .build tmpl ps ss => cond (ss.all E.noAl) (match bdF E tmpl ps ss with
    | some x => some (x.2.put d x.1)
    | none => none) none
  | .buildSl tmpl ln is ss => cond (ss.all E.noAl) (match bsF E tmpl ln is ss with
    | some x => some (x.2.put d x.1)
    | none => none) none
  | .mvP deep s => cond (E.noAl s) (some ((E.pass deep s).2.put d (E.pass deep s).1)) none
  | .extract n i => match exF (E.get n) i with
    | some f => some ((if f.flat then E else E.put n (exT (E.get n) i)).put d f)
    | none => none
  | f => match f.val E with
    | some v => cond (v.notRoot d) (some (E.put d v)) none
    | none => none
def xPut (E : Env) (d : Nat) (x : Option FV) : Option Env := match x with
  | some v => some (E.put d v)
  | none => none
def xDK (P : Program) (c : Calls) (k : FK) (d : Nat) (E : Env) : Option Env :=
  match k with
  | .op f => xDOp E d f
  | .callB f ss => xPut E d (xFree c f (ss.map E.lend))
  | .callL f ss => cond (ss.all fun s => !(E.look s).alias) (xPut E d (c f (ss.map E.look))) none
  | .callV s ss => xPut E d (xV P c (E.lend s) (ss.map E.lend))
  | .storeW s n => xPut E d (stW (E.get d) (E.look s) n)
  | _ => none
theorem xPut_inv {E E' : Env} {d : Nat} {x : Option FV} (h : xPut E d x = some E') : ∃ v, x = some v ∧ E' = E.put d v := by
  cases x with
  | none => cases h
  | some v => cases h; exact ⟨v, rfl, rfl⟩
theorem xDK_sound (hc : SoundC P c) {k : FK} {d : Nat} {E E' : Env} {J : Env → Prop} (h : xDK P c k d E = some E') (hj : J E') : detK P k d E J := by
  have free : ∀ {f : FuncId} {fs : List FV} {v : FV}, xFree c f fs = some v → FCall P f fs (· = v) ∧ v.free = true := fun {f fs v} h => by
    unfold xFree at h
    split at h <;> try (cases h; done)
    rename_i r hr
    cases hf : r.free <;> rw [hf] at h <;> cases h
    exact ⟨hc _ _ _ hr, hf⟩
  cases k with
  | op f =>
    have val : (match f.val E with
        | some v => cond (v.notRoot d) (some (E.put d v)) none
        | none => none) = some E' → ∃ v, f.val E = some v ∧ v.notRoot d = true ∧ J (E.put d v) := fun h => by
      split at h <;> try (cases h; done)
      rename_i u hu
      cases hn : u.notRoot d <;> rw [hn] at h <;> cases h
      exact ⟨u, hu, hn, hj⟩
    cases f with
    | build tmpl ps ss =>
      simp only [xDK, xDOp] at h
      cases ha : ss.all E.noAl <;> rw [ha] at h <;> simp only [cond_true, cond_false] at h
      · cases h
      · split at h <;> cases h
        rename_i x hx
        exact ⟨ha, x, hx, hj⟩
    | buildSl tmpl ln is ss =>
      simp only [xDK, xDOp] at h
      cases ha : ss.all E.noAl <;> rw [ha] at h <;> simp only [cond_true, cond_false] at h
      · cases h
      · split at h <;> cases h
        rename_i x hx
        exact ⟨ha, x, hx, hj⟩
    | mvP deep s =>
      simp only [xDK, xDOp] at h
      cases ha : E.noAl s <;> rw [ha] at h <;> cases h
      exact ⟨ha, hj⟩
    | extract n i =>
      simp only [xDK, xDOp] at h
      split at h <;> cases h
      rename_i f hf
      exact ⟨f, hf, hj⟩
    | _ => exact val h
  | call f ss => cases h
  | callB f ss =>
    obtain ⟨v, h1, rfl⟩ := xPut_inv h
    obtain ⟨h1, h2⟩ := free h1
    exact ⟨v, h1, h2, hj⟩
  | callL f ss =>
    simp only [xDK] at h
    cases ha : (ss.all fun s => !(E.look s).alias) <;> rw [ha] at h <;> simp only [cond_true, cond_false] at h
    · cases h
    · obtain ⟨v, h1, rfl⟩ := xPut_inv h
      exact ⟨ha, v, hc _ _ _ h1, hj⟩
  | callV s ss =>
    obtain ⟨v, h1, rfl⟩ := xPut_inv h
    simp only [xV] at h1
    simp only [detK]
    split at h1 <;> try (cases h1; done)
    rename_i g cap hs
    simp only [hs]
    cases hi : isFn P g <;> rw [hi] at h1 <;> simp only [cond_true, cond_false] at h1
    · cases h1
    · obtain ⟨h1, h2⟩ := free h1
      exact ⟨rfl, v, h1, h2, hj⟩
  | callM f s q => cases h
  | callF s ss => cases h
  | isNil neg s => cases h
  | storeW s n =>
    obtain ⟨v, h1, rfl⟩ := xPut_inv h
    exact ⟨v, h1, hj⟩
def xDG (P : Program) (c : Calls) (f : FO) (E : Env) : Option Env := match f.g with
  | none => xDK P c f.k f.d E
  | some (t, want) => match E.get t with
    | .bool b => cond (b == want) (xDK P c f.k f.d E) (some (E.put f.d skipped))
    | .tup [] => some (E.put f.d skipped)
    | _ => none
theorem xDG_sound (hc : SoundC P c) {f : FO} {E E' : Env} {J : Env → Prop} (h : xDG P c f E = some E') (hj : J E') : detG P f E J := by
  unfold xDG at h
  unfold detG
  cases hg : f.g with
  | none => rw [hg] at h; exact xDK_sound hc h hj
  | some x =>
    obtain ⟨t, want⟩ := x
    rw [hg] at h
    simp only at h ⊢
    split at h <;> try (cases h; done)
    · rename_i b hb
      rw [hb]
      cases hbw : b == want <;> rw [hbw] at h <;> simp only [cond_true, cond_false] at h
      · cases h
        exact ⟨fun e => by subst e; simp at hbw, fun _ => hj⟩
      · exact ⟨fun _ => xDK_sound hc h hj, fun e => absurd (by simpa using hbw) e⟩
    · rename_i hb
      rw [hb]
      cases h
      exact hj
def xDet (P : Program) (c : Calls) (D : List Nat) : List FO → Env → Option Env
  | [], E => some E
  | f :: r, E => match xDG P c f E with
    | some E' => cond (rootOk D (E'.get f.d)) (xDet P c D r E') none
    | none => none
theorem xDet_sound (hc : SoundC P c) {D : List Nat} : ∀ {fs : List FO} {E E' : Env} {J : Env → Prop}, xDet P c D fs E = some E' → J E' → runDet P D fs E J
  | [], E, E', J, h, hj => by cases h; exact hj
  | f :: r, E, E', J, h, hj => by
    simp only [xDet] at h
    unfold runDet
    split at h <;> try (cases h; done)
    rename_i E1 h1
    cases hr : rootOk D (E1.get f.d) <;> rw [hr] at h <;> simp only [cond_true, cond_false] at h
    · cases h
    · exact xDG_sound hc h1 ⟨hr, xDet_sound hc h hj⟩

/-- a loop's body again and again -/
def xLoop (x : Env → Option (Exit × Env)) : Nat → Env → Option (Exit × Env)
  | 0, _ => none
  | n + 1, E => match x E with
    | some (e, E') => match e with
      | .normal => xLoop x n E'
      | e => some (e, E')
    | none => none
def xCode (P : Program) (c : Calls) (m : Muts) (n : Nat) : FC → Env → Option (Exit × Env)
  | .skip, E => some (.normal, E)
  | .ret, E => some (.ret, E)
  | .exit id, E => some (.exit id, E)
  | .seq x y, E => match xCode P c m n x E with
    | some (e, E') => match e with
      | .normal => xCode P c m n y E'
      | e => some (e, E')
    | none => none
  | .cond s x y, E => match E.look s with
    | .bool b => cond b (xCode P c m n x E) (xCode P c m n y E)
    | _ => none
  | .block id x, E => match xCode P c m n x E with
    | some (e, E') => match e with
      | .exit id' => cond (Nat.beq id' id) (some (.normal, E')) (some (.exit id', E'))
      | e => some (e, E')
    | none => none
  | .loop x, E => xLoop (fun E => xCode P c m n x E) n E
  | .reg dr fs ks, E => match dr with
    | none => match xOps P c m fs E with
      | some E' => some (.normal, E'.kills ks)
      | none => none
    | some k => cond (P.follows .mixedOrders && rootsOk (wrs (fs.take k)) E) (match xDet P c (wrs (fs.take k)) (fs.take k) E with
      | some Ef => match xOps P c m (fs.drop k) Ef with
        | some E' => some (.normal, E'.kills ks)
        | none => none
      | none => none) none

theorem xCode_sound {N n : Nat} (hc : SoundC P c) (hm : SoundM P m) : ∀ {x : FC} {E : Env} {r : Exit × Env} {K : Exit → Env → Prop}, xCode P c m n x E = some r → K r.1 r.2 → FW P N x E K
  | .skip, E, r, K, h, hk => by cases h; exact FW.skip hk
  | .ret, E, r, K, h, hk => by cases h; exact FW.ret hk
  | .exit id, E, r, K, h, hk => by cases h; exact FW.exit hk
  | .seq x y, E, r, K, h, hk => by
    simp only [xCode] at h
    split at h <;> try (cases h; done)
    rename_i e E' h1
    refine FW.seq (xCode_sound hc hm h1 ?_)
    cases e with
    | normal => exact xCode_sound hc hm h hk
    | _ => cases h; exact hk
  | .cond s x y, E, r, K, h, hk => by
    simp only [xCode] at h
    split at h <;> try (cases h; done)
    rename_i b hb
    refine FW.cond hb ?_
    cases b
    · exact xCode_sound hc hm h hk
    · exact xCode_sound hc hm h hk
  | .block id x, E, r, K, h, hk => by
    simp only [xCode] at h
    split at h <;> try (cases h; done)
    rename_i e E' h1
    refine FW.block (xCode_sound hc hm h1 ?_)
    cases e with
    | exit id' =>
      simp only [blockK]
      simp only at h
      cases hb : Nat.beq id' id <;> rw [hb] at h <;> simp only [cond_true, cond_false] at h <;> cases h
      · rw [if_neg (Nat.ne_of_beq_eq_false hb)]; exact hk
      · rw [if_pos (Nat.eq_of_beq_eq_true hb)]; exact hk
    | _ => cases h; exact hk
  | .loop x, E, r, K, h, hk => by
    simp only [xCode] at h
    refine FW.loop (fun k E => xLoop (fun E => xCode P c m n x E) k E = some r) n h fun k E1 h1 => ?_
    cases k with
    | zero => cases h1
    | succ k =>
      simp only [xLoop] at h1
      split at h1 <;> try (cases h1; done)
      rename_i e E2 h2
      refine xCode_sound hc hm h2 ?_
      cases e with
      | normal => exact ⟨k, Nat.lt_succ_self k, h1⟩
      | _ => cases h1; exact hk
  | .reg none fs ks, E, r, K, h, hk => by
    simp only [xCode] at h
    split at h <;> try (cases h; done)
    rename_i E' h1
    cases h
    exact FW.reg (xOps_sound hc hm h1 hk)
  | .reg (some k) fs ks, E, r, K, h, hk => by
    simp only [xCode] at h
    cases hf : P.follows .mixedOrders && rootsOk (wrs (fs.take k)) E <;> rw [hf] at h <;> simp only [cond_true, cond_false] at h
    · cases h
    simp only [Bool.and_eq_true] at hf
    split at h <;> try (cases h; done)
    rename_i Ef h1
    split at h <;> try (cases h; done)
    rename_i E' h2
    cases h
    exact FW.draw hf.1 hf.2 (xDet_sound hc h1 (xOps_sound hc hm h2 hk))

/-- a function's form -/
structure XE where
  fc : FC
  N : Nat
  na : Nat
  rs : List RV
def XT := List (FuncId × XE)
def XT.find : List (FuncId × XE) → FuncId → Option XE
  | [], _ => none
  | (g, e) :: t, f => cond (Nat.beq g f) (some e) (XT.find t f)
/-- the forms are the program's -/
def XT.Good (P : Program) : List (FuncId × XE) → Prop
  | [] => True
  | (g, e) :: t => (∃ fn, P.funcs[g]? = some fn ∧ fnOk P fn e.fc e.N e.na e.rs = true) ∧ XT.Good P t
theorem XT.find_good : ∀ {t : List (FuncId × XE)} {f : FuncId} {e : XE}, XT.Good P t → XT.find t f = some e → ∃ fn, P.funcs[f]? = some fn ∧ fnOk P fn e.fc e.N e.na e.rs = true
  | [], f, e, _, h => by cases h
  | (g, e') :: t, f, e, hg, h => by
    simp only [XT.find] at h
    cases hb : Nat.beq g f <;> rw [hb] at h <;> simp only [cond_true, cond_false] at h
    · exact XT.find_good hg.2 h
    · have := Nat.eq_of_beq_eq_true hb
      subst this
      cases h
      exact hg.1
def xFin (rs : List RV) (e : Exit) (E : Env) : Option FV := match e with
  | .normal | .ret => match outs E rs with
    | some x => some (one x.1)
    | none => none
  | _ => none
def xRun (P : Program) (c : Calls) (m : Muts) (n : Nat) (e : XE) (fs : List FV) : Option FV :=
  cond (Nat.beq fs.length e.na) (match xCode P c m n e.fc (entryFrom 0 fs) with
    | some (x, E) => xFin e.rs x E
    | none => none) none
def xCall (P : Program) (t : List (FuncId × XE)) (prim : Calls) (m : Muts) (n : Nat) : Nat → FuncId → List FV → Option FV
  | 0, _, _ => none
  | k + 1, f, fs => match prim f fs with
    | some v => some v
    | none => match XT.find t f with
      | some e => xRun P (xCall P t prim m n k) m n e fs
      | none => none
theorem xCall_sound {t : List (FuncId × XE)} {prim : Calls} {n : Nat} (ht : XT.Good P t) (hp : SoundC P prim) (hm : SoundM P m) : ∀ k, SoundC P (xCall P t prim m n k)
  | 0 => fun f fs v h => by cases h
  | k + 1 => fun f fs v h => by
    simp only [xCall] at h
    split at h
    · rename_i u hu
      cases h
      exact hp _ _ _ hu
    · split at h <;> try (cases h; done)
      rename_i e he
      obtain ⟨fn, h1, h2⟩ := XT.find_good ht he
      unfold xRun at h
      cases hl : Nat.beq fs.length e.na <;> rw [hl] at h <;> simp only [cond_true, cond_false] at h
      · cases h
      split at h <;> try (cases h; done)
      rename_i x E hx
      refine FCall.of h1 h2 (Nat.eq_of_beq_eq_true hl) (xCode_sound (xCall_sound ht hp hm k) hm hx ?_)
      unfold xFin at h
      cases x <;> simp only at h <;> try (cases h; done)
      · split at h <;> cases h
        rename_i y hy
        exact ⟨.inl rfl, y, hy, rfl⟩
      · split at h <;> cases h
        rename_i y hy
        exact ⟨.inr rfl, y, hy, rfl⟩
end
end Go.Fm
set_option linter.unusedVariables false
namespace Go.Fx.Tryz
open Go Go.Fm Go.Proofs
/-- the forms of the functions -/
def tab : List (FuncId × XE) := [
  (n_law17_LawValidate, ⟨c_law17_LawValidate, 15, 1, [.t 2]⟩),
  (n_law17_LawSignature, ⟨c_law17_LawSignature, 28, 2, [.t 4]⟩),
  (n_law17_LawFind, ⟨c_law17_LawFind, 49, 3, [.t 6]⟩),
  (n_law17_LawWellTyped, ⟨c_law17_LawWellTyped, 66, 1, [.t 2]⟩),
  (n_law17_LawClone, ⟨c_law17_LawClone, 131, 3, [.t 6]⟩),
  (n_law17_LawOnDateValid, ⟨c_law17_LawOnDateValid, 32, 2, [.t 4]⟩),
  (n_same_SmallLaw, ⟨c_same_SmallLaw, 127, 1, [.t 2]⟩),
  (n_law17_awake, ⟨c_law17_awake, 19, 0, [.t 0]⟩),
  (n_law_Validate, ⟨c_law_Validate, 124, 1, [.c 2 4 true]⟩),
  (n_ref17_Validate, ⟨c_ref17_Validate, 67, 1, [.c 2 4 true]⟩),
  (n_same_Signature, ⟨c_same_Signature, 45, 2, [.t 4]⟩),
  (n_law_Signature, ⟨c_law_Signature, 50, 2, [.c 4 6 true]⟩),
  (n_ref17_Signature, ⟨c_ref17_Signature, 55, 2, [.c 4 6 true]⟩),
  (n_same_SymbolNames, ⟨c_same_SymbolNames, 38, 2, [.t 4]⟩),
  (n_law_SymbolNames, ⟨c_law_SymbolNames, 63, 2, [.c 4 5 true]⟩),
  (n_ref17_SymbolNames, ⟨c_ref17_SymbolNames, 71, 2, [.c 4 5 true]⟩),
  (n_law_Find, ⟨c_law_Find, 35, 3, [.t 6, .t 7, .t 8]⟩),
  (n_ref17_Find, ⟨c_ref17_Find, 42, 3, [.t 6, .t 7, .t 8]⟩),
  (n_law17_wellTyped, ⟨c_law17_wellTyped, 64, 3, [.t 6]⟩),
  (n_deps_EvaluationOrder, ⟨c_deps_EvaluationOrder, 73, 1, [.t 2, .t 3]⟩),
  (n_law_Clone, ⟨c_law_Clone, 61, 1, [.c 2 3 true]⟩),
  (n_law_Equal, ⟨c_law_Equal, 24, 2, [.t 4]⟩),
  (n_ref17_Equal, ⟨c_ref17_Equal, 8, 2, [.t 4]⟩),
  (n_effective_LawOn, ⟨c_effective_LawOn, 85, 2, [.c 4 3 true]⟩),
  (n_same_smallScope, ⟨c_same_smallScope, 93, 1, [.t 2]⟩),
  (n_same_TinyLaw, ⟨c_same_TinyLaw, 22, 1, [.c 2 3 true]⟩),
  (n_law_bad, ⟨c_law_bad, 14, 4, [.c 8 4 true]⟩),
  (n_law_name, ⟨c_law_name, 22, 4, [.c 8 4 true]⟩),
  (n_law_enum, ⟨c_law_enum, 46, 2, [.c 4 4 true]⟩),
  (n_law_rows, ⟨c_law_rows, 30, 3, [.c 6 4 true]⟩),
  (n_law_scope, ⟨c_law_scope, 115, 2, [.c 4 4 true]⟩),
  (n_ref17_enumError, ⟨c_ref17_enumError, 80, 2, [.c 4 4 true]⟩),
  (n_ref17_tableError, ⟨c_ref17_tableError, 47, 2, [.c 4 4 true]⟩),
  (n_ref17_scopeError, ⟨c_ref17_scopeError, 125, 2, [.c 4 4 true]⟩),
  (n_same_Enums, ⟨c_same_Enums, 33, 2, [.t 4]⟩),
  (n_same_Tables, ⟨c_same_Tables, 33, 2, [.t 4]⟩),
  (n_same_Types, ⟨c_same_Types, 32, 2, [.t 4]⟩),
  (n_law_enums, ⟨c_law_enums, 23, 1, [.t 2]⟩),
  (n_law_tables, ⟨c_law_tables, 22, 1, [.t 2]⟩),
  (n_law_types, ⟨c_law_types, 19, 1, [.t 2]⟩),
  (n_law_member, ⟨c_law_member, 24, 2, [.c 4 5 true, .t 5]⟩),
  (n_ref17_fieldTypes, ⟨c_ref17_fieldTypes, 20, 1, [.t 2]⟩),
  (n_same_Strings, ⟨c_same_Strings, 32, 2, [.t 4]⟩),
  (n_law_names, ⟨c_law_names, 19, 1, [.t 2]⟩),
  (n_ref17_fieldNames, ⟨c_ref17_fieldNames, 20, 1, [.t 2]⟩),
  (n_slices_IndexFunc_api_Scope_api_Scope, ⟨c_slices_IndexFunc_api_Scope_api_Scope, 19, 2, [.t 4]⟩),
  (n_law_Find_1, ⟨c_law_Find_1, 8, 2, [.t 3]⟩),
  (n_law_Find_2, ⟨c_law_Find_2, 8, 2, [.t 3]⟩),
  (n_slices_IndexFunc_api_Field_api_Field, ⟨c_slices_IndexFunc_api_Field_api_Field, 19, 2, [.t 4]⟩),
  (n_ref17_fieldIndex, ⟨c_ref17_fieldIndex, 20, 2, [.t 4]⟩),
  (n_expr_TypeOf, ⟨c_expr_TypeOf, 79, 2, [.c 4 2 true, .t 5, .t 6]⟩),
  (n_deps_Direct, ⟨c_deps_Direct, 66, 2, [.t 4]⟩),
  (n_slices_ContainsFunc_int_int, ⟨c_slices_ContainsFunc_int_int, 9, 2, [.t 4]⟩),
  (n_deps_EvaluationOrder_1, ⟨c_deps_EvaluationOrder_1, 9, 2, [.t 3]⟩),
  (n_slices_Clone_api_Field_api_Field, ⟨c_slices_Clone_api_Field_api_Field, 8, 1, [.t 2]⟩),
  (n_slices_Clone_api_Node_api_Node, ⟨c_slices_Clone_api_Node_api_Node, 8, 1, [.t 2]⟩),
  (n_slices_EqualFunc_api_Enum_api_Enum_api_Enum_api_Enum, ⟨c_slices_EqualFunc_api_Enum_api_Enum_api_Enum_api_Enum, 32, 3, [.t 6]⟩),
  (n_law_sameEnum, ⟨c_law_sameEnum, 17, 2, [.t 4]⟩),
  (n_slices_EqualFunc_api_Table_api_Table_api_Table_api_Table, ⟨c_slices_EqualFunc_api_Table_api_Table_api_Table_api_Table, 32, 3, [.t 6]⟩),
  (n_law_sameTable, ⟨c_law_sameTable, 31, 2, [.t 4]⟩),
  (n_slices_EqualFunc_api_Scope_api_Scope_api_Scope_api_Scope, ⟨c_slices_EqualFunc_api_Scope_api_Scope_api_Scope_api_Scope, 32, 3, [.t 6]⟩),
  (n_law_sameScope, ⟨c_law_sameScope, 38, 2, [.t 4]⟩),
  (n_same_Law, ⟨c_same_Law, 24, 2, [.t 4]⟩),
  (n_slices_Clone_string_string, ⟨c_slices_Clone_string_string, 8, 1, [.t 2]⟩),
  (n_daterange_Contains, ⟨c_daterange_Contains, 19, 2, [.t 4]⟩),
  (n_effective_scopeOn, ⟨c_effective_scopeOn, 71, 2, [.c 4 5 true]⟩),
  (n_lexer_IsIdentifier, ⟨c_lexer_IsIdentifier, 29, 1, [.t 2]⟩),
  (n_slices_Contains_string_string, ⟨c_slices_Contains_string_string, 9, 2, [.t 4]⟩),
  (n_table_Validate, ⟨c_table_Validate, 58, 2, [.t 4, .t 5]⟩),
  (n_law_fields, ⟨c_law_fields, 59, 5, [.c 10 4 true]⟩),
  (n_law_rule, ⟨c_law_rule, 102, 3, [.t 6]⟩),
  (n_slices_Contains_int_int, ⟨c_slices_Contains_int_int, 9, 2, [.t 4]⟩),
  (n_deps_Transitive, ⟨c_deps_Transitive, 59, 2, [.t 4]⟩),
  (n_ref08_IsIdentifier, ⟨c_ref08_IsIdentifier, 44, 1, [.t 2]⟩),
  (n_ref17_nameTaken, ⟨c_ref17_nameTaken, 88, 4, [.t 8]⟩),
  (n_ref12_Validate, ⟨c_ref12_Validate, 57, 2, [.t 4, .t 5]⟩),
  (n_ref17_fieldError, ⟨c_ref17_fieldError, 122, 2, [.c 4 4 true]⟩),
  (n_ref17_ruleError, ⟨c_ref17_ruleError, 144, 3, [.t 6]⟩),
  (n_ref16_Transitive, ⟨c_ref16_Transitive, 47, 2, [.t 4]⟩),
  (n_same_Enum, ⟨c_same_Enum, 17, 2, [.t 4]⟩),
  (n_same_Table, ⟨c_same_Table, 31, 2, [.t 4]⟩),
  (n_slices_Clone_api_Row_api_Row, ⟨c_slices_Clone_api_Row_api_Row, 8, 1, [.t 2]⟩),
  (n_expr_starts, ⟨c_expr_starts, 69, 1, [.t 2, .t 3, .t 4]⟩),
  (n_expr_operands, ⟨c_expr_operands, 37, 3, [.t 6]⟩),
  (n_expr_typeOf, ⟨c_expr_typeOf, 93, 3, [.c 6 2 true, .t 7]⟩),
  (n_deps_valid, ⟨c_deps_valid, 14, 2, [.t 4]⟩),
  (n_expr_References, ⟨c_expr_References, 53, 1, [.t 2, .t 3, .t 4]⟩),
  (n_slices_IndexFunc_int_int, ⟨c_slices_IndexFunc_int_int, 19, 2, [.t 4]⟩),
  (n_slices_Equal_string_string, ⟨c_slices_Equal_string_string, 26, 2, [.t 4]⟩),
  (n_slices_Equal_api_Row_api_Row, ⟨c_slices_Equal_api_Row_api_Row, 26, 2, [.t 4]⟩),
  (n_slices_Equal_api_Field_api_Field, ⟨c_slices_Equal_api_Field_api_Field, 26, 2, [.t 4]⟩),
  (n_slices_EqualFunc_api_Rule_api_Rule_api_Rule_api_Rule, ⟨c_slices_EqualFunc_api_Rule_api_Rule_api_Rule_api_Rule, 32, 3, [.t 6]⟩),
  (n_law_sameRule, ⟨c_law_sameRule, 59, 2, [.t 4]⟩),
  (n_same_Scopes, ⟨c_same_Scopes, 33, 2, [.t 4]⟩),
  (n_daterange_Valid, ⟨c_daterange_Valid, 18, 1, [.t 2]⟩),
  (n_effective_ancestor, ⟨c_effective_ancestor, 29, 3, [.t 6]⟩),
  (n_lexer_lower, ⟨c_lexer_lower, 9, 1, [.t 2]⟩),
  (n_lexer_run, ⟨c_lexer_run, 20, 2, [.t 4]⟩),
  (n_lexer_part, ⟨c_lexer_part, 13, 1, [.t 2]⟩),
  (n_slices_Index_string_string, ⟨c_slices_Index_string_string, 19, 2, [.t 4]⟩),
  (n_value_ValidType, ⟨c_value_ValidType, 28, 2, [.t 4]⟩),
  (n_table_check, ⟨c_table_check, 82, 3, [.t 6]⟩),
  (n_table_conflict, ⟨c_table_conflict, 29, 2, [.t 4]⟩),
  (n_law_named, ⟨c_law_named, 69, 2, [.t 4]⟩),
  (n_law_source, ⟨c_law_source, 29, 1, [.t 2]⟩),
  (n_law_expression, ⟨c_law_expression, 25, 3, [.t 6]⟩),
  (n_slices_Index_int_int, ⟨c_slices_Index_int_int, 19, 2, [.t 4]⟩),
  (n_ref08_lower, ⟨c_ref08_lower, 9, 1, [.t 2]⟩),
  (n_ref08_word, ⟨c_ref08_word, 13, 1, [.t 2]⟩),
  (n_ref08_Reserved, ⟨c_ref08_Reserved, 2, 0, [.t 0]⟩),
  (n_ref09_ValidType, ⟨c_ref09_ValidType, 31, 2, [.t 4]⟩),
  (n_ref12_wrong, ⟨c_ref12_wrong, 53, 3, [.t 6]⟩),
  (n_ref12_conflict, ⟨c_ref12_conflict, 29, 2, [.t 4]⟩),
  (n_ref17_hasField, ⟨c_ref17_hasField, 26, 3, [.t 6]⟩),
  (n_ref05_Valid, ⟨c_ref05_Valid, 18, 1, [.t 2]⟩),
  (n_ref17_plainText, ⟨c_ref17_plainText, 29, 1, [.t 2]⟩),
  (n_ref17_exprError, ⟨c_ref17_exprError, 23, 3, [.t 6]⟩),
  (n_ref16_Direct, ⟨c_ref16_Direct, 93, 2, [.t 4]⟩),
  (n_ref16_insert, ⟨c_ref16_insert, 48, 2, [.t 4]⟩),
  (n_same_Rows, ⟨c_same_Rows, 32, 2, [.t 4]⟩),
  (n_expr_Arity, ⟨c_expr_Arity, 31, 1, [.t 2]⟩),
  (n_expr_number, ⟨c_expr_number, 67, 1, [.t 2]⟩),
  (n_expr_leaf, ⟨c_expr_leaf, 109, 2, [.c 4 2 true, .t 5]⟩),
  (n_expr_table, ⟨c_expr_table, 24, 2, [.c 4 6 true, .t 5]⟩),
  (n_expr_result, ⟨c_expr_result, 156, 2, [.c 4 2 true]⟩),
  (n_expr_References_1, ⟨c_expr_References_1, 7, 1, [.t 2]⟩),
  (n_slices_Equal_api_Node_api_Node, ⟨c_slices_Equal_api_Node_api_Node, 26, 2, [.t 4]⟩),
  (n_same_Scope, ⟨c_same_Scope, 38, 2, [.t 4]⟩),
  (n_lexer_digit, ⟨c_lexer_digit, 9, 1, [.t 2]⟩),
  (n_value_Bounds, ⟨c_value_Bounds, 30, 2, [.t 4, .t 5]⟩),
  (n_daterange_Intersect, ⟨c_daterange_Intersect, 35, 2, [.c 4 2 true, .t 5]⟩),
  (n_ref08_digit, ⟨c_ref08_digit, 9, 1, [.t 2]⟩),
  (n_ref09_In, ⟨c_ref09_In, 23, 3, [.t 6]⟩),
  (n_ref05_Intersect, ⟨c_ref05_Intersect, 34, 2, [.c 4 2 true, .t 5]⟩),
  (n_ref10_TypeOf, ⟨c_ref10_TypeOf, 67, 2, [.c 4 2 true, .t 5, .t 6]⟩),
  (n_ref16_is, ⟨c_ref16_is, 14, 2, [.t 4]⟩),
  (n_ref10_References, ⟨c_ref10_References, 55, 1, [.t 2, .t 3, .t 4]⟩),
  (n_expr_meaning, ⟨c_expr_meaning, 19, 1, [.t 2]⟩),
  (n_expr_at_api_Enum, ⟨c_expr_at_api_Enum, 20, 2, [.c 4 2 true, .t 5]⟩),
  (n_expr_at_string, ⟨c_expr_at_string, 20, 2, [.t 4, .t 5]⟩),
  (n_expr_at_api_Type, ⟨c_expr_at_api_Type, 20, 2, [.c 4 2 true, .t 5]⟩),
  (n_expr_aggregate, ⟨c_expr_aggregate, 23, 2, [.t 4]⟩),
  (n_expr_at_api_Table, ⟨c_expr_at_api_Table, 20, 2, [.c 4 6 true, .t 5]⟩),
  (n_expr_result_1, ⟨c_expr_result_1, 10, 2, [.c 4 2 true]⟩),
  (n_expr_numeric, ⟨c_expr_numeric, 13, 1, [.t 2]⟩),
  (n_expr_arithmetic, ⟨c_expr_arithmetic, 77, 3, [.t 6]⟩),
  (n_expr_ordered, ⟨c_expr_ordered, 9, 1, [.t 2]⟩),
  (n_same_Fields, ⟨c_same_Fields, 32, 2, [.t 4]⟩),
  (n_same_Rules, ⟨c_same_Rules, 33, 2, [.t 4]⟩),
  (n_daterange_proper, ⟨c_daterange_proper, 12, 1, [.t 2]⟩),
  (n_ref09_Bounds, ⟨c_ref09_Bounds, 30, 2, [.t 4, .t 5]⟩),
  (n_ref10_structure, ⟨c_ref10_structure, 70, 1, [.t 2, .t 3, .t 4]⟩),
  (n_ref10_Arity, ⟨c_ref10_Arity, 33, 1, [.t 2]⟩),
  (n_ref10_Result, ⟨c_ref10_Result, 87, 3, [.c 6 2 true, .t 7]⟩),
  (n_ref10_insert, ⟨c_ref10_insert, 48, 2, [.t 4]⟩),
  (n_expr_literal, ⟨c_expr_literal, 10, 1, [.t 2]⟩),
  (n_same_Rule, ⟨c_same_Rule, 59, 2, [.t 4]⟩),
  (n_ref10_meaning, ⟨c_ref10_meaning, 35, 1, [.t 2]⟩),
  (n_ref10_ranged, ⟨c_ref10_ranged, 62, 2, [.t 4]⟩),
  (n_ref10_found, ⟨c_ref10_found, 103, 2, [.t 4]⟩),
  (n_ref10_leaf, ⟨c_ref10_leaf, 91, 2, [.c 4 2 true, .t 5]⟩),
  (n_ref10_single, ⟨c_ref10_single, 82, 3, [.c 6 2 true, .t 7]⟩),
  (n_ref10_double, ⟨c_ref10_double, 108, 3, [.c 6 2 true, .t 7]⟩),
  (n_same_Nodes, ⟨c_same_Nodes, 32, 2, [.t 4]⟩),
  (n_ref10_kind, ⟨c_ref10_kind, 5, 1, [.c 2 2 true]⟩),
  (n_ref10_ordered, ⟨c_ref10_ordered, 9, 1, [.t 2]⟩),
  (n_ref10_number, ⟨c_ref10_number, 13, 1, [.t 2]⟩),
  (n_ref10_scaled, ⟨c_ref10_scaled, 56, 3, [.c 6 2 true, .t 7]⟩)]
theorem tab_good : XT.Good Tryz.prog tab := ⟨⟨_, u_law17_LawValidate, k_law17_LawValidate⟩, ⟨_, u_law17_LawSignature, k_law17_LawSignature⟩, ⟨_, u_law17_LawFind, k_law17_LawFind⟩, ⟨_, u_law17_LawWellTyped, k_law17_LawWellTyped⟩, ⟨_, u_law17_LawClone, k_law17_LawClone⟩, ⟨_, u_law17_LawOnDateValid, k_law17_LawOnDateValid⟩, ⟨_, u_same_SmallLaw, k_same_SmallLaw⟩, ⟨_, u_law17_awake, k_law17_awake⟩, ⟨_, u_law_Validate, k_law_Validate⟩, ⟨_, u_ref17_Validate, k_ref17_Validate⟩, ⟨_, u_same_Signature, k_same_Signature⟩, ⟨_, u_law_Signature, k_law_Signature⟩, ⟨_, u_ref17_Signature, k_ref17_Signature⟩, ⟨_, u_same_SymbolNames, k_same_SymbolNames⟩, ⟨_, u_law_SymbolNames, k_law_SymbolNames⟩, ⟨_, u_ref17_SymbolNames, k_ref17_SymbolNames⟩, ⟨_, u_law_Find, k_law_Find⟩, ⟨_, u_ref17_Find, k_ref17_Find⟩, ⟨_, u_law17_wellTyped, k_law17_wellTyped⟩, ⟨_, u_deps_EvaluationOrder, k_deps_EvaluationOrder⟩, ⟨_, u_law_Clone, k_law_Clone⟩, ⟨_, u_law_Equal, k_law_Equal⟩, ⟨_, u_ref17_Equal, k_ref17_Equal⟩, ⟨_, u_effective_LawOn, k_effective_LawOn⟩, ⟨_, u_same_smallScope, k_same_smallScope⟩, ⟨_, u_same_TinyLaw, k_same_TinyLaw⟩, ⟨_, u_law_bad, k_law_bad⟩, ⟨_, u_law_name, k_law_name⟩, ⟨_, u_law_enum, k_law_enum⟩, ⟨_, u_law_rows, k_law_rows⟩, ⟨_, u_law_scope, k_law_scope⟩, ⟨_, u_ref17_enumError, k_ref17_enumError⟩, ⟨_, u_ref17_tableError, k_ref17_tableError⟩, ⟨_, u_ref17_scopeError, k_ref17_scopeError⟩, ⟨_, u_same_Enums, k_same_Enums⟩, ⟨_, u_same_Tables, k_same_Tables⟩, ⟨_, u_same_Types, k_same_Types⟩, ⟨_, u_law_enums, k_law_enums⟩, ⟨_, u_law_tables, k_law_tables⟩, ⟨_, u_law_types, k_law_types⟩, ⟨_, u_law_member, k_law_member⟩, ⟨_, u_ref17_fieldTypes, k_ref17_fieldTypes⟩, ⟨_, u_same_Strings, k_same_Strings⟩, ⟨_, u_law_names, k_law_names⟩, ⟨_, u_ref17_fieldNames, k_ref17_fieldNames⟩, ⟨_, u_slices_IndexFunc_api_Scope_api_Scope, k_slices_IndexFunc_api_Scope_api_Scope⟩, ⟨_, u_law_Find_1, k_law_Find_1⟩, ⟨_, u_law_Find_2, k_law_Find_2⟩, ⟨_, u_slices_IndexFunc_api_Field_api_Field, k_slices_IndexFunc_api_Field_api_Field⟩, ⟨_, u_ref17_fieldIndex, k_ref17_fieldIndex⟩, ⟨_, u_expr_TypeOf, k_expr_TypeOf⟩, ⟨_, u_deps_Direct, k_deps_Direct⟩, ⟨_, u_slices_ContainsFunc_int_int, k_slices_ContainsFunc_int_int⟩, ⟨_, u_deps_EvaluationOrder_1, k_deps_EvaluationOrder_1⟩, ⟨_, u_slices_Clone_api_Field_api_Field, k_slices_Clone_api_Field_api_Field⟩, ⟨_, u_slices_Clone_api_Node_api_Node, k_slices_Clone_api_Node_api_Node⟩, ⟨_, u_slices_EqualFunc_api_Enum_api_Enum_api_Enum_api_Enum, k_slices_EqualFunc_api_Enum_api_Enum_api_Enum_api_Enum⟩, ⟨_, u_law_sameEnum, k_law_sameEnum⟩, ⟨_, u_slices_EqualFunc_api_Table_api_Table_api_Table_api_Table, k_slices_EqualFunc_api_Table_api_Table_api_Table_api_Table⟩, ⟨_, u_law_sameTable, k_law_sameTable⟩, ⟨_, u_slices_EqualFunc_api_Scope_api_Scope_api_Scope_api_Scope, k_slices_EqualFunc_api_Scope_api_Scope_api_Scope_api_Scope⟩, ⟨_, u_law_sameScope, k_law_sameScope⟩, ⟨_, u_same_Law, k_same_Law⟩, ⟨_, u_slices_Clone_string_string, k_slices_Clone_string_string⟩, ⟨_, u_daterange_Contains, k_daterange_Contains⟩, ⟨_, u_effective_scopeOn, k_effective_scopeOn⟩, ⟨_, u_lexer_IsIdentifier, k_lexer_IsIdentifier⟩, ⟨_, u_slices_Contains_string_string, k_slices_Contains_string_string⟩, ⟨_, u_table_Validate, k_table_Validate⟩, ⟨_, u_law_fields, k_law_fields⟩, ⟨_, u_law_rule, k_law_rule⟩, ⟨_, u_slices_Contains_int_int, k_slices_Contains_int_int⟩, ⟨_, u_deps_Transitive, k_deps_Transitive⟩, ⟨_, u_ref08_IsIdentifier, k_ref08_IsIdentifier⟩, ⟨_, u_ref17_nameTaken, k_ref17_nameTaken⟩, ⟨_, u_ref12_Validate, k_ref12_Validate⟩, ⟨_, u_ref17_fieldError, k_ref17_fieldError⟩, ⟨_, u_ref17_ruleError, k_ref17_ruleError⟩, ⟨_, u_ref16_Transitive, k_ref16_Transitive⟩, ⟨_, u_same_Enum, k_same_Enum⟩, ⟨_, u_same_Table, k_same_Table⟩, ⟨_, u_slices_Clone_api_Row_api_Row, k_slices_Clone_api_Row_api_Row⟩, ⟨_, u_expr_starts, k_expr_starts⟩, ⟨_, u_expr_operands, k_expr_operands⟩, ⟨_, u_expr_typeOf, k_expr_typeOf⟩, ⟨_, u_deps_valid, k_deps_valid⟩, ⟨_, u_expr_References, k_expr_References⟩, ⟨_, u_slices_IndexFunc_int_int, k_slices_IndexFunc_int_int⟩, ⟨_, u_slices_Equal_string_string, k_slices_Equal_string_string⟩, ⟨_, u_slices_Equal_api_Row_api_Row, k_slices_Equal_api_Row_api_Row⟩, ⟨_, u_slices_Equal_api_Field_api_Field, k_slices_Equal_api_Field_api_Field⟩, ⟨_, u_slices_EqualFunc_api_Rule_api_Rule_api_Rule_api_Rule, k_slices_EqualFunc_api_Rule_api_Rule_api_Rule_api_Rule⟩, ⟨_, u_law_sameRule, k_law_sameRule⟩, ⟨_, u_same_Scopes, k_same_Scopes⟩, ⟨_, u_daterange_Valid, k_daterange_Valid⟩, ⟨_, u_effective_ancestor, k_effective_ancestor⟩, ⟨_, u_lexer_lower, k_lexer_lower⟩, ⟨_, u_lexer_run, k_lexer_run⟩, ⟨_, u_lexer_part, k_lexer_part⟩, ⟨_, u_slices_Index_string_string, k_slices_Index_string_string⟩, ⟨_, u_value_ValidType, k_value_ValidType⟩, ⟨_, u_table_check, k_table_check⟩, ⟨_, u_table_conflict, k_table_conflict⟩, ⟨_, u_law_named, k_law_named⟩, ⟨_, u_law_source, k_law_source⟩, ⟨_, u_law_expression, k_law_expression⟩, ⟨_, u_slices_Index_int_int, k_slices_Index_int_int⟩, ⟨_, u_ref08_lower, k_ref08_lower⟩, ⟨_, u_ref08_word, k_ref08_word⟩, ⟨_, u_ref08_Reserved, k_ref08_Reserved⟩, ⟨_, u_ref09_ValidType, k_ref09_ValidType⟩, ⟨_, u_ref12_wrong, k_ref12_wrong⟩, ⟨_, u_ref12_conflict, k_ref12_conflict⟩, ⟨_, u_ref17_hasField, k_ref17_hasField⟩, ⟨_, u_ref05_Valid, k_ref05_Valid⟩, ⟨_, u_ref17_plainText, k_ref17_plainText⟩, ⟨_, u_ref17_exprError, k_ref17_exprError⟩, ⟨_, u_ref16_Direct, k_ref16_Direct⟩, ⟨_, u_ref16_insert, k_ref16_insert⟩, ⟨_, u_same_Rows, k_same_Rows⟩, ⟨_, u_expr_Arity, k_expr_Arity⟩, ⟨_, u_expr_number, k_expr_number⟩, ⟨_, u_expr_leaf, k_expr_leaf⟩, ⟨_, u_expr_table, k_expr_table⟩, ⟨_, u_expr_result, k_expr_result⟩, ⟨_, u_expr_References_1, k_expr_References_1⟩, ⟨_, u_slices_Equal_api_Node_api_Node, k_slices_Equal_api_Node_api_Node⟩, ⟨_, u_same_Scope, k_same_Scope⟩, ⟨_, u_lexer_digit, k_lexer_digit⟩, ⟨_, u_value_Bounds, k_value_Bounds⟩, ⟨_, u_daterange_Intersect, k_daterange_Intersect⟩, ⟨_, u_ref08_digit, k_ref08_digit⟩, ⟨_, u_ref09_In, k_ref09_In⟩, ⟨_, u_ref05_Intersect, k_ref05_Intersect⟩, ⟨_, u_ref10_TypeOf, k_ref10_TypeOf⟩, ⟨_, u_ref16_is, k_ref16_is⟩, ⟨_, u_ref10_References, k_ref10_References⟩, ⟨_, u_expr_meaning, k_expr_meaning⟩, ⟨_, u_expr_at_api_Enum, k_expr_at_api_Enum⟩, ⟨_, u_expr_at_string, k_expr_at_string⟩, ⟨_, u_expr_at_api_Type, k_expr_at_api_Type⟩, ⟨_, u_expr_aggregate, k_expr_aggregate⟩, ⟨_, u_expr_at_api_Table, k_expr_at_api_Table⟩, ⟨_, u_expr_result_1, k_expr_result_1⟩, ⟨_, u_expr_numeric, k_expr_numeric⟩, ⟨_, u_expr_arithmetic, k_expr_arithmetic⟩, ⟨_, u_expr_ordered, k_expr_ordered⟩, ⟨_, u_same_Fields, k_same_Fields⟩, ⟨_, u_same_Rules, k_same_Rules⟩, ⟨_, u_daterange_proper, k_daterange_proper⟩, ⟨_, u_ref09_Bounds, k_ref09_Bounds⟩, ⟨_, u_ref10_structure, k_ref10_structure⟩, ⟨_, u_ref10_Arity, k_ref10_Arity⟩, ⟨_, u_ref10_Result, k_ref10_Result⟩, ⟨_, u_ref10_insert, k_ref10_insert⟩, ⟨_, u_expr_literal, k_expr_literal⟩, ⟨_, u_same_Rule, k_same_Rule⟩, ⟨_, u_ref10_meaning, k_ref10_meaning⟩, ⟨_, u_ref10_ranged, k_ref10_ranged⟩, ⟨_, u_ref10_found, k_ref10_found⟩, ⟨_, u_ref10_leaf, k_ref10_leaf⟩, ⟨_, u_ref10_single, k_ref10_single⟩, ⟨_, u_ref10_double, k_ref10_double⟩, ⟨_, u_same_Nodes, k_same_Nodes⟩, ⟨_, u_ref10_kind, k_ref10_kind⟩, ⟨_, u_ref10_ordered, k_ref10_ordered⟩, ⟨_, u_ref10_number, k_ref10_number⟩, ⟨_, u_ref10_scaled, k_ref10_scaled⟩, trivial⟩
end Go.Fx.Tryz
namespace Go.Fx.Tryz
open Go Go.Fm Go.Proofs
theorem p_sort {zs : List Int} (h : zs.length < 4611686018427387904) : FMut Tryz.prog n_slices_Sort_int_int (ints zs) (· = ints (zs.mergeSort fun x y => decide (x ≤ y))) :=
  FMut.sort (fun blk off cap zs w => Go.Proofs.Tryz.slices_Sort_int blk off cap zs w) (fun p cap w => Go.Proofs.Tryz.slices_Sort_int_none p cap w) h
end Go.Fx.Tryz
/- The library's functions for the interpreter: what it may ask of them, computed. -/
set_option linter.unusedVariables false
set_option linter.unusedSimpArgs false
namespace Go.Fm
open Go
def toInts : List (List FV) → Option (List Int)
  | [] => some []
  | r :: es => match r with
    | [.int .i64 z] => (toInts es).map (z :: ·)
    | _ => none
theorem toInts_eq : ∀ {es : List (List FV)} {zs : List Int}, toInts es = some zs → es = ints zs
  | [], zs, h => by cases h; rfl
  | r :: es, zs, h => by
    simp only [toInts] at h
    split at h <;> try (cases h; done)
    rw [Option.map_eq_some_iff] at h
    obtain ⟨ys, h1, rfl⟩ := h
    rw [toInts_eq h1]; rfl
def sortedB : List Int → Bool
  | a :: b :: l => decide (a ≤ b) && sortedB (b :: l)
  | _ => true
theorem sortedB_pw : ∀ {l : List Int}, sortedB l = true → l.Pairwise (fun a b => decide (a ≤ b) = true)
  | [], _ => .nil
  | [a], _ => List.pairwise_singleton _ _
  | a :: b :: l, h => by
    simp only [sortedB, Bool.and_eq_true] at h
    have ih := sortedB_pw h.2
    refine List.pairwise_cons.2 ⟨fun x hx => ?_, ih⟩
    rcases List.mem_cons.1 hx with rfl | hx
    · exact h.1
    · have h1 := (List.pairwise_cons.1 ih).1 x hx
      have h2 := h.1
      simp only [decide_eq_true_eq] at h1 h2 ⊢
      omega
def primSort (n : FuncId) : Muts := fun f es => cond (Nat.beq f n) (match toInts es with
  | some zs => cond (sortedB zs && Nat.blt zs.length 1000000) (some es) none
  | none => none) none
theorem primSort_sound {P : Program} {n : FuncId} (h : ∀ {zs : List Int}, zs.length < 4611686018427387904 → FMut P n (ints zs) (· = ints (zs.mergeSort fun x y => decide (x ≤ y)))) : SoundM P (primSort n) := fun f es es' he => by
  unfold primSort at he
  cases hb : Nat.beq f n <;> rw [hb] at he <;> simp only [cond_true, cond_false] at he
  · cases he
  have := Nat.eq_of_beq_eq_true hb
  subst this
  split at he <;> try (cases he; done)
  rename_i zs hz
  cases hc : sortedB zs && Nat.blt zs.length 1000000 <;> rw [hc] at he <;> simp only [cond_true, cond_false] at he
  · cases he
  cases he
  simp only [Bool.and_eq_true, Nat.blt_eq] at hc
  have e1 := toInts_eq hz
  subst e1
  have h2 := h (zs := zs) (by omega)
  rw [List.mergeSort_of_pairwise (sortedB_pw hc.1)] at h2
  exact h2
def primStr (nc nk : FuncId) : Calls := fun f fs => cond (Nat.beq f nc) (match fs with
    | [.str a, .str b] => cond (Nat.blt a.length 1000000) (some (.bool (Lib.contains a b))) none
    | _ => none) (cond (Nat.beq f nk) (match fs with
    | [.arr es] => match toInts es with
      | some zs => cond (Nat.blt zs.length 1000000) (some (.arr (ints (Lib.compact zs)))) none
      | none => none
    | _ => none) none)
theorem primStr_sound {P : Program} {nc nk : FuncId} (h1 : ∀ {a b : List UInt8}, a.length < 4294967281 → FCall P nc [.str a, .str b] (· = .bool (Lib.contains a b)))
    (h2 : ∀ {zs : List Int}, zs.length ≤ 9223372036854775807 → FCall P nk [.arr (ints zs)] (· = .arr (ints (Lib.compact zs)))) : SoundC P (primStr nc nk) := fun f fs v he => by
  unfold primStr at he
  cases hb : Nat.beq f nc <;> rw [hb] at he <;> simp only [cond_true, cond_false] at he
  · cases hk : Nat.beq f nk <;> rw [hk] at he <;> simp only [cond_true, cond_false] at he
    · cases he
    have := Nat.eq_of_beq_eq_true hk
    subst this
    split at he <;> try (cases he; done)
    split at he <;> try (cases he; done)
    rename_i zs hz
    cases hc : Nat.blt zs.length 1000000 <;> rw [hc] at he <;> simp only [cond_true, cond_false] at he
    · cases he
    cases he
    rw [Nat.blt_eq] at hc
    rw [toInts_eq hz]
    exact h2 (by omega)
  · have := Nat.eq_of_beq_eq_true hb
    subst this
    split at he <;> try (cases he; done)
    rename_i a b
    cases hc : Nat.blt a.length 1000000 <;> rw [hc] at he <;> simp only [cond_true, cond_false] at he
    · cases he
    cases he
    rw [Nat.blt_eq] at hc
    exact h1 (by omega)
end Go.Fm
/- The statements' own awake check, by computation. -/
namespace Go.Fx.Tryz
open Go Go.Fm Go.Proofs
noncomputable abbrev call (k : Nat) : Fm.Calls := xCall Tryz.prog tab (primStr n_strings_Contains n_slices_Compact_int_int) (primSort n_slices_Sort_int_int) 1000 k
theorem call_sound (k : Nat) : SoundC Tryz.prog (call k) := xCall_sound tab_good (primStr_sound p_contains p_compact) (primSort_sound p_sort) k
theorem awake_x : call 20 n_law17_awake [] = some (.bool true) := by kernel_rfl
theorem awake : FCall Tryz.prog n_law17_awake [] (· = .bool true) := call_sound 20 _ _ _ awake_x
end Go.Fx.Tryz
set_option linter.unusedVariables false
set_option linter.unusedSimpArgs false
namespace Go.Fx.Tryz
open Go Go.Fm Go.Proofs Go.Proofs.YtdjbhceoodcphaaGreat
open Go.ChangeShapes Go.WideShapes Go.ChangeAt Go.RowKit
theorem own : ownKnob Tryz.prog.godebug = none := by kernel_rfl
theorem laidOut : laidOutB Tryz.prog = true := by kernel_rfl
theorem bulk_mem {H : Type} : ∀ {ds : List (DataW H)} {d : DataW H}, d ∈ ds → Rows.uptoBulk d ≤ Rows.uptoBulkAll ds
  | [], _, m => by cases m
  | x :: ds, d, m => by
    rw [Rows.uptoBulkAll]
    rcases List.mem_cons.1 m with rfl | m
    · omega
    · have := bulk_mem m; omega
theorem bulk_pos {H : Type} : ∀ (d : DataW H), 1 ≤ Rows.uptoBulk d := by
  intro d; cases d with
  | lit l => cases l <;> simp [Rows.uptoBulk]
  | _ => simp [Rows.uptoBulk]
theorem bulk_len {H : Type} : ∀ (ds : List (DataW H)), ds.length ≤ Rows.uptoBulkAll ds
  | [] => Nat.zero_le _
  | d :: ds => by have := bulk_len ds; have := bulk_pos d; simp only [Rows.uptoBulkAll, List.length_cons]; omega
theorem bnd {H : Type} : Bnd (fun d : DataW H => Rows.uptoBulk d ≤ 1048576) 1048576 where
  str h _ := by simp [Rows.uptoBulk] at h; omega
  sl {es rest} h _ := by
    simp only [Rows.uptoBulk] at h
    have := bulk_len es
    exact ⟨by omega, fun d m => by have := bulk_mem m; omega⟩
  agg {xs} h d m := by simp only [Rows.uptoBulk] at h; have := bulk_mem m; omega
theorem bulk_of {H : Type} {ds gs : List (DataW H)} (hk : Rows.uptoSmall H (ds ++ gs) = true) {d : DataW H} (m : d ∈ ds) : Rows.uptoBulk d ≤ 1048576 := by
  have h1 := bulk_mem (ds := ds ++ gs) (d := d) (by simp [m])
  simp only [Rows.uptoSmall, decide_eq_true_eq] at hk
  omega
def cellsOfTab : DataW Unit → Array Value
  | .agg xs => (xs.map fun | .lit (.int k n) => Value.int k n | _ => Value.int .i64 0).toArray
  | _ => #[]
noncomputable def layAt (x : String × DataW Unit) (w : World) : World :=
  match Tryz.prog.globalNamed x.1 with
  | some g => { w with heap := w.heap.modify g fun | .cells _ t frozen => .cells (cellsOfTab x.2) t frozen | o => o }
  | none => w
theorem maxLen_here {W : World} (hS : W.ShapedOpen Tryz.prog) : ∀ g, Tryz.prog.globalNamed "internal/bytealg.MaxLen" = some g → g < W.heap.size ∧ ∃ m : Int, W.cell? ⟨g, 0, none⟩ = some (.int .i64 m) := fun g hg => by
  obtain rfl : g = 0 := Option.some.inj (hg.symm.trans (show Tryz.prog.globalNamed "internal/bytealg.MaxLen" = some 0 by kernel_rfl))
  exact int_of_shape (t := 3) (zero := #[.int .i64 0]) (k := .i64) hS (of_decide_eq_true (by kernel_rfl)) (by kernel_rfl) rfl (by kernel_rfl) (by kernel_rfl) (by kernel_rfl)
theorem ambHere {W : World} {L : List (String × DataW Unit)} (hL : laidMet Tryz.prog L W) (hS : W.ShapedOpen Tryz.prog) : Amb Tryz.prog W (fun b => b < W.heap.size) := amb_none (by kernel_rfl) (maxLen_here hS)
end Go.Fx.Tryz
set_option linter.unusedVariables false
set_option linter.unusedSimpArgs false
namespace Go.Fx.Tryz
open Go Go.Fm Go.Proofs
theorem mid_of_bnd {l : LawL} (h : l.bnd 1048576) : l.mid := by
  obtain ⟨b1, b2, b3, b4, b5, b6⟩ := h
  exact ⟨by omega, fun x m => by have := (b2 x m).2.1; omega, by omega, fun x m => by have := (b4 x m).2.2.2.2.2.1; omega, by omega, fun x m => by have := (b6 x m).2.2.1; have := (b6 x m).2.2.2.2.1; exact ⟨by omega, by omega⟩⟩
theorem hc_law17_LawSignature : ∀ fs, ArgsHave 1048576 [(true, ty_Law), (false, .int .i64)] fs → FCall Tryz.prog n_law17_LawSignature fs (· = .bool true) := by
  rintro _ ⟨_, _, rfl, ⟨_, rfl, h0⟩, _, _, rfl, h1, rfl⟩
  obtain ⟨l, rfl, hl⟩ := has_Law _ h0
  obtain ⟨n, h1, hn⟩ := has_Int (B := 1048576) _ h1
  obtain rfl := (List.cons.inj h1).1
  have hm := mid_of_bnd hl
  obtain ⟨b1, b2, b3, b4, b5, b6⟩ := hl
  exact law_signature (fun t m => by have := (b4 t m).2.2.2.2.2.1; omega) (fun s m => by have := (b6 s m).2.2.2.2.2.2.1; omega) hm awake
end Go.Fx.Tryz
set_option linter.unusedVariables false
set_option linter.unusedSimpArgs false
namespace Go.Fx.Tryz
open Go Go.Fm Go.Proofs Go.Proofs.YtdjbhceoodcphaaGreat
open Go.ChangeShapes Go.WideShapes Go.ChangeAt Go.RowKit
theorem tys_law17_LawSignature : argTys Tryz.prog 12 Go.Proofs.Tryz.f4.params.toList = some [(true, ty_Law), (false, .int .i64)] := by kernel_rfl
set_option maxRecDepth 100000 in
theorem contract_law17_LawSignature (H : Type) (enc : TypeId × Value → H) (W : World) (base : Nat) (args : Array Value) (ds gs : List (DataW H)) (before : List MemPlace)
    (hval : ∀ (j : Nat) t v, Go.Proofs.Tryz.f4.params[j]? = some t → args[j]? = some v → Value.okWide Tryz.prog W .any base t v)
    (hW : DataW.Whole enc Tryz.prog Go.Proofs.Tryz.f4.params.toList Rows.lawSignatureSpec.vars false W args.toList ds gs before) (hk : Rows.uptoSmall H (ds ++ gs) = true)
    (hL : laidMet Tryz.prog Rows.lawSignatureRow.laid W) (hS : W.ShapedOpen Tryz.prog) :
    Calls Tryz.prog 4 args W fun e W' => ∃ v, e = .returned v ∧ Rows.lawSignatureSpec.post enc Tryz.prog Go.Proofs.Tryz.f4 false true false false W args v W' :=
  row_all (tb := 4) bnd laidOut rfl (by kernel_rfl) tys_law17_LawSignature (fun ds h => by match ds, h with | [_, _], _ => rfl) (by kernel_rfl) Tryz.underlying4 hc_law17_LawSignature hval hW (fun d m => bulk_of hk m) (ambHere hL hS)
noncomputable def laidWorld_law17_LawSignature (os : Os) : World := Rows.lawSignatureRow.laid.foldr layAt (World.holding Tryz.prog os ⟨#[], #[], []⟩)
theorem laid_law17_LawSignature (os : Os) : laidMet Tryz.prog Rows.lawSignatureRow.laid ((laidWorld_law17_LawSignature os).forCall (fun _ _ => 0) ⟨#[], #[Value.agg #[.slice none 0 0, .slice none 0 0, .slice none 0 0], Value.int .i64 0], []⟩).memory :=
  laidMet_of_run' 8 (by kernel_rfl) (by kernel_rfl)
theorem reads_law17_LawSignature (os : Os) {H : Type} (enc : TypeId × Value → H) : ∃ places, DataW.whole enc Tryz.prog ((laidWorld_law17_LawSignature os).forCall (fun _ _ => 0) ⟨#[], #[Value.agg #[.slice none 0 0, .slice none 0 0, .slice none 0 0], Value.int .i64 0], []⟩).memory Go.Proofs.Tryz.f4.params.toList Rows.lawSignatureSpec.vars false (#[Value.agg #[.slice none 0 0, .slice none 0 0, .slice none 0 0], Value.int .i64 0] : Array Value).toList 8 = some ([.agg [.nil, .nil, .nil], .lit (.int .i64 0)], [], places) :=
  ⟨[], by kernel_rfl⟩
set_option maxRecDepth 100000 in
theorem lifted_law17_LawSignature (os : Os) (started : os.Started) (H : Type) (enc : TypeId × Value → H) (F : Stop.Interp) :
    ReturnsInHanded {} Tryz.checked os 4 .any ((Rows.OpenSpec.upto Rows.lawSignatureSpec).preRow enc Tryz.prog Go.Proofs.Tryz.f4 Rows.lawSignatureUptoRow.domain false Rows.lawSignatureUptoRow.laid) (((Rows.OpenSpec.upto Rows.lawSignatureSpec).at F).post enc Tryz.prog Go.Proofs.Tryz.f4 false true false false) := by
  obtain ⟨places, hx⟩ := reads_law17_LawSignature os enc
  refine returnsInHanded_of_row (C := Tryz.checked) (s := Rows.OpenSpec.upto Rows.lawSignatureSpec) own started (by kernel_rfl) Tryz.func4
    (witness_row_at (enc := enc) (C := Tryz.checked) false (laidWorld_law17_LawSignature os) #[Value.agg #[.slice none 0 0, .slice none 0 0, .slice none 0 0], Value.int .i64 0] rfl (by kernel_rfl) (by kernel_rfl) (by kernel_rfl)
      (OpenSpec.preRow_of_cond 8 hx (by kernel_rfl) (fun k hk => by cases hk; kernel_rfl) (by kernel_rfl) (laid_law17_LawSignature os))) ?_
  intro W base args ds gs before hval hW _ hcond _ hL hS _
  exact contract_law17_LawSignature H enc W base args ds gs before hval hW (hcond _ rfl) hL hS
theorem said_law17_LawSignature : Rows.LawSignatureUptoSaid :=
  OpenClaim.holds_of_cond 4 Go.Proofs.Tryz.f4 rfl rfl rfl rfl rfl rfl rfl ⟨rfl, rfl, rfl, rfl, rfl⟩ rfl rfl rfl rfl rfl (by kernel_rfl) Tryz.func4 (by kernel_rfl)
    (of_decide_eq_true (by kernel_rfl)) (by unfold Func.isWrapper; first | (rw [if_pos (by decide +kernel)]; kernel_rfl) | (rw [if_neg (by decide +kernel)]; exact ⟨rfl, rfl⟩))
    (fun os started H enc _ F => by rw [OpenClaim.pre_eq_preRow]; exact lifted_law17_LawSignature os started H enc F)

end Go.Fx.Tryz
