/- Slice literals, make, sub-slices, fields of values, tuples, string indexes, min and max. -/
import Derived.Test.YthfkhokmgolabaaDoorFmMore
set_option linter.unusedVariables false
set_option linter.unusedSimpArgs false
namespace Go.Fm
open Go

section
variable {P : Program} {N : Nat} {o : Oper} {E : Env} {d : Nat}

/-! ### a slice literal -/
def setRows : List (List FV) → Nat → List Nat → List FV → Option (List (List FV))
  | rows, _, [], [] => some rows
  | rows, size, i :: is, f :: fs => if f.cells.length = size ∧ i < rows.length ∧ f.cells.all FV.one = true then setRows (rows.set i f.cells) size is fs else none
  | _, _, _, _ => none
def bsF (E : Env) (tmpl : List FV) (len : Nat) (is : List Nat) (ss : List Sr) : Option (FV × Env) :=
  (setRows (List.replicate len tmpl) tmpl.length is (E.passL false ss).1).map fun rows => (.arr rows, (E.passL false ss).2)
def bsOk (P : Program) (t : TypeId) (tmpl : List FV) (len : Nat) (is : List Nat) : Bool :=
  match P.underlying t with
  | some (.slice e) => zeroIs P e tmpl && sizeIs P e tmpl.length && decide (len * tmpl.length ≤ 2 ^ 24) && decide (0 < tmpl.length)
  | _ => false

theorem setRows_fill : ∀ {is : List Nat} {fs : List FV} {rows out : List (List FV)} {size : Nat}, setRows rows size is fs = some out → (∀ r ∈ rows, r.length = size) →
    fillF rows.flatten (is.map fun i => (i * size, size)) fs = some out.flatten ∧ (∀ r ∈ out, r.length = size) ∧ out.length = rows.length
  | [], [], rows, out, size, h, hr => by
    simp only [setRows, Option.some.injEq] at h
    subst h
    exact ⟨rfl, hr, rfl⟩
  | [], _ :: _, rows, out, size, h, hr => by simp [setRows] at h
  | _ :: _, [], rows, out, size, h, hr => by simp [setRows] at h
  | i :: is, f :: fs, rows, out, size, h, hr => by
    simp only [setRows] at h
    split at h
    case isFalse => cases h
    rename_i hc
    obtain ⟨h1, h2, h3⟩ := hc
    have hrow : rows[i]? = some rows[i] := List.getElem?_eq_getElem h2
    have hrl : rows[i].length = size := hr _ (List.getElem_mem h2)
    have hset := set_row_flatten (o := 0) (xs := f.cells) hr hrow (by omega)
    simp only [List.take_zero, List.nil_append, Nat.zero_add, Nat.add_zero] at hset
    rw [List.drop_of_length_le (by omega), List.append_nil] at hset
    have hr' : ∀ r ∈ rows.set i f.cells, r.length = size := by
      intro r m
      rcases List.mem_or_eq_of_mem_set m with m | rfl
      · exact hr r m
      · exact h1
    obtain ⟨e1, e2, e3⟩ := setRows_fill h hr'
    refine ⟨?_, e2, by rw [e3]; simp⟩
    simp only [List.map_cons, fillF]
    have hfl := length_flatten_of hr
    have hmul : (i + 1) * size ≤ rows.length * size := Nat.mul_le_mul_right _ (by omega)
    rw [Nat.add_mul, Nat.one_mul] at hmul
    rw [if_pos ⟨h1, by omega, h3⟩]
    rw [hset, h1] at e1
    exact e1

theorem replicate_cells (z : Array Value) (hz : 0 < z.size) : ∀ (len : Nat), ((Array.range (len * z.size)).map (fun i => z[i % z.size]!)).toList = (List.replicate len z.toList).flatten := by
  intro len
  apply List.ext_getElem?
  intro k
  simp only [Array.toList_map, Array.toList_range, List.getElem?_map]
  have hst : ∀ e ∈ List.replicate len z.toList, e.length = z.size := by
    intro e he
    rw [List.eq_of_mem_replicate he]; simp
  by_cases hk : k < len * z.size
  · rw [List.getElem?_range hk]
    simp only [Option.map_some]
    have hq : k / z.size < len := by
      rw [Nat.div_lt_iff_lt_mul hz]; exact hk
    have hm : k % z.size < z.size := Nat.mod_lt _ hz
    have hrow : (List.replicate len z.toList)[k / z.size]? = some z.toList := by rw [List.getElem?_replicate, if_pos hq]
    have h1 : ∀ {es : List (List Value)} {i : Nat} {row : List Value}, (∀ e ∈ es, e.length = z.size) → es[i]? = some row → ∀ o, o < z.size → es.flatten[i * z.size + o]? = row[o]? := by
      intro es
      induction es with
      | nil => intro i row _ h; simp at h
      | cons e es ih =>
        intro i row hall h o ho
        have he := hall e (by simp)
        cases i with
        | zero =>
          simp only [List.getElem?_cons_zero, Option.some.injEq] at h
          subst h
          simp only [List.flatten_cons, Nat.zero_mul, Nat.zero_add]
          rw [List.getElem?_append_left (by omega)]
        | succ i =>
          simp only [List.getElem?_cons_succ] at h
          simp only [List.flatten_cons]
          rw [List.getElem?_append_right (by rw [he, Nat.add_mul]; omega), he, show (i + 1) * z.size + o - z.size = i * z.size + o by rw [Nat.add_mul]; omega]
          exact ih (fun e m => hall e (by simp [m])) h o ho
    have := h1 hst hrow (k % z.size) hm
    rw [show k / z.size * z.size + k % z.size = k by rw [Nat.mul_comm]; exact Nat.div_add_mod k z.size] at this
    rw [this]
    have hmm : z[k % z.size]! = z[k % z.size] := getElem!_pos z (k % z.size) hm
    rw [hmm]
    simp [hm]
  · rw [List.getElem?_eq_none (by simpa using Nat.le_of_not_lt hk)]
    simp only [Option.map_none]
    symm
    apply List.getElem?_eq_none
    have : ∀ {es : List (List Value)}, (∀ e ∈ es, e.length = z.size) → es.flatten.length = es.length * z.size := by
      intro es
      induction es with
      | nil => intro _; simp
      | cons e es ih => intro h; simp [h e (by simp), ih fun x m => h x (by simp [m]), Nat.add_mul, Nat.add_comm]
    rw [this hst]
    simpa using Nat.le_of_not_lt hk

theorem rep_replicate {h : Array Obj} {S : Nat → Prop} {vs : List Value} {fs : List FV} (r : Rep h S vs fs []) : ∀ len, Rep h S (List.replicate len vs).flatten (List.replicate len fs).flatten []
  | 0 => by simpa using Rep.nil
  | len + 1 => by
    simp only [List.replicate_succ, List.flatten_cons]
    have := r.append (rep_replicate r len)
    simpa using this

theorem zeroIs_spec {t : TypeId} {cs : List FV} (h : zeroIs P t cs = true) : ∃ i z, P.info? t = some i ∧ i.zero = some z ∧ constOkL cs z.cells.toList = true := by
  unfold zeroIs at h
  cases hi : P.info? t with
  | none => rw [hi] at h; cases h
  | some i =>
    rw [hi] at h
    cases hz : i.zero with
    | none => simp only [hz] at h; cases h
    | some z => simp only [hz] at h; exact ⟨i, z, rfl, hz, h⟩

theorem constOkL_len : ∀ {fs : List FV} {vs : List Value}, constOkL fs vs = true → vs.length = fs.length
  | [], [], _ => rfl
  | [], _ :: _, h => by simp [constOkL] at h
  | _ :: _, [], h => by simp [constOkL] at h
  | f :: fs, v :: vs, h => by
    simp only [constOkL, Bool.and_eq_true] at h
    simp [constOkL_len h.2]

theorem ok_buildSlice {t : TypeId} {tmpl : List FV} {len : Nat} {parts : Array (Nat × Operand)} {ss : List Sr} {f : FV} {E1 : Env} (ho : o.op = .buildSlice t len parts) (hd : o.dst = some d) (hdN : d < N)
    (hs : List.all (ss.zip (parts.toList.map (·.2))) (fun y => y.1.fits N y.2) = true) (hlen : ss.length = parts.toList.length) (ht : bsOk P t tmpl len (parts.toList.map (·.1)) = true)
    (hl : bsF E tmpl len (parts.toList.map (·.1)) ss = some (f, E1)) : OpOk P N o E (· = E1.upd d f) := by
  intro xv a w S R r
  obtain ⟨S', Rf, R', p⟩ := passedL r hs (by simpa using hlen) false
  unfold bsF at hl
  cases hfill : setRows (List.replicate len tmpl) tmpl.length (parts.toList.map (·.1)) (E.passL false ss).1 with
  | none => rw [hfill] at hl; cases hl
  | some rows =>
  rw [hfill] at hl
  simp only [Option.map_some, Option.some.injEq, Prod.mk.injEq] at hl
  obtain ⟨rfl, rfl⟩ := hl
  unfold bsOk at ht
  cases hu : P.underlying t with
  | none => rw [hu] at ht; cases ht
  | some de =>
  rw [hu] at ht
  cases de <;> simp only at ht <;> try (cases ht; done)
  rename_i e
  simp only [Bool.and_eq_true, decide_eq_true_eq] at ht
  obtain ⟨⟨⟨hz, hsz⟩, hsmall⟩, hpos⟩ := ht
  obtain ⟨i, z, hi, hzz, hz⟩ := zeroIs_spec hz
  obtain ⟨i2, hi2, hsize⟩ := sizeIs_spec hsz
  rw [hi] at hi2
  cases hi2
  have hzl := constOkL_len hz
  simp only [Array.length_toList] at hzl
  obtain ⟨e1, e2, e3⟩ := setRows_fill hfill (by intro r m; rw [List.eq_of_mem_replicate m])
  simp only [List.length_replicate] at e3
  have hz0 := rep_replicate (constOkL_rep w.heap S' tmpl z.cells.toList hz) len
  rw [← replicate_cells z.cells (by omega)] at hz0
  have hplace : ∀ (j i' : Nat) (q : Nat × Nat), (parts.toList.map (·.1))[j]? = some i' → ((parts.toList.map (·.1)).map fun i => (i * tmpl.length, tmpl.length))[j]? = some q → (fun i' => some (i' * i.size, i.size)) i' = some q := by
    intro j i' q h1 h2
    rw [List.getElem?_map, h1] at h2
    simp only [Option.map_some, Option.some.injEq] at h2
    rw [← h2, hsize]
  obtain ⟨cells', Rr, f1, f2, f3, f4, f5⟩ := fill_rep (place := fun i' => some (i' * i.size, i.size)) p.rep hz0 e1 (by simp) hplace
  have hzip : (parts.map fun (x : Nat × Operand) => (x.1, a.eval x.2)).toList = (parts.toList.map (·.1)).zip ((parts.toList.map (·.2)).map a.eval) := by
    simp [List.zip_map_right, List.zip_map_left, List.map_map]
    induction parts.toList with
    | nil => rfl
    | cons x l ih => simp [ih]
  have hlen0 : len * i.size = len * z.cells.size := by rw [hsize, hzl]
  have hrun : (execOp a.eval o).run P w = .ok (.value (.slice (some ⟨w.heap.size, 0, none⟩) len len)) { w with heap := w.heap.push (.cells cells' e (0, 0)) } := by
    have hbig : ¬ (len * i.size > 2 ^ 24) := by rw [hsize]; omega
    by_cases h0 : len * i.size = 0
    · have hl0 : len = 0 := by
        rcases Nat.mul_eq_zero.1 h0 with h | h
        · exact h
        · omega
      subst hl0
      have f1' := f1
      simp only [Nat.zero_mul] at f1'
      simp only [execOp, ho, Instr.buildSlice, Sem.run_bind, run_underlying' hu, Result.andThen_ok, run_sizeOf' hi, Sem.run_ite, if_neg hbig, h0, if_true, Sem.run_pure, hzip, Nat.zero_mul]
      simp only [show (Array.range 0).map (fun i => (#[] : Array Value)[i % (#[] : Array Value).size]!) = (Array.range 0).map (fun i => z.cells[i % z.cells.size]!) from by simp, f1', Sem.run_bind, newRow, run_newObj, Result.andThen_ok, Sem.run_pure]
      rfl
    · simp only [execOp, ho, Instr.buildSlice, Sem.run_bind, run_underlying' hu, Result.andThen_ok, run_sizeOf' hi, Sem.run_ite, if_neg hbig, if_neg h0, run_zeroValue' hi hzz, Sem.run_pure, hzip]
      rw [hlen0]
      simp only [f1, Sem.run_bind, newRow, run_newObj, Result.andThen_ok, Sem.run_pure]
  refine wp_value hrun ?_
  rw [hd]
  have hRlt : ∀ b ∈ Rr, b < w.heap.size := f2.lt
  have hnd : Rr.Nodup := f4 (by simpa using p.nodup)
  have hsubf : ∀ b ∈ Rr, b ∈ Rf := fun b m => by
    rcases f3 b m with m | m
    · simp at m
    · exact m
  have hcells' : cells'.size = len * tmpl.length := by
    rw [f5]; simp [hzl]
  have hpush : Rep (w.heap.push (.cells cells' e (0, 0))) S' cells'.toList rows.flatten Rr := f2.mono (fun _ h => h) (by simp) (fun b _ hb => getElem?_push_lt _ _ hb) (fun b m => getElem?_push_lt _ _ (hRlt b m))
  by_cases h0 : len = 0
  · subst h0
    have hrows : rows = [] := List.eq_nil_of_length_eq_zero e3
    subst hrows
    have hw := p.rel.world (w' := { w with heap := w.heap.push (.cells cells' e (0, 0)) }) (by simp) (fun b hb _ => getElem?_push_lt _ _ hb) (fun b m => getElem?_push_lt _ _ (p.rel.env.lt b m))
    have hrep : Rep (w.heap.push (.cells cells' e (0, 0))) S' [.slice (some ⟨w.heap.size, 0, none⟩) 0 0] [.arr []] [] := .arrNil .nil
    obtain ⟨R'', h1, h2⟩ := hw.upd hdN hrep (by simp) (by simp)
    refine ⟨_, S', R'', rfl, h1, ⟨p.seals, fun b hb => (p.news b hb).imp id .inl, fun b hb _ => getElem?_push_lt _ _ hb, by simp, fun b m => .inl ?_, rfl, rfl, rfl, fun _ h => h⟩⟩
    rcases h2 b m with h | h
    · simp at h
    · exact p.sub b h
  · refine Post.alloc (w' := { w with heap := w.heap.push (.cells cells' e (0, 0)) }) (Rf := Rr) p.rel p.seals p.news p.sub hdN rfl rfl rfl rfl ?_ hnd (fun b m => p.apart b (hsubf b m)) (fun b m => p.subf b (hsubf b m)) hRlt _ rfl
    have := Rep.arr (h := w.heap.push (.cells cells' e (0, 0))) (S := S') (es := rows) (b := w.heap.size) (n := len) (cap := len) (st := tmpl.length) (T := e) (c := cells') (R1 := Rr) (vs := []) (fs := []) (R := []) e3 e2 (by simp) hcells' (Nat.le_refl _) (by omega)
      (by rw [List.take_of_length_le (by simp; omega)]; exact hpush) .nil
    simpa using this

/-! ### make -/
def mkSlOk (P : Program) (t : TypeId) (tmpl : List FV) (bytes : Nat) : Bool :=
  match P.underlying t with
  | some (.slice e) => zeroIs P e tmpl && sizeIs P e tmpl.length && decide (0 < tmpl.length) && (match P.info? e with | some i => i.bytes == bytes | none => false)
  | _ => false
def mkSlF (tmpl : List FV) (bytes : Nat) (len cap : Int) : Option FV :=
  if 0 ≤ len ∧ 0 ≤ cap ∧ cap ≤ 281474976710656 ∧ bytes * cap ≤ 281474976710656 then
    if len = cap then some (.arr (List.replicate len.toNat tmpl)) else if len = 0 then some (.buf tmpl.length) else none
  else none

theorem wrap64_id {n : Int} (h0 : 0 ≤ n) (h1 : n ≤ 9223372036854775807) : IntKind.i64.wrap n = n := by
  simp only [IntKind.wrap, IntKind.bits, IntKind.signed]
  have h2 : n % (2 ^ 64 : Int) = n := Int.emod_eq_of_lt h0 (by omega)
  simp only [h2]
  rw [if_neg]
  simp
  omega

theorem ok_makeSlice {t : TypeId} {tmpl : List FV} {bytes : Nat} {s1 s2 : Sr} {x y : Operand} {k1 k2 : IntKind} {len cap : Int} {f : FV} (ho : o.op = .makeSlice t x y) (hd : o.dst = some d) (hdN : d < N) (hs1 : s1.fits N x = true) (hs2 : s2.fits N y = true) (ht : mkSlOk P t tmpl bytes = true)
    (h1 : E.look s1 = .int k1 len) (h2 : E.look s2 = .int k2 cap) (hl : mkSlF tmpl bytes len cap = some f) : OpOk P N o E (· = E.upd d f) := by
  intro xv a w S R r
  have l1 := looked r hs1
  have l2 := looked r hs2
  rw [h1] at l1
  rw [h2] at l2
  unfold mkSlOk at ht
  cases hu : P.underlying t with
  | none => rw [hu] at ht; cases ht
  | some de =>
  rw [hu] at ht
  cases de <;> simp only at ht <;> try (cases ht; done)
  rename_i e
  simp only [Bool.and_eq_true, decide_eq_true_eq] at ht
  obtain ⟨⟨⟨hz, hsz⟩, hpos⟩, hby⟩ := ht
  obtain ⟨i, z, hi, hzz, hz⟩ := zeroIs_spec hz
  obtain ⟨i2, hi2, hsize⟩ := sizeIs_spec hsz
  rw [hi] at hi2
  cases hi2
  simp only [hi, beq_iff_eq] at hby
  have hzl := constOkL_len hz
  simp only [Array.length_toList] at hzl
  unfold mkSlF at hl
  split at hl
  case isFalse => cases hl
  rename_i hc
  obtain ⟨c1, c2, c3, c4⟩ := hc
  have hle : len ≤ cap := by
    split at hl
    · omega
    · split at hl
      · omega
      · cases hl
  have w1 := wrap64_id c1 (by omega)
  have w2 := wrap64_id c2 (by omega)
  have hbig : ((bytes : Int) * cap > 2 ^ 48) = False := by
    have : (2 : Int) ^ 48 = 281474976710656 := by decide
    rw [this]; simp; omega
  have hrun : ∃ cells', (execOp a.eval o).run P w = .ok (.value (.slice (some ⟨w.heap.size, 0, none⟩) len.toNat cap.toNat)) { w with heap := w.heap.push (.cells cells' e (0, 0)) } ∧ cells'.toList = (List.replicate cap.toNat z.cells.toList).flatten := by
    refine ⟨(Array.range (cap.toNat * z.cells.size)).map (fun i => z.cells[i % z.cells.size]!), ?_, replicate_cells z.cells (by omega) _⟩
    have hcs : i.size = z.cells.size := by omega
    have htl : (decide (cap < 0) || decide ((bytes : Int) * cap > 2 ^ 48)) = false := by
      simp only [hbig, decide_false, Bool.or_false, decide_eq_false_iff_not]; omega
    have hll : decide (len < 0) = false := by simp; omega
    have hlc : decide (len > cap) = false := by simp; omega
    by_cases h0 : cap.toNat * i.size = 0
    · have hc0 : cap.toNat = 0 := by
        rcases Nat.mul_eq_zero.1 h0 with h | h
        · exact h
        · omega
      simp only [execOp, ho, Instr.makeSlice, Sem.run_bind, run_underlying' hu, Result.andThen_ok, l1.int, l2.int, asInt, asIntOf, Sem.run_pure, run_typeInfo' hi, hby, w1, w2, htl, hll, hlc, Bool.or_self, Bool.false_eq_true, if_false, Sem.run_ite, run_askRoom, run_sizeOf' hi, h0, if_true, newRow, run_newObj, hc0, Nat.zero_mul]
      simp [show Array.range 0 = #[] from rfl]
    · simp only [execOp, ho, Instr.makeSlice, Sem.run_bind, run_underlying' hu, Result.andThen_ok, l1.int, l2.int, asInt, asIntOf, Sem.run_pure, run_typeInfo' hi, hby, w1, w2, htl, hll, hlc, Bool.or_self, Bool.false_eq_true, if_false, Sem.run_ite, run_askRoom, run_sizeOf' hi, if_neg h0, if_neg (show ¬ cap.toNat * z.cells.size = 0 by rw [← hcs]; exact h0), newRow, run_newObj, run_zeroValue' hi hzz, hcs]
  obtain ⟨cells', hrun, hcells⟩ := hrun
  refine wp_value hrun ?_
  rw [hd]
  have hz0 := rep_replicate (constOkL_rep (w.heap.push (.cells cells' e (0, 0))) S tmpl z.cells.toList hz) cap.toNat
  rw [← hcells] at hz0
  have hcsz : cells'.size = cap.toNat * tmpl.length := by
    have h := hz0.length
    have h2 : (List.replicate cap.toNat tmpl).flatten.length = cap.toNat * tmpl.length := by simp
    rw [h2] at h
    simpa using h
  have noalloc : cap.toNat = 0 → Post N xv (· = E.upd d (.arr [])) w S R (a.put (some d) (.slice (some ⟨w.heap.size, 0, none⟩) 0 0)) { w with heap := w.heap.push (.cells cells' e (0, 0)) } := by
    intro _
    have hw := r.world (w' := { w with heap := w.heap.push (.cells cells' e (0, 0)) }) (by simp) (fun b hb _ => getElem?_push_lt _ _ hb) (fun b m => getElem?_push_lt _ _ (r.env.lt b m))
    obtain ⟨R'', h1, h2⟩ := hw.upd hdN (f := .arr []) (Rf := []) (.arrNil .nil) (by simp) (by simp)
    refine ⟨_, S, R'', rfl, h1, ⟨fun _ h => h, fun _ h => .inl h, fun b hb _ => getElem?_push_lt _ _ hb, by simp, fun b m => .inl ?_, rfl, rfl, rfl, fun _ h => h⟩⟩
    rcases h2 b m with h | h
    · simp at h
    · exact h
  split at hl
  · rename_i hlc
    cases hl
    subst hlc
    by_cases h0 : len.toNat = 0
    · rw [h0]
      exact noalloc h0
    · refine Post.alloc (w' := { w with heap := w.heap.push (.cells cells' e (0, 0)) }) (Rf := []) r (fun _ h => h) (fun _ h => .inl h) (fun _ h => h) hdN rfl rfl rfl rfl ?_ (by simp) (by simp) (by simp) (by simp) _ rfl
      have := Rep.arr (h := w.heap.push (.cells cells' e (0, 0))) (S := S) (es := List.replicate len.toNat tmpl) (b := w.heap.size) (n := len.toNat) (cap := len.toNat) (st := tmpl.length) (T := e) (c := cells') (R1 := []) (vs := []) (fs := []) (R := []) (by simp)
        (by intro r m; rw [List.eq_of_mem_replicate m]) (by simp) hcsz (Nat.le_refl _) (by omega)
        (by rw [List.take_of_length_le (by simp; omega)]; exact hz0) .nil
      simpa using this
  · split at hl
    case isFalse => cases hl
    rename_i hl0
    cases hl
    subst hl0
    refine Post.alloc (w' := { w with heap := w.heap.push (.cells cells' e (0, 0)) }) (Rf := []) r (fun _ h => h) (fun _ h => .inl h) (fun _ h => h) hdN rfl rfl rfl rfl ?_ (by simp) (by simp) (by simp) (by simp) _ rfl
    exact Rep.buf (T := e) (by simp) hcsz .nil

end
end Go.Fm
