/- Paths into owned trees: reading, writing, and what the memory says of them. -/
import Derived.Test.YthfkhokmgolabaaDoorFmVal
set_option linter.unusedVariables false
set_option linter.unusedSimpArgs false
namespace Go.Fm
open Go

def FV.kids : FV → List (List FV)
  | .box cs => [cs]
  | .arr es => es
  | _ => []
def FV.setKids : FV → List (List FV) → FV
  | .box cs, k => .box (k.headD cs)
  | .arr _, k => .arr k
  | f, _ => f

def getN : FV → Path → Nat → Option (List FV)
  | _, [], _ => none
  | f, (i, o) :: p, n =>
    match f.kids[i]? with
    | none => none
    | some row =>
      match p with
      | [] => if o + n ≤ row.length then some ((row.drop o).take n) else none
      | q :: p' => match row[o]? with
        | none => none
        | some x => getN x (q :: p') n

def setN : FV → Path → List FV → FV
  | f, [], _ => f
  | f, (i, o) :: p, xs =>
    match f.kids[i]? with
    | none => f
    | some row =>
      match p with
      | [] => f.setKids (f.kids.set i (row.take o ++ xs ++ row.drop (o + xs.length)))
      | q :: p' => match row[o]? with
        | none => f
        | some x => f.setKids (f.kids.set i (row.set o (setN x (q :: p') xs)))

def blockOf : Value → Option Nat
  | .pointer (some a) => some a.block
  | .slice (some a) _ _ => some a.block
  | _ => none

/-- where a path leads in memory -/
def locate (h : Array Obj) : Value → FV → Path → Option (Nat × Nat)
  | _, _, [] => none
  | v, f, (i, o) :: p =>
    match blockOf v, f.kids[i]? with
    | some b, some row =>
      match p with
      | [] => some (b, i * row.length + o)
      | q :: p' => match cellAt h b (i * row.length + o), row[o]? with
        | some vc, some fc => locate h vc fc (q :: p')
        | _, _ => none
    | _, _ => none

theorem Rep.at {h S} : ∀ {k : Nat} {vs fs R x}, Rep h S vs fs R → fs[k]? = some x →
    ∃ vx R1 Rx R2, vs[k]? = some vx ∧ Rep h S [vx] [x] Rx ∧ R = R1 ++ Rx ++ R2 ∧
      ∀ {h' : Array Obj} {S' : Nat → Prop}, (∀ b, S b → S' b) → h.size ≤ h'.size → (∀ b, S b → b < h.size → h'[b]? = h[b]?) →
        (∀ b ∈ R1, h'[b]? = h[b]?) → (∀ b ∈ R2, h'[b]? = h[b]?) →
        ∀ {vx' x' Rx'}, Rep h' S' [vx'] [x'] Rx' → Rep h' S' (vs.set k vx') (fs.set k x') (R1 ++ Rx' ++ R2)
  | k, vs, [], R, x, r, hx => by simp at hx
  | k, [], f :: fs, R, x, r, hx => by have := r.length; simp at this
  | 0, v :: vs, f :: fs, R, x, r, hx => by
    obtain ⟨R1, R2, h1, h2, rfl⟩ := r.cons_inv
    simp only [List.getElem?_cons_zero, Option.some.injEq] at hx
    subst hx
    refine ⟨v, [], R1, R2, by simp, h1, by simp, ?_⟩
    intro h' S' hS hsz hs _ hR2 vx' x' Rx' r'
    simp only [List.set_cons_zero, List.nil_append]
    exact r'.cons (h2.mono hS hsz hs hR2)
  | k + 1, v :: vs, f :: fs, R, x, r, hx => by
    obtain ⟨Ra, Rb, h1, h2, rfl⟩ := r.cons_inv
    simp only [List.getElem?_cons_succ] at hx
    obtain ⟨vx, R1, Rx, R2, hv, hrx, rfl, back⟩ := Rep.at h2 hx
    refine ⟨vx, Ra ++ R1, Rx, R2, by simpa using hv, hrx, by simp, ?_⟩
    intro h' S' hS hsz hs hR1 hR2 vx' x' Rx' r'
    simp only [List.set_cons_succ]
    have := (h1.mono hS hsz hs (fun b m => hR1 b (by simp [m]))).cons (back hS hsz hs (fun b m => hR1 b (by simp [m])) hR2 r')
    simpa [List.append_assoc] using this

theorem Rep.range {h S vs fs R} (r : Rep h S vs fs R) {o n : Nat} (hn : o + n ≤ fs.length) :
    ∃ R1 Rx R2, Rep h S ((vs.drop o).take n) ((fs.drop o).take n) Rx ∧ R = R1 ++ Rx ++ R2 ∧
      ∀ {h' : Array Obj} {S' : Nat → Prop}, (∀ b, S b → S' b) → h.size ≤ h'.size → (∀ b, S b → b < h.size → h'[b]? = h[b]?) →
        (∀ b ∈ R1, h'[b]? = h[b]?) → (∀ b ∈ R2, h'[b]? = h[b]?) →
        ∀ {cs' xs' Rx'}, Rep h' S' cs' xs' Rx' → cs'.length = n → Rep h' S' (vs.take o ++ cs' ++ vs.drop (o + n)) (fs.take o ++ xs' ++ fs.drop (o + n)) (R1 ++ Rx' ++ R2) := by
  obtain ⟨R1, R', h1, h2, rfl⟩ := r.split o
  obtain ⟨Rx, R2, h3, h4, rfl⟩ := h2.split n
  refine ⟨R1, Rx, R2, h3, by simp, ?_⟩
  intro h' S' hS hsz hs hR1 hR2 cs' xs' Rx' r' hl
  have e4 := h4.mono hS hsz hs hR2
  rw [List.drop_drop, List.drop_drop] at e4
  have := ((h1.mono hS hsz hs hR1).append r').append e4
  simpa [List.append_assoc] using this

theorem length_flatten_of {st : Nat} : ∀ {es : List (List FV)}, (∀ e ∈ es, e.length = st) → es.flatten.length = es.length * st
  | [], _ => by simp
  | e :: es, h => by
    have h1 := h e (by simp)
    have h2 := length_flatten_of (es := es) fun x m => h x (by simp [m])
    simp [h1, h2, Nat.add_mul, Nat.add_comm]

theorem flatten_row {st : Nat} : ∀ {es : List (List FV)} {i : Nat} {row : List FV}, (∀ e ∈ es, e.length = st) → es[i]? = some row →
    ∀ (o : Nat), o + 0 ≤ st → es.flatten.drop (i * st + o) = row.drop o ++ (es.drop (i + 1)).flatten
  | [], i, row, _, h, _, _ => by simp at h
  | e :: es, 0, row, h, hi, o, ho => by
    simp only [List.getElem?_cons_zero, Option.some.injEq] at hi
    subst hi
    have h1 := h e (by simp)
    simp only [List.flatten_cons, Nat.zero_mul, Nat.zero_add, List.drop_succ_cons, List.drop_zero]
    rw [List.drop_append_of_le_length (by omega)]
  | e :: es, i + 1, row, h, hi, o, ho => by
    simp only [List.getElem?_cons_succ] at hi
    have h1 := h e (by simp)
    have ih := flatten_row (es := es) (fun x m => h x (by simp [m])) hi o ho
    simp only [List.flatten_cons, List.drop_succ_cons]
    rw [show (i + 1) * st + o = e.length + (i * st + o) by rw [h1, Nat.add_mul]; omega, ← ih]
    rw [List.drop_append]
    simp

theorem flatten_take {st : Nat} : ∀ {es : List (List FV)} {i : Nat} {row : List FV}, (∀ e ∈ es, e.length = st) → es[i]? = some row →
    ∀ (o : Nat), o ≤ st → es.flatten.take (i * st + o) = (es.take i).flatten ++ row.take o
  | [], i, row, _, h, _, _ => by simp at h
  | e :: es, 0, row, h, hi, o, ho => by
    simp only [List.getElem?_cons_zero, Option.some.injEq] at hi
    subst hi
    have h1 := h e (by simp)
    simp only [List.flatten_cons, Nat.zero_mul, Nat.zero_add, List.take_zero, List.flatten_nil, List.nil_append]
    rw [List.take_append_of_le_length (by omega)]
  | e :: es, i + 1, row, h, hi, o, ho => by
    simp only [List.getElem?_cons_succ] at hi
    have h1 := h e (by simp)
    have ih := flatten_take (es := es) (fun x m => h x (by simp [m])) hi o ho
    simp only [List.flatten_cons, List.take_succ_cons]
    rw [show (i + 1) * st + o = e.length + (i * st + o) by rw [h1, Nat.add_mul]; omega]
    rw [List.take_append, List.take_of_length_le (by omega), show e.length + (i * st + o) - e.length = i * st + o by omega, ih]
    simp

theorem set_row_flatten {st : Nat} {es : List (List FV)} {i o : Nat} {row xs : List FV} (h : ∀ e ∈ es, e.length = st) (hi : es[i]? = some row) (ho : o + xs.length ≤ row.length) :
    (es.set i (row.take o ++ xs ++ row.drop (o + xs.length))).flatten =
      es.flatten.take (i * st + o) ++ xs ++ es.flatten.drop (i * st + o + xs.length) := by
  have hrow : row.length = st := h row (List.mem_of_getElem? hi)
  have hlt : i < es.length := by
    rcases Nat.lt_or_ge i es.length with h1 | h1
    · exact h1
    · rw [List.getElem?_eq_none h1] at hi; cases hi
  rw [flatten_take h hi o (by omega), Nat.add_assoc, flatten_row h hi (o + xs.length) (by omega)]
  rw [List.set_eq_take_append_cons_drop, if_pos hlt]
  simp [List.append_assoc]

/-- the cells at a path, and what becomes of the tree when they are written -/
structure Focus (h : Array Obj) (S : Nat → Prop) (v : Value) (f : FV) (p : Path) (n : Nat) (R : List Nat) (xs : List FV) (b o : Nat) (c : Array Value) (T : TypeId) (Rx R' : List Nat) : Prop where
  loc : locate h v f p = some (b, o)
  blk : h[b]? = some (.cells c T (0, 0))
  fits : o + n ≤ c.size
  rep : Rep h S ((c.toList.drop o).take n) xs Rx
  mem : b ∈ R'
  perm : R.Perm (Rx ++ R')
  back : ∀ {h' : Array Obj} {S' : Nat → Prop} {c' : Array Value} {cs' : List Value} {xs' : List FV} {Rx' : List Nat}, cs'.length = n → xs'.length = n →
    h'[b]? = some (.cells c' T (0, 0)) → c'.toList = c.toList.take o ++ cs' ++ c.toList.drop (o + n) →
    (∀ b' ∈ R', b' ≠ b → h'[b']? = h[b']?) → (∀ b, S b → S' b) → h.size ≤ h'.size → (∀ b, S b → b < h.size → h'[b]? = h[b]?) →
    Rep h' S' cs' xs' Rx' → ∃ R'', Rep h' S' [v] [setN f p xs'] R'' ∧ R''.Perm (Rx' ++ R')

theorem getN_len : ∀ {p : Path} {f : FV} {n : Nat} {xs : List FV}, getN f p n = some xs → xs.length = n
  | [], f, n, xs, h => by simp [getN] at h
  | [(i, o)], f, n, xs, h => by
    simp only [getN] at h
    split at h
    · cases h
    · split at h
      · simp only [Option.some.injEq] at h; subst h; simp; omega
      · cases h
  | (i, o) :: q :: p, f, n, xs, h => by
    simp only [getN] at h
    split at h
    · cases h
    · split at h
      · cases h
      · exact getN_len h

theorem focus {h : Array Obj} {S : Nat → Prop} : ∀ {p : Path} {v : Value} {f : FV} {R : List Nat} {n : Nat} {xs : List FV}, Rep h S [v] [f] R → R.Nodup → getN f p n = some xs →
    ∃ b o c T Rx R', Focus h S v f p n R xs b o c T Rx R'
  | [], v, f, R, n, xs, r, nd, hg => by simp [getN] at hg
  | [(i, o)], v, f, R, n, xs, r, nd, hg => by
    simp only [getN] at hg
    cases hk : f.kids[i]? with
    | none => rw [hk] at hg; cases hg
    | some row =>
    rw [hk] at hg
    simp only at hg
    split at hg
    case isFalse => cases hg
    rename_i hlen
    simp only [Option.some.injEq] at hg
    subst hg
    cases r with
    | @box b c T gs _ _ R1 R2 hb hr ht =>
      cases ht
      have hi : i = 0 ∧ row = gs := by
        simp only [FV.kids] at hk
        cases i with
        | zero => simp at hk; exact ⟨rfl, hk.symm⟩
        | succ i => simp at hk
      obtain ⟨rfl, rfl⟩ := hi
      have hl := hr.length
      obtain ⟨Ra, Rx, Rb, hx, rfl, back⟩ := hr.range hlen
      have hsz : c.size = row.length := by rw [← hl]; simp
      refine ⟨b, o, c, T, Rx, b :: (Ra ++ Rb), ⟨by simp [locate, FV.kids, blockOf], hb, by omega, hx, by simp, ?_, ?_⟩⟩
      · simp only [List.append_nil]
        have : (b :: (Ra ++ Rx ++ Rb)).Perm (b :: (Rx ++ (Ra ++ Rb))) := by
          refine List.Perm.cons _ ?_
          rw [← List.append_assoc]
          exact List.Perm.append_right _ List.perm_append_comm
        exact this.trans List.perm_middle.symm
      · intro h' S' c' cs' xs' Rx' hcl hxl hb' hc' hR' hS' hsz' hs' r'
        simp only [List.append_nil] at nd
        have nd' := List.nodup_cons.1 nd
        refine ⟨b :: (Ra ++ Rx' ++ Rb) ++ [], ?_, ?_⟩
        · simp only [setN, FV.kids, List.getElem?_cons_zero, FV.setKids, List.set_cons_zero, List.headD_cons]
          refine Rep.box hb' ?_ .nil
          rw [hc', hxl]
          refine back hS' hsz' hs' ?_ ?_ r' hcl
          · intro b' m; exact hR' b' (by simp [m]) fun e => nd'.1 (by simp [← e, m])
          · intro b' m; exact hR' b' (by simp [m]) fun e => nd'.1 (by simp [← e, m])
        · simp only [List.append_nil]
          have : (b :: (Ra ++ Rx' ++ Rb)).Perm (b :: (Rx' ++ (Ra ++ Rb))) := by
            refine List.Perm.cons _ ?_
            rw [← List.append_assoc]
            exact List.Perm.append_right _ List.perm_append_comm
          exact this.trans List.perm_middle.symm
    | @arr es b n' cap st c T _ _ R1 R2 hn hst hb hsz hcap hpos hr ht =>
      cases ht
      simp only [FV.kids] at hk
      have hrow : row.length = st := hst row (List.mem_of_getElem? hk)
      have hlt : i < es.length := by
        rcases Nat.lt_or_ge i es.length with h1 | h1
        · exact h1
        · rw [List.getElem?_eq_none h1] at hk; cases hk
      have hfl := length_flatten_of hst
      have hmul : (i + 1) * st ≤ n' * st := Nat.mul_le_mul_right _ (by omega)
      have hmul2 : n' * st ≤ cap * st := Nat.mul_le_mul_right _ hcap
      rw [Nat.add_mul, Nat.one_mul] at hmul
      have hrange : (i * st + o) + n ≤ es.flatten.length := by rw [hfl, hn]; omega
      obtain ⟨Ra, Rx, Rb, hx, rfl, back⟩ := hr.range hrange
      have exs : (es.flatten.drop (i * st + o)).take n = (row.drop o).take n := by
        rw [flatten_row hst hk o (by omega), List.take_append_of_le_length (by simp; omega)]
      have ecs : ((c.toList.take (n' * st)).drop (i * st + o)).take n = (c.toList.drop (i * st + o)).take n := by
        rw [List.drop_take, List.take_take]
        congr 1
        omega
      rw [exs, ecs] at hx
      refine ⟨b, i * st + o, c, T, Rx, b :: (Ra ++ Rb), ⟨by simp [locate, FV.kids, blockOf, hk, hrow], hb, by omega, hx, by simp, ?_, ?_⟩⟩
      · simp only [List.append_nil]
        have : (b :: (Ra ++ Rx ++ Rb)).Perm (b :: (Rx ++ (Ra ++ Rb))) := by
          refine List.Perm.cons _ ?_
          rw [← List.append_assoc]
          exact List.Perm.append_right _ List.perm_append_comm
        exact this.trans List.perm_middle.symm
      · intro h' S' c' cs' xs' Rx' hcl hxl hb' hc' hR' hS' hsz' hs' r'
        simp only [List.append_nil] at nd
        have nd' := List.nodup_cons.1 nd
        refine ⟨b :: (Ra ++ Rx' ++ Rb) ++ [], ?_, ?_⟩
        · simp only [setN, FV.kids, hk, FV.setKids]
          have hlc' : c'.size = cap * st := by
            have := congrArg List.length hc'
            simp at this
            omega
          refine Rep.arr (st := st) (by simpa using hn) ?_ hb' hlc' hcap hpos ?_ .nil
          · intro e he
            rcases List.mem_or_eq_of_mem_set he with he | rfl
            · exact hst e he
            · simp; omega
          · rw [set_row_flatten hst hk (by omega), hxl]
            have := back hS' hsz' hs' (fun b' m => hR' b' (by simp [m]) fun e => nd'.1 (by simp [← e, m])) (fun b' m => hR' b' (by simp [m]) fun e => nd'.1 (by simp [← e, m])) r' hcl
            have e2 : c'.toList.take (n' * st) = (c.toList.take (n' * st)).take (i * st + o) ++ cs' ++ (c.toList.take (n' * st)).drop (i * st + o + n) := by
              rw [hc', List.take_take, List.drop_take, show min (i * st + o) (n' * st) = i * st + o by omega]
              rw [List.append_assoc, List.take_append, List.take_of_length_le (by simp; omega)]
              rw [List.append_assoc]
              congr 1
              rw [List.take_append, List.take_of_length_le (by simp; omega)]
              congr 1
              congr 1
              simp
              omega
            rw [e2]; exact this
        · simp only [List.append_nil]
          have : (b :: (Ra ++ Rx' ++ Rb)).Perm (b :: (Rx' ++ (Ra ++ Rb))) := by
            refine List.Perm.cons _ ?_
            rw [← List.append_assoc]
            exact List.Perm.append_right _ List.perm_append_comm
          exact this.trans List.perm_middle.symm
    | _ => simp [FV.kids] at hk
  | (i, o) :: q :: p, v, f, R, n, xs, r, nd, hg => by
    simp only [getN] at hg
    cases hk : f.kids[i]? with
    | none => rw [hk] at hg; cases hg
    | some row =>
    rw [hk] at hg
    simp only at hg
    cases hro : row[o]? with
    | none => rw [hro] at hg; cases hg
    | some x =>
    rw [hro] at hg
    simp only at hg
    have holt : o < row.length := by
      rcases Nat.lt_or_ge o row.length with h1 | h1
      · exact h1
      · rw [List.getElem?_eq_none h1] at hro; cases hro
    cases r with
    | @box b0 c T gs _ _ R1 R2 hb hr ht =>
      cases ht
      have hi : i = 0 ∧ row = gs := by
        simp only [FV.kids] at hk
        cases i with
        | zero => simp at hk; exact ⟨rfl, hk.symm⟩
        | succ i => simp at hk
      obtain ⟨rfl, rfl⟩ := hi
      simp only [List.append_nil] at nd
      have nd' := List.nodup_cons.1 nd
      obtain ⟨vx, Ra, Ry, Rb, hvx, hy, rfl, back⟩ := hr.at hro
      have ndy : Ry.Nodup := by
        have := nd'.2
        rw [List.append_assoc] at this
        exact (List.nodup_append.1 (List.nodup_append.1 this).2.1).1
      obtain ⟨b, o', c1, T1, Rx, R', F⟩ := focus hy ndy hg
      refine ⟨b, o', c1, T1, Rx, b0 :: (Ra ++ R' ++ Rb), ⟨?_, F.blk, F.fits, F.rep, by simp [F.mem], ?_, ?_⟩⟩
      · have hcell : cellAt h b0 (0 * row.length + o) = some vx := by
          unfold cellAt; rw [hb]; simp [← hvx]
        simp only [locate, FV.kids, blockOf, List.getElem?_cons_zero, hcell, hro]
        exact F.loc
      · simp only [List.append_nil]
        have p1 : (Ra ++ Ry ++ Rb).Perm (Ra ++ (Rx ++ R') ++ Rb) := List.Perm.append_right _ (List.Perm.append_left _ F.perm)
        have p2 : (Ra ++ (Rx ++ R') ++ Rb).Perm (Rx ++ (Ra ++ R' ++ Rb)) := by
          have : (Ra ++ (Rx ++ R')).Perm (Rx ++ (Ra ++ R')) := by
            rw [← List.append_assoc, ← List.append_assoc]
            exact List.Perm.append_right _ List.perm_append_comm
          have := List.Perm.append_right Rb this
          simpa [List.append_assoc] using this
        exact (List.Perm.cons b0 (p1.trans p2)).trans List.perm_middle.symm
      · intro h' S' c' cs' xs' Rx' hcl hxl hb' hc' hR' hS' hsz' hs' r'
        have hbR : ∀ b', b' ∈ Ry → b' ∈ Rx ∨ b' ∈ R' := fun b' m => List.mem_append.1 (F.perm.mem_iff.1 m)
        have hbm : b ∈ Ry := F.perm.mem_iff.2 (List.mem_append.2 (.inr F.mem))
        obtain ⟨R'', hrr, hperm⟩ := F.back hcl hxl hb' hc' (fun b' m e => hR' b' (by simp [m]) e) hS' hsz' hs' r'
        have nda : ∀ b' ∈ Ra, b' ≠ b := fun b' m e => by
          subst e
          have := nd'.2
          rw [List.append_assoc] at this
          exact (List.nodup_append.1 this).2.2 _ m _ (List.mem_append.2 (.inl hbm)) rfl
        have ndb : ∀ b' ∈ Rb, b' ≠ b := fun b' m e => by
          subst e
          exact (List.nodup_append.1 nd'.2).2.2 _ (List.mem_append.2 (.inr hbm)) _ m rfl
        have hb0 : b0 ≠ b := fun e => nd'.1 (by rw [e]; simp [hbm])
        have back' := back hS' hsz' hs' (fun b' m => hR' b' (by simp [m]) (nda b' m)) (fun b' m => hR' b' (by simp [m]) (ndb b' m)) hrr
        refine ⟨b0 :: (Ra ++ R'' ++ Rb) ++ [], ?_, ?_⟩
        · simp only [setN, FV.kids, List.getElem?_cons_zero, hro, FV.setKids, List.set_cons_zero, List.headD_cons]
          refine Rep.box (by rw [hR' b0 (by simp) hb0]; exact hb) ?_ .nil
          have : c.toList.set o vx = c.toList := List.ext_getElem? fun k => by
            by_cases hk' : k = o
            · subst hk'; rw [List.getElem?_set_self (by have := hr.length; omega), hvx]
            · rw [List.getElem?_set_ne (fun e => hk' e.symm)]
          rw [this] at back'
          exact back'
        · simp only [List.append_nil]
          have p1 : (Ra ++ R'' ++ Rb).Perm (Ra ++ (Rx' ++ R') ++ Rb) := List.Perm.append_right _ (List.Perm.append_left _ hperm)
          have p2 : (Ra ++ (Rx' ++ R') ++ Rb).Perm (Rx' ++ (Ra ++ R' ++ Rb)) := by
            have : (Ra ++ (Rx' ++ R')).Perm (Rx' ++ (Ra ++ R')) := by
              rw [← List.append_assoc, ← List.append_assoc]
              exact List.Perm.append_right _ List.perm_append_comm
            have := List.Perm.append_right Rb this
            simpa [List.append_assoc] using this
          exact (List.Perm.cons b0 (p1.trans p2)).trans List.perm_middle.symm
    | @arr es b0 n' cap st c T _ _ R1 R2 hn hst hb hsz hcap hpos hr ht =>
      cases ht
      simp only [FV.kids] at hk
      have hrow : row.length = st := hst row (List.mem_of_getElem? hk)
      have hlt : i < es.length := by
        rcases Nat.lt_or_ge i es.length with h1 | h1
        · exact h1
        · rw [List.getElem?_eq_none h1] at hk; cases hk
      have hfl := length_flatten_of hst
      have hmul : (i + 1) * st ≤ n' * st := Nat.mul_le_mul_right _ (by omega)
      have hmul2 : n' * st ≤ cap * st := Nat.mul_le_mul_right _ hcap
      rw [Nat.add_mul, Nat.one_mul] at hmul
      simp only [List.append_nil] at nd
      have nd' := List.nodup_cons.1 nd
      have hfx : es.flatten[i * st + o]? = some x := by
        have := flatten_row hst hk o (by omega)
        have h2 : (es.flatten.drop (i * st + o))[0]? = some x := by
          rw [this, List.getElem?_append_left (by simp; omega)]
          simpa using hro
        simpa using h2
      obtain ⟨vx, Ra, Ry, Rb, hvx, hy, rfl, back⟩ := hr.at hfx
      have ndy : Ry.Nodup := by
        have := nd'.2
        rw [List.append_assoc] at this
        exact (List.nodup_append.1 (List.nodup_append.1 this).2.1).1
      obtain ⟨b, o', c1, T1, Rx, R', F⟩ := focus hy ndy hg
      refine ⟨b, o', c1, T1, Rx, b0 :: (Ra ++ R' ++ Rb), ⟨?_, F.blk, F.fits, F.rep, by simp [F.mem], ?_, ?_⟩⟩
      · have hcell : cellAt h b0 (i * row.length + o) = some vx := by
          unfold cellAt; rw [hb, hrow]
          rw [List.getElem?_take_of_lt (by omega)] at hvx
          simpa using hvx
        simp only [locate, FV.kids, blockOf, hk, hcell, hro]
        exact F.loc
      · simp only [List.append_nil]
        have p1 : (Ra ++ Ry ++ Rb).Perm (Ra ++ (Rx ++ R') ++ Rb) := List.Perm.append_right _ (List.Perm.append_left _ F.perm)
        have p2 : (Ra ++ (Rx ++ R') ++ Rb).Perm (Rx ++ (Ra ++ R' ++ Rb)) := by
          have : (Ra ++ (Rx ++ R')).Perm (Rx ++ (Ra ++ R')) := by
            rw [← List.append_assoc, ← List.append_assoc]
            exact List.Perm.append_right _ List.perm_append_comm
          have := List.Perm.append_right Rb this
          simpa [List.append_assoc] using this
        exact (List.Perm.cons b0 (p1.trans p2)).trans List.perm_middle.symm
      · intro h' S' c' cs' xs' Rx' hcl hxl hb' hc' hR' hS' hsz' hs' r'
        have hbm : b ∈ Ry := F.perm.mem_iff.2 (List.mem_append.2 (.inr F.mem))
        obtain ⟨R'', hrr, hperm⟩ := F.back hcl hxl hb' hc' (fun b' m e => hR' b' (by simp [m]) e) hS' hsz' hs' r'
        have nda : ∀ b' ∈ Ra, b' ≠ b := fun b' m e => by
          subst e
          have := nd'.2
          rw [List.append_assoc] at this
          exact (List.nodup_append.1 this).2.2 _ m _ (List.mem_append.2 (.inl hbm)) rfl
        have ndb : ∀ b' ∈ Rb, b' ≠ b := fun b' m e => by
          subst e
          exact (List.nodup_append.1 nd'.2).2.2 _ (List.mem_append.2 (.inr hbm)) _ m rfl
        have hb0 : b0 ≠ b := fun e => nd'.1 (by rw [e]; simp [hbm])
        have back' := back hS' hsz' hs' (fun b' m => hR' b' (by simp [m]) (nda b' m)) (fun b' m => hR' b' (by simp [m]) (ndb b' m)) hrr
        refine ⟨b0 :: (Ra ++ R'' ++ Rb) ++ [], ?_, ?_⟩
        · simp only [setN, FV.kids, hk, hro, FV.setKids]
          refine Rep.arr (st := st) (by simpa using hn) ?_ (by rw [hR' b0 (by simp) hb0]; exact hb) hsz hcap hpos ?_ .nil
          · intro e he
            rcases List.mem_or_eq_of_mem_set he with he | rfl
            · exact hst e he
            · simpa using hrow
          · have e1 : (c.toList.take (n' * st)).set (i * st + o) vx = c.toList.take (n' * st) := List.ext_getElem? fun k => by
              by_cases hk' : k = i * st + o
              · subst hk'; rw [List.getElem?_set_self (by simp; omega), hvx]
              · rw [List.getElem?_set_ne (fun e => hk' e.symm)]
            have e2 : (es.set i (row.set o (setN x (q :: p) xs'))).flatten = es.flatten.set (i * st + o) (setN x (q :: p) xs') := by
              have h1 := set_row_flatten (o := o) (xs := [setN x (q :: p) xs']) hst hk (by simp; omega)
              have hfl2 : i * st + o < es.flatten.length := by rw [hfl, hn]; omega
              rw [List.set_eq_take_append_cons_drop (l := row), if_pos holt, List.set_eq_take_append_cons_drop (l := es.flatten), if_pos hfl2]
              simpa [List.append_assoc] using h1
            rw [e1] at back'
            rw [e2]; exact back'
        · simp only [List.append_nil]
          have p1 : (Ra ++ R'' ++ Rb).Perm (Ra ++ (Rx' ++ R') ++ Rb) := List.Perm.append_right _ (List.Perm.append_left _ hperm)
          have p2 : (Ra ++ (Rx' ++ R') ++ Rb).Perm (Rx' ++ (Ra ++ R' ++ Rb)) := by
            have : (Ra ++ (Rx' ++ R')).Perm (Rx' ++ (Ra ++ R')) := by
              rw [← List.append_assoc, ← List.append_assoc]
              exact List.Perm.append_right _ List.perm_append_comm
            have := List.Perm.append_right Rb this
            simpa [List.append_assoc] using this
          exact (List.Perm.cons b0 (p1.trans p2)).trans List.perm_middle.symm
    | _ => simp [FV.kids] at hk

end Go.Fm
