/- Regions that draw their order: the rule. -/
import Derived.Test.YthfkhokmgolabaaDoorFmDraw3
set_option linter.unusedVariables false
set_option linter.unusedSimpArgs false
namespace Go.Fm
open Go

/-- the edges of an operation that bind -/
def bnds (o : Oper) : List Nat := (o.after.toList.filter (Region.binds .any)).map (·.on)
/-- what comes ahead of an operation, as bits -/
def mask (acc : List Nat) (o : Oper) : Nat := (bnds o).foldl (fun m e => m ||| (1 <<< e ||| acc.getD e 0)) 0
def masks : List Oper → List Nat → List Nat
  | [], acc => acc
  | o :: os, acc => masks os (acc ++ [mask acc o])

def edgesOk : Nat → List Oper → Bool
  | _, [] => true
  | i, o :: os => (bnds o).all (fun e => decide (e < i)) && edgesOk (i + 1) os
/-- the operands of the i-th come from ahead of it -/
def srcsOk (D : List Nat) : List FO → List Oper → Bool
  | [], _ => true
  | f :: fs, o :: os => (f.srcs.all fun s => !D.contains s || (bnds o).contains (D.idxOf s)) && srcsOk D fs os
  | _ :: _, [] => false
def tailOk (ms : List Nat) : Nat → Nat → Bool
  | i, 0 => true
  | i, k + 1 => ((List.range i).all fun j => (ms.getD i 0).testBit j) && tailOk ms (i + 1) k
def nodupB : List Nat → Bool
  | [] => true
  | x :: l => !l.contains x && nodupB l
/-- the first n may be done in any order that their edges allow; the others come behind them, one after the other -/
def drawChk (n : Nat) (fs : List FO) (ops : List Oper) : Bool :=
  nodupB (dests (fs.take n)) && (decide (n ≤ fs.length) && (edgesOk 0 ops && (srcsOk (dests (fs.take n)) (fs.take n) ops && tailOk (masks ops []) n (fs.length - n))))
/-- nothing leans on what the first n yield -/
def rootOk (D : List Nat) : FV → Bool
  | .al r _ | .ptr r _ => !D.contains r
  | _ => true
def rootsOk (D : List Nat) (E : Env) : Bool := E.all fun x => rootOk D x.2
def freshOk (D : List Nat) (E : Env) : Bool := E.all fun x => !D.contains x.1

section
theorem nodupB_spec : ∀ {l : List Nat}, nodupB l = true → l.Nodup
  | [], _ => List.nodup_nil
  | x :: l, h => by
    simp only [nodupB, Bool.and_eq_true, Bool.not_eq_true'] at h
    exact List.nodup_cons.2 ⟨by simpa using h.1, nodupB_spec h.2⟩

theorem edgesOk_spec : ∀ {os : List Oper} {i k : Nat} {o : Oper}, edgesOk i os = true → os[k]? = some o → ∀ e ∈ bnds o, e < i + k
  | [], i, k, o, _, h => by simp at h
  | o' :: os, i, k, o, h, hk => by
    simp only [edgesOk, Bool.and_eq_true, List.all_eq_true, decide_eq_true_eq] at h
    cases k with
    | zero => simp at hk; subst hk; exact h.1
    | succ k => intro e he; have := edgesOk_spec h.2 (by simpa using hk) e he; omega

theorem srcsOk_spec {D : List Nat} : ∀ {fs : List FO} {os : List Oper} {k : Nat} {f : FO} {o : Oper}, srcsOk D fs os = true → fs[k]? = some f → os[k]? = some o → ∀ s ∈ f.srcs, s ∈ D → D.idxOf s ∈ bnds o
  | [], os, k, f, o, _, h, _ => by simp at h
  | f' :: fs, [], k, f, o, h, _, h2 => by simp at h2
  | f' :: fs, o' :: os, k, f, o, h, hf, ho => by
    simp only [srcsOk, Bool.and_eq_true, List.all_eq_true, Bool.or_eq_true, Bool.not_eq_true'] at h
    cases k with
    | zero =>
      simp at hf ho
      subst hf; subst ho
      intro s hs hD
      rcases h.1 s hs with h1 | h1
      · have := List.contains_iff_mem.2 hD; rw [h1] at this; cases this
      · exact List.contains_iff_mem.1 h1
    | succ k => exact srcsOk_spec h.2 (by simpa using hf) (by simpa using ho)

/-- what is listed is closed under what comes ahead -/
def Closed (ops : List Oper) (L : Nat → Prop) : Prop := ∀ i o, ops[i]? = some o → L i → ∀ e ∈ bnds o, L e

theorem mask_spec {L : Nat → Prop} {acc : List Nat} : ∀ (es : List Nat) (m0 : Nat), (∀ j, m0.testBit j = true → L j) → (∀ e ∈ es, L e ∧ ∀ j, (acc.getD e 0).testBit j = true → L j) →
    ∀ j, (es.foldl (fun m e => m ||| (1 <<< e ||| acc.getD e 0)) m0).testBit j = true → L j
  | [], m0, h, _ => h
  | e :: es, m0, h, he => by
    simp only [List.foldl_cons]
    refine mask_spec es _ (fun j hj => ?_) fun e' m => he e' (by simp [m])
    simp only [Nat.testBit_or, Bool.or_eq_true] at hj
    rcases hj with hj | hj | hj
    · exact h j hj
    · rw [Nat.shiftLeft_eq, Nat.one_mul, Nat.testBit_two_pow] at hj
      have : e = j := by simpa using hj
      subst this
      exact (he e (by simp)).1
    · exact (he e (by simp)).2 j hj

theorem masks_spec {ops : List Oper} {L : Nat → Prop} (hc : Closed ops L) : ∀ (os : List Oper) (pre : List Oper) (acc : List Nat), ops = pre ++ os → acc.length = pre.length →
    (∀ i o, pre[i]? = some o → (∀ e ∈ bnds o, L e) → ∀ j, (acc.getD i 0).testBit j = true → L j) →
    ∀ i o, ops[i]? = some o → (∀ e ∈ bnds o, L e) → ∀ j, ((masks os acc).getD i 0).testBit j = true → L j
  | [], pre, acc, e, hl, h => by simp at e; subst e; exact h
  | o :: os, pre, acc, e, hl, h => by
    simp only [masks]
    refine masks_spec hc os (pre ++ [o]) _ (by simp [e]) (by simp [hl]) fun i o' hi he j hj => ?_
    rcases Nat.lt_or_ge i pre.length with hlt | hge
    · rw [List.getElem?_append_left hlt] at hi
      refine h i o' hi he j ?_
      rw [List.getD_eq_getElem?_getD, List.getElem?_append_left (by omega), ← List.getD_eq_getElem?_getD] at hj
      exact hj
    · rw [List.getElem?_append_right hge] at hi
      have : i = pre.length := by
        rcases Nat.lt_or_ge (i - pre.length) 1 with h1 | h1
        · omega
        · rw [List.getElem?_eq_none (by simpa using h1)] at hi; cases hi
      subst this
      simp at hi
      subst hi
      rw [List.getD_eq_getElem?_getD, List.getElem?_append_right (by omega), hl, Nat.sub_self] at hj
      refine mask_spec (bnds o) 0 (by simp) (fun e' m => ⟨he e' m, fun j' hj' => ?_⟩) j (by simpa [mask] using hj)
      -- an edge leads to one ahead, whose own edges are listed
      cases ho : pre[e']? with
      | some o2 => exact h e' o2 ho (hc e' o2 (by rw [e, List.getElem?_append_left (List.getElem?_eq_some_iff.1 ho).1]; exact ho) (he e' m)) j' hj'
      | none =>
        have : acc.getD e' 0 = 0 := by
          rw [List.getD_eq_getElem?_getD, List.getElem?_eq_none (by rw [hl]; exact List.getElem?_eq_none_iff.1 ho)]; rfl
        rw [this] at hj'
        simp at hj'
theorem tailOk_spec {ms : List Nat} : ∀ {k i : Nat}, tailOk ms i k = true → ∀ q, i ≤ q → q < i + k → ∀ j, j < q → (ms.getD q 0).testBit j = true
  | 0, i, _, q, h1, h2 => by omega
  | k + 1, i, h, q, h1, h2 => by
    simp only [tailOk, Bool.and_eq_true, List.all_eq_true, List.mem_range] at h
    by_cases e : q = i
    · subst e; exact h.1
    · exact tailOk_spec h.2 q (by omega) (by omega)
end

section
variable {P : Program} {N : Nat} {xv : Nat → Value} {a : Act} {w : World} {S : Nat → Prop} {R : List Nat}

/-- the slots that are to be seen while only some are done -/
def vis (D : List Nat) (listed : Array Bool) (x : Nat) : Bool := !D.contains x || listed.getD (D.idxOf x) false

theorem chkL_get {ops : List Oper} : ∀ {fs : List FO} {l : List Oper}, chkL P N ops fs l = true → fs.length = l.length ∧ ∀ (i : Nat) (f : FO) (o : Oper), fs[i]? = some f → l[i]? = some o → f.chk P N ops o = true
  | [], [], _ => ⟨rfl, by simp⟩
  | _ :: _, [], h => by simp [chkL] at h
  | [], _ :: _, h => by simp [chkL] at h
  | f :: fs, o :: l, h => by
    simp only [chkL, Bool.and_eq_true] at h
    obtain ⟨h1, h2⟩ := chkL_get h.2
    refine ⟨by simp [h1], fun i f' o' hf ho => ?_⟩
    cases i with
    | zero => simp at hf ho; subst hf; subst ho; exact h.1
    | succ i => exact h2 i f' o' (by simpa using hf) (by simpa using ho)

/-- how far a drawn region has come -/
inductive Phase (P : Program) (N : Nat) (xv : Nat → Value) (w0 : World) (S0 : Nat → Prop) (R0 : List Nat) (n : Nat) (fs : List FO) (Ef : Env) (J : Env → Prop) (listed : Array Bool) (a : Act) (w : World) : Prop
  | light (S : Nat → Prop) (R : List Nat) (h1 : ∀ i, n ≤ i → i < fs.length → listed.getD i true = false) (r : Rel N xv (Ef.only (vis (dests (fs.take n)) listed)) a w S R) (e : Ext w0 S0 R0 w S R)
  | tail (k : Nat) (S : Nat → Prop) (R : List Nat) (E : Env) (h0 : n ≤ k) (h1 : k ≤ fs.length) (h2 : ∀ i, i < fs.length → listed.getD i true = decide (i < k)) (r : Rel N xv E a w S R) (e : Ext w0 S0 R0 w S R) (h : runOps P (fs.drop k) E J)

theorem ready_iff {ops : List Oper} {listed : Array Bool} {i : Nat} : i ∈ Region.ready .any ops.toArray listed ↔ ∃ o, ops[i]? = some o ∧ listed.getD i true = false ∧ ∀ e ∈ bnds o, listed.getD e false = true := by
  have key : ∀ o : Oper, (o.after.all fun e => !Region.binds .any e || listed.getD e.on false) = true ↔ ∀ e ∈ bnds o, listed.getD e false = true := fun o => by
    rw [← Array.all_toList, List.all_eq_true]
    simp only [bnds, List.mem_map, List.mem_filter]
    constructor
    · rintro h e ⟨x, ⟨hx, hb⟩, rfl⟩
      have := h x hx
      simpa [hb] using this
    · intro h x hx
      cases hb : Region.binds .any x
      · rfl
      · simpa using h x.on ⟨x, ⟨hx, hb⟩, rfl⟩
  unfold Region.ready
  simp only [List.mem_filter, List.mem_range, List.size_toArray, Bool.and_eq_true, Bool.not_eq_true']
  constructor
  · rintro ⟨hi, h1, h2⟩
    have hg : ops[i]? = some ops[i] := List.getElem?_eq_getElem hi
    refine ⟨_, hg, h1, (key _).1 ?_⟩
    rw [List.getElem?_toArray, hg] at h2
    exact h2
  · rintro ⟨o, ho, h1, h2⟩
    have hi := (List.getElem?_eq_some_iff.1 ho).1
    refine ⟨hi, h1, ?_⟩
    rw [List.getElem?_toArray, ho]
    exact (key o).2 h2

theorem getD_set {listed : Array Bool} {i j : Nat} {b d : Bool} (hi : i < listed.size) : (listed.setIfInBounds i b).getD j d = if i = j then b else listed.getD j d := by
  rw [Array.getD_eq_getD_getElem?, Array.getElem?_setIfInBounds, Array.getD_eq_getD_getElem?]
  split
  · rename_i e; subst e; simp [hi]
  · rfl

theorem idx_nodup {D : List Nat} (hnd : D.Nodup) {i d : Nat} (hd : D[i]? = some d) : D.idxOf d = i := by
  obtain ⟨hi, rfl⟩ := List.getElem?_eq_some_iff.1 hd
  exact hnd.idxOf_getElem i hi
theorem vis_set {D : List Nat} (hnd : D.Nodup) {listed : Array Bool} {i d : Nat} (hi : i < listed.size) (hd : D[i]? = some d) : vis D (listed.setIfInBounds i true) = fun x => vis D listed x || x == d := by
  funext x
  unfold vis
  rw [getD_set hi]
  by_cases hx : x = d
  · subst hx
    rw [idx_nodup hnd hd]
    simp
  · by_cases hm : x ∈ D
    · have hne : i ≠ D.idxOf x := fun e => by
        have h0 := List.idxOf_lt_length_of_mem hm
        have h1 : D[D.idxOf x]? = some x := by rw [List.getElem?_eq_getElem h0, List.getElem_idxOf h0]
        rw [← e, hd] at h1
        exact hx (Option.some.inj h1).symm
      rw [if_neg hne]
      have : (x == d) = false := by simpa using hx
      simp [this]
    · have : D.contains x = false := by simpa using hm
      simp only [this, Bool.not_false, Bool.true_or]
theorem vis_tail {D : List Nat} {listed : Array Bool} {i : Nat} (hi : i < listed.size) (hd : D.length ≤ i) : vis D (listed.setIfInBounds i true) = vis D listed := by
  funext x
  unfold vis
  rw [getD_set hi]
  by_cases hm : x ∈ D
  · have := List.idxOf_lt_length_of_mem hm
    rw [if_neg (by omega)]
  · have : D.contains x = false := by simpa using hm
    simp only [this, Bool.not_false, Bool.true_or]

theorem getD_dflt {l : Array Bool} {i : Nat} (h : i < l.size) (b b' : Bool) : l.getD i b = l.getD i b' := by
  rw [Array.getD_eq_getD_getElem?, Array.getD_eq_getD_getElem?]; simp [h]

/-- the number of those that are still to come -/
def toCome (m : Nat) (listed : Array Bool) : Nat := ((List.range m).filter fun i => !listed.getD i true).length
theorem toCome_set {m : Nat} {listed : Array Bool} {i : Nat} (hi : i < listed.size) (him : i < m) (h : listed.getD i true = false) : toCome m (listed.setIfInBounds i true) < toCome m listed := by
  unfold toCome
  have h1 : ((List.range m).filter fun j => !(listed.setIfInBounds i true).getD j true) = ((List.range m).filter fun j => !listed.getD j true).filter fun j => j != i := by
    rw [List.filter_filter]
    refine List.filter_congr fun j _ => ?_
    rw [getD_set hi]
    by_cases e : i = j
    · subst e; simp
    · have : (j != i) = true := by simpa using fun h => e h.symm
      rw [if_neg e, this, Bool.true_and]
  rw [h1]
  have hmem : i ∈ (List.range m).filter fun j => !listed.getD j true := List.mem_filter.2 ⟨List.mem_range.2 him, by rw [h]; rfl⟩
  exact List.length_filter_lt_length_iff_exists.2 ⟨i, hmem, by simp⟩

/-- what is known of a drawn region -/
structure Drawn (P : Program) (N : Nat) (ops : List Oper) (n : Nat) (fs : List FO) (Ef : Env) (J : Env → Prop) : Prop where
  chk : chkL P N ops fs ops = true
  draw : drawChk n fs ops = true
  sorted : Ef.Sorted
  roots : rootsOk (dests (fs.take n)) Ef = true
  keys : ∀ f ∈ fs.take n, (f.d, Ef.get f.d) ∈ Ef
  tab : ∀ pre f post, fs.take n = pre ++ f :: post → detG P f (Ef.only fun x => !(dests (f :: post)).contains x) (· = Ef.get f.d)
  rest : runOps P (fs.drop n) Ef J

theorem drawn_any {ops : List Oper} {n : Nat} {fs : List FO} {Ef : Env} {J : Env → Prop} {Q : Exit → Act → World → Prop} {w0 : World} {S0 : Nat → Prop} {R0 : List Nat} (hA0 : Amb P w0 S0) (hs0 : ∀ b, S0 b → b < w0.heap.size ∧ b ∉ R0) (D : Drawn P N ops n fs Ef J)
    (hq : ∀ a' w', Post N xv J w0 S0 R0 a' w' → Q .normal a' w') : ∀ (fuel : Nat) (listed : Array Bool) (a : Act) (w : World), listed.size = ops.length → toCome ops.length listed ≤ fuel → Closed ops (fun i => listed.getD i false = true) →
    Phase P N xv w0 S0 R0 n fs Ef J listed a w → wpAny P .any ops.toArray Q fuel listed a w := by
  have hd := D.draw
  simp only [drawChk, Bool.and_eq_true, decide_eq_true_eq] at hd
  obtain ⟨hnd, hn, hedges, hsrcs, htail⟩ := hd
  have hnd := nodupB_spec hnd
  obtain ⟨hlen, hget⟩ := chkL_get D.chk
  have hDlen : (dests (fs.take n)).length = n := by simp [dests]; omega
  have fsome : ∀ {i : Nat} {o : Oper}, ops[i]? = some o → ∃ f, fs[i]? = some f ∧ f.chk P N ops o = true := fun {i o} ho => by
    have hi := (List.getElem?_eq_some_iff.1 ho).1
    have hf : fs[i]? = some (fs[i]'(by omega)) := List.getElem?_eq_getElem (by omega)
    exact ⟨_, hf, hget i _ o hf ho⟩
  have visAll : ∀ {listed : Array Bool}, listed.size = ops.length → (∀ i, i < n → listed.getD i true = true) → Ef.only (vis (dests (fs.take n)) listed) = Ef := fun {listed} hsz hall => only_all fun x hx => by
    unfold vis
    by_cases hm : x.1 ∈ dests (fs.take n)
    · have := List.idxOf_lt_length_of_mem hm
      have h3 := hall _ (show (dests (fs.take n)).idxOf x.1 < n by omega)
      rw [getD_dflt (by omega) false true, h3, Bool.or_true]
    · have : (dests (fs.take n)).contains x.1 = false := by simpa using hm
      simp only [this, Bool.not_false, Bool.true_or]
  -- all is done
  have done : ∀ {listed a w}, listed.size = ops.length → (∀ i, i < ops.length → listed.getD i true = true) → Phase P N xv w0 S0 R0 n fs Ef J listed a w → Q .normal a w := by
    intro listed a w hsz hall ph
    cases ph with
    | light S R h1 r e =>
      have hnn : n = fs.length := by
        rcases Nat.lt_or_ge n fs.length with h | h
        · have := h1 n (Nat.le_refl _) h
          rw [hall n (by omega)] at this; cases this
        · omega
      rw [visAll hsz fun i hi => hall i (by omega)] at r
      have hrest := D.rest
      rw [hnn, List.drop_length] at hrest
      exact hq a w ⟨Ef, S, R, hrest, r, e⟩
    | tail k S R E h0 h1 h2 r e h =>
      have : k = fs.length := by
        rcases Nat.lt_or_ge k fs.length with hk | hk
        · have := h2 k hk
          rw [hall k (by omega)] at this
          simp at this
        · omega
      subst this
      rw [List.drop_length] at h
      exact hq a w ⟨E, S, R, h, r, e⟩
  intro fuel
  induction fuel with
  | zero =>
    intro listed a w hsz hcnt hcl ph
    have hall : ∀ i, i < ops.length → listed.getD i true = true := fun i hi => by
      have h0 : ((List.range ops.length).filter fun i => !listed.getD i true) = [] := List.length_eq_zero_iff.1 (Nat.le_zero.1 hcnt)
      have := List.filter_eq_nil_iff.1 h0 i (List.mem_range.2 hi)
      simpa only [Bool.not_eq_true', Bool.not_eq_false] using this
    refine ⟨?_, done hsz hall ph⟩
    rw [List.eq_nil_iff_forall_not_mem]
    intro i hi
    obtain ⟨o, ho, h1, _⟩ := ready_iff.1 hi
    rw [hall i (List.getElem?_eq_some_iff.1 ho).1] at h1
    cases h1
  | succ fuel ih =>
    intro listed a w hsz hcnt hcl ph
    refine ⟨fun hre => done hsz (fun i => ?_) ph, fun i hi => ?_⟩
    · induction i using Nat.strongRecOn with
      | _ i ihi =>
      intro hi
      cases hl : listed.getD i true with
      | true => rfl
      | false =>
        exfalso
        have ho : ops[i]? = some (ops[i]'hi) := List.getElem?_eq_getElem hi
        have : i ∈ Region.ready .any ops.toArray listed := ready_iff.2 ⟨_, ho, hl, fun e he => by
          have := edgesOk_spec hedges ho e he
          rw [getD_dflt (by omega) false true]
          exact ihi e (by omega) (by omega)⟩
        rw [hre] at this
        cases this
    · obtain ⟨o, ho, hun, hed⟩ := ready_iff.1 hi
      have hil := (List.getElem?_eq_some_iff.1 ho).1
      obtain ⟨f, hf, hchk⟩ := fsome ho
      simp only [FO.chk, Bool.and_eq_true] at hchk
      -- the state behind
      have hsz' : (listed.setIfInBounds i true).size = ops.length := by rw [Array.size_setIfInBounds]; exact hsz
      have hcnt' : toCome ops.length (listed.setIfInBounds i true) ≤ fuel := by have := toCome_set (by omega) hil hun; omega
      have hcl' : Closed ops (fun j => (listed.setIfInBounds i true).getD j false = true) := fun j oj hj hlj e he => by
        have hlj : (listed.setIfInBounds i true).getD j false = true := hlj
        show (listed.setIfInBounds i true).getD e false = true
        rw [getD_set (by omega)] at hlj ⊢
        split
        · rfl
        · split at hlj
          · rename_i h; subst h
            rw [ho] at hj; cases hj
            exact hed e he
          · exact hcl j oj hj hlj e he
      unfold wpOp
      rw [List.getElem?_toArray, ho]
      simp only
      -- what lies behind the first n comes one after the other
      have ahead : n ≤ i → ∀ j, j < i → listed.getD j true = true := fun hni j hj => by
        have h1 := masks_spec hcl ops [] [] rfl rfl (fun i o h => by simp at h) i o ho hed j
        rw [getD_dflt (by omega) true false]
        refine h1 ?_
        rw [← tailOk_spec htail i hni (by omega) j hj]
      cases ph with
      | light S R h1 r e =>
        rcases Nat.lt_or_ge i n with hin | hin
        · -- one of those that may come in any order
          have hfd : (dests (fs.take n))[i]? = some f.d := by
            simp only [dests, List.getElem?_map, List.getElem?_take, if_pos hin, hf, Option.map_some]
          have hmemf : f ∈ fs.take n := List.mem_iff_getElem?.2 ⟨i, by rw [List.getElem?_take, if_pos hin]; exact hf⟩
          have hft : (fs.take n)[i]? = some f := by rw [List.getElem?_take, if_pos hin]; exact hf
          obtain ⟨hit, hfe⟩ := List.getElem?_eq_some_iff.1 hft
          have hsplit : fs.take n = (fs.take n).take i ++ f :: (fs.take n).drop (i + 1) := by
            rw [← hfe, ← List.drop_eq_getElem_cons hit, List.take_append_drop]
          have htab := D.tab _ _ _ hsplit
          have hdd : dests (fs.take n) = dests ((fs.take n).take i) ++ dests (f :: (fs.take n).drop (i + 1)) := by
            have := congrArg dests hsplit
            simpa [dests] using this
          have hmem_dests : f.d ∈ dests (fs.take n) := List.mem_iff_getElem?.2 ⟨i, hfd⟩
          -- what it reads is the same
          have hag : ∀ s ∈ f.srcs, Agree (Ef.only fun x => !(dests (f :: (fs.take n).drop (i + 1))).contains x) (Ef.only (vis (dests (fs.take n)) listed)) s := fun s hs => by
            have hsrc := srcsOk_spec hsrcs hft ho s hs
            -- seen in both
            have v1 : (!(dests (f :: (fs.take n).drop (i + 1))).contains s) = true := by
              rw [Bool.not_eq_true', ← Bool.not_eq_true]
              intro hm
              have hm : s ∈ dests (f :: (fs.take n).drop (i + 1)) := by simpa using hm
              have hmD : s ∈ dests (fs.take n) := by rw [hdd]; simp [hm]
              have hlt := edgesOk_spec hedges ho _ (hsrc hmD)
              -- but it stands at i or behind
              obtain ⟨q, hq⟩ := List.mem_iff_getElem?.1 hm
              have hq2 : (dests (fs.take n))[i + q]? = some s := by
                rw [hdd, List.getElem?_append_right (by simp [dests]; omega)]
                have : (dests ((fs.take n).take i)).length = i := by simp [dests]; omega
                rw [this, Nat.add_sub_cancel_left]
                exact hq
              have := idx_nodup hnd hq2
              omega
            have v2 : vis (dests (fs.take n)) listed s = true := by
              unfold vis
              by_cases hm : s ∈ dests (fs.take n)
              · rw [hed _ (hsrc hm), Bool.or_true]
              · have : (dests (fs.take n)).contains s = false := by simpa using hm
                simp only [this, Bool.not_false, Bool.true_or]
            refine ⟨by rw [get_only, get_only, if_pos v2, if_pos v1], ?_⟩
            intro rr p hal
            rw [get_only, if_pos v1] at hal
            have hmemE : (s, Ef.get s) ∈ Ef := Env.get_mem (by rcases hal with h | h <;> rw [h] <;> simp)
            have hroot := List.all_eq_true.1 D.roots _ hmemE
            have hnr : (dests (fs.take n)).contains rr = false := by
              rcases hal with h | h <;> rw [h] at hroot <;> simpa [rootOk] using hroot
            have hnr2 : (dests (f :: (fs.take n).drop (i + 1))).contains rr = false := by
              rw [← Bool.not_eq_true]
              intro hm
              have hm : rr ∈ dests (f :: (fs.take n).drop (i + 1)) := by simpa using hm
              have : rr ∈ dests (fs.take n) := by rw [hdd]; simp [hm]
              have := List.contains_iff_mem.2 this
              rw [hnr] at this; cases this
            rw [get_only, get_only, if_pos (by unfold vis; rw [hnr]; rfl), if_pos (by rw [hnr2]; rfl)]
          have hst := detG_step (detG_agree hag htab)
          refine step_ok hchk.1 hchk.2 (hA0.ext e hs0) r hst fun a' w' hp => ?_
          obtain ⟨E', S', R', ⟨v, rfl, rfl⟩, r', e'⟩ := hp
          have hvd : vis (dests (fs.take n)) listed f.d = false := by
            unfold vis
            have h3 : (dests (fs.take n)).contains f.d = true := by simpa using hmem_dests
            rw [h3, idx_nodup hnd hfd, getD_dflt (by omega) false true, hun]; rfl
          have hfresh : ∀ x ∈ Ef.only (vis (dests (fs.take n)) listed), x.1 ≠ f.d := fun x hx hxd => by
            have := (only_mem.1 hx).2
            rw [hxd, hvd] at this; cases this
          rw [upd_fresh hfresh, only_put _ _ _ hvd Ef D.sorted (D.keys f hmemf)] at r'
          refine ih _ a' w' hsz' hcnt' hcl' (.light S' R' (fun j hj1 hj2 => ?_) ?_ (e.trans e'))
          · rw [getD_set (by omega), if_neg (by omega)]; exact h1 j hj1 hj2
          · rw [vis_set hnd (by omega) hfd]; exact r'
        · have hni : i = n := by
            rcases Nat.lt_or_ge n i with h | h
            · have h2 := ahead hin n h
              rw [h1 n (Nat.le_refl _) (by omega)] at h2; cases h2
            · omega
          subst hni
          rw [visAll hsz fun j hj => ahead hin j hj] at r
          have hrest := D.rest
          have hdrop : fs.drop i = f :: fs.drop (i + 1) := by
            obtain ⟨hfi, hfe⟩ := List.getElem?_eq_some_iff.1 hf
            rw [← hfe, ← List.drop_eq_getElem_cons hfi]
          rw [hdrop, runOps_cons] at hrest
          refine step_ok hchk.1 hchk.2 (hA0.ext e hs0) r hrest fun a' w' hp => ?_
          obtain ⟨E', S', R', k, r', e'⟩ := hp
          refine ih _ a' w' hsz' hcnt' hcl' (.tail (i + 1) S' R' E' (by omega) (by omega) (fun j hj => ?_) r' (e.trans e') k)
          rw [getD_set (by omega)]
          split
          · simp; omega
          · rcases Nat.lt_or_ge j i with h | h
            · rw [ahead hin j h]; simp; omega
            · rw [h1 j h hj]; simp; omega
      | tail k S R E h0 h1 h2 r e h =>
        have hik : i = k := by
          have h3 := h2 i (by omega)
          rw [hun] at h3
          have h4 : ¬ i < k := by simpa using h3.symm
          rcases Nat.lt_or_ge k i with h5 | h5
          · have h6 := ahead (by omega) k h5
            rw [h2 k (by omega)] at h6
            simp at h6
          · omega
        subst hik
        have hdrop : fs.drop i = f :: fs.drop (i + 1) := by
          obtain ⟨hfi, hfe⟩ := List.getElem?_eq_some_iff.1 hf
          rw [← hfe, ← List.drop_eq_getElem_cons hfi]
        rw [hdrop, runOps_cons] at h
        refine step_ok hchk.1 hchk.2 (hA0.ext e hs0) r h fun a' w' hp => ?_
        obtain ⟨E', S', R', k', r', e'⟩ := hp
        refine ih _ a' w' hsz' hcnt' hcl' (.tail (i + 1) S' R' E' (by omega) (by omega) (fun j hj => ?_) r' (e.trans e') k')
        rw [getD_set (by omega)]
        split
        · simp; omega
        · rw [h2 j hj]
          by_cases h5 : j < i
          · simp [h5]; omega
          · simp [h5]; omega
end
end Go.Fm
