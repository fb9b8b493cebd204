/- Part of a proof: see the last text of the claim. -/
import Derived.Test.YthfkhokmgolabaaDoorFxT8
set_option linter.unusedVariables false
set_option linter.unusedSimpArgs false
namespace Go.Fx.Tryd
open Go Go.Fm Go.Proofs

structure NodeL where
  op : Int
  n : Int
def NodeL.row (x : NodeL) : List FV := [.int .i64 x.op, .int .i64 x.n]
structure FieldL where
  name : List UInt8
  k : Int
  e : Int
def FieldL.row (x : FieldL) : List FV := [.str x.name, .int .i64 x.k, .int .i64 x.e]
structure RuleL where
  name : List UInt8
  d : Int
  p : Int
  pr : Int
  f : Int
  t : Int
  gfull : Bool
  guard : List NodeL
  vfull : Bool
  value : List NodeL
  src : List UInt8
def nodesV (l : List NodeL) : List (List FV) := l.map NodeL.row
def RuleL.row (x : RuleL) : List FV := [.str x.name, .int .i64 x.d, .int .i64 x.p, .int .i64 x.pr, .int .i64 x.f, .int .i64 x.t, .sl x.gfull (nodesV x.guard), .sl x.vfull (nodesV x.value), .str x.src]
structure RowL where
  f : Int
  t : Int
  lo : Int
  hi : Int
  n : Int
def RowL.row (x : RowL) : List FV := [.int .i64 x.f, .int .i64 x.t, .int .i64 x.lo, .int .i64 x.hi, .int .i64 x.n]
structure TableL where
  name : List UInt8
  kk : Int
  ke : Int
  vk : Int
  ve : Int
  rfull : Bool
  rows : List RowL
def rowsV (l : List RowL) : List (List FV) := l.map RowL.row
def TableL.row (x : TableL) : List FV := [.str x.name, .int .i64 x.kk, .int .i64 x.ke, .int .i64 x.vk, .int .i64 x.ve, .sl x.rfull (rowsV x.rows)]
def fieldsV (l : List FieldL) : List (List FV) := l.map FieldL.row
def rulesV (l : List RuleL) : List (List FV) := l.map RuleL.row
structure ScopeL where
  name : List UInt8
  ms : Int
  ifull : Bool
  inputs : List FieldL
  dfull : Bool
  defs : List FieldL
  rfull : Bool
  rules : List RuleL
def ScopeL.row (x : ScopeL) : List FV := [.str x.name, .int .i64 x.ms, .sl x.ifull (fieldsV x.inputs), .sl x.dfull (fieldsV x.defs), .sl x.rfull (rulesV x.rules)]
def tablesV (l : List TableL) : List (List FV) := l.map TableL.row
def scopesV (l : List ScopeL) : List (List FV) := l.map ScopeL.row
structure LawL where
  efull : Bool
  enums : List EnumL
  tfull : Bool
  tables : List TableL
  sfull : Bool
  scopes : List ScopeL
def LawL.row (x : LawL) : List FV := [.sl x.efull (enumsV x.enums), .sl x.tfull (tablesV x.tables), .sl x.sfull (scopesV x.scopes)]
@[go_sem] theorem nodesV_length (l : List NodeL) : (nodesV l).length = l.length := by simp [nodesV]
@[go_sem] theorem fieldsV_length (l : List FieldL) : (fieldsV l).length = l.length := by simp [fieldsV]
@[go_sem] theorem rulesV_length (l : List RuleL) : (rulesV l).length = l.length := by simp [rulesV]
@[go_sem] theorem rowsV_length (l : List RowL) : (rowsV l).length = l.length := by simp [rowsV]
@[go_sem] theorem tablesV_length (l : List TableL) : (tablesV l).length = l.length := by simp [tablesV]
@[go_sem] theorem scopesV_length (l : List ScopeL) : (scopesV l).length = l.length := by simp [scopesV]
theorem fieldsV_get {l : List FieldL} {i : Nat} (h : i < l.length) : (fieldsV l)[i]? = some l[i].row := by simp [fieldsV, h]
theorem rulesV_get {l : List RuleL} {i : Nat} (h : i < l.length) : (rulesV l)[i]? = some l[i].row := by simp [rulesV, h]
theorem tablesV_get {l : List TableL} {i : Nat} (h : i < l.length) : (tablesV l)[i]? = some l[i].row := by simp [tablesV, h]
theorem rowsV_get {l : List RowL} {i : Nat} (h : i < l.length) : (rowsV l)[i]? = some l[i].row := by simp [rowsV, h]
theorem scopesV_get {l : List ScopeL} {i : Nat} (h : i < l.length) : (scopesV l)[i]? = some l[i].row := by simp [scopesV, h]

def noScope : ScopeL := ⟨[], -1, true, [], true, [], true, []⟩
def inR (i : Int) (n : Nat) : Bool := decide (0 ≤ i ∧ i < n)
def scopeAtL (l : List ScopeL) (i : Int) : ScopeL := if 0 ≤ i then (l[i.toNat]?).getD noScope else noScope
theorem inR_cases {i : Int} {n : Nat} : (i < 0 ∧ inR i n = false) ∨ (¬ i < 0 ∧ (n : Int) ≤ i ∧ inR i n = false) ∨ (∃ j : Nat, i = j ∧ j < n ∧ inR i n = true) := by
  unfold inR
  by_cases h1 : i < 0
  · exact .inl ⟨h1, by simp; omega⟩
  · by_cases h2 : (n : Int) ≤ i
    · exact .inr (.inl ⟨h1, h2, by simp; omega⟩)
    · exact .inr (.inr ⟨i.toNat, by omega, by omega, by simp; omega⟩)
theorem scopeAtL_lo {l : List ScopeL} {i : Int} (h : i < 0) : scopeAtL l i = noScope := by unfold scopeAtL; rw [if_neg (by omega)]
theorem scopeAtL_hi {l : List ScopeL} {i : Int} (h : (l.length : Int) ≤ i) : scopeAtL l i = noScope := by
  unfold scopeAtL; rw [if_pos (by omega), List.getElem?_eq_none (by omega)]; rfl
theorem scopeAtL_in {l : List ScopeL} {j : Nat} (h : j < l.length) : scopeAtL l (j : Int) = l[j] := by
  unfold scopeAtL; rw [if_pos (by omega), Int.toNat_natCast, List.getElem?_eq_getElem h]; rfl
theorem scopeAt_call {l : LawL} {i : Int} : FCall Tryd.prog 24 [.agg l.row, .int .i64 i] (· = .tup [.agg (scopeAtL l.scopes i).row, .bool (inR i l.scopes.length)]) := by
  rcases inR_cases (i := i) (n := l.scopes.length) with ⟨h1, h2⟩ | ⟨h1, h2, h3⟩ | ⟨j, rfl, h2, h3⟩
  · rw [h2, scopeAtL_lo h1]
    refine FCall.walk Tryd.func24 k24 rfl ?_
    unfold c24
    simp only [go_sem, ↓reduceIte, reduceCtorEq, Nat.reduceEqDiff, Nat.reduceLT, Nat.reduceLeDiff, Nat.reduceAdd, Nat.reduceSub, Nat.reduceMul, Nat.reduceBNe, Nat.reduceBEq, Int.reduceToNat, Int.reduceLE, Int.reduceLT, Int.reduceEq, Int.reduceNe, Int.reduceAdd, Int.reduceSub, Int.reduceNeg, mixed, decide_eq_true_eq, decide_eq_false_iff_not, Bool.not_eq_true', Bool.not_eq_false', List.headD_cons, Option.some.injEq, Int.cast_ofNat_Int, LawL.row, h1]
    rfl
  · rw [h3, scopeAtL_hi h2]
    refine FCall.walk Tryd.func24 k24 rfl ?_
    unfold c24
    simp only [go_sem, ↓reduceIte, reduceCtorEq, Nat.reduceEqDiff, Nat.reduceLT, Nat.reduceLeDiff, Nat.reduceAdd, Nat.reduceSub, Nat.reduceMul, Nat.reduceBNe, Nat.reduceBEq, Int.reduceToNat, Int.reduceLE, Int.reduceLT, Int.reduceEq, Int.reduceNe, Int.reduceAdd, Int.reduceSub, Int.reduceNeg, mixed, decide_eq_true_eq, decide_eq_false_iff_not, Bool.not_eq_true', Bool.not_eq_false', List.headD_cons, Option.some.injEq, Int.cast_ofNat_Int, LawL.row, h1, h2]
    rfl
  · have hx := scopesV_get h2
    have h4 : ¬ (l.scopes.length : Int) ≤ (j : Int) := by omega
    have h5 : ¬ (j : Int) < 0 := by omega
    rw [h3, scopeAtL_in h2]
    refine FCall.walk Tryd.func24 k24 rfl ?_
    unfold c24
    simp only [go_sem, ↓reduceIte, reduceCtorEq, Nat.reduceEqDiff, Nat.reduceLT, Nat.reduceLeDiff, Nat.reduceAdd, Nat.reduceSub, Nat.reduceMul, Nat.reduceBNe, Nat.reduceBEq, Int.reduceToNat, Int.reduceLE, Int.reduceLT, Int.reduceEq, Int.reduceNe, Int.reduceAdd, Int.reduceSub, Int.reduceNeg, mixed, decide_eq_true_eq, decide_eq_false_iff_not, Bool.not_eq_true', Bool.not_eq_false', List.headD_cons, Option.some.injEq, Int.cast_ofNat_Int, LawL.row, hx, h4, h5, Int.toNat_natCast, ScopeL.row]
theorem scopeAt2_call {l : LawL} {i : Int} : FCall Tryd.prog 28 [.agg l.row, .int .i64 i] (· = .agg (scopeAtL l.scopes i).row) := by
  rcases inR_cases (i := i) (n := l.scopes.length) with ⟨h1, h2⟩ | ⟨h1, h2, h3⟩ | ⟨j, rfl, h2, h3⟩
  · rw [scopeAtL_lo h1]
    refine FCall.walk Tryd.func28 k28 rfl ?_
    unfold c28
    simp only [go_sem, ↓reduceIte, reduceCtorEq, Nat.reduceEqDiff, Nat.reduceLT, Nat.reduceLeDiff, Nat.reduceAdd, Nat.reduceSub, Nat.reduceMul, Nat.reduceBNe, Nat.reduceBEq, Int.reduceToNat, Int.reduceLE, Int.reduceLT, Int.reduceEq, Int.reduceNe, Int.reduceAdd, Int.reduceSub, Int.reduceNeg, mixed, decide_eq_true_eq, decide_eq_false_iff_not, Bool.not_eq_true', Bool.not_eq_false', List.headD_cons, Option.some.injEq, Int.cast_ofNat_Int, LawL.row, h1]
    rfl
  · rw [scopeAtL_hi h2]
    refine FCall.walk Tryd.func28 k28 rfl ?_
    unfold c28
    simp only [go_sem, ↓reduceIte, reduceCtorEq, Nat.reduceEqDiff, Nat.reduceLT, Nat.reduceLeDiff, Nat.reduceAdd, Nat.reduceSub, Nat.reduceMul, Nat.reduceBNe, Nat.reduceBEq, Int.reduceToNat, Int.reduceLE, Int.reduceLT, Int.reduceEq, Int.reduceNe, Int.reduceAdd, Int.reduceSub, Int.reduceNeg, mixed, decide_eq_true_eq, decide_eq_false_iff_not, Bool.not_eq_true', Bool.not_eq_false', List.headD_cons, Option.some.injEq, Int.cast_ofNat_Int, LawL.row, h1, h2]
    rfl
  · have hx := scopesV_get h2
    have h4 : ¬ (l.scopes.length : Int) ≤ (j : Int) := by omega
    have h5 : ¬ (j : Int) < 0 := by omega
    rw [scopeAtL_in h2]
    refine FCall.walk Tryd.func28 k28 rfl ?_
    unfold c28
    simp only [go_sem, ↓reduceIte, reduceCtorEq, Nat.reduceEqDiff, Nat.reduceLT, Nat.reduceLeDiff, Nat.reduceAdd, Nat.reduceSub, Nat.reduceMul, Nat.reduceBNe, Nat.reduceBEq, Int.reduceToNat, Int.reduceLE, Int.reduceLT, Int.reduceEq, Int.reduceNe, Int.reduceAdd, Int.reduceSub, Int.reduceNeg, mixed, decide_eq_true_eq, decide_eq_false_iff_not, Bool.not_eq_true', Bool.not_eq_false', List.headD_cons, Option.some.injEq, Int.cast_ofNat_Int, LawL.row, hx, h4, h5, Int.toNat_natCast, ScopeL.row]
def memberL (l : List ScopeL) (i : Int) : ScopeL := scopeAtL l (scopeAtL l i).ms
theorem member_call {l : LawL} {i : Int} : FCall Tryd.prog 26 [.agg l.row, .int .i64 i] (· = .agg (memberL l.scopes i).row) := by
  refine FCall.walk Tryd.func26 k26 rfl ?_
  unfold c26
  simp only [go_sem, ↓reduceIte, reduceCtorEq, Nat.reduceEqDiff, Nat.reduceLT, Nat.reduceLeDiff, Nat.reduceAdd, Nat.reduceSub, Nat.reduceMul, Nat.reduceBNe, Nat.reduceBEq, Int.reduceToNat, Int.reduceLE, Int.reduceLT, Int.reduceEq, Int.reduceNe, Int.reduceAdd, Int.reduceSub, Int.reduceNeg, mixed, decide_eq_true_eq, decide_eq_false_iff_not, Bool.not_eq_true', Bool.not_eq_false', List.headD_cons, Option.some.injEq, Int.cast_ofNat_Int, LawL.row]
  refine FCallT.of (scopeAt_call) ?_
  rintro _ rfl
  simp only [go_sem, ↓reduceIte, reduceCtorEq, Nat.reduceEqDiff, Nat.reduceLT, Nat.reduceLeDiff, Nat.reduceAdd, Nat.reduceSub, Nat.reduceMul, Nat.reduceBNe, Nat.reduceBEq, Int.reduceToNat, Int.reduceLE, Int.reduceLT, Int.reduceEq, Int.reduceNe, Int.reduceAdd, Int.reduceSub, Int.reduceNeg, mixed, decide_eq_true_eq, decide_eq_false_iff_not, Bool.not_eq_true', Bool.not_eq_false', List.headD_cons, Option.some.injEq, Int.cast_ofNat_Int, ScopeL.row, LawL.row]
  refine ⟨fun h => ?_, fun h => ?_⟩
  · have : scopeAtL l.scopes i = noScope := by
      rcases inR_cases (i := i) (n := l.scopes.length) with ⟨h1, h2⟩ | ⟨h1, h2, h3⟩ | ⟨j, rfl, h2, h3⟩
      · exact scopeAtL_lo h1
      · exact scopeAtL_hi h2
      · rw [h3] at h; cases h
    unfold memberL
    rw [this]
    rfl
  · refine FCallT.of (scopeAt_call) ?_
    rintro _ rfl
    simp only [go_sem, ↓reduceIte, reduceCtorEq, Nat.reduceEqDiff, Nat.reduceLT, Nat.reduceLeDiff, Nat.reduceAdd, Nat.reduceSub, Nat.reduceMul, Nat.reduceBNe, Nat.reduceBEq, Int.reduceToNat, Int.reduceLE, Int.reduceLT, Int.reduceEq, Int.reduceNe, Int.reduceAdd, Int.reduceSub, Int.reduceNeg, mixed, decide_eq_true_eq, decide_eq_false_iff_not, Bool.not_eq_true', Bool.not_eq_false', List.headD_cons, Option.some.injEq, Int.cast_ofNat_Int, ScopeL.row, LawL.row]
    rfl
def fieldName (l : List FieldL) (i : Int) : List UInt8 := if 0 ≤ i then ((l[i.toNat]?).map (·.name)).getD [63] else [63]
def ruleNameL (l : List RuleL) (i : Int) : List UInt8 := if 0 ≤ i then ((l[i.toNat]?).map (·.name)).getD [63] else [63]
theorem defName_call {s : ScopeL} {i : Int} : FCall Tryd.prog 31 [.agg s.row, .int .i64 i] (· = .str (fieldName s.defs i)) := by
  rcases inR_cases (i := i) (n := s.defs.length) with ⟨h1, h2⟩ | ⟨h1, h2, h3⟩ | ⟨j, rfl, h2, h3⟩
  · refine FCall.walk Tryd.func31 k31 rfl ?_
    unfold c31
    simp only [go_sem, ↓reduceIte, reduceCtorEq, Nat.reduceEqDiff, Nat.reduceLT, Nat.reduceLeDiff, Nat.reduceAdd, Nat.reduceSub, Nat.reduceMul, Nat.reduceBNe, Nat.reduceBEq, Int.reduceToNat, Int.reduceLE, Int.reduceLT, Int.reduceEq, Int.reduceNe, Int.reduceAdd, Int.reduceSub, Int.reduceNeg, mixed, decide_eq_true_eq, decide_eq_false_iff_not, Bool.not_eq_true', Bool.not_eq_false', List.headD_cons, Option.some.injEq, Int.cast_ofNat_Int, ScopeL.row, h1]
    unfold fieldName; rw [if_neg (by omega)]
  · refine FCall.walk Tryd.func31 k31 rfl ?_
    unfold c31
    simp only [go_sem, ↓reduceIte, reduceCtorEq, Nat.reduceEqDiff, Nat.reduceLT, Nat.reduceLeDiff, Nat.reduceAdd, Nat.reduceSub, Nat.reduceMul, Nat.reduceBNe, Nat.reduceBEq, Int.reduceToNat, Int.reduceLE, Int.reduceLT, Int.reduceEq, Int.reduceNe, Int.reduceAdd, Int.reduceSub, Int.reduceNeg, mixed, decide_eq_true_eq, decide_eq_false_iff_not, Bool.not_eq_true', Bool.not_eq_false', List.headD_cons, Option.some.injEq, Int.cast_ofNat_Int, ScopeL.row, h1, h2]
    unfold fieldName; rw [if_pos (by omega), List.getElem?_eq_none (by omega)]; rfl
  · have hx := fieldsV_get h2
    have h4 : ¬ (s.defs.length : Int) ≤ (j : Int) := by omega
    have h5 : ¬ (j : Int) < 0 := by omega
    refine FCall.walk Tryd.func31 k31 rfl ?_
    unfold c31
    simp only [go_sem, ↓reduceIte, reduceCtorEq, Nat.reduceEqDiff, Nat.reduceLT, Nat.reduceLeDiff, Nat.reduceAdd, Nat.reduceSub, Nat.reduceMul, Nat.reduceBNe, Nat.reduceBEq, Int.reduceToNat, Int.reduceLE, Int.reduceLT, Int.reduceEq, Int.reduceNe, Int.reduceAdd, Int.reduceSub, Int.reduceNeg, mixed, decide_eq_true_eq, decide_eq_false_iff_not, Bool.not_eq_true', Bool.not_eq_false', List.headD_cons, Option.some.injEq, Int.cast_ofNat_Int, ScopeL.row, hx, h4, h5, Int.toNat_natCast, FieldL.row]
    simp [fieldName, h2]
theorem ruleName_call {s : ScopeL} {i : Int} : FCall Tryd.prog 32 [.agg s.row, .int .i64 i] (· = .str (ruleNameL s.rules i)) := by
  rcases inR_cases (i := i) (n := s.rules.length) with ⟨h1, h2⟩ | ⟨h1, h2, h3⟩ | ⟨j, rfl, h2, h3⟩
  · refine FCall.walk Tryd.func32 k32 rfl ?_
    unfold c32
    simp only [go_sem, ↓reduceIte, reduceCtorEq, Nat.reduceEqDiff, Nat.reduceLT, Nat.reduceLeDiff, Nat.reduceAdd, Nat.reduceSub, Nat.reduceMul, Nat.reduceBNe, Nat.reduceBEq, Int.reduceToNat, Int.reduceLE, Int.reduceLT, Int.reduceEq, Int.reduceNe, Int.reduceAdd, Int.reduceSub, Int.reduceNeg, mixed, decide_eq_true_eq, decide_eq_false_iff_not, Bool.not_eq_true', Bool.not_eq_false', List.headD_cons, Option.some.injEq, Int.cast_ofNat_Int, ScopeL.row, h1]
    unfold ruleNameL; rw [if_neg (by omega)]
  · refine FCall.walk Tryd.func32 k32 rfl ?_
    unfold c32
    simp only [go_sem, ↓reduceIte, reduceCtorEq, Nat.reduceEqDiff, Nat.reduceLT, Nat.reduceLeDiff, Nat.reduceAdd, Nat.reduceSub, Nat.reduceMul, Nat.reduceBNe, Nat.reduceBEq, Int.reduceToNat, Int.reduceLE, Int.reduceLT, Int.reduceEq, Int.reduceNe, Int.reduceAdd, Int.reduceSub, Int.reduceNeg, mixed, decide_eq_true_eq, decide_eq_false_iff_not, Bool.not_eq_true', Bool.not_eq_false', List.headD_cons, Option.some.injEq, Int.cast_ofNat_Int, ScopeL.row, h1, h2]
    unfold ruleNameL; rw [if_pos (by omega), List.getElem?_eq_none (by omega)]; rfl
  · have hx := rulesV_get h2
    have h4 : ¬ (s.rules.length : Int) ≤ (j : Int) := by omega
    have h5 : ¬ (j : Int) < 0 := by omega
    refine FCall.walk Tryd.func32 k32 rfl ?_
    unfold c32
    simp only [go_sem, ↓reduceIte, reduceCtorEq, Nat.reduceEqDiff, Nat.reduceLT, Nat.reduceLeDiff, Nat.reduceAdd, Nat.reduceSub, Nat.reduceMul, Nat.reduceBNe, Nat.reduceBEq, Int.reduceToNat, Int.reduceLE, Int.reduceLT, Int.reduceEq, Int.reduceNe, Int.reduceAdd, Int.reduceSub, Int.reduceNeg, mixed, decide_eq_true_eq, decide_eq_false_iff_not, Bool.not_eq_true', Bool.not_eq_false', List.headD_cons, Option.some.injEq, Int.cast_ofNat_Int, ScopeL.row, hx, h4, h5, Int.toNat_natCast, RuleL.row]
    simp [ruleNameL, h2]
theorem defName2_call {s : ScopeL} {i : Int} : FCall Tryd.prog 34 [.agg s.row, .int .i64 i] (· = .str (fieldName s.defs i)) := by
  rcases inR_cases (i := i) (n := s.defs.length) with ⟨h1, h2⟩ | ⟨h1, h2, h3⟩ | ⟨j, rfl, h2, h3⟩
  · refine FCall.walk Tryd.func34 k34 rfl ?_
    unfold c34
    simp only [go_sem, ↓reduceIte, reduceCtorEq, Nat.reduceEqDiff, Nat.reduceLT, Nat.reduceLeDiff, Nat.reduceAdd, Nat.reduceSub, Nat.reduceMul, Nat.reduceBNe, Nat.reduceBEq, Int.reduceToNat, Int.reduceLE, Int.reduceLT, Int.reduceEq, Int.reduceNe, Int.reduceAdd, Int.reduceSub, Int.reduceNeg, mixed, decide_eq_true_eq, decide_eq_false_iff_not, Bool.not_eq_true', Bool.not_eq_false', List.headD_cons, Option.some.injEq, Int.cast_ofNat_Int, ScopeL.row, h1]
    unfold fieldName; rw [if_neg (by omega)]
  · refine FCall.walk Tryd.func34 k34 rfl ?_
    unfold c34
    simp only [go_sem, ↓reduceIte, reduceCtorEq, Nat.reduceEqDiff, Nat.reduceLT, Nat.reduceLeDiff, Nat.reduceAdd, Nat.reduceSub, Nat.reduceMul, Nat.reduceBNe, Nat.reduceBEq, Int.reduceToNat, Int.reduceLE, Int.reduceLT, Int.reduceEq, Int.reduceNe, Int.reduceAdd, Int.reduceSub, Int.reduceNeg, mixed, decide_eq_true_eq, decide_eq_false_iff_not, Bool.not_eq_true', Bool.not_eq_false', List.headD_cons, Option.some.injEq, Int.cast_ofNat_Int, ScopeL.row, h1, h2]
    unfold fieldName; rw [if_pos (by omega), List.getElem?_eq_none (by omega)]; rfl
  · have hx := fieldsV_get h2
    have h4 : ¬ (s.defs.length : Int) ≤ (j : Int) := by omega
    have h5 : ¬ (j : Int) < 0 := by omega
    refine FCall.walk Tryd.func34 k34 rfl ?_
    unfold c34
    simp only [go_sem, ↓reduceIte, reduceCtorEq, Nat.reduceEqDiff, Nat.reduceLT, Nat.reduceLeDiff, Nat.reduceAdd, Nat.reduceSub, Nat.reduceMul, Nat.reduceBNe, Nat.reduceBEq, Int.reduceToNat, Int.reduceLE, Int.reduceLT, Int.reduceEq, Int.reduceNe, Int.reduceAdd, Int.reduceSub, Int.reduceNeg, mixed, decide_eq_true_eq, decide_eq_false_iff_not, Bool.not_eq_true', Bool.not_eq_false', List.headD_cons, Option.some.injEq, Int.cast_ofNat_Int, ScopeL.row, hx, h4, h5, Int.toNat_natCast, FieldL.row]
    simp [fieldName, h2]
theorem ruleName2_call {s : ScopeL} {i : Int} : FCall Tryd.prog 35 [.agg s.row, .int .i64 i] (· = .str (ruleNameL s.rules i)) := by
  rcases inR_cases (i := i) (n := s.rules.length) with ⟨h1, h2⟩ | ⟨h1, h2, h3⟩ | ⟨j, rfl, h2, h3⟩
  · refine FCall.walk Tryd.func35 k35 rfl ?_
    unfold c35
    simp only [go_sem, ↓reduceIte, reduceCtorEq, Nat.reduceEqDiff, Nat.reduceLT, Nat.reduceLeDiff, Nat.reduceAdd, Nat.reduceSub, Nat.reduceMul, Nat.reduceBNe, Nat.reduceBEq, Int.reduceToNat, Int.reduceLE, Int.reduceLT, Int.reduceEq, Int.reduceNe, Int.reduceAdd, Int.reduceSub, Int.reduceNeg, mixed, decide_eq_true_eq, decide_eq_false_iff_not, Bool.not_eq_true', Bool.not_eq_false', List.headD_cons, Option.some.injEq, Int.cast_ofNat_Int, ScopeL.row, h1]
    unfold ruleNameL; rw [if_neg (by omega)]
  · refine FCall.walk Tryd.func35 k35 rfl ?_
    unfold c35
    simp only [go_sem, ↓reduceIte, reduceCtorEq, Nat.reduceEqDiff, Nat.reduceLT, Nat.reduceLeDiff, Nat.reduceAdd, Nat.reduceSub, Nat.reduceMul, Nat.reduceBNe, Nat.reduceBEq, Int.reduceToNat, Int.reduceLE, Int.reduceLT, Int.reduceEq, Int.reduceNe, Int.reduceAdd, Int.reduceSub, Int.reduceNeg, mixed, decide_eq_true_eq, decide_eq_false_iff_not, Bool.not_eq_true', Bool.not_eq_false', List.headD_cons, Option.some.injEq, Int.cast_ofNat_Int, ScopeL.row, h1, h2]
    unfold ruleNameL; rw [if_pos (by omega), List.getElem?_eq_none (by omega)]; rfl
  · have hx := rulesV_get h2
    have h4 : ¬ (s.rules.length : Int) ≤ (j : Int) := by omega
    have h5 : ¬ (j : Int) < 0 := by omega
    refine FCall.walk Tryd.func35 k35 rfl ?_
    unfold c35
    simp only [go_sem, ↓reduceIte, reduceCtorEq, Nat.reduceEqDiff, Nat.reduceLT, Nat.reduceLeDiff, Nat.reduceAdd, Nat.reduceSub, Nat.reduceMul, Nat.reduceBNe, Nat.reduceBEq, Int.reduceToNat, Int.reduceLE, Int.reduceLT, Int.reduceEq, Int.reduceNe, Int.reduceAdd, Int.reduceSub, Int.reduceNeg, mixed, decide_eq_true_eq, decide_eq_false_iff_not, Bool.not_eq_true', Bool.not_eq_false', List.headD_cons, Option.some.injEq, Int.cast_ofNat_Int, ScopeL.row, hx, h4, h5, Int.toNat_natCast, RuleL.row]
    simp [ruleNameL, h2]
end Go.Fx.Tryd
