/- Part of a proof: see the last text of the claim. -/
import Derived.Test.YthfkhokmgolabaaDoorFxT9
set_option linter.unusedVariables false
set_option linter.unusedSimpArgs false
namespace Go.Fx.Tryd
open Go Go.Fm Go.Proofs

structure ValL where
  k : Int
  e : Int
  n : Int
def ValL.row (x : ValL) : List FV := [.int .i64 x.k, .int .i64 x.e, .int .i64 x.n]
def valsV (l : List ValL) : List (List FV) := l.map ValL.row
def intsV (l : List Int) : List (List FV) := l.map fun n => [.int .i64 n]
@[go_sem] theorem valsV_length (l : List ValL) : (valsV l).length = l.length := by simp [valsV]
@[go_sem] theorem intsV_length (l : List Int) : (intsV l).length = l.length := by simp [intsV]
theorem valsV_get {l : List ValL} {i : Nat} (h : i < l.length) : (valsV l)[i]? = some [.int .i64 l[i].k, .int .i64 l[i].e, .int .i64 l[i].n] := by simp [valsV, h, ValL.row]
theorem intsV_get {l : List Int} {i : Nat} (h : i < l.length) : (intsV l)[i]? = some [.int .i64 l[i]] := by simp [intsV, h]

/-- names of moderate size -/
def enumsOk (en : List EnumL) : Prop := ∀ x ∈ en, x.members.length < 2 ^ 40 ∧ ∀ m ∈ x.members, m.length ≤ 1099511627776
def scopeOk (s : ScopeL) : Prop := (∀ x ∈ s.defs, x.name.length ≤ 1099511627776) ∧ (∀ x ∈ s.rules, x.name.length ≤ 1099511627776)
theorem fieldName_len {l : List FieldL} {i : Int} (h : ∀ x ∈ l, x.name.length ≤ 1099511627776) : (fieldName l i).length ≤ 1099511627776 := by
  unfold fieldName
  split
  · cases hg : l[i.toNat]? with
    | none => simp
    | some x => have := h x (List.mem_of_getElem? hg); simpa using this
  · simp
theorem ruleName_len {l : List RuleL} {i : Int} (h : ∀ x ∈ l, x.name.length ≤ 1099511627776) : (ruleNameL l i).length ≤ 1099511627776 := by
  unfold ruleNameL
  split
  · cases hg : l[i.toNat]? with
    | none => simp
    | some x => have := h x (List.mem_of_getElem? hg); simpa using this
  · simp
theorem valT_len {k e n : Int} {en : List EnumL} (h : enumsOk en) : (valT k e n en).length ≤ 1099511627776 := by
  unfold valT
  split
  · unfold valS
    split
    · simp
    split
    · simp
    rename_i hv hb
    have hb : inB n k e en = true := by simpa using hb
    have hn := inB_bd (fun x hx => (h x hx).1) hb
    have hI : I64 n := by unfold I64; omega
    have l1 := itoa_len hI
    have l2 := fixedS_len (k := 2) hI (by omega)
    have l3 := fixedS_len (k := 4) hI (by omega)
    have l4 := dateS_len (d := n)
    split
    · simp only; split <;> simp
    split
    · simp only; omega
    split
    · simp only; omega
    split
    · simp only [List.length_append, List.length_cons, List.length_nil]; omega
    split
    · simp only; omega
    · simp only
      cases hg : en[e.toNat]? with
      | none => simp
      | some x =>
        simp only [Option.bind_some]
        cases hg2 : x.members[n.toNat]? with
        | none => simp
        | some y => simpa using (h x (List.mem_of_getElem? hg)).2 y (List.mem_of_getElem? hg2)
  · simp
def lineS (en : List EnumL) (s : ScopeL) (pre : List UInt8) (i : Nat) (v : ValL) (r : Int) : List UInt8 :=
  pre ++ fieldName s.defs i ++ [32, 61, 32] ++ valT v.k v.e v.n en ++ [32, 98, 121, 32] ++ ruleNameL s.rules r
def linesS (en : List EnumL) (s : ScopeL) (pre : List UInt8) (vs : List ValL) (rs : List Int) (n : Nat) : List (List UInt8) :=
  (List.range n).map fun i => lineS en s pre i ((vs[i]?).getD ⟨0, 0, 0⟩) ((rs[i]?).getD (-1))
theorem linesS_succ {en : List EnumL} {s : ScopeL} {pre : List UInt8} {vs : List ValL} {rs : List Int} {i : Nat} (h : i < vs.length) : linesS en s pre vs rs (i + 1) = linesS en s pre vs rs i ++ [lineS en s pre i vs[i] ((rs[i]?).getD (-1))] := by
  simp [linesS, List.range_succ, h]
theorem linesS_length {en : List EnumL} {s : ScopeL} {pre : List UInt8} {vs : List ValL} {rs : List Int} {n : Nat} : (linesS en s pre vs rs n).length = n := by simp [linesS]
theorem lines_call {l : LawL} {s : ScopeL} {pre : List UInt8} {vf rf : Bool} {vs : List ValL} {rs : List Int} (he : enumsOk l.enums) (hs : scopeOk s) (hp : pre.length ≤ 1099511627776) (hv : vs.length < 2 ^ 40) (hr : rs.length < 2 ^ 40) :
    FCall Tryd.prog 25 [.agg l.row, .agg s.row, .str pre, .sl vf (valsV vs), .sl rf (intsV rs)] (· = .arr (strs (linesS l.enums s pre vs rs vs.length))) := by
  refine FCall.walk Tryd.func25 k25 rfl ?_
  unfold c25
  simp only [go_sem, ↓reduceIte, reduceCtorEq, Nat.reduceEqDiff, Nat.reduceLT, Nat.reduceLeDiff, Nat.reduceAdd, Nat.reduceSub, Nat.reduceMul, Nat.reduceBNe, Nat.reduceBEq, Int.reduceToNat, Int.reduceLE, Int.reduceLT, Int.reduceEq, Int.reduceNe, Int.reduceAdd, Int.reduceSub, Int.reduceNeg, mixed, decide_eq_true_eq, decide_eq_false_iff_not, Bool.not_eq_true', Bool.not_eq_false', List.headD_cons, Option.some.injEq, Int.cast_ofNat_Int, LawL.row, ScopeL.row]
  refine FWT.loopK [3, 20] (fun i : Nat => [(2, .str pre), (4, .sl rf (intsV rs)), (5, .box l.row), (6, .box s.row), (11, .arr (strs (linesS l.enums s pre vs rs i))), (17, .sl vf (valsV vs)), (18, .int .i64 vs.length), (19, .int .i64 i)]) (fun i => vs.length - i) (fun i => i ≤ vs.length) 0 ?_ (by omega) ?_
  · simp only [go_sem, ↓reduceIte, reduceCtorEq, Nat.reduceEqDiff, Nat.reduceLT, Nat.reduceLeDiff, Nat.reduceAdd, Nat.reduceSub, Nat.reduceMul, Nat.reduceBNe, Nat.reduceBEq, Int.reduceToNat, Int.reduceLE, Int.reduceLT, Int.reduceEq, Int.reduceNe, Int.reduceAdd, Int.reduceSub, Int.reduceNeg, mixed, decide_eq_true_eq, decide_eq_false_iff_not, Bool.not_eq_true', Bool.not_eq_false', List.headD_cons, Option.some.injEq, Int.cast_ofNat_Int]
    rfl
  intro i hi
  rcases Nat.lt_or_ge i vs.length with h | h
  · have c1 : ((i : Int) < (vs.length : Int)) = True := eq_true (by omega)
    have hx := valsV_get h
    have l1 := fieldName_len (i := (i : Int)) hs.1
    have l3 := valT_len (k := vs[i].k) (e := vs[i].e) (n := vs[i].n) he
    have ho : (if (valS vs[i].k vs[i].e vs[i].n l.enums).2 = 0 then (valS vs[i].k vs[i].e vs[i].n l.enums).1 else [63]) = valT vs[i].k vs[i].e vs[i].n l.enums := rfl
    rcases Nat.lt_or_ge i rs.length with h2 | h2
    · have c2 : ((i : Int) < (rs.length : Int)) = True := eq_true (by omega)
      have hy := intsV_get h2
      have l2 := ruleName_len (i := rs[i]) hs.2
      simp only [go_sem, ↓reduceIte, reduceCtorEq, Nat.reduceEqDiff, Nat.reduceLT, Nat.reduceLeDiff, Nat.reduceAdd, Nat.reduceSub, Nat.reduceMul, Nat.reduceBNe, Nat.reduceBEq, Int.reduceToNat, Int.reduceLE, Int.reduceLT, Int.reduceEq, Int.reduceNe, Int.reduceAdd, Int.reduceSub, Int.reduceNeg, mixed, decide_eq_true_eq, decide_eq_false_iff_not, Bool.not_eq_true', Bool.not_eq_false', List.headD_cons, Option.some.injEq, Int.cast_ofNat_Int, LawL.row, ScopeL.row, c1, Int.toNat_natCast, hx]
      refine FCallT.of (format_call (fun x hx => (he x hx).1)) ?_
      rintro _ rfl
      simp only [go_sem, ↓reduceIte, reduceCtorEq, Nat.reduceEqDiff, Nat.reduceLT, Nat.reduceLeDiff, Nat.reduceAdd, Nat.reduceSub, Nat.reduceMul, Nat.reduceBNe, Nat.reduceBEq, Int.reduceToNat, Int.reduceLE, Int.reduceLT, Int.reduceEq, Int.reduceNe, Int.reduceAdd, Int.reduceSub, Int.reduceNeg, mixed, decide_eq_true_eq, decide_eq_false_iff_not, Bool.not_eq_true', Bool.not_eq_false', List.headD_cons, Option.some.injEq, Int.cast_ofNat_Int, c2, Int.toNat_natCast, hy]
      refine detCall_of _ (ruleName_call (s := s)) ?_
      simp only [go_sem, ↓reduceIte, reduceCtorEq, Nat.reduceEqDiff, Nat.reduceLT, Nat.reduceLeDiff, Nat.reduceAdd, Nat.reduceSub, Nat.reduceMul, Nat.reduceBNe, Nat.reduceBEq, Int.reduceToNat, Int.reduceLE, Int.reduceLT, Int.reduceEq, Int.reduceNe, Int.reduceAdd, Int.reduceSub, Int.reduceNeg, mixed, decide_eq_true_eq, decide_eq_false_iff_not, Bool.not_eq_true', Bool.not_eq_false', List.headD_cons, Option.some.injEq, Int.cast_ofNat_Int]
      refine FCallT.of (defName_call (s := s)) ?_
      rintro _ rfl
      simp only [go_sem, ↓reduceIte, reduceCtorEq, Nat.reduceEqDiff, Nat.reduceLT, Nat.reduceLeDiff, Nat.reduceAdd, Nat.reduceSub, Nat.reduceMul, Nat.reduceBNe, Nat.reduceBEq, Int.reduceToNat, Int.reduceLE, Int.reduceLT, Int.reduceEq, Int.reduceNe, Int.reduceAdd, Int.reduceSub, Int.reduceNeg, mixed, decide_eq_true_eq, decide_eq_false_iff_not, Bool.not_eq_true', Bool.not_eq_false', List.headD_cons, Option.some.injEq, Int.cast_ofNat_Int]
      refine ⟨by first | omega | (simp; omega), by first | omega | (simp; omega), ?_⟩
      refine FCallT.of (or_call) ?_
      rintro _ rfl
      simp only [go_sem, ↓reduceIte, reduceCtorEq, Nat.reduceEqDiff, Nat.reduceLT, Nat.reduceLeDiff, Nat.reduceAdd, Nat.reduceSub, Nat.reduceMul, Nat.reduceBNe, Nat.reduceBEq, Int.reduceToNat, Int.reduceLE, Int.reduceLT, Int.reduceEq, Int.reduceNe, Int.reduceAdd, Int.reduceSub, Int.reduceNeg, mixed, decide_eq_true_eq, decide_eq_false_iff_not, Bool.not_eq_true', Bool.not_eq_false', List.headD_cons, Option.some.injEq, Int.cast_ofNat_Int, ho]
      refine ⟨by first | omega | (simp only [List.length_append, List.length_cons, List.length_nil]; omega), by first | omega | (simp only [List.length_append, List.length_cons, List.length_nil]; omega), by first | omega | (simp only [List.length_append, List.length_cons, List.length_nil]; omega), by rw [linesS_length]; omega, i + 1, ?_, by omega, by omega⟩
      rw [w64 (by unfold I64; omega), linesS_succ h, ← strs_snoc]
      have e : (rs[i]?).getD (-1) = rs[i] := by simp [h2]
      rw [e]
      rfl
    · have c2 : ((i : Int) < (rs.length : Int)) = False := eq_false (by omega)
      simp only [go_sem, ↓reduceIte, reduceCtorEq, Nat.reduceEqDiff, Nat.reduceLT, Nat.reduceLeDiff, Nat.reduceAdd, Nat.reduceSub, Nat.reduceMul, Nat.reduceBNe, Nat.reduceBEq, Int.reduceToNat, Int.reduceLE, Int.reduceLT, Int.reduceEq, Int.reduceNe, Int.reduceAdd, Int.reduceSub, Int.reduceNeg, mixed, decide_eq_true_eq, decide_eq_false_iff_not, Bool.not_eq_true', Bool.not_eq_false', List.headD_cons, Option.some.injEq, Int.cast_ofNat_Int, LawL.row, ScopeL.row, c1, Int.toNat_natCast, hx]
      refine FCallT.of (format_call (fun x hx => (he x hx).1)) ?_
      rintro _ rfl
      simp only [go_sem, ↓reduceIte, reduceCtorEq, Nat.reduceEqDiff, Nat.reduceLT, Nat.reduceLeDiff, Nat.reduceAdd, Nat.reduceSub, Nat.reduceMul, Nat.reduceBNe, Nat.reduceBEq, Int.reduceToNat, Int.reduceLE, Int.reduceLT, Int.reduceEq, Int.reduceNe, Int.reduceAdd, Int.reduceSub, Int.reduceNeg, mixed, decide_eq_true_eq, decide_eq_false_iff_not, Bool.not_eq_true', Bool.not_eq_false', List.headD_cons, Option.some.injEq, Int.cast_ofNat_Int, c2, Int.toNat_natCast]
      refine FCallT.of (defName_call (s := s)) ?_
      rintro _ rfl
      simp only [go_sem, ↓reduceIte, reduceCtorEq, Nat.reduceEqDiff, Nat.reduceLT, Nat.reduceLeDiff, Nat.reduceAdd, Nat.reduceSub, Nat.reduceMul, Nat.reduceBNe, Nat.reduceBEq, Int.reduceToNat, Int.reduceLE, Int.reduceLT, Int.reduceEq, Int.reduceNe, Int.reduceAdd, Int.reduceSub, Int.reduceNeg, mixed, decide_eq_true_eq, decide_eq_false_iff_not, Bool.not_eq_true', Bool.not_eq_false', List.headD_cons, Option.some.injEq, Int.cast_ofNat_Int]
      refine ⟨by first | omega | (simp; omega), by first | omega | (simp; omega), ?_⟩
      refine FCallT.of (or_call) ?_
      rintro _ rfl
      simp only [go_sem, ↓reduceIte, reduceCtorEq, Nat.reduceEqDiff, Nat.reduceLT, Nat.reduceLeDiff, Nat.reduceAdd, Nat.reduceSub, Nat.reduceMul, Nat.reduceBNe, Nat.reduceBEq, Int.reduceToNat, Int.reduceLE, Int.reduceLT, Int.reduceEq, Int.reduceNe, Int.reduceAdd, Int.reduceSub, Int.reduceNeg, mixed, decide_eq_true_eq, decide_eq_false_iff_not, Bool.not_eq_true', Bool.not_eq_false', List.headD_cons, Option.some.injEq, Int.cast_ofNat_Int, ho]
      refine ⟨by first | omega | (simp only [List.length_append, List.length_cons, List.length_nil]; omega), by first | omega | (simp only [List.length_append, List.length_cons, List.length_nil]; omega), by first | omega | (simp only [List.length_append, List.length_cons, List.length_nil]; omega), by rw [linesS_length]; omega, i + 1, ?_, by omega, by omega⟩
      rw [w64 (by unfold I64; omega), linesS_succ h, ← strs_snoc]
      have e : (rs[i]?).getD (-1) = -1 := by simp [h2]
      rw [e]
      rfl
  · have c1 : ((i : Int) < (vs.length : Int)) = False := eq_false (by omega)
    simp only [go_sem, ↓reduceIte, reduceCtorEq, Nat.reduceEqDiff, Nat.reduceLT, Nat.reduceLeDiff, Nat.reduceAdd, Nat.reduceSub, Nat.reduceMul, Nat.reduceBNe, Nat.reduceBEq, Int.reduceToNat, Int.reduceLE, Int.reduceLT, Int.reduceEq, Int.reduceNe, Int.reduceAdd, Int.reduceSub, Int.reduceNeg, mixed, decide_eq_true_eq, decide_eq_false_iff_not, Bool.not_eq_true', Bool.not_eq_false', List.headD_cons, Option.some.injEq, Int.cast_ofNat_Int, c1]
    rw [show i = vs.length by omega]
end Go.Fx.Tryd
