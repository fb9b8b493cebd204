/- Part of a proof: see the last text of the claim. -/
import Derived.Test.YthfkhokmgolabaaDoorFmRow
import Derived.Test.YthfkhokmgolabaaDoorFxT16
import Derived.Test.YthfkhokmgolabaaDoorCards
import Derived.Test.YthfkhokmgolabaaDoorTie
set_option linter.unusedVariables false
set_option linter.unusedSimpArgs false
namespace Go.Fx.Tryd
open Go Go.Fm Go.Proofs Go.Proofs.YthfkhokmgolabaaDoor
open Go.ChangeShapes Go.WideShapes Go.ChangeAt Go.RowKit

theorem own : ownKnob Tryd.prog.godebug = none := by kernel_rfl
theorem laidOut : laidOutB Tryd.prog = true := by kernel_rfl
theorem gTab : Tryd.prog.globalNamed "internal/strconv.uint64pow10" = some 1 := by kernel_rfl
theorem gTabType : (Tryd.prog.globals[1]?).map (·.type) = some 148 := by kernel_rfl

theorem bulk_mem {H : Type} : ∀ {ds : List (DataW H)} {d : DataW H}, d ∈ ds → Rows.uptoBulk d ≤ Rows.uptoBulkAll ds
  | [], _, m => by cases m
  | x :: ds, d, m => by
    rw [Rows.uptoBulkAll]
    rcases List.mem_cons.1 m with rfl | m
    · omega
    · have := bulk_mem m; omega
theorem bulk_pos {H : Type} : ∀ (d : DataW H), 1 ≤ Rows.uptoBulk d := by
  intro d; cases d with
  | lit l => cases l <;> simp [Rows.uptoBulk]
  | _ => simp [Rows.uptoBulk]
theorem bulk_len {H : Type} : ∀ (ds : List (DataW H)), ds.length ≤ Rows.uptoBulkAll ds
  | [] => Nat.zero_le _
  | d :: ds => by have := bulk_len ds; have := bulk_pos d; simp only [Rows.uptoBulkAll, List.length_cons]; omega
theorem bnd {H : Type} : Bnd (fun d : DataW H => Rows.uptoBulk d ≤ 1048576) 1048576 where
  str h _ := by simp [Rows.uptoBulk] at h; omega
  sl {es rest} h _ := by
    simp only [Rows.uptoBulk] at h
    have := bulk_len es
    exact ⟨by omega, fun d m => by have := bulk_mem m; omega⟩
  agg {xs} h d m := by simp only [Rows.uptoBulk] at h; have := bulk_mem m; omega

theorem ty53 : tyOf Tryd.prog 8 53 = some (.sl (.cons (.int .i64) (.cons (.int .i64) (.cons (.int .i64) (.cons (.int .i64) .nil))))) := by kernel_rfl

theorem posts_of {B : Nat} {fs : List FV} (h : Ty.has B (.sl (.cons (.int .i64) (.cons (.int .i64) (.cons (.int .i64) (.cons (.int .i64) .nil))))) fs) :
    ∃ l : List PostL, fs = [.sl false (postsV l)] ∧ l.length ≤ B ∧ ∀ p ∈ l, I64 p.c := by
  obtain ⟨es, rfl, hl, hes⟩ := h
  have : ∀ es : List (List FV), (∀ r ∈ es, Ty.has B (.cons (.int .i64) (.cons (.int .i64) (.cons (.int .i64) (.cons (.int .i64) .nil)))) r) → ∃ l : List PostL, es = postsV l ∧ ∀ p ∈ l, I64 p.c := by
    intro es
    induction es with
    | nil => intro _; exact ⟨[], rfl, by simp⟩
    | cons e es ih =>
      intro h
      obtain ⟨l, rfl, hl⟩ := ih fun r m => h r (by simp [m])
      obtain ⟨_, _, rfl, ⟨a, rfl, h1⟩, _, _, rfl, ⟨b, rfl, h2⟩, _, _, rfl, ⟨c, rfl, h3⟩, _, _, rfl, ⟨d, rfl, h4⟩, rfl⟩ := h _ (List.mem_cons_self ..)
      refine ⟨⟨a, b, c, d⟩ :: l, rfl, ?_⟩
      simp only [List.mem_cons]
      rintro p (rfl | m)
      · simp only [Lit.wf, Bool.and_eq_true, decide_eq_true_eq] at h4
        exact h4
      · exact hl p m
  obtain ⟨l, rfl, h2⟩ := this es hes
  exact ⟨l, rfl, by simpa [postsV] using hl, h2⟩

set_option maxRecDepth 100000 in
theorem contract (H : Type) (enc : TypeId × Value → H) (W : World) (base : Nat) (args : Array Value) (ds gs : List (DataW H)) (before : List MemPlace)
    (hval : ∀ (j : Nat) t v, Go.Proofs.Tryd.f6.params[j]? = some t → args[j]? = some v → Value.okWide Tryd.prog W .any base t v)
    (hW : DataW.Whole enc Tryd.prog Go.Proofs.Tryd.f6.params.toList Rows.reportPostingsSpec.vars false W args.toList ds gs before) (hk : Rows.uptoSmall H (ds ++ gs) = true)
    (hL : laidMet Tryd.prog Rows.reportPostingsRow.laid W) :
    Calls Tryd.prog 6 args W fun e W' => ∃ v, e = .returned v ∧ Rows.reportPostingsSpec.post enc Tryd.prog Go.Proofs.Tryd.f6 false true false false W args v W' := by
  have hW' := hW
  obtain ⟨p, q, hA0, hV, rfl, hfz, hnd⟩ := hW
  have hA : DataW.TrodAll enc Tryd.prog W 0 (fun _ => true) true Go.Proofs.Tryd.f6.params.toList args.toList ds p := hA0
  rw [Tryd.params6] at hA hval
  obtain ⟨v0, vs0, d0, ds0, p0, q0, hargs, rfl, rfl, h0, r0⟩ := trodAll_cons hA
  obtain ⟨rfl, rfl, rfl⟩ := trodAll_nil r0
  obtain rfl : args = #[v0] := by cases args; simp_all
  obtain ⟨rfl, rfl⟩ := trodVars_none hV
  obtain ⟨a, len, cap, rfl⟩ := okWide_slice Tryd.underlying53 (hval 0 53 v0 rfl rfl)
  obtain ⟨fuel, h0⟩ := h0
  have hbulk : Rows.uptoBulk d0 ≤ 1048576 := by simpa [Rows.uptoSmall, Rows.uptoBulkAll] using hk
  obtain ⟨fs, hfs, hrep⟩ := reads_of_trod bnd 8 fuel 53 _ _ d0 p0 ty53 h0 hbulk
  obtain ⟨l, rfl, hl, hI⟩ := posts_of hfs
  refine row_true laidOut (by rw [Tryd.params6]; intro t m; obtain rfl : t = 53 := (by simpa using m); exact ⟨by kernel_rfl, of_decide_eq_true (by kernel_rfl)⟩) hW' rfl rfl (tb := 4) (by kernel_rfl) Tryd.underlying4 ?_ (fs := [.sl false (postsV l)]) hrep (law_postings (by omega) hI)
  exact amb_third gTab gTabType Tryd.underlying148 Tryd.underlying102 (by kernel_rfl) (by kernel_rfl) hL
end Go.Fx.Tryd
