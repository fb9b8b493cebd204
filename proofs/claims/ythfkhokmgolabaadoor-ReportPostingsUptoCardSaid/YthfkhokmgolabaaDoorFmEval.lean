/- How a walk is computed: rewriting rules for environments, operations and regions. -/
import Derived.Test.YthfkhokmgolabaaDoorFmW
set_option linter.unusedVariables false
set_option linter.unusedSimpArgs false
namespace Go.Fm
open Go

/-- (what bears a tag is not looked into) -/
inductive Tag {α : Type} (a : α) : Type
  | mk
def FCallT (P : Program) (f : FuncId) (fs : List FV) (K : FV → Prop) (_ : Tag K) : Prop := FCall P f fs K
def FWT (P : Program) (N : Nat) (c : FC) (E : Env) (K : Exit → Env → Prop) (_ : Tag (c, K)) : Prop := FW P N c E K

section
variable {P : Program} {N : Nat} {E : Env} {K : Exit → Env → Prop}
theorem FCallT.of {f : FuncId} {fs : List FV} {K J : FV → Prop} {t : Tag K} (h : FCall P f fs J) (hk : ∀ r, J r → K r) : FCallT P f fs K t := h.mono hk

/-! ### environments -/
@[go_sem] theorem e_get_nil (t : Nat) : Env.get [] t = .undef := rfl
@[go_sem] theorem e_get_cons (k t : Nat) (v : FV) (E : Env) : Env.get ((k, v) :: E) t = if k = t then v else Env.get E t := rfl
@[go_sem] theorem e_put_nil (t : Nat) (f : FV) : Env.put [] t f = [(t, f)] := rfl
@[go_sem] theorem e_put_cons (k t : Nat) (v f : FV) (E : Env) : Env.put ((k, v) :: E) t f = if k = t then (t, f) :: E else if t < k then (t, f) :: (k, v) :: E else (k, v) :: Env.put E t f := rfl
@[go_sem] theorem e_del_nil (t : Nat) : Env.del [] t = [] := rfl
@[go_sem] theorem e_del_cons (k t : Nat) (v : FV) (E : Env) : Env.del ((k, v) :: E) t = if k = t then E else (k, v) :: Env.del E t := rfl
@[go_sem] theorem e_mapV_nil (g : FV → FV) : Env.mapV [] g = [] := rfl
@[go_sem] theorem e_mapV_cons (k : Nat) (v : FV) (E : Env) (g : FV → FV) : Env.mapV ((k, v) :: E) g = (k, g v) :: Env.mapV E g := rfl
/-- the old value owns memory: what leans on it goes -/
def Env.clearB (E : Env) (d : Nat) : Bool → Env
  | true => E.mapV (unroot d)
  | false => E
@[go_sem] theorem e_upd (d : Nat) (f : FV) : E.upd d f = (E.clearB d (E.get d).owned).put d f := by
  unfold Env.upd Env.clear Env.clearB
  cases (E.get d).owned <;> rfl
@[go_sem] theorem e_kill (d : Nat) : E.kill d = (E.clearB d (E.get d).owned).del d := by
  unfold Env.kill Env.clear Env.clearB
  cases (E.get d).owned <;> rfl
@[go_sem] theorem e_clearB_true (d : Nat) : E.clearB d true = E.mapV (unroot d) := rfl
@[go_sem] theorem e_clearB_false (d : Nat) : E.clearB d false = E := rfl
@[go_sem] theorem e_kills_nil : E.kills [] = E := rfl
@[go_sem] theorem e_kills_cons (k : Nat) (ks : List Nat) : E.kills (k :: ks) = (E.kill k).kills ks := rfl
@[go_sem] theorem e_look_k (v : FV) : E.look (.k v) = v := rfl
@[go_sem] theorem e_look_t (n : Nat) : E.look (.t n) = view n (E.get n) := rfl
@[go_sem] theorem e_at_nil (r : Nat) : E.at r [] = E.get r := rfl

section values
variable (n r q d : Nat) (p : Path) (k : IntKind) (i : Int) (b : Bool) (s : List UInt8) (u : Bool) (es : List (List FV)) (c : FV) (cs : List FV) (f : FuncId) (t : TypeId)
@[go_sem] theorem v_undef : view n .undef = .undef := rfl
@[go_sem] theorem v_int : view n (.int k i) = .int k i := rfl
@[go_sem] theorem v_bool : view n (.bool b) = .bool b := rfl
@[go_sem] theorem v_str : view n (.str s) = .str s := rfl
@[go_sem] theorem v_sl : view n (.sl u es) = .sl u es := rfl
@[go_sem] theorem v_arr : view n (.arr es) = .al n [] := rfl
@[go_sem] theorem v_buf : view n (.buf q) = .al n [] := rfl
@[go_sem] theorem v_box : view n (.box (c :: cs)) = .ptr n [(0, 0)] := rfl
@[go_sem] theorem v_ref : view n (.ref cs) = .ref cs := rfl
@[go_sem] theorem v_al : view n (.al r p) = .al r p := rfl
@[go_sem] theorem v_ptr : view n (.ptr r p) = .ptr r p := rfl
@[go_sem] theorem v_agg : view n (.agg cs) = if cs.all FV.plain then .agg cs else .undef := rfl
@[go_sem] theorem v_tup : view n (.tup cs) = .undef := rfl
@[go_sem] theorem v_fn : view n (.fn f cs) = if cs.all FV.plain then .fn f cs else .undef := rfl
@[go_sem] theorem v_iface : view n (.iface t c) = .undef := rfl
@[go_sem] theorem v_nilp : view n .nilp = .nilp := rfl
@[go_sem] theorem v_nilf : view n .nilf = .nilf := rfl
@[go_sem] theorem v_nili : view n .nili = .nili := rfl
@[go_sem] theorem o_undef : FV.undef.owned = false := rfl
@[go_sem] theorem o_int : (FV.int k i).owned = false := rfl
@[go_sem] theorem o_bool : (FV.bool b).owned = false := rfl
@[go_sem] theorem o_str : (FV.str s).owned = false := rfl
@[go_sem] theorem o_sl : (FV.sl u es).owned = false := rfl
@[go_sem] theorem o_arr : (FV.arr es).owned = true := rfl
@[go_sem] theorem o_buf : (FV.buf q).owned = true := rfl
@[go_sem] theorem o_box : (FV.box cs).owned = true := rfl
@[go_sem] theorem o_ref : (FV.ref cs).owned = false := rfl
@[go_sem] theorem o_al : (FV.al r p).owned = false := rfl
@[go_sem] theorem o_ptr : (FV.ptr r p).owned = false := rfl
@[go_sem] theorem o_agg : (FV.agg cs).owned = false := rfl
@[go_sem] theorem o_tup : (FV.tup cs).owned = false := rfl
@[go_sem] theorem o_fn : (FV.fn f cs).owned = false := rfl
@[go_sem] theorem o_iface : (FV.iface t c).owned = false := rfl
@[go_sem] theorem o_nilp : FV.nilp.owned = false := rfl
@[go_sem] theorem o_nilf : FV.nilf.owned = false := rfl
@[go_sem] theorem o_nili : FV.nili.owned = false := rfl
@[go_sem] theorem o_skip : skipped.owned = false := rfl
@[go_sem] theorem u_undef : unroot d .undef = .undef := rfl
@[go_sem] theorem u_int : unroot d (.int k i) = .int k i := rfl
@[go_sem] theorem u_bool : unroot d (.bool b) = .bool b := rfl
@[go_sem] theorem u_str : unroot d (.str s) = .str s := rfl
@[go_sem] theorem u_sl : unroot d (.sl u es) = .sl u es := rfl
@[go_sem] theorem u_arr : unroot d (.arr es) = .arr es := rfl
@[go_sem] theorem u_buf : unroot d (.buf q) = .buf q := rfl
@[go_sem] theorem u_box : unroot d (.box cs) = .box cs := rfl
@[go_sem] theorem u_ref : unroot d (.ref cs) = .ref cs := rfl
@[go_sem] theorem u_al : unroot d (.al r p) = if r = d then .undef else .al r p := rfl
@[go_sem] theorem u_ptr : unroot d (.ptr r p) = if r = d then .undef else .ptr r p := rfl
@[go_sem] theorem u_agg : unroot d (.agg cs) = .agg cs := rfl
@[go_sem] theorem u_tup : unroot d (.tup cs) = .tup cs := rfl
@[go_sem] theorem u_fn : unroot d (.fn f cs) = .fn f cs := rfl
@[go_sem] theorem u_iface : unroot d (.iface t c) = .iface t c := rfl
@[go_sem] theorem u_nilp : unroot d .nilp = .nilp := rfl
@[go_sem] theorem u_nilf : unroot d .nilf = .nilf := rfl
@[go_sem] theorem u_nili : unroot d .nili = .nili := rfl
@[go_sem] theorem u_skip : unroot d skipped = skipped := rfl
@[go_sem] theorem w_undef : unpath d p n .undef = .undef := rfl
@[go_sem] theorem w_int : unpath d p n (.int k i) = .int k i := rfl
@[go_sem] theorem w_bool : unpath d p n (.bool b) = .bool b := rfl
@[go_sem] theorem w_str : unpath d p n (.str s) = .str s := rfl
@[go_sem] theorem w_sl : unpath d p n (.sl u es) = .sl u es := rfl
@[go_sem] theorem w_arr : unpath d p n (.arr es) = .arr es := rfl
@[go_sem] theorem w_buf : unpath d p n (.buf q) = .buf q := rfl
@[go_sem] theorem w_box : unpath d p n (.box cs) = .box cs := rfl
@[go_sem] theorem w_ref : unpath d p n (.ref cs) = .ref cs := rfl
@[go_sem] theorem w_al (p' : Path) : unpath d p n (.al r p') = if r = d then (if hits p' p n then .undef else .al r p') else .al r p' := rfl
@[go_sem] theorem w_ptr (p' : Path) : unpath d p n (.ptr r p') = if r = d then (if thru p' p n then .undef else .ptr r p') else .ptr r p' := rfl
@[go_sem] theorem w_agg : unpath d p n (.agg cs) = .agg cs := rfl
@[go_sem] theorem w_tup : unpath d p n (.tup cs) = .tup cs := rfl
@[go_sem] theorem w_fn : unpath d p n (.fn f cs) = .fn f cs := rfl
@[go_sem] theorem w_iface : unpath d p n (.iface t c) = .iface t c := rfl
@[go_sem] theorem w_nilp : unpath d p n .nilp = .nilp := rfl
@[go_sem] theorem w_nilf : unpath d p n .nilf = .nilf := rfl
@[go_sem] theorem w_nili : unpath d p n .nili = .nili := rfl
@[go_sem] theorem w_skip : unpath d p n skipped = skipped := rfl
end values
attribute [go_sem] hits thru FV.notRoot FV.plain FV.alias FV.cells FV.nonNil FV.one FV.sealed sealedL sealedLL FV.free freeL freeLL FV.isSl FV.kids FV.setKids getN setN addOff

/-! ### operations -/
@[go_sem] theorem op_putIn (d : Nat) (f : FV) : putIn E d f = if f.notRoot d = true then some (E.upd d f) else none := rfl
attribute [go_sem] FOp.eval FOp.val Env.pass Env.passL Env.passM Env.setAt Env.wr Env.lend Env.plainAt ldF ldM stF faF iaF lenF apF binF intF strF isShift eqF eqL unF bdF fillF bsF mkSlF subStr subSl fdF bnd iaAF elemsAt elemsOf bytesF byteRow apBase apOut setRows

/-! ### regions -/
/-- the first entry of a slot, replaced -/
def Env.fix : Env → Nat → FV → Env
  | [], _, _ => []
  | (k, v) :: E, t, f => if k = t then (k, f) :: E else (k, v) :: Env.fix E t f
@[go_sem] theorem e_fix_nil (t : Nat) (f : FV) : Env.fix [] t f = [] := rfl
@[go_sem] theorem e_fix_cons (k t : Nat) (v f : FV) (E : Env) : Env.fix ((k, v) :: E) t f = if k = t then (k, f) :: E else (k, v) :: Env.fix E t f := rfl
theorem fix_get : ∀ (E : Env) (t : Nat), E.fix t (E.get t) = E
  | [], _ => rfl
  | (k, v) :: E, t => by
    simp only [Env.fix, Env.get]
    split
    · rfl
    · rw [fix_get E t]
theorem fix_bool {t : Nat} {b : Bool} (h : E.get t = .bool b) : E.fix t (.bool b) = E := by rw [← h]; exact fix_get E t
/-- what follows an operation that may fail -/
def runFrom (P : Program) (r : List FO) (J : Env → Prop) (x : Option Env) (_ : Tag (r, J)) : Prop := ∃ E', x = some E' ∧ runOps P r E' J
/-- what follows a guard -/
def runG (P : Program) (d : Nat) (k : FK) (t : Nat) (want : Bool) (r : List FO) (J : Env → Prop) (E : Env) (g : FV) (_ : Tag (k, r, J)) : Prop :=
  match g with
  | .bool b => (b = true → if want then runOps P (⟨d, k, none⟩ :: r) (E.fix t (.bool true)) J else runOps P r ((E.fix t (.bool true)).upd d skipped) J) ∧
      (b = false → if want then runOps P r ((E.fix t (.bool false)).upd d skipped) J else runOps P (⟨d, k, none⟩ :: r) (E.fix t (.bool false)) J)
  | .tup [] => runOps P r (E.upd d skipped) J
  | _ => False
@[go_sem ↓] theorem r_nil (J : Env → Prop) : runOps P [] E J = J E := propext Iff.rfl
@[go_sem ↓] theorem r_op (d : Nat) (f : FOp) (r : List FO) (J : Env → Prop) : runOps P (⟨d, .op f, none⟩ :: r) E J = runFrom P r J (f.eval E d) .mk := propext Iff.rfl
@[go_sem ↓] theorem r_call (d : Nat) (f : FuncId) (ss : List (Bool × Sr)) (r : List FO) (J : Env → Prop) : runOps P (⟨d, .call f ss, none⟩ :: r) E J = FCallT P f (E.passM ss).1 (fun v => runOps P r ((E.passM ss).2.upd d v) J) .mk := propext Iff.rfl
@[go_sem ↓] theorem r_callB (d : Nat) (f : FuncId) (ss : List Sr) (r : List FO) (J : Env → Prop) : runOps P (⟨d, .callB f ss, none⟩ :: r) E J = FCallT P f (ss.map E.lend) (fun v => v.free = true ∧ runOps P r (E.upd d v) J) .mk := propext Iff.rfl
@[go_sem ↓] theorem r_callL (d : Nat) (f : FuncId) (ss : List Sr) (r : List FO) (J : Env → Prop) : runOps P (⟨d, .callL f ss, none⟩ :: r) E J = ((ss.all fun s => !(E.look s).alias) = true ∧ FCallT P f (ss.map E.look) (fun v => runOps P r (E.upd d v) J) .mk) := propext Iff.rfl
@[go_sem ↓] theorem r_g (d : Nat) (k : FK) (t : Nat) (want : Bool) (r : List FO) (J : Env → Prop) : runOps P (⟨d, k, some (t, want)⟩ :: r) E J = runG P d k t want r J E (E.get t) .mk := by
  simp only [runOps, runG]
  cases hg : E.get t with
  | bool b =>
    have hf := fix_bool hg
    simp only
    cases b <;> cases want <;> simp [hf]
  | tup vs => cases vs <;> rfl
  | _ => rfl
@[go_sem] theorem rf_some (r : List FO) (J : Env → Prop) (t : Tag (r, J)) : runFrom P r J (some E) t = runOps P r E J := by
  unfold runFrom
  simp
@[go_sem] theorem rf_none (r : List FO) (J : Env → Prop) (t : Tag (r, J)) : runFrom P r J none t = False := by unfold runFrom; simp
@[go_sem] theorem rf_ite (r : List FO) (J : Env → Prop) (t : Tag (r, J)) (c : Prop) [Decidable c] (x : Option Env) : runFrom P r J (if c then x else none) t = (c ∧ runFrom P r J x t) := by
  by_cases h : c <;> simp [h, runFrom]
section
variable (d t : Nat) (k : FK) (r : List FO) (J : Env → Prop) (g : Tag (k, r, J))
@[go_sem] theorem rg_tt : runG P d k t true r J E (.bool true) g = runOps P (⟨d, k, none⟩ :: r) (E.fix t (.bool true)) J := by simp [runG]
@[go_sem] theorem rg_tf : runG P d k t true r J E (.bool false) g = runOps P r ((E.fix t (.bool false)).upd d skipped) J := by simp [runG]
@[go_sem] theorem rg_ft : runG P d k t false r J E (.bool true) g = runOps P r ((E.fix t (.bool true)).upd d skipped) J := by simp [runG]
@[go_sem] theorem rg_ff : runG P d k t false r J E (.bool false) g = runOps P (⟨d, k, none⟩ :: r) (E.fix t (.bool false)) J := by simp [runG]
@[go_sem] theorem rg_skip (w : Bool) : runG P d k t w r J E skipped g = runOps P r (E.upd d skipped) J := propext Iff.rfl
@[go_sem low] theorem rg_boolT (b : Bool) : runG P d k t true r J E (.bool b) g = ((b = true → runOps P (⟨d, k, none⟩ :: r) (E.fix t (.bool true)) J) ∧ (b = false → runOps P r ((E.fix t (.bool false)).upd d skipped) J)) := by simp [runG]
@[go_sem low] theorem rg_boolF (b : Bool) : runG P d k t false r J E (.bool b) g = ((b = true → runOps P r ((E.fix t (.bool true)).upd d skipped) J) ∧ (b = false → runOps P (⟨d, k, none⟩ :: r) (E.fix t (.bool false)) J)) := by simp [runG]
end
@[go_sem] theorem map_ite_none {α β : Type} (g : α → β) (c : Prop) [Decidable c] (x : Option α) : Option.map g (if c then x else none) = if c then Option.map g x else none := by split <;> rfl
@[go_sem] theorem bind_ite_none {α β : Type} (g : α → Option β) (c : Prop) [Decidable c] (x : Option α) : Option.bind (if c then x else none) g = if c then Option.bind x g else none := by split <;> rfl
attribute [go_sem] Option.map_some Option.map_none Option.bind_some Option.bind_none


/-! ### regions that draw -/
def detFrom (P : Program) (d : Nat) (r : List FO) (J : Env → Prop) (E : Env) (x : Option FV) (_ : Tag (r, J)) : Prop := ∃ v, x = some v ∧ v.notRoot d = true ∧ runDet P r (E.upd d v) J
def detCall (P : Program) (f : FuncId) (fs : List FV) (d : Nat) (r : List FO) (J : Env → Prop) (E : Env) (_ : Tag (r, J)) : Prop := ∃ v, FCall P f fs (· = v) ∧ runDet P r (E.upd d v) J
def detCallB (P : Program) (f : FuncId) (fs : List FV) (d : Nat) (r : List FO) (J : Env → Prop) (E : Env) (_ : Tag (r, J)) : Prop := ∃ v, FCall P f fs (· = v) ∧ v.free = true ∧ runDet P r (E.upd d v) J
def detGd (P : Program) (d : Nat) (k : FK) (t : Nat) (want : Bool) (r : List FO) (J : Env → Prop) (E : Env) (g : FV) (_ : Tag (k, r, J)) : Prop :=
  match g with
  | .bool b => (b = true → if want then runDet P (⟨d, k, none⟩ :: r) (E.fix t (.bool true)) J else runDet P r ((E.fix t (.bool true)).upd d skipped) J) ∧
      (b = false → if want then runDet P r ((E.fix t (.bool false)).upd d skipped) J else runDet P (⟨d, k, none⟩ :: r) (E.fix t (.bool false)) J)
  | .tup [] => runDet P r (E.upd d skipped) J
  | _ => False
@[go_sem ↓] theorem d_nil (J : Env → Prop) : runDet P [] E J = J E := propext Iff.rfl
@[go_sem ↓] theorem d_op (d : Nat) (f : FOp) (r : List FO) (J : Env → Prop) : runDet P (⟨d, .op f, none⟩ :: r) E J = detFrom P d r J E (f.val E) .mk := propext Iff.rfl
@[go_sem ↓] theorem d_callB (d : Nat) (f : FuncId) (ss : List Sr) (r : List FO) (J : Env → Prop) : runDet P (⟨d, .callB f ss, none⟩ :: r) E J = detCallB P f (ss.map E.lend) d r J E .mk := propext Iff.rfl
@[go_sem ↓] theorem d_callL (d : Nat) (f : FuncId) (ss : List Sr) (r : List FO) (J : Env → Prop) : runDet P (⟨d, .callL f ss, none⟩ :: r) E J = ((ss.all fun s => !(E.look s).alias) = true ∧ detCall P f (ss.map E.look) d r J E .mk) := propext Iff.rfl
@[go_sem ↓] theorem d_g (d : Nat) (k : FK) (t : Nat) (want : Bool) (r : List FO) (J : Env → Prop) : runDet P (⟨d, k, some (t, want)⟩ :: r) E J = detGd P d k t want r J E (E.get t) .mk := by
  simp only [runDet, detG, detGd]
  cases hg : E.get t with
  | bool b =>
    have hf := fix_bool hg
    simp only
    cases b <;> cases want <;> simp [hf]
  | tup vs => cases vs <;> rfl
  | _ => rfl
section
variable (d t : Nat) (k : FK) (r : List FO) (J : Env → Prop) (q : Tag (r, J)) (g : Tag (k, r, J))
@[go_sem] theorem df_some (v : FV) : detFrom P d r J E (some v) q = (v.notRoot d = true ∧ runDet P r (E.upd d v) J) := by
  unfold detFrom
  simp
@[go_sem] theorem df_none : detFrom P d r J E none q = False := by unfold detFrom; simp
@[go_sem] theorem df_ite (c : Prop) [Decidable c] (x : Option FV) : detFrom P d r J E (if c then x else none) q = (c ∧ detFrom P d r J E x q) := by
  by_cases h : c <;> simp [h, detFrom]
@[go_sem] theorem dg_tt : detGd P d k t true r J E (.bool true) g = runDet P (⟨d, k, none⟩ :: r) (E.fix t (.bool true)) J := by simp [detGd]
@[go_sem] theorem dg_tf : detGd P d k t true r J E (.bool false) g = runDet P r ((E.fix t (.bool false)).upd d skipped) J := by simp [detGd]
@[go_sem] theorem dg_ft : detGd P d k t false r J E (.bool true) g = runDet P r ((E.fix t (.bool true)).upd d skipped) J := by simp [detGd]
@[go_sem] theorem dg_ff : detGd P d k t false r J E (.bool false) g = runDet P (⟨d, k, none⟩ :: r) (E.fix t (.bool false)) J := by simp [detGd]
@[go_sem] theorem dg_skip (w : Bool) : detGd P d k t w r J E skipped g = runDet P r (E.upd d skipped) J := propext Iff.rfl
@[go_sem low] theorem dg_boolT (b : Bool) : detGd P d k t true r J E (.bool b) g = ((b = true → runDet P (⟨d, k, none⟩ :: r) (E.fix t (.bool true)) J) ∧ (b = false → runDet P r ((E.fix t (.bool false)).upd d skipped) J)) := by simp [detGd]
@[go_sem low] theorem dg_boolF (b : Bool) : detGd P d k t false r J E (.bool b) g = ((b = true → runDet P r ((E.fix t (.bool true)).upd d skipped) J) ∧ (b = false → runDet P (⟨d, k, none⟩ :: r) (E.fix t (.bool false)) J)) := by simp [detGd]
end
theorem detCall_of {f : FuncId} {fs : List FV} {d : Nat} {r : List FO} {J : Env → Prop} (v : FV) (h : FCall P f fs (· = v)) {t : Tag (r, J)} (hj : runDet P r (E.upd d v) J) : detCall P f fs d r J E t := ⟨v, h, hj⟩
theorem detCallB_of {f : FuncId} {fs : List FV} {d : Nat} {r : List FO} {J : Env → Prop} (v : FV) (h : FCall P f fs (· = v)) (hf : v.free = true) {t : Tag (r, J)} (hj : runDet P r (E.upd d v) J) : detCallB P f fs d r J E t := ⟨v, h, hf, hj⟩
@[go_sem] theorem ro_undef (D : List Nat)  : rootOk D .undef = true := rfl
@[go_sem] theorem ro_int (D : List Nat) (k : IntKind) (i : Int) : rootOk D (.int k i) = true := rfl
@[go_sem] theorem ro_bool (D : List Nat) (b : Bool) : rootOk D (.bool b) = true := rfl
@[go_sem] theorem ro_str (D : List Nat) (s : List UInt8) : rootOk D (.str s) = true := rfl
@[go_sem] theorem ro_sl (D : List Nat) (u : Bool) (es : List (List FV)) : rootOk D (.sl u es) = true := rfl
@[go_sem] theorem ro_arr (D : List Nat) (es : List (List FV)) : rootOk D (.arr es) = true := rfl
@[go_sem] theorem ro_buf (D : List Nat) (q : Nat) : rootOk D (.buf q) = true := rfl
@[go_sem] theorem ro_box (D : List Nat) (cs : List FV) : rootOk D (.box cs) = true := rfl
@[go_sem] theorem ro_ref (D : List Nat) (cs : List FV) : rootOk D (.ref cs) = true := rfl
@[go_sem] theorem ro_agg (D : List Nat) (cs : List FV) : rootOk D (.agg cs) = true := rfl
@[go_sem] theorem ro_tup (D : List Nat) (cs : List FV) : rootOk D (.tup cs) = true := rfl
@[go_sem] theorem ro_fn (D : List Nat) (f : FuncId) (cs : List FV) : rootOk D (.fn f cs) = true := rfl
@[go_sem] theorem ro_nilp (D : List Nat)  : rootOk D .nilp = true := rfl
@[go_sem] theorem ro_nilf (D : List Nat)  : rootOk D .nilf = true := rfl
@[go_sem] theorem ro_nili (D : List Nat)  : rootOk D .nili = true := rfl
@[go_sem] theorem ro_iface (D : List Nat) (t : TypeId) (v : FV) : rootOk D (.iface t v) = true := rfl
@[go_sem] theorem ro_al (D : List Nat) (r : Nat) (p : Path) : rootOk D (.al r p) = !D.contains r := rfl
@[go_sem] theorem ro_ptr (D : List Nat) (r : Nat) (p : Path) : rootOk D (.ptr r p) = !D.contains r := rfl
@[go_sem] theorem rootOk_skip (D : List Nat) : rootOk D skipped = true := rfl
attribute [go_sem] rootsOk freshOk dests List.take_succ_cons List.take_zero List.take_nil List.drop_succ_cons List.drop_zero List.drop_nil List.map_cons List.map_nil List.all_cons List.all_nil List.contains_cons List.contains_nil
end

/-! ### code -/
/-- what is asked ahead of a region that draws -/
def drawEnd (P : Program) (D : List Nat) (suf : List FO) (ks : List Nat) (K : Exit → Env → Prop) (Ef : Env) : Prop := rootsOk D Ef = true ∧ runOps P suf Ef (fun E' => K .normal (E'.kills ks))
def drawT (P : Program) (pre suf : List FO) (ks : List Nat) (E : Env) (K : Exit → Env → Prop) (_ : Tag K) : Prop := freshOk (dests pre) E = true ∧ runDet P pre E (drawEnd P (dests pre) suf ks K)
@[go_sem] theorem dr_t (P : Program) (pre suf : List FO) (ks : List Nat) (E : Env) (K : Exit → Env → Prop) (t : Tag K) : drawT P pre suf ks E K t = (freshOk (dests pre) E = true ∧ runDet P pre E (drawEnd P (dests pre) suf ks K)) := propext Iff.rfl
@[go_sem ↓] theorem dr_end (P : Program) (D : List Nat) (suf : List FO) (ks : List Nat) (E : Env) (K : Exit → Env → Prop) : drawEnd P D suf ks K E = (rootsOk D E = true ∧ runOps P suf E (fun E' => K .normal (E'.kills ks))) := propext Iff.rfl
def condOn (v : FV) (x y : Prop) (_ : Tag (x, y)) : Prop := ∃ b, v = .bool b ∧ (b = true → x) ∧ (b = false → y)
/-- what is asked of an environment ahead of code; loops stay as they are -/
def fw (P : Program) (N : Nat) : FC → Env → (Exit → Env → Prop) → Prop
  | .skip, E, K => K .normal E
  | .ret, E, K => K .ret E
  | .exit id, E, K => K (.exit id) E
  | .seq x y, E, K => fw P N x E (thenK (fun E' => fw P N y E' K) K)
  | .cond s x y, E, K => condOn (E.look s) (fw P N x E K) (fw P N y E K) .mk
  | .block id x, E, K => fw P N x E (blockK id K)
  | .loop x, E, K => FW P N (.loop x) E K
  | .reg none fs ks, E, K => runOps P fs E (fun E' => K .normal (E'.kills ks))
  | .reg (some n) fs ks, E, K => P.follows .mixedOrders = true ∧ (freshOk (dests (fs.take n)) E = true ∧ runDet P (fs.take n) E (fun Ef => rootsOk (dests (fs.take n)) Ef = true ∧ runOps P (fs.drop n) Ef (fun E' => K .normal (E'.kills ks))))

section
variable {P : Program} {N : Nat}
theorem fw_sound : ∀ {c : FC} {E : Env} {K : Exit → Env → Prop}, fw P N c E K → FW P N c E K
  | .skip, E, K, h => FW.skip h
  | .ret, E, K, h => FW.ret h
  | .exit id, E, K, h => FW.exit h
  | .seq x y, E, K, h => FW.seq ((fw_sound (c := x) h).mono fun e E' k => by
      cases e with
      | normal => exact fw_sound (c := y) k
      | _ => exact k)
  | .cond s x y, E, K, h => by
    obtain ⟨b, hb, h1, h2⟩ := h
    refine FW.cond hb ?_
    cases b
    · exact fw_sound (c := y) (h2 rfl)
    · exact fw_sound (c := x) (h1 rfl)
  | .block id x, E, K, h => FW.block (fw_sound (c := x) h)
  | .loop x, E, K, h => h
  | .reg none fs ks, E, K, h => FW.reg h
  | .reg (some n) fs ks, E, K, h => FW.draw h.1 h.2.1 h.2.2

variable {E : Env} {K : Exit → Env → Prop}
@[go_sem ↓] theorem f_skip : fw P N .skip E K = K .normal E := propext Iff.rfl
@[go_sem ↓] theorem f_ret : fw P N .ret E K = K .ret E := propext Iff.rfl
@[go_sem ↓] theorem f_exit (id : Nat) : fw P N (.exit id) E K = K (.exit id) E := propext Iff.rfl
@[go_sem ↓] theorem f_seq (x y : FC) : fw P N (.seq x y) E K = fw P N x E (thenK (fun E' => fw P N y E' K) K) := propext Iff.rfl
@[go_sem ↓] theorem f_cond (s : Sr) (x y : FC) : fw P N (.cond s x y) E K = condOn (E.look s) (fw P N x E K) (fw P N y E K) .mk := propext Iff.rfl
@[go_sem ↓] theorem f_block (id : Nat) (x : FC) : fw P N (.block id x) E K = fw P N x E (blockK id K) := propext Iff.rfl
@[go_sem ↓] theorem f_loop (x : FC) : fw P N (.loop x) E K = FWT P N (.loop x) E K .mk := propext Iff.rfl
@[go_sem ↓] theorem f_reg (fs : List FO) (ks : List Nat) : fw P N (.reg none fs ks) E K = runOps P fs E (fun E' => K .normal (E'.kills ks)) := propext Iff.rfl
@[go_sem ↓] theorem f_draw (n : Nat) (fs : List FO) (ks : List Nat) : fw P N (.reg (some n) fs ks) E K = (P.follows .mixedOrders = true ∧ drawT P (fs.take n) (fs.drop n) ks E K .mk) := propext Iff.rfl
theorem FWT.loopS {x : FC} {α : Type} {t : Tag (FC.loop x, K)} (I : α → Env) (μ : α → Nat) (G : α → Prop) (s : α) (h0 : I s = E) (hg : G s) (h : ∀ s, G s → fw P N x (I s) (thenK (fun E' => ∃ t, E' = I t ∧ G t ∧ μ t < μ s) K)) : FWT P N (.loop x) E K t :=
  FW.loopS I μ G s h0 hg fun s hs => fw_sound (h s hs)
theorem FWT.loopK {x : FC} {α : Type} {t : Tag (FC.loop x, K)} (ks : List Nat) (I : α → Env) (μ : α → Nat) (G : α → Prop) (s : α) (h0 : E.kills ks = I s) (hg : G s) (h : ∀ s, G s → fw P N x (I s) (thenK (fun E' => ∃ t, E'.kills ks = I t ∧ G t ∧ μ t < μ s) K)) : FWT P N (.loop x) E K t :=
  FW.loopK ks I μ G s h0 hg fun s hs => fw_sound (h s hs)
@[go_sem] theorem co_true (x y : Prop) (t : Tag (x, y)) : condOn (.bool true) x y t = x := by simp [condOn]
@[go_sem] theorem co_false (x y : Prop) (t : Tag (x, y)) : condOn (.bool false) x y t = y := by simp [condOn]
@[go_sem low] theorem co_bool (b : Bool) (x y : Prop) (t : Tag (x, y)) : condOn (.bool b) x y t = ((b = true → x) ∧ (b = false → y)) := by simp [condOn]
@[go_sem ↓] theorem t_normal (J : Env → Prop) (K : Exit → Env → Prop) : thenK J K .normal E = J E := propext Iff.rfl
@[go_sem ↓] theorem t_ret (J : Env → Prop) (K : Exit → Env → Prop) : thenK J K .ret E = K .ret E := propext Iff.rfl
@[go_sem ↓] theorem t_exit (J : Env → Prop) (K : Exit → Env → Prop) (id : Nat) : thenK J K (.exit id) E = K (.exit id) E := propext Iff.rfl
@[go_sem ↓] theorem b_normal (id : Nat) : blockK id K .normal E = K .normal E := propext Iff.rfl
@[go_sem ↓] theorem b_ret (id : Nat) : blockK id K .ret E = K .ret E := propext Iff.rfl
@[go_sem ↓] theorem b_exit (id id' : Nat) : blockK id K (.exit id') E = if id' = id then K .normal E else K (.exit id') E := propext Iff.rfl

/-- the end of a function -/
def finK (rs : List RV) (J : FV → Prop) (e : Exit) (E : Env) : Prop := (e = .normal ∨ e = .ret) ∧ ∃ x, outs E rs = some x ∧ J (one x.1)
def finX (J : FV → Prop) (x : Option (List FV × Env)) : Prop := ∃ y, x = some y ∧ J (one y.1)
@[go_sem ↓] theorem fin_ret (rs : List RV) (J : FV → Prop) : finK rs J .ret E = finX J (outs E rs) := by simp [finK, finX]
@[go_sem ↓] theorem fin_normal (rs : List RV) (J : FV → Prop) : finK rs J .normal E = finX J (outs E rs) := by simp [finK, finX]
@[go_sem] theorem finX_some (J : FV → Prop) (y : List FV × Env) : finX J (some y) = J (one y.1) := by simp [finX]
@[congr] theorem finX_congr {J : FV → Prop} {x y : Option (List FV × Env)} (h : x = y) : finX J x = finX J y := by rw [h]
attribute [go_sem] List.isEmpty_nil List.isEmpty_cons outs RV.out one entryFrom List.length_cons List.length_nil List.head?_cons Int.natCast_nonneg Nat.le_refl decide_true decide_false or_true or_false true_or false_or true_and and_true false_and and_false Bool.or_false Bool.false_or Bool.or_true Bool.true_or Bool.not_false Bool.not_true Bool.and_true Bool.true_and Bool.and_false Bool.false_and not_true_eq_false not_false_eq_true List.drop_zero List.drop_succ_cons List.append_nil List.nil_append List.cons_append List.getElem?_cons_zero List.getElem?_cons_succ List.set_cons_zero List.set_cons_succ forall_const implies_true true_implies false_implies List.replicate_zero List.replicate_succ

@[go_sem] theorem rowsOk_nil (n : Nat) : rowsOk n [] = true := rfl
@[go_sem] theorem rowsOk_cons (n : Nat) (r : List FV) (es : List (List FV)) : rowsOk n (r :: es) = ((r.length == n && r.all FV.one) && rowsOk n es) := rfl
theorem FCall.walk {f : FuncId} {fn : Func} {fc : FC} {fs : List FV} {na : Nat} {rs : List RV} {J : FV → Prop} (hf : P.funcs[f]? = some fn) (hc : fnOk P fn fc N na rs = true) (hl : fs.length = na)
    (h : fw P N fc (entryFrom 0 fs) (finK rs J)) : FCall P f fs J := FCall.of hf hc hl (fw_sound h)
end
end Go.Fm
