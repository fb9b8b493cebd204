/- Part of a proof: see the last text of the claim. -/
import Derived.Test.YtdjbhceoodcphaaGreatA4
import Derived.Lib.IndexMore
import Derived.Test.YtdjbhceoodcphaaGreatRows
set_option linter.unusedVariables false
set_option linter.unusedSimpArgs false
namespace Go.Fm
open Go
abbrev Calls := FuncId → List FV → Option FV
abbrev Muts := FuncId → List (List FV) → Option (List (List FV))
def SoundC (P : Program) (c : Calls) : Prop := ∀ f fs v, c f fs = some v → FCall P f fs (· = v)
def SoundM (P : Program) (m : Muts) : Prop := ∀ f es es', m f es = some es' → FMut P f es (· = es')
structure Mut2 where
  m : Muts
  b : FuncId → List FV → List FV → Option (List FV × FV)
def SoundB (P : Program) (b : FuncId → List FV → List FV → Option (List FV × FV)) : Prop := ∀ f cs fs x, b f cs fs = some x → FMutB P f cs fs (fun c v => c = x.1 ∧ v = x.2)
structure Sound2 (P : Program) (M : Mut2) : Prop where
  m : SoundM P M.m
  b : SoundB P M.b
def xX (b : FuncId → List FV → List FV → Option (List FV × FV)) (f : FuncId) (d : Nat) (E : Env) (l : FV) (p : List FV × Env) : Option Env :=
  cond (isRoot (rootOf l) l && (!Nat.beq (rootOf l) X0 && ((E.get (rootOf l)).isBox && ((p.2.get (rootOf l)).isBox && Nat.blt 0 (boxOf (p.2.get (rootOf l))).length)))) (match b f (boxOf (p.2.get (rootOf l))) p.1 with
    | some x => some ((p.2.reb (rootOf l) x.1).upd d x.2)
    | none => none) none
def xFree (c : Calls) (f : FuncId) (fs : List FV) : Option FV := match c f fs with
  | some r => cond r.free (some r) none
  | none => none
def xNil (neg : Bool) (d : Nat) (E : Env) (es : List (List FV)) : Option Env := match es with
  | [] => none
  | _ :: _ => some (E.upd d (.bool neg))
def xNilOn (E : Env) (d : Nat) (neg : Bool) (f : FV) : Option Env := match f with
  | .sl _ es => xNil neg d E es
  | .al q p => match E.at q p with
    | .arr es => xNil neg d E es
    | _ => none
  | _ => none
def xStW (E : Env) (f : FV) (d n : Nat) : Option Env := cond f.alias none (stG E f (.t d) n)
def xM (m : Muts) (f : FuncId) (q d : Nat) (E : Env) (l g : FV) : Option Env := match l with
  | .al q' p => match p with
    | [] => cond (Nat.beq q' q) (match g with
      | .arr es => match m f es with
        | some es' => some (((E.upd q .undef).upd q (.arr es')).upd d (.tup []))
        | none => none
      | _ => none) none
    | _ => none
  | _ => none
def xV (P : Program) (c : Calls) (s : FV) (fs : List FV) : Option FV := match s with
  | .fn g cap => cond (isFn P g) (xFree c g (fs ++ cap)) none
  | _ => none
def xF (P : Program) (c : Calls) (s : FV) (fs : List FV) : Option FV := match s with
  | .fn g cap => match cap with
    | [] => cond (isFn P g) (c g fs) none
    | _ => none
  | _ => none
def xK (P : Program) (c : Calls) (m : Mut2) (k : FK) (d : Nat) (E : Env) : Option Env :=
  match k with
  | .op f => f.eval E d
  | .call f ss => match c f (E.passM ss).1 with
    | some r => some ((E.passM ss).2.upd d r)
    | none => none
  | .callB f ss => match xFree c f (ss.map E.lend) with
    | some r => some (E.upd d r)
    | none => none
  | .callL f ss => cond (ss.all fun s => !(E.look s).alias) (match c f (ss.map E.look) with
    | some r => some (E.upd d r)
    | none => none) none
  | .callV s ss => match xV P c (E.lend s) (ss.map E.lend) with
    | some r => some (E.upd d r)
    | none => none
  | .callM f s q => xM m.m f q d E (E.look s) (E.get q)
  | .callX f s ss => xX m.b f d E (E.look s) (E.passM ss)
  | .callF s ss => match xF P c (E.lend s) (E.passM ss).1 with
    | some r => some ((E.passM ss).2.upd d r)
    | none => none
  | .isNil neg s => xNilOn E d neg (E.look s)
  | .storeW s n => xStW E (E.look s) d n
section
variable {P : Program} {c : Calls} {m : Mut2}
theorem xFree_sound (hc : SoundC P c) {f : FuncId} {fs : List FV} {v : FV} {J : FV → Prop} (h : xFree c f fs = some v) (hj : J v) : FCall P f fs (fun r => r.free = true ∧ J r) := by
  unfold xFree at h
  split at h <;> try (cases h; done)
  rename_i r hr
  cases hf : r.free <;> rw [hf] at h <;> cases h
  exact (hc _ _ _ hr).mono fun r hr => by subst hr; exact ⟨hf, hj⟩
theorem xNil_sound {neg : Bool} {d : Nat} {E E' : Env} {es : List (List FV)} {J : Env → Prop} (h : xNil neg d E es = some E') (hj : J E') : nilK es neg fun b => J (E.upd d (.bool b)) := by
  cases es with
  | nil => cases h
  | cons x es => cases h; exact ⟨fun h => by simp at h, fun _ => hj⟩
theorem xK_sound (hc : SoundC P c) (hm : Sound2 P m) {k : FK} {d : Nat} {E E' : Env} {J : Env → Prop} (h : xK P c m k d E = some E') (hj : J E') : runK P k d E J := by
  cases k with
  | op f => exact ⟨E', h, hj⟩
  | call f ss =>
    simp only [xK] at h
    split at h <;> cases h
    rename_i r hr
    exact (hc _ _ _ hr).mono fun r hr => by subst hr; exact hj
  | callB f ss =>
    simp only [xK] at h
    split at h <;> cases h
    rename_i r hr
    exact xFree_sound hc hr hj
  | callL f ss =>
    simp only [xK] at h
    cases ha : (ss.all fun s => !(E.look s).alias) <;> rw [ha] at h <;> simp only [cond_true, cond_false] at h
    · cases h
    · split at h <;> cases h
      rename_i r hr
      exact ⟨ha, (hc _ _ _ hr).mono fun r hr => by subst hr; exact hj⟩
  | callV s ss =>
    simp only [xK] at h
    split at h <;> cases h
    rename_i r hr
    unfold xV at hr
    simp only [runK]
    split at hr <;> try (cases hr; done)
    rename_i g cap hs
    simp only [hs]
    cases hi : isFn P g <;> rw [hi] at hr <;> simp only [cond_true, cond_false] at hr
    · cases hr
    · exact ⟨rfl, xFree_sound hc hr hj⟩
  | callF s ss =>
    simp only [xK] at h
    split at h <;> cases h
    rename_i r hr
    unfold xF at hr
    simp only [runK]
    split at hr <;> try (cases hr; done)
    rename_i g cap hs
    simp only [hs]
    split at hr <;> try (cases hr; done)
    cases hi : isFn P g <;> rw [hi] at hr <;> simp only [cond_true, cond_false] at hr
    · cases hr
    · exact ⟨rfl, rfl, (hc _ _ _ hr).mono fun r hr => by subst hr; exact hj⟩
  | callM f s q =>
    simp only [xK, xM] at h
    split at h <;> try (cases h; done)
    rename_i q' p hl
    split at h <;> try (cases h; done)
    cases hq : Nat.beq q' q <;> rw [hq] at h <;> simp only [cond_true, cond_false] at h
    · cases h
    · have := Nat.eq_of_beq_eq_true hq
      subst this
      split at h <;> try (cases h; done)
      rename_i es he
      split at h <;> try (cases h; done)
      rename_i es' hes
      cases h
      exact ⟨hl, es, he, (hm.m _ _ _ hes).mono fun r hr => by subst hr; exact hj⟩
  | callX f s ss =>
    simp only [xK, xX] at h
    cases hb : isRoot (rootOf (E.look s)) (E.look s) && (!Nat.beq (rootOf (E.look s)) X0 && ((E.get (rootOf (E.look s))).isBox && (((E.passM ss).2.get (rootOf (E.look s))).isBox && Nat.blt 0 (boxOf ((E.passM ss).2.get (rootOf (E.look s)))).length))) <;> rw [hb] at h <;> simp only [cond_true, cond_false] at h
    · cases h
    simp only [Bool.and_eq_true, Bool.not_eq_true', Nat.blt_eq] at hb
    obtain ⟨h1, h2, h3, h4, h5⟩ := hb
    split at h <;> cases h
    rename_i x hx
    exact ⟨h1, Nat.ne_of_beq_eq_false h2, h3, h4, h5, (hm.b _ _ _ _ hx).mono fun c v _ hcv => by obtain ⟨rfl, rfl⟩ := hcv; exact hj⟩
  | isNil neg s =>
    simp only [xK, xNilOn] at h
    simp only [runK, nilOn]
    split at h <;> try (cases h; done)
    · rename_i b es hl
      rw [hl]
      exact xNil_sound h hj
    · rename_i q p hl
      rw [hl]
      simp only
      split at h <;> try (cases h; done)
      rename_i es he
      rw [he]
      exact xNil_sound h hj
  | storeW s n =>
    simp only [xK, xStW] at h
    cases ha : (E.look s).alias <;> rw [ha] at h <;> simp only [cond_true, cond_false] at h
    · exact ⟨E', h, ha, hj⟩
    · cases h
def xG (P : Program) (c : Calls) (m : Mut2) (f : FO) (E : Env) : Option Env := match f.g with
  | none => xK P c m f.k f.d E
  | some (t, want) => match E.get t with
    | .bool b => cond (b == want) (xK P c m f.k f.d E) (some (E.upd f.d skipped))
    | .tup [] => some (E.upd f.d skipped)
    | _ => none
def xOps (P : Program) (c : Calls) (m : Mut2) : List FO → Env → Option Env
  | [], E => some E
  | f :: r, E => match xG P c m f E with
    | some E' => xOps P c m r E'
    | none => none
theorem xG_sound (hc : SoundC P c) (hm : Sound2 P m) {f : FO} {E E' : Env} {J : Env → Prop} (h : xG P c m f E = some E') (hj : J E') : stepG P f E J := by
  unfold xG at h
  unfold stepG
  cases hg : f.g with
  | none => rw [hg] at h; exact xK_sound hc hm h hj
  | some x =>
    obtain ⟨t, want⟩ := x
    rw [hg] at h
    simp only at h ⊢
    split at h <;> try (cases h; done)
    · rename_i b hb
      rw [hb]
      cases hbw : b == want <;> rw [hbw] at h <;> simp only [cond_true, cond_false] at h
      · cases h
        exact ⟨fun e => by subst e; simp at hbw, fun _ => hj⟩
      · exact ⟨fun _ => xK_sound hc hm h hj, fun e => absurd (by simpa using hbw) e⟩
    · rename_i hb
      rw [hb]
      cases h
      exact hj
theorem xOps_sound (hc : SoundC P c) (hm : Sound2 P m) : ∀ {fs : List FO} {E E' : Env} {J : Env → Prop}, xOps P c m fs E = some E' → J E' → runOps P fs E J
  | [], E, E', J, h, hj => by cases h; exact hj
  | f :: r, E, E', J, h, hj => by
    simp only [xOps] at h
    split at h <;> try (cases h; done)
    rename_i E1 h1
    rw [runOps_cons]
    exact xG_sound hc hm h1 (xOps_sound hc hm h hj)
def xDOp (E : Env) (d : Nat) (f : FOp) : Option Env := match f with
  | .build tmpl ps ss => cond (ss.all E.noAl) (match bdF E tmpl ps ss with
    | some x => some (x.2.put d x.1)
    | none => none) none
  | .buildSl tmpl ln is ss => cond (ss.all E.noAl) (match bsF E tmpl ln is ss with
    | some x => some (x.2.put d x.1)
    | none => none) none
  | .mvP deep s => cond (E.noAl s) (some ((E.pass deep s).2.put d (E.pass deep s).1)) none
  | .extract n i => match exF (E.get n) i with
    | some f => some ((if f.flat then E else E.put n (exT (E.get n) i)).put d f)
    | none => none
  | f => match f.val E with
    | some v => cond (v.notRoot d) (some (E.put d v)) none
    | none => none
def xPut (E : Env) (d : Nat) (x : Option FV) : Option Env := match x with
  | some v => some (E.put d v)
  | none => none
def xDK (P : Program) (c : Calls) (k : FK) (d : Nat) (E : Env) : Option Env :=
  match k with
  | .op f => xDOp E d f
  | .callB f ss => xPut E d (xFree c f (ss.map E.lend))
  | .callL f ss => cond (ss.all fun s => !(E.look s).alias) (xPut E d (c f (ss.map E.look))) none
  | .callV s ss => xPut E d (xV P c (E.lend s) (ss.map E.lend))
  | .storeW s n => xPut E d (stW (E.get d) (E.look s) n)
  | _ => none
theorem xPut_inv {E E' : Env} {d : Nat} {x : Option FV} (h : xPut E d x = some E') : ∃ v, x = some v ∧ E' = E.put d v := by
  cases x with
  | none => cases h
  | some v => cases h; exact ⟨v, rfl, rfl⟩
theorem xDK_sound (hc : SoundC P c) {k : FK} {d : Nat} {E E' : Env} {J : Env → Prop} (h : xDK P c k d E = some E') (hj : J E') : detK P k d E J := by
  have free : ∀ {f : FuncId} {fs : List FV} {v : FV}, xFree c f fs = some v → FCall P f fs (· = v) ∧ v.free = true := fun {f fs v} h => by
    unfold xFree at h
    split at h <;> try (cases h; done)
    rename_i r hr
    cases hf : r.free <;> rw [hf] at h <;> cases h
    exact ⟨hc _ _ _ hr, hf⟩
  cases k with
  | op f =>
    have val : (match f.val E with
        | some v => cond (v.notRoot d) (some (E.put d v)) none
        | none => none) = some E' → ∃ v, f.val E = some v ∧ v.notRoot d = true ∧ J (E.put d v) := fun h => by
      split at h <;> try (cases h; done)
      rename_i u hu
      cases hn : u.notRoot d <;> rw [hn] at h <;> cases h
      exact ⟨u, hu, hn, hj⟩
    cases f with
    | build tmpl ps ss =>
      simp only [xDK, xDOp] at h
      cases ha : ss.all E.noAl <;> rw [ha] at h <;> simp only [cond_true, cond_false] at h
      · cases h
      · split at h <;> cases h
        rename_i x hx
        exact ⟨ha, x, hx, hj⟩
    | buildSl tmpl ln is ss =>
      simp only [xDK, xDOp] at h
      cases ha : ss.all E.noAl <;> rw [ha] at h <;> simp only [cond_true, cond_false] at h
      · cases h
      · split at h <;> cases h
        rename_i x hx
        exact ⟨ha, x, hx, hj⟩
    | mvP deep s =>
      simp only [xDK, xDOp] at h
      cases ha : E.noAl s <;> rw [ha] at h <;> cases h
      exact ⟨ha, hj⟩
    | extract n i =>
      simp only [xDK, xDOp] at h
      split at h <;> cases h
      rename_i f hf
      exact ⟨f, hf, hj⟩
    | _ => exact val h
  | call f ss => cases h
  | callB f ss =>
    obtain ⟨v, h1, rfl⟩ := xPut_inv h
    obtain ⟨h1, h2⟩ := free h1
    exact ⟨v, h1, h2, hj⟩
  | callL f ss =>
    simp only [xDK] at h
    cases ha : (ss.all fun s => !(E.look s).alias) <;> rw [ha] at h <;> simp only [cond_true, cond_false] at h
    · cases h
    · obtain ⟨v, h1, rfl⟩ := xPut_inv h
      exact ⟨ha, v, hc _ _ _ h1, hj⟩
  | callV s ss =>
    obtain ⟨v, h1, rfl⟩ := xPut_inv h
    simp only [xV] at h1
    simp only [detK]
    split at h1 <;> try (cases h1; done)
    rename_i g cap hs
    simp only [hs]
    cases hi : isFn P g <;> rw [hi] at h1 <;> simp only [cond_true, cond_false] at h1
    · cases h1
    · obtain ⟨h1, h2⟩ := free h1
      exact ⟨rfl, v, h1, h2, hj⟩
  | callM f s q => cases h
  | callX f s ss => cases h
  | callF s ss => cases h
  | isNil neg s => cases h
  | storeW s n =>
    obtain ⟨v, h1, rfl⟩ := xPut_inv h
    exact ⟨v, h1, hj⟩
def xDG (P : Program) (c : Calls) (f : FO) (E : Env) : Option Env := match f.g with
  | none => xDK P c f.k f.d E
  | some (t, want) => match E.get t with
    | .bool b => cond (b == want) (xDK P c f.k f.d E) (some (E.put f.d skipped))
    | .tup [] => some (E.put f.d skipped)
    | _ => none
theorem xDG_sound (hc : SoundC P c) {f : FO} {E E' : Env} {J : Env → Prop} (h : xDG P c f E = some E') (hj : J E') : detG P f E J := by
  unfold xDG at h
  unfold detG
  cases hg : f.g with
  | none => rw [hg] at h; exact xDK_sound hc h hj
  | some x =>
    obtain ⟨t, want⟩ := x
    rw [hg] at h
    simp only at h ⊢
    split at h <;> try (cases h; done)
    · rename_i b hb
      rw [hb]
      cases hbw : b == want <;> rw [hbw] at h <;> simp only [cond_true, cond_false] at h
      · cases h
        exact ⟨fun e => by subst e; simp at hbw, fun _ => hj⟩
      · exact ⟨fun _ => xDK_sound hc h hj, fun e => absurd (by simpa using hbw) e⟩
    · rename_i hb
      rw [hb]
      cases h
      exact hj
def xDet (P : Program) (c : Calls) (D : List Nat) : List FO → Env → Option Env
  | [], E => some E
  | f :: r, E => match xDG P c f E with
    | some E' => cond (rootOk D (E'.get f.d)) (xDet P c D r E') none
    | none => none
theorem xDet_sound (hc : SoundC P c) {D : List Nat} : ∀ {fs : List FO} {E E' : Env} {J : Env → Prop}, xDet P c D fs E = some E' → J E' → runDet P D fs E J
  | [], E, E', J, h, hj => by cases h; exact hj
  | f :: r, E, E', J, h, hj => by
    simp only [xDet] at h
    unfold runDet
    split at h <;> try (cases h; done)
    rename_i E1 h1
    cases hr : rootOk D (E1.get f.d) <;> rw [hr] at h <;> simp only [cond_true, cond_false] at h
    · cases h
    · exact xDG_sound hc h1 ⟨hr, xDet_sound hc h hj⟩
def xLoop (x : Env → Option (Exit × Env)) : Nat → Env → Option (Exit × Env)
  | 0, _ => none
  | n + 1, E => match x E with
    | some (e, E') => match e with
      | .normal => xLoop x n E'
      | e => some (e, E')
    | none => none
def xCode (P : Program) (c : Calls) (m : Mut2) (n : Nat) : FC → Env → Option (Exit × Env)
  | .skip, E => some (.normal, E)
  | .ret, E => some (.ret, E)
  | .exit id, E => some (.exit id, E)
  | .seq x y, E => match xCode P c m n x E with
    | some (e, E') => match e with
      | .normal => xCode P c m n y E'
      | e => some (e, E')
    | none => none
  | .cond s x y, E => match E.look s with
    | .bool b => cond b (xCode P c m n x E) (xCode P c m n y E)
    | _ => none
  | .block id x, E => match xCode P c m n x E with
    | some (e, E') => match e with
      | .exit id' => cond (Nat.beq id' id) (some (.normal, E')) (some (.exit id', E'))
      | e => some (e, E')
    | none => none
  | .loop x, E => xLoop (fun E => xCode P c m n x E) n E
  | .reg dr fs ks, E => match dr with
    | none => match xOps P c m fs E with
      | some E' => some (.normal, E'.kills ks)
      | none => none
    | some k => cond (P.follows .mixedOrders && rootsOk (wrs (fs.take k)) E) (match xDet P c (wrs (fs.take k)) (fs.take k) E with
      | some Ef => match xOps P c m (fs.drop k) Ef with
        | some E' => some (.normal, E'.kills ks)
        | none => none
      | none => none) none
theorem xCode_sound {N n : Nat} (hc : SoundC P c) (hm : Sound2 P m) : ∀ {x : FC} {E : Env} {r : Exit × Env} {K : Exit → Env → Prop}, xCode P c m n x E = some r → K r.1 r.2 → FW P N x E K
  | .skip, E, r, K, h, hk => by cases h; exact FW.skip hk
  | .ret, E, r, K, h, hk => by cases h; exact FW.ret hk
  | .exit id, E, r, K, h, hk => by cases h; exact FW.exit hk
  | .seq x y, E, r, K, h, hk => by
    simp only [xCode] at h
    split at h <;> try (cases h; done)
    rename_i e E' h1
    refine FW.seq (xCode_sound hc hm h1 ?_)
    cases e with
    | normal => exact xCode_sound hc hm h hk
    | _ => cases h; exact hk
  | .cond s x y, E, r, K, h, hk => by
    simp only [xCode] at h
    split at h <;> try (cases h; done)
    rename_i b hb
    refine FW.cond hb ?_
    cases b
    · exact xCode_sound hc hm h hk
    · exact xCode_sound hc hm h hk
  | .block id x, E, r, K, h, hk => by
    simp only [xCode] at h
    split at h <;> try (cases h; done)
    rename_i e E' h1
    refine FW.block (xCode_sound hc hm h1 ?_)
    cases e with
    | exit id' =>
      simp only [blockK]
      simp only at h
      cases hb : Nat.beq id' id <;> rw [hb] at h <;> simp only [cond_true, cond_false] at h <;> cases h
      · rw [if_neg (Nat.ne_of_beq_eq_false hb)]; exact hk
      · rw [if_pos (Nat.eq_of_beq_eq_true hb)]; exact hk
    | _ => cases h; exact hk
  | .loop x, E, r, K, h, hk => by
    simp only [xCode] at h
    refine FW.loop (fun k E => xLoop (fun E => xCode P c m n x E) k E = some r) n h fun k E1 h1 => ?_
    cases k with
    | zero => cases h1
    | succ k =>
      simp only [xLoop] at h1
      split at h1 <;> try (cases h1; done)
      rename_i e E2 h2
      refine xCode_sound hc hm h2 ?_
      cases e with
      | normal => exact ⟨k, Nat.lt_succ_self k, h1⟩
      | _ => cases h1; exact hk
  | .reg none fs ks, E, r, K, h, hk => by
    simp only [xCode] at h
    split at h <;> try (cases h; done)
    rename_i E' h1
    cases h
    exact FW.reg (xOps_sound hc hm h1 hk)
  | .reg (some k) fs ks, E, r, K, h, hk => by
    simp only [xCode] at h
    cases hf : P.follows .mixedOrders && rootsOk (wrs (fs.take k)) E <;> rw [hf] at h <;> simp only [cond_true, cond_false] at h
    · cases h
    simp only [Bool.and_eq_true] at hf
    split at h <;> try (cases h; done)
    rename_i Ef h1
    split at h <;> try (cases h; done)
    rename_i E' h2
    cases h
    exact FW.draw hf.1 hf.2 (xDet_sound hc h1 (xOps_sound hc hm h2 hk))
structure XE where
  fc : FC
  N : Nat
  na : Nat
  rs : List RV
def XT.find : List (FuncId × XE) → FuncId → Option XE
  | [], _ => none
  | (g, e) :: t, f => cond (Nat.beq g f) (some e) (XT.find t f)
def XT.Good (P : Program) : List (FuncId × XE) → Prop
  | [] => True
  | (g, e) :: t => (∃ fn, P.funcs[g]? = some fn ∧ fnOk P fn e.fc e.N e.na e.rs = true) ∧ XT.Good P t
theorem XT.find_good : ∀ {t : List (FuncId × XE)} {f : FuncId} {e : XE}, XT.Good P t → XT.find t f = some e → ∃ fn, P.funcs[f]? = some fn ∧ fnOk P fn e.fc e.N e.na e.rs = true
  | [], f, e, _, h => by cases h
  | (g, e') :: t, f, e, hg, h => by
    simp only [XT.find] at h
    cases hb : Nat.beq g f <;> rw [hb] at h <;> simp only [cond_true, cond_false] at h
    · exact XT.find_good hg.2 h
    · have := Nat.eq_of_beq_eq_true hb
      subst this
      cases h
      exact hg.1
def xFin (rs : List RV) (e : Exit) (E : Env) : Option FV := match e with
  | .normal | .ret => match outs E rs with
    | some x => some (one x.1)
    | none => none
  | _ => none
def xRun (P : Program) (c : Calls) (m : Mut2) (n : Nat) (e : XE) (fs : List FV) : Option FV :=
  cond (Nat.beq fs.length e.na) (match xCode P c m n e.fc (entryFrom 0 fs) with
    | some (x, E) => xFin e.rs x E
    | none => none) none
def xFinB (rs : List RV) (n : Nat) (e : Exit) (E : Env) : Option (List FV × FV) := match e with
  | .normal | .ret => cond (isRoot 0 (E.get X0) && (E.get 0).isBox) (match outs E rs with
    | some x => cond ((x.2.get 0).isBox && Nat.beq (boxOf (x.2.get 0)).length n) (some (boxOf (x.2.get 0), one x.1)) none
    | none => none) none
  | _ => none
def xRunB (P : Program) (c : Calls) (m : Mut2) (n : Nat) (e : XE) (cs fs : List FV) : Option (List FV × FV) :=
  cond (Nat.beq (fs.length + 1) e.na && Nat.blt 0 cs.length) (match xCode P c m n e.fc (entryB cs fs) with
    | some (x, E) => xFinB e.rs cs.length x E
    | none => none) none
theorem xRunB_sound {n : Nat} (hc : SoundC P c) (hm : Sound2 P m) {f : FuncId} {fn : Func} {e : XE} {cs fs : List FV} {x : List FV × FV} (h1 : P.funcs[f]? = some fn) (h2 : fnOk P fn e.fc e.N e.na e.rs = true) (h : xRunB P c m n e cs fs = some x) : FMutB P f cs fs (fun c v => c = x.1 ∧ v = x.2) := by
  unfold xRunB at h
  cases hl : Nat.beq (fs.length + 1) e.na && Nat.blt 0 cs.length <;> rw [hl] at h <;> simp only [cond_true, cond_false] at h
  · cases h
  simp only [Bool.and_eq_true, Nat.blt_eq] at hl
  split at h <;> try (cases h; done)
  rename_i y E hx
  refine FMutB.of h1 h2 (Nat.eq_of_beq_eq_true hl.1) hl.2 (xCode_sound hc hm hx ?_)
  have key : ∀ {z : Exit}, (z = .normal ∨ z = .ret) → (cond (isRoot 0 (E.get X0) && (E.get 0).isBox) (match outs E e.rs with
    | some x => cond ((x.2.get 0).isBox && Nat.beq (boxOf (x.2.get 0)).length cs.length) (some (boxOf (x.2.get 0), one x.1)) none
    | none => none) none) = some x → finB e.rs cs.length (fun c v => c = x.1 ∧ v = x.2) z E := fun hz h => by
    cases hb : isRoot 0 (E.get X0) && (E.get 0).isBox <;> rw [hb] at h <;> simp only [cond_true, cond_false] at h
    · cases h
    simp only [Bool.and_eq_true] at hb
    split at h <;> try (cases h; done)
    rename_i u hu
    cases hd : (u.2.get 0).isBox && Nat.beq (boxOf (u.2.get 0)).length cs.length <;> rw [hd] at h <;> simp only [cond_true, cond_false] at h
    · cases h
    simp only [Bool.and_eq_true] at hd
    cases h
    exact ⟨hz, hb.1, hb.2, u, hu, hd.1, Nat.eq_of_beq_eq_true hd.2, rfl, rfl⟩
  unfold xFinB at h
  cases y <;> simp only at h <;> try (cases h; done)
  · exact key (.inl rfl) h
  · exact key (.inr rfl) h
def xAll (P : Program) (t : List (FuncId × XE)) (prim : Calls) (m : Muts) (n : Nat) : Nat → Calls × (FuncId → List FV → List FV → Option (List FV × FV))
  | 0 => (fun _ _ => none, fun _ _ _ => none)
  | k + 1 => (fun f fs => match prim f fs with
    | some v => some v
    | none => match XT.find t f with
      | some e => xRun P (xAll P t prim m n k).1 ⟨m, (xAll P t prim m n k).2⟩ n e fs
      | none => none, fun f cs fs => match XT.find t f with
    | some e => xRunB P (xAll P t prim m n k).1 ⟨m, (xAll P t prim m n k).2⟩ n e cs fs
    | none => none)
def xCall (P : Program) (t : List (FuncId × XE)) (prim : Calls) (m : Muts) (n k : Nat) : FuncId → List FV → Option FV := (xAll P t prim m n k).1
theorem xAll_sound {t : List (FuncId × XE)} {prim : Calls} {m : Muts} {n : Nat} (ht : XT.Good P t) (hp : SoundC P prim) (hm : SoundM P m) : ∀ k, SoundC P (xAll P t prim m n k).1 ∧ SoundB P (xAll P t prim m n k).2
  | 0 => ⟨(fun f fs v h => by cases h), (fun f cs fs x h => by cases h)⟩
  | k + 1 => by
    obtain ⟨i1, i2⟩ := xAll_sound ht hp hm k (n := n)
    have im : Sound2 P ⟨m, (xAll P t prim m n k).2⟩ := ⟨hm, i2⟩
    refine ⟨fun f fs v h => ?_, fun f cs fs x h => ?_⟩
    · simp only [xAll] at h
      split at h
      · rename_i u hu
        cases h
        exact hp _ _ _ hu
      · split at h <;> try (cases h; done)
        rename_i e he
        obtain ⟨fn, h1, h2⟩ := XT.find_good ht he
        unfold xRun at h
        cases hl : Nat.beq fs.length e.na <;> rw [hl] at h <;> simp only [cond_true, cond_false] at h
        · cases h
        split at h <;> try (cases h; done)
        rename_i x E hx
        refine FCall.of h1 h2 (Nat.eq_of_beq_eq_true hl) (xCode_sound i1 im hx ?_)
        unfold xFin at h
        cases x <;> simp only at h <;> try (cases h; done)
        · split at h <;> cases h
          rename_i y hy
          exact ⟨.inl rfl, y, hy, rfl⟩
        · split at h <;> cases h
          rename_i y hy
          exact ⟨.inr rfl, y, hy, rfl⟩
    · simp only [xAll] at h
      split at h <;> try (cases h; done)
      rename_i e he
      obtain ⟨fn, h1, h2⟩ := XT.find_good ht he
      exact xRunB_sound i1 im h1 h2 h
theorem xCall_sound {t : List (FuncId × XE)} {prim : Calls} {m : Muts} {n : Nat} (ht : XT.Good P t) (hp : SoundC P prim) (hm : SoundM P m) : ∀ k, SoundC P (xCall P t prim m n k) := fun k => (xAll_sound ht hp hm k).1
end
end Go.Fm
set_option linter.unusedVariables false
namespace Go.Fx.Tryz
open Go Go.Fm Go.Proofs
def tab : List (FuncId × XE) := [
  (n_law17_LawClone, ⟨c_law17_LawClone, 131, 3, [.t 6]⟩),
  (n_same_SmallLaw, ⟨c_same_SmallLaw, 127, 1, [.t 2]⟩),
  (n_law17_awake, ⟨c_law17_awake, 19, 0, [.t 0]⟩),
  (n_law_Clone, ⟨c_law_Clone, 61, 1, [.c 2 3 true]⟩),
  (n_law_Equal, ⟨c_law_Equal, 24, 2, [.t 4]⟩),
  (n_ref17_Equal, ⟨c_ref17_Equal, 8, 2, [.t 4]⟩),
  (n_same_smallScope, ⟨c_same_smallScope, 93, 1, [.t 2]⟩),
  (n_same_TinyLaw, ⟨c_same_TinyLaw, 22, 1, [.c 2 3 true]⟩),
  (n_law_Validate, ⟨c_law_Validate, 124, 1, [.c 2 4 true]⟩),
  (n_law_enums, ⟨c_law_enums, 23, 1, [.t 2]⟩),
  (n_law_tables, ⟨c_law_tables, 22, 1, [.t 2]⟩),
  (n_slices_Clone_api_Field_api_Field, ⟨c_slices_Clone_api_Field_api_Field, 8, 1, [.t 2]⟩),
  (n_slices_Clone_api_Node_api_Node, ⟨c_slices_Clone_api_Node_api_Node, 8, 1, [.t 2]⟩),
  (n_slices_EqualFunc_api_Enum_api_Enum_api_Enum_api_Enum, ⟨c_slices_EqualFunc_api_Enum_api_Enum_api_Enum_api_Enum, 32, 3, [.t 6]⟩),
  (n_law_sameEnum, ⟨c_law_sameEnum, 17, 2, [.t 4]⟩),
  (n_slices_EqualFunc_api_Table_api_Table_api_Table_api_Table, ⟨c_slices_EqualFunc_api_Table_api_Table_api_Table_api_Table, 32, 3, [.t 6]⟩),
  (n_law_sameTable, ⟨c_law_sameTable, 31, 2, [.t 4]⟩),
  (n_slices_EqualFunc_api_Scope_api_Scope_api_Scope_api_Scope, ⟨c_slices_EqualFunc_api_Scope_api_Scope_api_Scope_api_Scope, 32, 3, [.t 6]⟩),
  (n_law_sameScope, ⟨c_law_sameScope, 38, 2, [.t 4]⟩),
  (n_same_Law, ⟨c_same_Law, 24, 2, [.t 4]⟩),
  (n_law_bad, ⟨c_law_bad, 14, 4, [.c 8 4 true]⟩),
  (n_law_name, ⟨c_law_name, 22, 4, [.c 8 4 true]⟩),
  (n_law_enum, ⟨c_law_enum, 46, 2, [.c 4 4 true]⟩),
  (n_law_rows, ⟨c_law_rows, 30, 3, [.c 6 4 true]⟩),
  (n_law_scope, ⟨c_law_scope, 115, 2, [.c 4 4 true]⟩),
  (n_slices_Clone_string_string, ⟨c_slices_Clone_string_string, 8, 1, [.t 2]⟩),
  (n_slices_Clone_api_Row_api_Row, ⟨c_slices_Clone_api_Row_api_Row, 8, 1, [.t 2]⟩),
  (n_slices_Equal_string_string, ⟨c_slices_Equal_string_string, 26, 2, [.t 4]⟩),
  (n_slices_Equal_api_Row_api_Row, ⟨c_slices_Equal_api_Row_api_Row, 26, 2, [.t 4]⟩),
  (n_slices_Equal_api_Field_api_Field, ⟨c_slices_Equal_api_Field_api_Field, 26, 2, [.t 4]⟩),
  (n_slices_EqualFunc_api_Rule_api_Rule_api_Rule_api_Rule, ⟨c_slices_EqualFunc_api_Rule_api_Rule_api_Rule_api_Rule, 32, 3, [.t 6]⟩),
  (n_law_sameRule, ⟨c_law_sameRule, 59, 2, [.t 4]⟩),
  (n_same_Enums, ⟨c_same_Enums, 33, 2, [.t 4]⟩),
  (n_same_Tables, ⟨c_same_Tables, 33, 2, [.t 4]⟩),
  (n_same_Scopes, ⟨c_same_Scopes, 33, 2, [.t 4]⟩),
  (n_lexer_IsIdentifier, ⟨c_lexer_IsIdentifier, 29, 1, [.t 2]⟩),
  (n_slices_Contains_string_string, ⟨c_slices_Contains_string_string, 9, 2, [.t 4]⟩),
  (n_table_Validate, ⟨c_table_Validate, 58, 2, [.t 4, .t 5]⟩),
  (n_law_fields, ⟨c_law_fields, 59, 5, [.c 10 4 true]⟩),
  (n_law_names, ⟨c_law_names, 19, 1, [.t 2]⟩),
  (n_law_Signature, ⟨c_law_Signature, 50, 2, [.c 4 6 true]⟩),
  (n_law_rule, ⟨c_law_rule, 102, 3, [.t 6]⟩),
  (n_deps_Transitive, ⟨c_deps_Transitive, 59, 2, [.t 4]⟩),
  (n_slices_Contains_int_int, ⟨c_slices_Contains_int_int, 9, 2, [.t 4]⟩),
  (n_slices_Equal_api_Node_api_Node, ⟨c_slices_Equal_api_Node_api_Node, 26, 2, [.t 4]⟩),
  (n_same_Enum, ⟨c_same_Enum, 17, 2, [.t 4]⟩),
  (n_same_Table, ⟨c_same_Table, 31, 2, [.t 4]⟩),
  (n_same_Scope, ⟨c_same_Scope, 38, 2, [.t 4]⟩),
  (n_lexer_lower, ⟨c_lexer_lower, 9, 1, [.t 2]⟩),
  (n_lexer_run, ⟨c_lexer_run, 20, 2, [.t 4]⟩),
  (n_lexer_part, ⟨c_lexer_part, 13, 1, [.t 2]⟩),
  (n_slices_Index_string_string, ⟨c_slices_Index_string_string, 19, 2, [.t 4]⟩),
  (n_value_ValidType, ⟨c_value_ValidType, 28, 2, [.t 4]⟩),
  (n_table_check, ⟨c_table_check, 82, 3, [.t 6]⟩),
  (n_table_conflict, ⟨c_table_conflict, 29, 2, [.t 4]⟩),
  (n_law_types, ⟨c_law_types, 19, 1, [.t 2]⟩),
  (n_law_member, ⟨c_law_member, 24, 2, [.c 4 5 true, .t 5]⟩),
  (n_law_named, ⟨c_law_named, 69, 2, [.t 4]⟩),
  (n_law_source, ⟨c_law_source, 29, 1, [.t 2]⟩),
  (n_law_expression, ⟨c_law_expression, 25, 3, [.t 6]⟩),
  (n_deps_valid, ⟨c_deps_valid, 14, 2, [.t 4]⟩),
  (n_deps_Direct, ⟨c_deps_Direct, 66, 2, [.t 4]⟩),
  (n_slices_Index_int_int, ⟨c_slices_Index_int_int, 19, 2, [.t 4]⟩),
  (n_same_Strings, ⟨c_same_Strings, 32, 2, [.t 4]⟩),
  (n_same_Rows, ⟨c_same_Rows, 32, 2, [.t 4]⟩),
  (n_same_Fields, ⟨c_same_Fields, 32, 2, [.t 4]⟩),
  (n_same_Rules, ⟨c_same_Rules, 33, 2, [.t 4]⟩),
  (n_lexer_digit, ⟨c_lexer_digit, 9, 1, [.t 2]⟩),
  (n_value_Bounds, ⟨c_value_Bounds, 30, 2, [.t 4, .t 5]⟩),
  (n_daterange_Valid, ⟨c_daterange_Valid, 18, 1, [.t 2]⟩),
  (n_daterange_Intersect, ⟨c_daterange_Intersect, 35, 2, [.c 4 2 true, .t 5]⟩),
  (n_expr_TypeOf, ⟨c_expr_TypeOf, 79, 2, [.c 4 2 true, .t 5, .t 6]⟩),
  (n_expr_References, ⟨c_expr_References, 53, 1, [.t 2, .t 3, .t 4]⟩),
  (n_same_Rule, ⟨c_same_Rule, 59, 2, [.t 4]⟩),
  (n_daterange_proper, ⟨c_daterange_proper, 12, 1, [.t 2]⟩),
  (n_expr_starts, ⟨c_expr_starts, 69, 1, [.t 2, .t 3, .t 4]⟩),
  (n_expr_operands, ⟨c_expr_operands, 37, 3, [.t 6]⟩),
  (n_expr_typeOf, ⟨c_expr_typeOf, 93, 3, [.c 6 2 true, .t 7]⟩),
  (n_expr_References_1, ⟨c_expr_References_1, 7, 1, [.t 2]⟩),
  (n_same_Nodes, ⟨c_same_Nodes, 32, 2, [.t 4]⟩),
  (n_expr_Arity, ⟨c_expr_Arity, 31, 1, [.t 2]⟩),
  (n_expr_number, ⟨c_expr_number, 67, 1, [.t 2]⟩),
  (n_expr_leaf, ⟨c_expr_leaf, 109, 2, [.c 4 2 true, .t 5]⟩),
  (n_expr_table, ⟨c_expr_table, 24, 2, [.c 4 6 true, .t 5]⟩),
  (n_expr_result, ⟨c_expr_result, 156, 2, [.c 4 2 true]⟩),
  (n_expr_meaning, ⟨c_expr_meaning, 19, 1, [.t 2]⟩),
  (n_expr_at_api_Enum, ⟨c_expr_at_api_Enum, 20, 2, [.c 4 2 true, .t 5]⟩),
  (n_expr_at_string, ⟨c_expr_at_string, 20, 2, [.t 4, .t 5]⟩),
  (n_expr_at_api_Type, ⟨c_expr_at_api_Type, 20, 2, [.c 4 2 true, .t 5]⟩),
  (n_expr_aggregate, ⟨c_expr_aggregate, 23, 2, [.t 4]⟩),
  (n_expr_at_api_Table, ⟨c_expr_at_api_Table, 20, 2, [.c 4 6 true, .t 5]⟩),
  (n_expr_result_1, ⟨c_expr_result_1, 10, 2, [.c 4 2 true]⟩),
  (n_expr_numeric, ⟨c_expr_numeric, 13, 1, [.t 2]⟩),
  (n_expr_arithmetic, ⟨c_expr_arithmetic, 77, 3, [.t 6]⟩),
  (n_expr_ordered, ⟨c_expr_ordered, 9, 1, [.t 2]⟩),
  (n_expr_literal, ⟨c_expr_literal, 10, 1, [.t 2]⟩)]
theorem tab_good : XT.Good Tryz.prog tab := ⟨⟨_, u_law17_LawClone, k_law17_LawClone⟩, ⟨_, u_same_SmallLaw, k_same_SmallLaw⟩, ⟨_, u_law17_awake, k_law17_awake⟩, ⟨_, u_law_Clone, k_law_Clone⟩, ⟨_, u_law_Equal, k_law_Equal⟩, ⟨_, u_ref17_Equal, k_ref17_Equal⟩, ⟨_, u_same_smallScope, k_same_smallScope⟩, ⟨_, u_same_TinyLaw, k_same_TinyLaw⟩, ⟨_, u_law_Validate, k_law_Validate⟩, ⟨_, u_law_enums, k_law_enums⟩, ⟨_, u_law_tables, k_law_tables⟩, ⟨_, u_slices_Clone_api_Field_api_Field, k_slices_Clone_api_Field_api_Field⟩, ⟨_, u_slices_Clone_api_Node_api_Node, k_slices_Clone_api_Node_api_Node⟩, ⟨_, u_slices_EqualFunc_api_Enum_api_Enum_api_Enum_api_Enum, k_slices_EqualFunc_api_Enum_api_Enum_api_Enum_api_Enum⟩, ⟨_, u_law_sameEnum, k_law_sameEnum⟩, ⟨_, u_slices_EqualFunc_api_Table_api_Table_api_Table_api_Table, k_slices_EqualFunc_api_Table_api_Table_api_Table_api_Table⟩, ⟨_, u_law_sameTable, k_law_sameTable⟩, ⟨_, u_slices_EqualFunc_api_Scope_api_Scope_api_Scope_api_Scope, k_slices_EqualFunc_api_Scope_api_Scope_api_Scope_api_Scope⟩, ⟨_, u_law_sameScope, k_law_sameScope⟩, ⟨_, u_same_Law, k_same_Law⟩, ⟨_, u_law_bad, k_law_bad⟩, ⟨_, u_law_name, k_law_name⟩, ⟨_, u_law_enum, k_law_enum⟩, ⟨_, u_law_rows, k_law_rows⟩, ⟨_, u_law_scope, k_law_scope⟩, ⟨_, u_slices_Clone_string_string, k_slices_Clone_string_string⟩, ⟨_, u_slices_Clone_api_Row_api_Row, k_slices_Clone_api_Row_api_Row⟩, ⟨_, u_slices_Equal_string_string, k_slices_Equal_string_string⟩, ⟨_, u_slices_Equal_api_Row_api_Row, k_slices_Equal_api_Row_api_Row⟩, ⟨_, u_slices_Equal_api_Field_api_Field, k_slices_Equal_api_Field_api_Field⟩, ⟨_, u_slices_EqualFunc_api_Rule_api_Rule_api_Rule_api_Rule, k_slices_EqualFunc_api_Rule_api_Rule_api_Rule_api_Rule⟩, ⟨_, u_law_sameRule, k_law_sameRule⟩, ⟨_, u_same_Enums, k_same_Enums⟩, ⟨_, u_same_Tables, k_same_Tables⟩, ⟨_, u_same_Scopes, k_same_Scopes⟩, ⟨_, u_lexer_IsIdentifier, k_lexer_IsIdentifier⟩, ⟨_, u_slices_Contains_string_string, k_slices_Contains_string_string⟩, ⟨_, u_table_Validate, k_table_Validate⟩, ⟨_, u_law_fields, k_law_fields⟩, ⟨_, u_law_names, k_law_names⟩, ⟨_, u_law_Signature, k_law_Signature⟩, ⟨_, u_law_rule, k_law_rule⟩, ⟨_, u_deps_Transitive, k_deps_Transitive⟩, ⟨_, u_slices_Contains_int_int, k_slices_Contains_int_int⟩, ⟨_, u_slices_Equal_api_Node_api_Node, k_slices_Equal_api_Node_api_Node⟩, ⟨_, u_same_Enum, k_same_Enum⟩, ⟨_, u_same_Table, k_same_Table⟩, ⟨_, u_same_Scope, k_same_Scope⟩, ⟨_, u_lexer_lower, k_lexer_lower⟩, ⟨_, u_lexer_run, k_lexer_run⟩, ⟨_, u_lexer_part, k_lexer_part⟩, ⟨_, u_slices_Index_string_string, k_slices_Index_string_string⟩, ⟨_, u_value_ValidType, k_value_ValidType⟩, ⟨_, u_table_check, k_table_check⟩, ⟨_, u_table_conflict, k_table_conflict⟩, ⟨_, u_law_types, k_law_types⟩, ⟨_, u_law_member, k_law_member⟩, ⟨_, u_law_named, k_law_named⟩, ⟨_, u_law_source, k_law_source⟩, ⟨_, u_law_expression, k_law_expression⟩, ⟨_, u_deps_valid, k_deps_valid⟩, ⟨_, u_deps_Direct, k_deps_Direct⟩, ⟨_, u_slices_Index_int_int, k_slices_Index_int_int⟩, ⟨_, u_same_Strings, k_same_Strings⟩, ⟨_, u_same_Rows, k_same_Rows⟩, ⟨_, u_same_Fields, k_same_Fields⟩, ⟨_, u_same_Rules, k_same_Rules⟩, ⟨_, u_lexer_digit, k_lexer_digit⟩, ⟨_, u_value_Bounds, k_value_Bounds⟩, ⟨_, u_daterange_Valid, k_daterange_Valid⟩, ⟨_, u_daterange_Intersect, k_daterange_Intersect⟩, ⟨_, u_expr_TypeOf, k_expr_TypeOf⟩, ⟨_, u_expr_References, k_expr_References⟩, ⟨_, u_same_Rule, k_same_Rule⟩, ⟨_, u_daterange_proper, k_daterange_proper⟩, ⟨_, u_expr_starts, k_expr_starts⟩, ⟨_, u_expr_operands, k_expr_operands⟩, ⟨_, u_expr_typeOf, k_expr_typeOf⟩, ⟨_, u_expr_References_1, k_expr_References_1⟩, ⟨_, u_same_Nodes, k_same_Nodes⟩, ⟨_, u_expr_Arity, k_expr_Arity⟩, ⟨_, u_expr_number, k_expr_number⟩, ⟨_, u_expr_leaf, k_expr_leaf⟩, ⟨_, u_expr_table, k_expr_table⟩, ⟨_, u_expr_result, k_expr_result⟩, ⟨_, u_expr_meaning, k_expr_meaning⟩, ⟨_, u_expr_at_api_Enum, k_expr_at_api_Enum⟩, ⟨_, u_expr_at_string, k_expr_at_string⟩, ⟨_, u_expr_at_api_Type, k_expr_at_api_Type⟩, ⟨_, u_expr_aggregate, k_expr_aggregate⟩, ⟨_, u_expr_at_api_Table, k_expr_at_api_Table⟩, ⟨_, u_expr_result_1, k_expr_result_1⟩, ⟨_, u_expr_numeric, k_expr_numeric⟩, ⟨_, u_expr_arithmetic, k_expr_arithmetic⟩, ⟨_, u_expr_ordered, k_expr_ordered⟩, ⟨_, u_expr_literal, k_expr_literal⟩, trivial⟩
end Go.Fx.Tryz
namespace Go.Fx.Tryz
open Go Go.Fm Go.Proofs
theorem p_sort {zs : List Int} (h : zs.length < 4611686018427387904) : FMut Tryz.prog n_slices_Sort_int_int (ints zs) (· = ints (zs.mergeSort fun x y => decide (x ≤ y))) :=
  FMut.sort (fun blk off cap zs w => Go.Proofs.Tryz.slices_Sort_int blk off cap zs w) (fun p cap w => Go.Proofs.Tryz.slices_Sort_int_none p cap w) h
end Go.Fx.Tryz
set_option linter.unusedVariables false
set_option linter.unusedSimpArgs false
namespace Go.Fm
open Go
def toInts : List (List FV) → Option (List Int)
  | [] => some []
  | r :: es => match r with
    | [.int .i64 z] => (toInts es).map (z :: ·)
    | _ => none
theorem toInts_eq : ∀ {es : List (List FV)} {zs : List Int}, toInts es = some zs → es = ints zs
  | [], zs, h => by cases h; rfl
  | r :: es, zs, h => by
    simp only [toInts] at h
    split at h <;> try (cases h; done)
    rw [Option.map_eq_some_iff] at h
    obtain ⟨ys, h1, rfl⟩ := h
    rw [toInts_eq h1]; rfl
def sortedB : List Int → Bool
  | a :: b :: l => decide (a ≤ b) && sortedB (b :: l)
  | _ => true
theorem sortedB_pw : ∀ {l : List Int}, sortedB l = true → l.Pairwise (fun a b => decide (a ≤ b) = true)
  | [], _ => .nil
  | [a], _ => List.pairwise_singleton _ _
  | a :: b :: l, h => by
    simp only [sortedB, Bool.and_eq_true] at h
    have ih := sortedB_pw h.2
    refine List.pairwise_cons.2 ⟨fun x hx => ?_, ih⟩
    rcases List.mem_cons.1 hx with rfl | hx
    · exact h.1
    · have h1 := (List.pairwise_cons.1 ih).1 x hx
      have h2 := h.1
      simp only [decide_eq_true_eq] at h1 h2 ⊢
      omega
def primSort (n : FuncId) : Muts := fun f es => cond (Nat.beq f n) (match toInts es with
  | some zs => cond (sortedB zs && Nat.blt zs.length 1000000) (some es) none
  | none => none) none
theorem primSort_sound {P : Program} {n : FuncId} (h : ∀ {zs : List Int}, zs.length < 4611686018427387904 → FMut P n (ints zs) (· = ints (zs.mergeSort fun x y => decide (x ≤ y)))) : SoundM P (primSort n) := fun f es es' he => by
  unfold primSort at he
  cases hb : Nat.beq f n <;> rw [hb] at he <;> simp only [cond_true, cond_false] at he
  · cases he
  have := Nat.eq_of_beq_eq_true hb
  subst this
  split at he <;> try (cases he; done)
  rename_i zs hz
  cases hc : sortedB zs && Nat.blt zs.length 1000000 <;> rw [hc] at he <;> simp only [cond_true, cond_false] at he
  · cases he
  cases he
  simp only [Bool.and_eq_true, Nat.blt_eq] at hc
  have e1 := toInts_eq hz
  subst e1
  have h2 := h (zs := zs) (by omega)
  rw [List.mergeSort_of_pairwise (sortedB_pw hc.1)] at h2
  exact h2
def primStr (nc nk : FuncId) : Calls := fun f fs => cond (Nat.beq f nc) (match fs with
    | [.str a, .str b] => cond (Nat.blt a.length 1000000) (some (.bool (Lib.contains a b))) none
    | _ => none) (cond (Nat.beq f nk) (match fs with
    | [.arr es] => match toInts es with
      | some zs => cond (Nat.blt zs.length 1000000) (some (.arr (ints (Lib.compact zs)))) none
      | none => none
    | _ => none) none)
theorem primStr_sound {P : Program} {nc nk : FuncId} (h1 : ∀ {a b : List UInt8}, a.length < 4294967281 → FCall P nc [.str a, .str b] (· = .bool (Lib.contains a b)))
    (h2 : ∀ {zs : List Int}, zs.length ≤ 9223372036854775807 → FCall P nk [.arr (ints zs)] (· = .arr (ints (Lib.compact zs)))) : SoundC P (primStr nc nk) := fun f fs v he => by
  unfold primStr at he
  cases hb : Nat.beq f nc <;> rw [hb] at he <;> simp only [cond_true, cond_false] at he
  · cases hk : Nat.beq f nk <;> rw [hk] at he <;> simp only [cond_true, cond_false] at he
    · cases he
    have := Nat.eq_of_beq_eq_true hk
    subst this
    split at he <;> try (cases he; done)
    split at he <;> try (cases he; done)
    rename_i zs hz
    cases hc : Nat.blt zs.length 1000000 <;> rw [hc] at he <;> simp only [cond_true, cond_false] at he
    · cases he
    cases he
    rw [Nat.blt_eq] at hc
    rw [toInts_eq hz]
    exact h2 (by omega)
  · have := Nat.eq_of_beq_eq_true hb
    subst this
    split at he <;> try (cases he; done)
    rename_i a b
    cases hc : Nat.blt a.length 1000000 <;> rw [hc] at he <;> simp only [cond_true, cond_false] at he
    · cases he
    cases he
    rw [Nat.blt_eq] at hc
    exact h1 (by omega)
end Go.Fm
namespace Go.Fx.Tryz
open Go Go.Fm Go.Proofs
noncomputable abbrev call (k : Nat) : Fm.Calls := xCall Tryz.prog tab (primStr n_strings_Contains n_slices_Compact_int_int) (primSort n_slices_Sort_int_int) 1000 k
theorem call_sound (k : Nat) : SoundC Tryz.prog (call k) := xCall_sound tab_good (primStr_sound p_contains p_compact) (primSort_sound p_sort) k
theorem awake_x : call 20 n_law17_awake [] = some (.bool true) := by kernel_rfl
theorem awake : FCall Tryz.prog n_law17_awake [] (· = .bool true) := call_sound 20 _ _ _ awake_x
end Go.Fx.Tryz
set_option linter.unusedVariables false
set_option linter.unusedSimpArgs false
namespace Go.Fx.Tryz
open Go Go.Fm Go.Proofs Go.Proofs.YtdjbhceoodcphaaGreat
open Go.ChangeShapes Go.WideShapes Go.ChangeAt Go.RowKit
theorem own : ownKnob Tryz.prog.godebug = none := by kernel_rfl
theorem laidOut : laidOutB Tryz.prog = true := by kernel_rfl
theorem bulk_mem {H : Type} : ∀ {ds : List (DataW H)} {d : DataW H}, d ∈ ds → Rows.uptoBulk d ≤ Rows.uptoBulkAll ds
  | [], _, m => by cases m
  | x :: ds, d, m => by
    rw [Rows.uptoBulkAll]
    rcases List.mem_cons.1 m with rfl | m
    · omega
    · have := bulk_mem m; omega
theorem bulk_pos {H : Type} : ∀ (d : DataW H), 1 ≤ Rows.uptoBulk d := by
  intro d; cases d with
  | lit l => cases l <;> simp [Rows.uptoBulk]
  | _ => simp [Rows.uptoBulk]
theorem bulk_len {H : Type} : ∀ (ds : List (DataW H)), ds.length ≤ Rows.uptoBulkAll ds
  | [] => Nat.zero_le _
  | d :: ds => by have := bulk_len ds; have := bulk_pos d; simp only [Rows.uptoBulkAll, List.length_cons]; omega
theorem bnd {H : Type} : Bnd (fun d : DataW H => Rows.uptoBulk d ≤ 1048576) 1048576 where
  str h _ := by simp [Rows.uptoBulk] at h; omega
  sl {es rest} h _ := by
    simp only [Rows.uptoBulk] at h
    have := bulk_len es
    exact ⟨by omega, fun d m => by have := bulk_mem m; omega⟩
  agg {xs} h d m := by simp only [Rows.uptoBulk] at h; have := bulk_mem m; omega
theorem bulk_of {H : Type} {ds gs : List (DataW H)} (hk : Rows.uptoSmall H (ds ++ gs) = true) {d : DataW H} (m : d ∈ ds) : Rows.uptoBulk d ≤ 1048576 := by
  have h1 := bulk_mem (ds := ds ++ gs) (d := d) (by simp [m])
  simp only [Rows.uptoSmall, decide_eq_true_eq] at hk
  omega
def cellsOfTab : DataW Unit → Array Value
  | .agg xs => (xs.map fun | .lit (.int k n) => Value.int k n | _ => Value.int .i64 0).toArray
  | _ => #[]
noncomputable def layAt (x : String × DataW Unit) (w : World) : World :=
  match Tryz.prog.globalNamed x.1 with
  | some g => { w with heap := w.heap.modify g fun | .cells _ t frozen => .cells (cellsOfTab x.2) t frozen | o => o }
  | none => w
theorem maxLen_here {W : World} (hS : W.ShapedOpen Tryz.prog) : ∀ g, Tryz.prog.globalNamed "internal/bytealg.MaxLen" = some g → g < W.heap.size ∧ ∃ m : Int, W.cell? ⟨g, 0, none⟩ = some (.int .i64 m) := fun g hg => by
  obtain rfl : g = 0 := Option.some.inj (hg.symm.trans (show Tryz.prog.globalNamed "internal/bytealg.MaxLen" = some 0 by kernel_rfl))
  exact int_of_shape (t := 3) (zero := #[.int .i64 0]) (k := .i64) hS (of_decide_eq_true (by kernel_rfl)) (by kernel_rfl) rfl (by kernel_rfl) (by kernel_rfl) (by kernel_rfl)
theorem ambHere {W : World} {L : List (String × DataW Unit)} (hL : laidMet Tryz.prog L W) (hS : W.ShapedOpen Tryz.prog) : Amb Tryz.prog W (fun b => b < W.heap.size) := amb_none (by kernel_rfl) (maxLen_here hS)
end Go.Fx.Tryz
set_option linter.unusedVariables false
set_option linter.unusedSimpArgs false
namespace Go.Fx.Tryz
open Go Go.Fm Go.Proofs
theorem hc_law17_LawClone : ∀ fs, ArgsHave 1048576 [(true, ty_Law), (true, ty_Law), (false, .int .i64)] fs → FCall Tryz.prog n_law17_LawClone fs (· = .bool true) := by
  rintro _ ⟨_, _, rfl, ⟨_, rfl, h0⟩, _, _, rfl, ⟨_, rfl, h2⟩, _, _, rfl, h1, rfl⟩
  obtain ⟨l, rfl, hl⟩ := has_Law _ h0
  obtain ⟨m, rfl, hm⟩ := has_Law _ h2
  obtain ⟨n, h1, hn⟩ := has_Int (B := 1048576) _ h1
  obtain rfl := (List.cons.inj h1).1
  obtain ⟨b1, b2, b3, b4, b5, b6⟩ := hl
  obtain ⟨-, -, -, e4, -, e6⟩ := hm
  refine law_clone (fun t m => by have := (b4 t m).2.2.2.2.2.1; omega) (fun s m => by have := (b6 s m).2.2.2.2.2.2.1; omega) (fun t m => by have := (e4 t m).2.2.2.2.2.1; omega) (fun s m => by have := (e6 s m).2.2.2.2.2.2.1; omega) ?_ ?_ awake
  · refine ⟨by omega, fun e m => ?_, by omega, fun t m => ?_, by omega, fun x m => ?_⟩
    · obtain ⟨c1, c2, c3⟩ := b2 e m
      exact ⟨by omega, by omega, fun s k => by have := c3 s k; omega⟩
    · obtain ⟨c1, -, -, -, -, c2, -⟩ := b4 t m
      exact ⟨by omega, by omega⟩
    · obtain ⟨c1, -, c3, c4, c5, c6, c7, c8⟩ := b6 x m
      refine ⟨by omega, by omega, ⟨c5, c7, fun r k => ?_⟩, fun f k => by have := (c4 f k).1; omega, fun f k => by have := (c6 f k).1; omega, fun r k => ?_⟩
      · obtain ⟨-, -, -, -, -, -, d1, -, d2, -⟩ := c8 r k
        exact ⟨d1, d2⟩
      · obtain ⟨d0, -, -, -, -, -, -, d1, -, d2, d3⟩ := c8 r k
        exact ⟨by omega, by omega, fun n q => (d1 n q).2, fun n q => (d2 n q).2⟩
  · refine ⟨by omega, fun e m => ?_, by omega, fun t m => ?_, by omega, fun x m => ?_⟩
    · have := (b2 e m).2.1; omega
    · have := (b4 t m).2.2.2.2.2.1; omega
    · obtain ⟨c1, -, c3, c4, c5, c6, c7, c8⟩ := b6 x m
      refine ⟨by omega, by omega, by omega, fun r k => ?_⟩
      obtain ⟨-, -, -, -, -, -, d1, -, d2, -⟩ := c8 r k
      exact ⟨by omega, by omega⟩
end Go.Fx.Tryz
set_option linter.unusedVariables false
set_option linter.unusedSimpArgs false
namespace Go.Fx.Tryz
open Go Go.Fm Go.Proofs Go.Proofs.YtdjbhceoodcphaaGreat
open Go.ChangeShapes Go.WideShapes Go.ChangeAt Go.RowKit
theorem tys_law17_LawClone : argTys Tryz.prog 12 Go.Proofs.Tryz.f7.params.toList = some [(true, ty_Law), (true, ty_Law), (false, .int .i64)] := by kernel_rfl
set_option maxRecDepth 100000 in
theorem contract_law17_LawClone (H : Type) (enc : TypeId × Value → H) (W : World) (base : Nat) (args : Array Value) (ds gs : List (DataW H)) (before : List MemPlace)
    (hval : ∀ (j : Nat) t v, Go.Proofs.Tryz.f7.params[j]? = some t → args[j]? = some v → Value.okWide Tryz.prog W .any base t v)
    (hW : DataW.Whole enc Tryz.prog Go.Proofs.Tryz.f7.params.toList Rows.lawCloneSpec.vars false W args.toList ds gs before) (hk : Rows.uptoSmall H (ds ++ gs) = true)
    (hL : laidMet Tryz.prog Rows.lawCloneRow.laid W) (hS : W.ShapedOpen Tryz.prog) :
    Calls Tryz.prog 7 args W fun e W' => ∃ v, e = .returned v ∧ Rows.lawCloneSpec.post enc Tryz.prog Go.Proofs.Tryz.f7 false true false false W args v W' :=
  row_all (tb := 4) bnd laidOut rfl (by kernel_rfl) tys_law17_LawClone (fun ds h => by match ds, h with | [_, _, _], _ => rfl) (by kernel_rfl) Tryz.underlying4 hc_law17_LawClone hval hW (fun d m => bulk_of hk m) (ambHere hL hS)
noncomputable def laidWorld_law17_LawClone (os : Os) : World := Rows.lawCloneRow.laid.foldr layAt (World.holding Tryz.prog os ⟨#[], #[], []⟩)
theorem laid_law17_LawClone (os : Os) : laidMet Tryz.prog Rows.lawCloneRow.laid ((laidWorld_law17_LawClone os).forCall (fun _ _ => 0) ⟨#[], #[Value.agg #[.slice none 0 0, .slice none 0 0, .slice none 0 0], Value.agg #[.slice none 0 0, .slice none 0 0, .slice none 0 0], Value.int .i64 0], []⟩).memory :=
  laidMet_of_run' 8 (by kernel_rfl) (by kernel_rfl)
theorem reads_law17_LawClone (os : Os) {H : Type} (enc : TypeId × Value → H) : ∃ places, DataW.whole enc Tryz.prog ((laidWorld_law17_LawClone os).forCall (fun _ _ => 0) ⟨#[], #[Value.agg #[.slice none 0 0, .slice none 0 0, .slice none 0 0], Value.agg #[.slice none 0 0, .slice none 0 0, .slice none 0 0], Value.int .i64 0], []⟩).memory Go.Proofs.Tryz.f7.params.toList Rows.lawCloneSpec.vars false (#[Value.agg #[.slice none 0 0, .slice none 0 0, .slice none 0 0], Value.agg #[.slice none 0 0, .slice none 0 0, .slice none 0 0], Value.int .i64 0] : Array Value).toList 8 = some ([.agg [.nil, .nil, .nil], .agg [.nil, .nil, .nil], .lit (.int .i64 0)], [], places) :=
  ⟨[], by kernel_rfl⟩
set_option maxRecDepth 100000 in
theorem lifted_law17_LawClone (os : Os) (started : os.Started) (H : Type) (enc : TypeId × Value → H) (F : Stop.Interp) :
    ReturnsInHanded {} Tryz.checked os 7 .any ((Rows.OpenSpec.upto Rows.lawCloneSpec).preRow enc Tryz.prog Go.Proofs.Tryz.f7 Rows.lawCloneUptoRow.domain false Rows.lawCloneUptoRow.laid) (((Rows.OpenSpec.upto Rows.lawCloneSpec).at F).post enc Tryz.prog Go.Proofs.Tryz.f7 false true false false) := by
  obtain ⟨places, hx⟩ := reads_law17_LawClone os enc
  refine returnsInHanded_of_row (C := Tryz.checked) (s := Rows.OpenSpec.upto Rows.lawCloneSpec) own started (by kernel_rfl) Tryz.func7
    (witness_row_at (enc := enc) (C := Tryz.checked) false (laidWorld_law17_LawClone os) #[Value.agg #[.slice none 0 0, .slice none 0 0, .slice none 0 0], Value.agg #[.slice none 0 0, .slice none 0 0, .slice none 0 0], Value.int .i64 0] rfl (by kernel_rfl) (by kernel_rfl) (by kernel_rfl)
      (OpenSpec.preRow_of_cond 8 hx (by kernel_rfl) (fun k hk => by cases hk; kernel_rfl) (by kernel_rfl) (laid_law17_LawClone os))) ?_
  intro W base args ds gs before hval hW _ hcond _ hL hS _
  exact contract_law17_LawClone H enc W base args ds gs before hval hW (hcond _ rfl) hL hS
theorem said_law17_LawClone : Rows.LawCloneUptoSaid :=
  OpenClaim.holds_of_cond 7 Go.Proofs.Tryz.f7 rfl rfl rfl rfl rfl rfl rfl ⟨rfl, rfl, rfl, rfl, rfl⟩ rfl rfl rfl rfl rfl (by kernel_rfl) Tryz.func7 (by kernel_rfl)
    (of_decide_eq_true (by kernel_rfl)) (by unfold Func.isWrapper; first | (rw [if_pos (by decide +kernel)]; kernel_rfl) | (rw [if_neg (by decide +kernel)]; exact ⟨rfl, rfl⟩))
    (fun os started H enc _ F => by rw [OpenClaim.pre_eq_preRow]; exact lifted_law17_LawClone os started H enc F)
end Go.Fx.Tryz
