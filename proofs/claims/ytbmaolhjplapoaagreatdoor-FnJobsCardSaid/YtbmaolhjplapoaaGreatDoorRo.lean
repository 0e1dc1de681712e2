/- What a program's texts use: tables, contexts, contracts. No condition. -/
import Derived.Test.YtbmaolhjplapoaaGreatDoorRn
import Derived.KernelRfl
set_option linter.unusedVariables false
set_option linter.unusedSimpArgs false
namespace Go.RR
open Go Go.RowKit
def zF : Nat → Int := fun _ => 0
def zB : Nat → Bool := fun _ => false
def zF2 : Nat → Nat → Int := fun _ _ => 0
mutual
def wfZ : A → Bool
 | .nil _ => true
 | .rc fs => wfZL fs
 | a => clsd a
def wfZL : List A → Bool
 | [] => true
 | a :: as => wfZ a && wfZL as
end
mutual
theorem wfZ_wf : ∀ (a : A), wfZ a = true → ∀ H, WfA H a
 | .nil _, _, _ => trivial
 | .rc fs, h, H => wfZL_wf fs h H
 | .v x, h, H => (clsd_wf (.v x) h).1 H
 | .fa .., h, H | .fb .., h, H | .fa2 .., h, H => trivial
 | .sl _, h, H | .ptr .., h, H | .clo .., h, H | .lst .., h, H | .ref _, h, H => by simp [wfZ, clsd] at h
theorem wfZL_wf : ∀ (as : List A), wfZL as = true → ∀ H, WfL H as
 | [], _, _ => trivial
 | a :: as, h, H => by
  simp only [wfZL, Bool.and_eq_true] at h
  exact ⟨wfZ_wf a h.1 H, wfZL_wf as h.2 H⟩
end
theorem ag_ok {P : Program} {t : Nat} {i : TI} (h1 : P.stoodInHeld t = false) (h2 : P.eqGuardType P.depth t = false) (h3 : ∀ ds, P.underlying t = some (.struct ds) → (ds.toList.all fun f => f.name != "_") = true) : AgOK P t i := by
 unfold AgOK
 split
 ·exact ⟨h1, h2, h3⟩
 ·trivial
theorem ag_no {P : Program} {t : Nat} {i : TI} (h : i.k.agg = false) : AgOK P t i := by
 unfold AgOK
 rw [h]; trivial
theorem ty_ok {P : Program} {T : Tab} {t : Nat} {i : TI} {f : TypeInfo} (hf : P.info? t = some f) (hs : f.size = i.sz) (hb : f.bytes = i.by_) (z : A) (hz : zeroA T 16 t = some z) (hv : f.zero = some (val (fun _ => undef) z)) (hw : wfZ z = true) {d : TypeDesc} (hu : P.underlying t = some d) (hd : UndOK d i.k) (ha : AgOK P t i) : TyOK P T t i :=
 ⟨ha, ⟨f, hf, hs, hb, fun z' h => by rw [hz] at h; cases h; exact ⟨hv, wfZ_wf z hw⟩⟩, ⟨d, hu, hd⟩⟩
theorem ty_ok' {P : Program} {T : Tab} {t : Nat} {i : TI} {f : TypeInfo} (hf : P.info? t = some f) (hs : f.size = i.sz) (hb : f.bytes = i.by_) (hz : zeroA T 16 t = none) {d : TypeDesc} (hu : P.underlying t = some d) (hd : UndOK d i.k) (ha : AgOK P t i) : TyOK P T t i :=
 ⟨ha, ⟨f, hf, hs, hb, fun z' h => by rw [hz] at h; cases h⟩, ⟨d, hu, hd⟩⟩
def AllT (P : Program) (T : Tab) : Tab → Prop
 | [] => True
 | p :: r => TyOK P T p.1 p.2 ∧ AllT P T r
theorem tab_of {P : Program} {T : Tab} (h : AllT P T T) : TabOK P T := by
 have key : ∀ U : Tab, AllT P T U → ∀ t i, lk U t = some i → TyOK P T t i := by
  intro U
  induction U with
  | nil => intro _ t i h; cases h
  | cons p r ih =>
   intro hU t i ht
   obtain ⟨j, x⟩ := p
   simp only [lk] at ht
   cases hb : Nat.beq t j with
   | true =>
    rw [hb] at ht
    obtain rfl := Option.some.inj ht
    rw [Nat.eq_of_beq_eq_true hb]; exact hU.1
   | false => rw [hb] at ht; exact ih hU.2 t i ht
 exact key T h
def phiOf (l : List (Nat × (List A → ACall))) : Nat → List A → ACall := fun f rs => match lk l f with
 | some c => c rs
 | none => ACall.fail
def AllF (P : Program) : List (Nat × (List A → ACall)) → Prop
 | [] => True
 | p :: r => (Enters P p.1 ∧ Sound P p.1 p.2) ∧ AllF P r
def psiOf (l : List (Nat × UCon)) : Nat → Option UCon := fun f => lk l f
def AllU (P : Program) : List (Nat × UCon) → Prop
 | [] => True
 | p :: r => (Enters P p.1 ∧ USound P p.1 p.2) ∧ AllU P r
theorem psi_ok {P : Program} : ∀ {l : List (Nat × UCon)}, AllU P l → ∀ f u, psiOf l f = some u → Enters P f ∧ USound P f u
 | [], _, f, u, h => by cases h
 | (j, x) :: r, hl, f, u, hf => by
  simp only [psiOf, lk] at hf
  cases hb : Nat.beq f j with
  | true =>
   rw [hb] at hf
   obtain rfl := Option.some.inj hf
   rw [Nat.eq_of_beq_eq_true hb]; exact hl.1
  | false => rw [hb] at hf; exact psi_ok hl.2 f u hf
def xiOf (l : List (Nat × HCon)) : Nat → Option HCon := fun f => lk l f
def AllH (P : Program) : List (Nat × HCon) → Prop
 | [] => True
 | p :: r => (Enters P p.1 ∧ HSound P p.1 p.2) ∧ AllH P r
theorem xi_ok {P : Program} : ∀ {l : List (Nat × HCon)}, AllH P l → ∀ f γ, xiOf l f = some γ → Enters P f ∧ HSound P f γ
 | [], _, f, γ, h => by cases h
 | (j, x) :: r, hl, f, γ, hf => by
  simp only [xiOf, lk] at hf
  cases hb : Nat.beq f j with
  | true =>
   rw [hb] at hf
   obtain rfl := Option.some.inj hf
   rw [Nat.eq_of_beq_eq_true hb]; exact hl.1
  | false => rw [hb] at hf; exact xi_ok hl.2 f γ hf
theorem psi_no {P : Program} : ∀ f u, noPsi f = some u → Enters P f ∧ USound P f u := fun f u h => by cases h
theorem xi_no {P : Program} : ∀ f γ, noXi f = some γ → Enters P f ∧ HSound P f γ := fun f γ h => by cases h
theorem ctx_ofH {P : Program} {T : Tab} (hT : TabOK P T) (hm : P.follows .mixedOrders = true) {l : List (Nat × (List A → ACall))} (hl : AllF P l) {m : Nat → Option UCon} (hu : ∀ f u, m f = some u → Enters P f ∧ USound P f u) {x : Nat → Option HCon} (hx : ∀ f γ, x f = some γ → Enters P f ∧ HSound P f γ) : CtxOK P ⟨T, phiOf l, m, x⟩ := by
 refine ⟨hT, hm, ?_, hu, hx⟩
 have key : ∀ (l : List (Nat × (List A → ACall))), AllF P l → ∀ f c, lk l f = some c → Enters P f ∧ Sound P f c := by
  intro l
  induction l with
  | nil => intro _ f c h; cases h
  | cons p r ih =>
   intro hl f c hf
   obtain ⟨j, x⟩ := p
   simp only [lk] at hf
   cases hb : Nat.beq f j with
   | true =>
    rw [hb] at hf
    obtain rfl := Option.some.inj hf
    rw [Nat.eq_of_beq_eq_true hb]; exact hl.1
   | false => rw [hb] at hf; exact ih hl.2 f c hf
 intro f rs r hr
 show Enters P f ∧ Sound P f (phiOf l f)
 cases hf : lk l f with
 | none =>
  exfalso
  have : ∀ z : ACall, (phiOf l f rs) = z → z = ACall.fail → False := by
   rintro z rfl hz
   have : ∀ z : ACall, z = ACall.fail → ∀ r : z.α, z.c = some r → False := by rintro z rfl r h; cases h
   exact this _ hz r hr
  refine this _ rfl ?_
  unfold phiOf
  rw [hf]
 | some c =>
  have h1 := key l hl f c hf
  refine ⟨h1.1, ?_⟩
  have : phiOf l f = c := by funext rs; unfold phiOf; rw [hf]
  rw [this]; exact h1.2
theorem ctx_of {P : Program} {T : Tab} (hT : TabOK P T) (hm : P.follows .mixedOrders = true) {l : List (Nat × (List A → ACall))} (hl : AllF P l) : CtxOK P ⟨T, phiOf l, noPsi, noXi⟩ :=
 ctx_ofH hT hm hl psi_no xi_no
def round {R : Type} (X : Ctx) (cn : Nat → AS → Option AS) (c : Code) (K : Kont R) (L : Nat → AS → Option R) (id : Nat) (s : AS) : Option R :=
 match lk (ctxs X (lpc cn L) c K) id with
 | some (a, K') => ev X (lpc cn L) a (loopK (lpc cn L) id K') s
 | none => none
theorem step_of' {R : Type} {X : Ctx} {cn : Nat → AS → Option AS} {c : Code} {K : Kont R} {r : R} {id : Nat} {s : AS} {p : Option R} (hp : p = some r) (h : round X cn c K (L X cn c K r) id s = p) : L X cn c K r id s = some r := L_step (h.trans hp)
def Good (X : Ctx) (LV : List (Nat × Keep)) (c : Code) (rv : List ResultVar) (np : Nat) (rs : List A) : ACall → Prop
 | ⟨_, cc, res⟩ => ∀ r, cc = some r → rs.length = np ∧ ∃ ys, resOf ys = res r ∧ ev X (lpc (cnOf LV) (L X (cnOf LV) c (K0 X.T rv) ys)) c (K0 X.T rv) (enter rs) = some ys
theorem sound_good {P : Program} {X : Ctx} (hX : CtxOK P X) {f : Nat} {fn : Func} {c : Code} (LV : List (Nat × Keep)) {Φ : List A → ACall} (np : Nat)
  (hf : P.funcs[f]? = some fn) (hb : fn.body = some c) {rv : List ResultVar} (hrv : fn.results.toList = rv) (hd : slotsOk fn.ntmps c = true) (hn : nodupN (loopIds c) = true) (hnp : Nat.ble np fn.ntmps = true)
  (h : ∀ rs, Good X LV c rv np rs (Φ rs)) (hwk : X.weak = false := by rfl) : Sound P f Φ := by
 have key : ∀ rs (z : ACall), Good X LV c rv np rs z → ∀ r, z.c = some r → rs.length = np ∧ ∃ ys, resOf ys = z.res r ∧ ev X (lpc (cnOf LV) (L X (cnOf LV) c (K0 X.T rv) ys)) c (K0 X.T rv) (enter rs) = some ys := by
  rintro rs ⟨α, cc, res⟩ hg r hr
  exact hg r hr
 exact sound_of hX LV np hf hb hrv hd (nodupN_spec _ hn) (Nat.le_of_ble_eq_true hnp) (fun rs r hr => (key rs _ (h rs) r hr).1) (fun rs r hr => (key rs _ (h rs) r hr).2) fun h => by rw [hwk] at h; cases h
def FlatC : ACall → Prop
 | ⟨_, _, res⟩ => ∀ r, flatRes (res r) = true
theorem sound_goodW {P : Program} {X : Ctx} (hX : CtxOK P X) {f : Nat} {fn : Func} {c : Code} (LV : List (Nat × Keep)) {Φ : List A → ACall} (np : Nat)
  (hf : P.funcs[f]? = some fn) (hb : fn.body = some c) {rv : List ResultVar} (hrv : fn.results.toList = rv) (hd : slotsOk fn.ntmps c = true) (hn : nodupN (loopIds c) = true) (hnp : Nat.ble np fn.ntmps = true)
  (hfl : ∀ rs, FlatC (Φ rs)) (h : ∀ rs, Good X LV c rv np rs (Φ rs)) : Sound P f Φ := by
 have key : ∀ rs (z : ACall), Good X LV c rv np rs z → ∀ r, z.c = some r → rs.length = np ∧ ∃ ys, resOf ys = z.res r ∧ ev X (lpc (cnOf LV) (L X (cnOf LV) c (K0 X.T rv) ys)) c (K0 X.T rv) (enter rs) = some ys := by
  rintro rs ⟨α, cc, res⟩ hg r hr
  exact hg r hr
 have key2 : ∀ z : ACall, FlatC z → ∀ r, flatRes (z.res r) = true := by
  rintro ⟨α, cc, res⟩ hg r
  exact hg r
 exact sound_of hX LV np hf hb hrv hd (nodupN_spec _ hn) (Nat.le_of_ble_eq_true hnp) (fun rs r hr => (key rs _ (h rs) r hr).1) (fun rs r hr => (key rs _ (h rs) r hr).2) fun _ rs r _ => key2 _ (hfl rs) r
theorem cond_app {α β : Type} (g : α → β) {c : Bool} {x y : β} {u v : α} (h1 : x = g u) (h2 : y = g v) : cond c x y = g (cond c u v) := by cases c <;> assumption
theorem bind_app {α β γ : Type} {g : α → β} {m : Option γ} {F : γ → Option β} {F' : γ → Option α} (h : ∀ r, F r = Option.map g (F' r)) : Option.bind m F = Option.map g (Option.bind m F') := by
 cases m with
 | none => rfl
 | some r => exact h r
def GoodU (X : Ctx) (LV : List (Nat × Keep)) (c : Code) (rv : List ResultVar) (np : Nat) (e : ET) (l : List e.den) (rest : List A) : UCall e → Prop
 | ⟨_, cc, res, new⟩ => ∀ r, cc = some r → rest.length + 1 = np ∧ ev X (lpc (cnOfU LV) (L X (cnOfU LV) c (K0U X.T rv) (ansU (res r) (.lst e (new r))))) c (K0U X.T rv) (enterU e l rest) = some (ansU (res r) (.lst e (new r)))
theorem sound_goodU {P : Program} {X : Ctx} (hX : CtxOK P X) {f : Nat} {fn : Func} {c : Code} (LV : List (Nat × Keep)) {u : UCon} (np : Nat)
  (hf : P.funcs[f]? = some fn) (hb : fn.body = some c) {rv : List ResultVar} (hrv : fn.results.toList = rv) (hd : slotsOk fn.ntmps c = true) (hn : nodupN (loopIds c) = true) (hnp : Nat.ble np fn.ntmps = true)
  (h : ∀ e l rest, GoodU X LV c rv np e l rest (u e l rest)) : USound P f u := by
 have key : ∀ e l rest (z : UCall e), GoodU X LV c rv np e l rest z → ∀ r, z.c = some r → rest.length + 1 = np ∧ ev X (lpc (cnOfU LV) (L X (cnOfU LV) c (K0U X.T rv) (ansU (z.res r) (.lst e (z.new r))))) c (K0U X.T rv) (enterU e l rest) = some (ansU (z.res r) (.lst e (z.new r))) := by
  rintro e l rest ⟨_, cc, res, new⟩ hz r hr
  exact hz r hr
 exact sound_ofU hX LV np hf hb hrv hd (nodupN_spec _ hn) (Nat.le_of_ble_eq_true hnp) fun e l rest r hr => key e l rest _ (h e l rest) r hr
def codeC (f : Func) : Code := match f.body with | some c => c | none => .skip
noncomputable def Lq (X : Ctx) (LV : List (Nat × Keep)) (c : Code) (rv : List ResultVar) (r : List A) : Nat → AS → Option (List A) := L X (cnOf LV) c (K0 X.T rv) r
noncomputable def Tq (X : Ctx) (LV : List (Nat × Keep)) (c : Code) (rv : List ResultVar) (r xs : List A) : Option (List A) := ev X (lpc (cnOf LV) (Lq X LV c rv r)) c (K0 X.T rv) (enter xs)
noncomputable def LqU (X : Ctx) (LV : List (Nat × Keep)) (c : Code) (rv : List ResultVar) (r : List A) : Nat → AS → Option (List A) := L X (cnOfU LV) c (K0U X.T rv) r
noncomputable def TqU (X : Ctx) (LV : List (Nat × Keep)) (c : Code) (rv : List ResultVar) (r : List A) (e : ET) (l : List e.den) (xs : List A) : Option (List A) := ev X (lpc (cnOfU LV) (LqU X LV c rv r)) c (K0U X.T rv) (enterU e l xs)
theorem good {P : Program} {X : Ctx} (hX : CtxOK P X) {f : Nat} {fn : Func} (LV : List (Nat × Keep)) (c : Code) (rv : List ResultVar) {Φ : List A → ACall} (np : Nat) (hf : P.funcs[f]? = some fn) (h : ∀ rs, Good X LV c rv np rs (Φ rs))
  (hb : fn.body = some c := by kernel_rfl) (hrv : fn.results.toList = rv := by kernel_rfl) (hd : slotsOk fn.ntmps c = true := by kernel_rfl) (hn : nodupN (loopIds c) = true := by kernel_rfl) (hnp : Nat.ble np fn.ntmps = true := by kernel_rfl) (hwk : X.weak = false := by rfl) : Sound P f Φ := sound_good hX LV np hf hb hrv hd hn hnp h hwk
theorem goodU {P : Program} {X : Ctx} (hX : CtxOK P X) {f : Nat} {fn : Func} (LV : List (Nat × Keep)) (c : Code) (rv : List ResultVar) {u : UCon} (np : Nat) (hf : P.funcs[f]? = some fn) (h : ∀ e l rest, GoodU X LV c rv np e l rest (u e l rest))
  (hb : fn.body = some c := by kernel_rfl) (hrv : fn.results.toList = rv := by kernel_rfl) (hd : slotsOk fn.ntmps c = true := by kernel_rfl) (hn : nodupN (loopIds c) = true := by kernel_rfl) (hnp : Nat.ble np fn.ntmps = true := by kernel_rfl) : USound P f u := sound_goodU hX LV np hf hb hrv hd hn hnp h
end Go.RR
