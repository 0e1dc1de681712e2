/- What a program's texts use: tables, contexts, contracts. No condition. -/
import Derived.Test.YtbmaolhjplapoaaGreatRn
import Derived.KernelRfl
set_option linter.unusedVariables false
set_option linter.unusedSimpArgs false
namespace Go.RR
open Go Go.RowKit
def zF : Nat → Int := fun _ => 0
def zB : Nat → Bool := fun _ => false
def zF2 : Nat → Nat → Int := fun _ _ => 0
mutual
def wfZ : A → Bool
 | .nil _ => true
 | .rc fs => zTd fs
 | a => zen a
def zTd : List A → Bool
 | [] => true
 | a :: as => wfZ a && zTd as
end
mutual
theorem zNO : ∀ (a : A), wfZ a = true → ∀ H, WfA H a
 | .nil _, _, _ => trivial
 | .rc fs, h, H => zC4 fs h H
 | .v x, h, H => (ziy (.v x) h).1 H
 | .fa .., h, H | .fb .., h, H | .fa2 .., h, H => trivial
 | .sl _, h, H | .ptr .., h, H | .clo .., h, H | .lst .., h, H | .ref _, h, H => by simp [wfZ, zen] at h
theorem zC4 : ∀ (as : List A), zTd as = true → ∀ H, WfL H as
 | [], _, _ => trivial
 | a :: as, h, H => by
  simp only [zTd, Bool.and_eq_true] at h
  exact ⟨zNO a h.1 H, zC4 as h.2 H⟩
end
theorem Zu {P : Program} {t : Nat} {i : TI} (h1 : P.stoodInHeld t = false) (h2 : P.eqGuardType P.depth t = false) (h3 : ∀ ds, P.underlying t = some (.struct ds) → (ds.toList.all fun f => f.name != "_") = true) : ztR P t i := by
 unfold ztR
 split
 ·exact ⟨h1, h2, h3⟩
 ·trivial
theorem yO {P : Program} {t : Nat} {i : TI} (h : i.k.agg = false) : ztR P t i := by
 unfold ztR
 rw [h]; trivial
theorem yd {P : Program} {T : Tab} {t : Nat} {i : TI} {f : TypeInfo} (hf : P.info? t = some f) (hs : f.size = i.sz) (hb : f.bytes = i.by_) (z : A) (hz : ZF T 16 t = some z) (hv : f.zero = some (val (fun _ => undef) z)) (hw : wfZ z = true) {d : TypeDesc} (hu : P.underlying t = some d) (hd : yu d i.k) (ha : ztR P t i) : yt P T t i :=
 ⟨ha, ⟨f, hf, hs, hb, fun z' h => by rw [hz] at h; cases h; exact ⟨hv, zNO z hw⟩⟩, ⟨d, hu, hd⟩⟩
theorem zUG {P : Program} {T : Tab} {t : Nat} {i : TI} {f : TypeInfo} (hf : P.info? t = some f) (hs : f.size = i.sz) (hb : f.bytes = i.by_) (hz : ZF T 16 t = none) {d : TypeDesc} (hu : P.underlying t = some d) (hd : yu d i.k) (ha : ztR P t i) : yt P T t i :=
 ⟨ha, ⟨f, hf, hs, hb, fun z' h => by rw [hz] at h; cases h⟩, ⟨d, hu, hd⟩⟩
def zUD (P : Program) (T : Tab) : Tab → Prop
 | [] => True
 | p :: r => yt P T p.1 p.2 ∧ zUD P T r
theorem zT6 {P : Program} {T : Tab} (h : zUD P T T) : yr P T := by
 have key : ∀ U : Tab, zUD P T U → ∀ t i, lk U t = some i → yt P T t i := by
  intro U
  induction U with
  | nil => intro _ t i h; cases h
  | cons p r ih =>
   intro hU t i ht
   obtain ⟨j, x⟩ := p
   simp only [lk] at ht
   cases hb : Nat.beq t j with
   | true =>
    rw [hb] at ht
    obtain rfl := Option.some.inj ht
    rw [Nat.eq_of_beq_eq_true hb]; exact hU.1
   | false => rw [hb] at ht; exact ih hU.2 t i ht
 exact key T h
def zr (l : List (Nat × (List A → ze))) : Nat → List A → ze := fun f rs => match lk l f with
 | some c => c rs
 | none => ze.fail
def zS5 (P : Program) : List (Nat × (List A → ze)) → Prop
 | [] => True
 | p :: r => (Xn P p.1 ∧ zC P p.1 p.2) ∧ zS5 P r
def zCT (l : List (Nat × zb6)) : Nat → Option zb6 := fun f => lk l f
def zVe (P : Program) : List (Nat × zb6) → Prop
 | [] => True
 | p :: r => (Xn P p.1 ∧ vN P p.1 p.2) ∧ zVe P r
theorem zBg {P : Program} : ∀ {l : List (Nat × zb6)}, zVe P l → ∀ f u, zCT l f = some u → Xn P f ∧ vN P f u
 | [], _, f, u, h => by cases h
 | (j, x) :: r, hl, f, u, hf => by
  simp only [zCT, lk] at hf
  cases hb : Nat.beq f j with
  | true =>
   rw [hb] at hf
   obtain rfl := Option.some.inj hf
   rw [Nat.eq_of_beq_eq_true hb]; exact hl.1
  | false => rw [hb] at hf; exact zBg hl.2 f u hf
def WF (l : List (Nat × Zq)) : Nat → Option Zq := fun f => lk l f
def zVd (P : Program) : List (Nat × Zq) → Prop
 | [] => True
 | p :: r => (Xn P p.1 ∧ yo P p.1 p.2) ∧ zVd P r
theorem Yn {P : Program} : ∀ {l : List (Nat × Zq)}, zVd P l → ∀ f γ, WF l f = some γ → Xn P f ∧ yo P f γ
 | [], _, f, γ, h => by cases h
 | (j, x) :: r, hl, f, γ, hf => by
  simp only [WF, lk] at hf
  cases hb : Nat.beq f j with
  | true =>
   rw [hb] at hf
   obtain rfl := Option.some.inj hf
   rw [Nat.eq_of_beq_eq_true hb]; exact hl.1
  | false => rw [hb] at hf; exact Yn hl.2 f γ hf
theorem xD {P : Program} : ∀ f u, zw f = some u → Xn P f ∧ vN P f u := fun f u h => by cases h
theorem zM0 {P : Program} : ∀ f γ, zU f = some γ → Xn P f ∧ yo P f γ := fun f γ h => by cases h
theorem yF {P : Program} {T : Tab} (hT : yr P T) (hm : P.follows .mixedOrders = true) {l : List (Nat × (List A → ze))} (hl : zS5 P l) {m : Nat → Option zb6} (hu : ∀ f u, m f = some u → Xn P f ∧ vN P f u) {x : Nat → Option Zq} (hx : ∀ f γ, x f = some γ → Xn P f ∧ yo P f γ) : zq P ⟨T, zr l, m, x⟩ := by
 refine ⟨hT, hm, ?_, hu, hx⟩
 have key : ∀ (l : List (Nat × (List A → ze))), zS5 P l → ∀ f c, lk l f = some c → Xn P f ∧ zC P f c := by
  intro l
  induction l with
  | nil => intro _ f c h; cases h
  | cons p r ih =>
   intro hl f c hf
   obtain ⟨j, x⟩ := p
   simp only [lk] at hf
   cases hb : Nat.beq f j with
   | true =>
    rw [hb] at hf
    obtain rfl := Option.some.inj hf
    rw [Nat.eq_of_beq_eq_true hb]; exact hl.1
   | false => rw [hb] at hf; exact ih hl.2 f c hf
 intro f rs r hr
 show Xn P f ∧ zC P f (zr l f)
 cases hf : lk l f with
 | none =>
  exfalso
  have : ∀ z : ze, (zr l f rs) = z → z = ze.fail → False := by
   rintro z rfl hz
   have : ∀ z : ze, z = ze.fail → ∀ r : z.α, z.c = some r → False := by rintro z rfl r h; cases h
   exact this _ hz r hr
  refine this _ rfl ?_
  unfold zr
  rw [hf]
 | some c =>
  have h1 := key l hl f c hf
  refine ⟨h1.1, ?_⟩
  have : zr l f = c := by funext rs; unfold zr; rw [hf]
  rw [this]; exact h1.2
theorem zo {P : Program} {T : Tab} (hT : yr P T) (hm : P.follows .mixedOrders = true) {l : List (Nat × (List A → ze))} (hl : zS5 P l) : zq P ⟨T, zr l, zw, zU⟩ :=
 yF hT hm hl xD zM0
def zVx {R : Type} (X : Ctx) (cn : Nat → AS → Option AS) (c : Code) (K : vV R) (L : Nat → AS → Option R) (id : Nat) (s : AS) : Option R :=
 match lk (Xu X (lpc cn L) c K) id with
 | some (a, K') => ev X (lpc cn L) a (w9 (lpc cn L) id K') s
 | none => none
theorem zn {R : Type} {X : Ctx} {cn : Nat → AS → Option AS} {c : Code} {K : vV R} {r : R} {id : Nat} {s : AS} {p : Option R} (hp : p = some r) (h : zVx X cn c K (L X cn c K r) id s = p) : L X cn c K r id s = some r := zUq (h.trans hp)
def zUo (X : Ctx) (LV : List (Nat × zE)) (c : Code) (rv : List ResultVar) (np : Nat) (rs : List A) : ze → Prop
 | ⟨_, cc, res⟩ => ∀ r, cc = some r → rs.length = np ∧ ∃ ys, zER ys = res r ∧ ev X (lpc (zoj LV) (L X (zoj LV) c (K0 X.T rv) ys)) c (K0 X.T rv) (enter rs) = some ys
theorem zA0 {P : Program} {X : Ctx} (hX : zq P X) {f : Nat} {fn : Func} {c : Code} (LV : List (Nat × zE)) {Φ : List A → ze} (np : Nat)
  (hf : P.funcs[f]? = some fn) (hb : fn.body = some c) {rv : List ResultVar} (hrv : fn.results.toList = rv) (hd : yv fn.ntmps c = true) (hn : YK (yw c) = true) (hnp : Nat.ble np fn.ntmps = true)
  (h : ∀ rs, zUo X LV c rv np rs (Φ rs)) (hwk : X.weak = false := by rfl) : zC P f Φ := by
 have key : ∀ rs (z : ze), zUo X LV c rv np rs z → ∀ r, z.c = some r → rs.length = np ∧ ∃ ys, zER ys = z.res r ∧ ev X (lpc (zoj LV) (L X (zoj LV) c (K0 X.T rv) ys)) c (K0 X.T rv) (enter rs) = some ys := by
  rintro rs ⟨α, cc, res⟩ hg r hr
  exact hg r hr
 exact zRq hX LV np hf hb hrv hd (Z7 _ hn) (Nat.le_of_ble_eq_true hnp) (fun rs r hr => (key rs _ (h rs) r hr).1) (fun rs r hr => (key rs _ (h rs) r hr).2) fun h => by rw [hwk] at h; cases h
theorem zM {α β : Type} (g : α → β) {c : Bool} {x y : β} {u v : α} (h1 : x = g u) (h2 : y = g v) : cond c x y = g (cond c u v) := by cases c <;> assumption
theorem zV {α β γ : Type} {g : α → β} {m : Option γ} {F : γ → Option β} {F' : γ → Option α} (h : ∀ r, F r = Option.map g (F' r)) : Option.bind m F = Option.map g (Option.bind m F') := by
 cases m with
 | none => rfl
 | some r => exact h r
def zNu (X : Ctx) (LV : List (Nat × zE)) (c : Code) (rv : List ResultVar) (np : Nat) (e : ET) (l : List e.den) (rest : List A) : zg1 e → Prop
 | ⟨_, cc, res, new⟩ => ∀ r, cc = some r → rest.length + 1 = np ∧ ev X (lpc (zco LV) (L X (zco LV) c (K0U X.T rv) (znu (res r) (.lst e (new r))))) c (K0U X.T rv) (uW e l rest) = some (znu (res r) (.lst e (new r)))
theorem zyY {P : Program} {X : Ctx} (hX : zq P X) {f : Nat} {fn : Func} {c : Code} (LV : List (Nat × zE)) {u : zb6} (np : Nat)
  (hf : P.funcs[f]? = some fn) (hb : fn.body = some c) {rv : List ResultVar} (hrv : fn.results.toList = rv) (hd : yv fn.ntmps c = true) (hn : YK (yw c) = true) (hnp : Nat.ble np fn.ntmps = true)
  (h : ∀ e l rest, zNu X LV c rv np e l rest (u e l rest)) : vN P f u := by
 have key : ∀ e l rest (z : zg1 e), zNu X LV c rv np e l rest z → ∀ r, z.c = some r → rest.length + 1 = np ∧ ev X (lpc (zco LV) (L X (zco LV) c (K0U X.T rv) (znu (z.res r) (.lst e (z.new r))))) c (K0U X.T rv) (uW e l rest) = some (znu (z.res r) (.lst e (z.new r))) := by
  rintro e l rest ⟨_, cc, res, new⟩ hz r hr
  exact hz r hr
 exact zJe hX LV np hf hb hrv hd (Z7 _ hn) (Nat.le_of_ble_eq_true hnp) fun e l rest r hr => key e l rest _ (h e l rest) r hr
def zu (f : Func) : Code := match f.body with | some c => c | none => .skip
noncomputable def Lq (X : Ctx) (LV : List (Nat × zE)) (c : Code) (rv : List ResultVar) (r : List A) : Nat → AS → Option (List A) := L X (zoj LV) c (K0 X.T rv) r
noncomputable def Tq (X : Ctx) (LV : List (Nat × zE)) (c : Code) (rv : List ResultVar) (r xs : List A) : Option (List A) := ev X (lpc (zoj LV) (Lq X LV c rv r)) c (K0 X.T rv) (enter xs)
noncomputable def LqU (X : Ctx) (LV : List (Nat × zE)) (c : Code) (rv : List ResultVar) (r : List A) : Nat → AS → Option (List A) := L X (zco LV) c (K0U X.T rv) r
noncomputable def TqU (X : Ctx) (LV : List (Nat × zE)) (c : Code) (rv : List ResultVar) (r : List A) (e : ET) (l : List e.den) (xs : List A) : Option (List A) := ev X (lpc (zco LV) (LqU X LV c rv r)) c (K0U X.T rv) (uW e l xs)
theorem good {P : Program} {X : Ctx} (hX : zq P X) {f : Nat} {fn : Func} (LV : List (Nat × zE)) (c : Code) (rv : List ResultVar) {Φ : List A → ze} (np : Nat) (hf : P.funcs[f]? = some fn) (h : ∀ rs, zUo X LV c rv np rs (Φ rs))
  (hb : fn.body = some c := by kernel_rfl) (hrv : fn.results.toList = rv := by kernel_rfl) (hd : yv fn.ntmps c = true := by kernel_rfl) (hn : YK (yw c) = true := by kernel_rfl) (hnp : Nat.ble np fn.ntmps = true := by kernel_rfl) (hwk : X.weak = false := by rfl) : zC P f Φ := zA0 hX LV np hf hb hrv hd hn hnp h hwk
theorem zVh {P : Program} {X : Ctx} (hX : zq P X) {f : Nat} {fn : Func} (LV : List (Nat × zE)) (c : Code) (rv : List ResultVar) {u : zb6} (np : Nat) (hf : P.funcs[f]? = some fn) (h : ∀ e l rest, zNu X LV c rv np e l rest (u e l rest))
  (hb : fn.body = some c := by kernel_rfl) (hrv : fn.results.toList = rv := by kernel_rfl) (hd : yv fn.ntmps c = true := by kernel_rfl) (hn : YK (yw c) = true := by kernel_rfl) (hnp : Nat.ble np fn.ntmps = true := by kernel_rfl) : vN P f u := zyY hX LV np hf hb hrv hd hn hnp h
end Go.RR
