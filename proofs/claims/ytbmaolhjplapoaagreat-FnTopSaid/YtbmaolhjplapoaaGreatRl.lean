/- The loops' answers, all rounds in one. No condition. -/
import Derived.Test.YtbmaolhjplapoaaGreatRk
set_option linter.unusedVariables false
set_option linter.unusedSimpArgs false
namespace Go.RR
open Go Go.RowKit
section
variable {R : Type} {X : Ctx} {s : AS} {o : Oper} {K : Eff → Option R}
theorem yj {α β : Type} (c : Bool) (x y : Option α) (K : α → Option β) : (cond c x y).bind K = cond c (x.bind K) (y.bind K) := by cases c <;> rfl
theorem zo8 {T : Tab} {t : Nat} {op : BinOp} {x y : A} : zxL T t s o op x y K = (zxL T t s o op x y some).bind K := by
 unfold zxL
 repeat' (first | rfl | rw [yj] | (refine congrArg₂ (cond _) ?_ ?_) | split)
theorem zOY {T : Tab} {t : Nat} {op : BinOp} {x y : A} : aEq T t s o op x y K = (aEq T t s o op x y some).bind K := by
 unfold aEq
 repeat' (first | rfl | split)
theorem zAU {c a b : Operand} : zpm X s o c a b K = (zpm X s o c a b some).bind K := by
 unfold zpm
 repeat' (first | rfl | rw [yj] | (refine congrArg₂ (cond _) ?_ ?_) | split)
theorem zAV {t : Nat} {x : Operand} : zoQ X s o t x K = (zoQ X s o t x some).bind K := by
 unfold zoQ
 repeat' (first | rfl | rw [yj] | (refine congrArg₂ (cond _) ?_ ?_) | split)
theorem zxY {t : Nat} {x y : Operand} : zgc X s t x y K = (zgc X s t x y some).bind K := by
 unfold zgc
 repeat' (first | rfl | rw [yj] | (refine congrArg₂ (cond _) ?_ ?_) | split)
theorem zA9 {t u : Nat} {x : Operand} : zox X s o t u x K = (zox X s o t u x some).bind K := by
 unfold zox
 repeat' (first | rfl | rw [yj] | (refine congrArg₂ (cond _) ?_ ?_) | split)
theorem zh6 {t i : Nat} {x : Operand} : XM X s o t x i K = (XM X s o t x i some).bind K := by
 unfold XM
 repeat' (first | rfl | rw [yj] | (refine congrArg₂ (cond _) ?_ ?_) | split)
theorem zh4 {t : Nat} {x y : Operand} : XK X s o t x y K = (XK X s o t x y some).bind K := by
 unfold XK
 repeat' (first | rfl | rw [yj] | (refine congrArg₂ (cond _) ?_ ?_) | split)
theorem zzI {t : Nat} {x y : Operand} : zf9 X s o t x y K = (zf9 X s o t x y some).bind K := by
 unfold zf9
 repeat' (first | rfl | rw [yj] | (refine congrArg₂ (cond _) ?_ ?_) | split)
theorem zum {t i : Nat} {x : Operand} : zgi X s o t x i K = (zgi X s o t x i some).bind K := by
 unfold zgi
 repeat' (first | rfl | rw [yj] | (refine congrArg₂ (cond _) ?_ ?_) | split)
theorem zu8 {t : Nat} {ps : List (Nat × Operand)} : zgB X s o t ps K = (zgB X s o t ps some).bind K := by
 unfold zgB
 repeat' (first | rfl | rw [yj] | (refine congrArg₂ (cond _) ?_ ?_) | split)
theorem zgt {t m : Nat} {ps : List (Nat × Operand)} : YY X s o t m ps K = (YY X s o t m ps some).bind K := by
 unfold YY
 repeat' (first | rfl | rw [yj] | (refine congrArg₂ (cond _) ?_ ?_) | split)
theorem zih {t : Nat} {x y : Operand} : XA X s o t x y K = (XA X s o t x y some).bind K := by
 unfold XA
 repeat' (first | rfl | rw [yj] | (refine congrArg₂ (cond _) ?_ ?_) | split)
theorem zzC {t : Nat} {x : Operand} {lo hi : Option Operand} : zgs X s o t x lo hi K = (zgs X s o t x lo hi some).bind K := by
 unfold zgs
 repeat' (first | rfl | rw [yj] | (refine congrArg₂ (cond _) ?_ ?_) | split)
theorem zoh {x : Operand} {i : Nat} : VD X s o x i K = (VD X s o x i some).bind K := by
 unfold VD
 repeat' (first | rfl | rw [yj] | (refine congrArg₂ (cond _) ?_ ?_) | split)
theorem zKc {t : Nat} {x : Operand} : zJ3 X s o t x K = (zJ3 X s o t x some).bind K := by
 unfold zJ3
 repeat' (first | rfl | rw [yj] | (refine congrArg₂ (cond _) ?_ ?_) | split)
theorem zqz {mx : Bool} {ts : List Nat} {xs : List Operand} : uz X s o mx ts xs K = (uz X s o mx ts xs some).bind K := by
 unfold uz
 repeat' (first | rfl | rw [yj] | (refine congrArg₂ (cond _) ?_ ?_) | split)
theorem zrh {t u : Nat} {x y : Operand} : za5 X s o t u x y K = (za5 X s o t u x y some).bind K := by
 unfold za5
 repeat' (first | rfl | rw [yj] | (refine congrArg₂ (cond _) ?_ ?_) | split)
theorem zyD {g : Nat} {as cs : List A} : zgj X s o g as cs K = (zgj X s o g as cs some).bind K := by
 unfold zgj
 split
 ·dsimp only
  split <;> rfl
 ·rfl
theorem zyT {u : zb6} {as : List A} : zgu s o u as K = (zgu s o u as some).bind K := by
 unfold zgu
 split
 ·split
  ·rw [yj]
   refine congrArg (fun z => cond _ z none) ?_
   dsimp only
   split <;> rfl
  ·rfl
 ·rfl
theorem zun {γ : Zq} {as : List A} : zgA s o γ as K = (zgA s o γ as some).bind K := by
 unfold zgA
 dsimp only
 split
 ·unfold zUw zKP
  split
  ·split
   ·rfl
   ·rw [yj]; rfl
  ·split
   ·rfl
   ·rw [yj]; rfl
   ·rw [yj]; rfl
 ·rfl
theorem zAX {f : Operand} {ts : List Nat} {xs : List Operand} : zpO X s o f ts xs K = (zpO X s o f ts xs some).bind K := by
 unfold zpO
 split
 ·split
  ·split
   ·exact zun
   ·rfl
  ·split
   ·split
    ·exact zyT
    ·rfl
   ·exact zyD
 ·rfl
theorem zPg {T : Tab} {t : Nat} {op : BinOp} {c : Bool} {x y : A} : (cond c (aEq T t s o op x y K) (zxL T t s o op x y K)) = (cond c (aEq T t s o op x y some) (zxL T t s o op x y some)).bind K := by
 cases c
 ·exact zo8
 ·exact zOY
theorem zuL : aop X s o K = (aop X s o some).bind K := by
 unfold aop
 split
 all_goals first
  | rfl
  | exact zAU
  | exact zAV
  | exact zA9
  | exact zh6
  | exact zh4
  | exact zzI
  | exact zum
  | exact zu8
  | exact zgt
  | exact zih
  | exact zzC
  | exact zoh
  | exact zqz
  | exact zAX
  | (split <;> first
    | rfl
    | exact zxY
    | exact zPg
    | exact zo8
    | exact zKc
    | exact zrh
    | (rw [yj]; rfl)
    | (split <;> rfl))
end
def xf {R : Type} (F : (Nat → AS → Option R) → Option R) : Prop :=
 ∀ lp r, F lp = some r → (∀ lp', F lp' = some r) ∨ ∃ id s, lp id s = some r ∧ ∀ lp', lp' id s = some r → F lp' = some r
section
variable {R : Type} {X : Ctx}
theorem xf.const (x : Option R) : xf fun _ => x := fun lp r h => .inl fun _ => h
theorem xf.ask (id : Nat) (s : AS) : xf (R := R) fun lp => lp id s := fun lp r h => .inr ⟨id, s, h, fun _ h => h⟩
theorem xf.bind {m : Option Eff} {K : (Nat → AS → Option R) → Eff → Option R} (h : ∀ e, xf fun lp => K lp e) : xf fun lp => m.bind (K lp) := by
 cases m with
 | none => exact xf.const none
 | some e => exact h e
theorem xf.split {spl : Bool} {s : AS} {d : Option Nat} {K : (Nat → AS → Option R) → AS → Option R} (h : ∀ s, xf fun lp => K lp s) : xf fun lp => zc2 spl s d (K lp) := by
 cases spl with
 | false => exact h s
 | true => cases d with
  | none => exact h s
  | some i =>
   have e : (fun lp => zc2 true s (some i) (K lp)) = fun lp => match s.slot i with
    | .a (.v (.bool b)) => match b with
     | true => K lp (s.put (some i) (.a (.v (.bool true))))
     | false => K lp (s.put (some i) (.a (.v (.bool false))))
    | _ => K lp s := rfl
   rw [e]
   cases s.slot i with
   | a x => cases x with
    | v x => cases x with
     | bool b => cases b <;> exact h _
     | _ => exact h s
    | _ => exact h s
   | _ => exact h s
theorem zgO (ops : List Oper) {K : (Nat → AS → Option R) → AS → Option R} (h : ∀ s, xf fun lp => K lp s) : ∀ (rest : List Oper) (j : Nat) (s : AS), xf fun lp => zib X ops (K lp) rest j s
 | [], j, s => h s
 | o :: rest, j, s => by
  have e : (fun lp => zib X ops (K lp) (o :: rest) j s) = fun lp =>
   match (match o.guard with | none => some true | some (g, w) => ze4 s (zeT ops g) w) with
   | some true => (aop X s o some).bind fun e => zc2 (zbf ops j || XP ops o.dst) (s.apply e) o.dst (zib X ops (K lp) rest (j + 1))
   | some false => zib X ops (K lp) rest (j + 1) (s.put o.dst .un)
   | none => none := by
   funext lp
   simp only [zib]
   rw [zuL]
   rfl
  rw [e]
  cases (match o.guard with | none => some true | some (g, w) => ze4 s (zeT ops g) w) with
  | none => exact xf.const none
  | some b => cases b with
   | false => exact zgO ops h rest (j + 1) _
   | true => exact xf.bind fun e => xf.split fun s => zgO ops h rest (j + 1) s
theorem xf.splitE {spl : Bool} {e : Eff} {K : (Nat → AS → Option R) → Eff → Option R} (h : ∀ e, xf fun lp => K lp e) : xf fun lp => splitE spl e (K lp) := by
 cases spl with
 | false => exact h e
 | true =>
  obtain ⟨dst, hp, n⟩ := e
  cases dst with
  | none => exact h _
  | some d =>
   obtain ⟨d, v⟩ := d
   cases v with
   | a x => cases x with
    | v x => cases x with
     | bool b => cases b <;> exact h _
     | _ => exact h _
    | _ => exact h _
   | _ => exact h _
theorem xf.cond {c : Bool} {F : (Nat → AS → Option R) → Option R} (h : xf F) : xf fun lp => cond c (F lp) none := by
 cases c with
 | true => exact h
 | false => exact xf.const none
theorem zgv (D : List (List Nat)) (ops : List Oper) (s : AS) {K : (Nat → AS → Option R) → AS → Option R} (h : ∀ s, xf fun lp => K lp s) : ∀ (rest : List Oper) (j n : Nat) (E : List (Nat × Eff)), xf fun lp => zgk X D ops s (K lp) rest j n E
 | [], j, n, E => h _
 | o :: rest, j, n, E => by
  have e : (fun lp => zgk X D ops s (K lp) (o :: rest) j n E) = fun lp => cond (zhv D o j) (match gSt (Vo X.T D ops s E j n o) ops o with
   | some true => (aop X (Vo X.T D ops s E j n o) o some).bind fun e => RR.splitE (zbf ops j || XP ops o.dst) e fun e => cond (ZI o n e && Xk X.T D ops s j n e E) (zgk X D ops s (K lp) rest (j + 1) e.n ((j, e) :: E)) none
   | some false => cond (ZI o n ⟨vd o.dst .un, [], n⟩ && Xk X.T D ops s j n ⟨vd o.dst .un, [], n⟩ E) (zgk X D ops s (K lp) rest (j + 1) n ((j, ⟨vd o.dst .un, [], n⟩) :: E)) none
   | none => none) none := by
   funext lp
   simp only [zgk]
   rw [zuL]
   rfl
  rw [e]
  refine xf.cond ?_
  cases gSt (Vo X.T D ops s E j n o) ops o with
  | none => exact xf.const none
  | some b => cases b with
   | false => exact xf.cond (zgv D ops s h rest _ _ _)
   | true => exact xf.bind fun e => xf.splitE fun e => xf.cond (zgv D ops s h rest _ _ _)
theorem vq : ∀ (c : Code) (K : (Nat → AS → Option R) → vV R), (∀ e s, xf fun lp => K lp e s) → ∀ s, xf fun lp => ev X lp c (K lp) s
 | .skip, K, h, s | .label _, K, h, s => h .n s
 | .exit id, K, h, s => h (.x id) s
 | .ret, K, h, s => h .r s
 | .goto _, K, h, s | .refuse _, K, h, s | .scope _, K, h, s | .rangeFunc .., K, h, s => xf.const none
 | .region id ops draw, K, h, s => by
  cases draw with
  | true => exact zgv _ ops.toList s (fun s => h .n s) ops.toList 0 s.n []
  | false => exact zgO ops.toList (fun s => h .n s) ops.toList 0 s
 | .seq a b, K, h, s => vq a (fun lp => zs5 X lp b (K lp)) (fun e s => by
   cases e with
   | n => exact vq b K h s
   | x i => exact h (.x i) s
   | r => exact h .r s) s
 | .cond c a b, K, h, s => by
  have e : (fun lp => ev X lp (.cond c a b) (K lp) s) = fun lp => match opA X.T s 0 c with
   | some (.v (.bool t)) => match t with
    | true => ev X lp a (K lp) s
    | false => ev X lp b (K lp) s
   | _ => none := rfl
  rw [e]
  split
  ·rename_i t _
   cases t
   ·exact vq b K h s
   ·exact vq a K h s
  ·exact xf.const none
 | .block id a, K, h, s => vq a (fun lp => za0 id (K lp)) (fun e s => by
   cases e with
   | n => exact h .n s
   | r => exact h .r s
   | x i =>
    show xf fun lp => (match Nat.beq i id with
     | true => K lp .n s
     | false => K lp (.x i) s)
    cases Nat.beq i id
    ·exact h (.x i) s
    ·exact h .n s) s
 | .loop a, K, h, s => xf.ask _ _
theorem zSy {cn : Nat → AS → Option AS} {F : (Nat → AS → Option R) → Option R} (h : xf F) : xf fun L => F (lpc cn L) := by
 intro L r hF
 rcases h _ r hF with h | ⟨id, s, h1, h2⟩
 ·exact .inl fun L' => h _
 ·have h1' : (match cn id s with | some s' => L id s' | none => none) = some r := h1
  cases hc : cn id s with
  | none => rw [hc] at h1'; cases h1'
  | some s' =>
   rw [hc] at h1'
   refine .inr ⟨id, s', h1', fun L' h' => h2 _ ?_⟩
   show (match cn id s with | some s' => L' id s' | none => none) = some r
   rw [hc]; exact h'
theorem XL : ∀ (c : Code) (K : (Nat → AS → Option R) → vV R), (∀ e s, xf fun lp => K lp e s) → ∀ id, (∀ lp, lk (Xu X lp c (K lp)) id = none) ∨ ∃ (a : Code) (K' : (Nat → AS → Option R) → vV R), (∀ e s, xf fun lp => K' lp e s) ∧ ∀ lp, lk (Xu X lp c (K lp)) id = some (a, K' lp)
 | .skip, K, h, id | .label _, K, h, id | .exit _, K, h, id | .ret, K, h, id | .goto _, K, h, id | .refuse _, K, h, id | .scope _, K, h, id | .rangeFunc .., K, h, id | .region .., K, h, id => .inl fun _ => rfl
 | .seq a b, K, h, id => by
  have h1 : ∀ e s, xf fun lp => zs5 X lp b (K lp) e s := by
   intro e s
   cases e with
   | n => exact vq b K h s
   | x i => exact h (.x i) s
   | r => exact h .r s
  rcases XL a (fun lp => zs5 X lp b (K lp)) h1 id with ha | ⟨a', K', h2, h3⟩
  ·rcases XL b K h id with hb | ⟨a', K', h2, h3⟩
   ·exact .inl fun lp => by simp only [Xu, Yk, ha, hb]
   ·exact .inr ⟨a', K', h2, fun lp => by simp only [Xu, Yk, ha, h3]⟩
  ·exact .inr ⟨a', K', h2, fun lp => by simp only [Xu, Yk, h3]⟩
 | .cond _ a b, K, h, id => by
  rcases XL a K h id with ha | ⟨a', K', h2, h3⟩
  ·rcases XL b K h id with hb | ⟨a', K', h2, h3⟩
   ·exact .inl fun lp => by simp only [Xu, Yk, ha, hb]
   ·exact .inr ⟨a', K', h2, fun lp => by simp only [Xu, Yk, ha, h3]⟩
  ·exact .inr ⟨a', K', h2, fun lp => by simp only [Xu, Yk, h3]⟩
 | .block i a, K, h, id => XL a (fun lp => za0 i (K lp)) (fun e s => by
   cases e with
   | n => exact h .n s
   | r => exact h .r s
   | x j =>
    show xf fun lp => (match Nat.beq j i with
     | true => K lp .n s
     | false => K lp (.x j) s)
    cases Nat.beq j i
    ·exact h (.x j) s
    ·exact h .n s) id
 | .loop a, K, h, id => by
  cases hb : Nat.beq id (xk a) with
  | true => exact .inr ⟨a, K, h, fun lp => by simp only [Xu, lk, hb]; rfl⟩
  | false =>
   rcases XL a (fun lp => w9 lp (xk a) (K lp)) (fun e s => by
    cases e with
    | n => exact xf.ask _ _
    | x i => exact h (.x i) s
    | r => exact h .r s) id with ha | ⟨a', K', h2, h3⟩
   ·exact .inl fun lp => by simp only [Xu, lk, hb]; exact ha lp
   ·exact .inr ⟨a', K', h2, fun lp => by simp only [Xu, lk, hb]; exact h3 lp⟩
noncomputable def L (X : Ctx) (cn : Nat → AS → Option AS) (c : Code) (K0 : vV R) (r : R) : Nat → AS → Option R :=
 fun id s => @ite _ (∃ n, ans X cn c K0 n id s = some r) (Classical.propDecidable _) (some r) none
variable {cn : Nat → AS → Option AS} {c : Code} {K0 : vV R} {r : R}
theorem zPN {id : Nat} {s : AS} {r' : R} : L X cn c K0 r id s = some r' ↔ r' = r ∧ ∃ n, ans X cn c K0 n id s = some r := by
 unfold L
 by_cases h : ∃ n, ans X cn c K0 n id s = some r
 ·rw [if_pos h]
  exact ⟨fun e => ⟨(Option.some.inj e).symm, h⟩, fun e => by rw [e.1]⟩
 ·rw [if_neg h]
  exact ⟨(fun e => by cases e), fun e => absurd e.2 h⟩
theorem zP0 {F : (Nat → AS → Option R) → Option R} (hF : xf F) (h : F (lpc cn (L X cn c K0 r)) = some r) : ∃ n, F (lpc cn (ans X cn c K0 n)) = some r := by
 rcases zSy (cn := cn) hF _ r h with h | ⟨id, s, h1, h2⟩
 ·exact ⟨0, h _⟩
 ·obtain ⟨_, n, hn⟩ := zPN.1 h1
  exact ⟨n, h2 _ hn⟩
theorem zUq {id : Nat} {s : AS} (h : (match lk (Xu X (lpc cn (L X cn c K0 r)) c K0) id with
  | some (a, K) => ev X (lpc cn (L X cn c K0 r)) a (w9 (lpc cn (L X cn c K0 r)) id K) s
  | none => none) = some r) : L X cn c K0 r id s = some r := by
 refine zPN.2 ⟨rfl, ?_⟩
 rcases XL (X := X) c (fun _ => K0) (fun e s => xf.const _) id with hc | ⟨a, K', hK', hc⟩
 ·rw [hc] at h; cases h
 ·rw [hc] at h
  have hF : xf fun lp => ev X lp a (w9 lp id (K' lp)) s := vq a (fun lp => w9 lp id (K' lp)) (fun e s => by
    cases e with
    | n => exact xf.ask _ _
    | x i => exact hK' (.x i) s
    | r => exact hK' .r s) s
  obtain ⟨n, hn⟩ := zP0 hF h
  refine ⟨n + 1, ?_⟩
  simp only [ans]
  rw [hc]
  exact hn
end
theorem zAO {R : Type} {W : SW} {X : Ctx} {r : R} (hX : zk8 W X) {cn : Nat → AS → Option AS} (hcn : zSn W cn) {c : Code} {K0 : vV R} {Q0 : zog} (hd : yv W.N c = true) (hn : (yw c).Nodup) (hl : zaE W r K0 Q0)
  {s : AS} (h : ev X (lpc cn (L X cn c K0 r)) c K0 s = some r) {σ : Nat → Value} {a : Act} {w : World} (hs : St W s σ a w) : c.wp W.P Q0 a w := by
 obtain ⟨n, hn'⟩ := zP0 (F := fun lp => ev X lp c K0 s) (vq c (fun _ => K0) (fun e s => xf.const _) s) h
 have hloops := zNj (W := W) (r := r) hX hcn hd hn hl
 dsimp only at hloops
 refine (zfQ (I := fun id m a w => ∃ s σ, ans X cn c K0 m id s = some r ∧ St W s σ a w) (β := fun _ => n + 1) (lp := lpc cn (ans X cn c K0 n)) hX ?_ c K0 Q0 hd hl ?_).1 s σ a w hn' hs
 ·intro id s σ a w h hs
  have h' : (match cn id s with | some s' => ans X cn c K0 n id s' | none => none) = some r := h
  cases hc : cn id s with
  | none => rw [hc] at h'; cases h'
  | some s' =>
   rw [hc] at h'
   obtain ⟨σ', hs'⟩ := hcn id s s' σ a w hc hs
   exact ⟨n, Nat.lt_succ_self n, s', σ', h', hs'⟩
 ·intro y hy s σ a w h hs
  have h' : (match cn y.1 s with | some s' => ans X cn c K0 n y.1 s' | none => none) = some r := h
  cases hc : cn y.1 s with
  | none => rw [hc] at h'; cases h'
  | some s' =>
   rw [hc] at h'
   obtain ⟨σ', hs'⟩ := hcn _ s s' σ a w hc hs
   exact hloops n (fun _ => n + 1) (fun _ => Nat.lt_succ_self n) _ y hy a w ⟨s', σ', h', hs'⟩
end Go.RR
