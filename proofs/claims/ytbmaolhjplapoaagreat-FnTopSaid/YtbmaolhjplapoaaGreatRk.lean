/- Code and loops. No condition. -/
import Derived.Test.YtbmaolhjplapoaaGreatRx
set_option linter.unusedVariables false
set_option linter.unusedSimpArgs false
namespace Go.RR
open Go Go.RowKit
def zUE : Ex → Exit
 | .n => .normal
 | .x i => .exit i
 | .r => .ret
section
variable {R : Type}
abbrev vV (R : Type) := Ex → AS → Option R
abbrev zog := Exit → Act → World → Prop
def Xw (X : Ctx) (lp : Nat → AS → Option R) (P : Program) (I : Nat → Nat → Act → World → Prop) (β : Nat → Nat) : Code → vV R → zog → List (Nat × Code × vV R × zog)
 | .seq a b, K, Q => Xw X lp P I β a (zs5 X lp b K) (Exit.then (b.wp P Q) Q) ++ Xw X lp P I β b K Q
 | .cond _ a b, K, Q => Xw X lp P I β a K Q ++ Xw X lp P I β b K Q
 | .block id a, K, Q => Xw X lp P I β a (za0 id K) (Exit.inBlock id Q)
 | .loop a, K, Q => (xk a, a, K, Q) :: Xw X lp P I β a (w9 lp (xk a) K) (Exit.then (fun a' w' => ∃ m, m < β (xk a) ∧ I (xk a) m a' w') Q)
 | _, _, _ => []
variable {X : Ctx} {W : SW} {r : R}
def zaE (W : SW) (r : R) (K : vV R) (Q : zog) : Prop := ∀ e s σ a w, K e s = some r → St W s σ a w → Q (zUE e) a w
theorem zzV {s : AS} {c : Operand} {t : Bool} (h : opA X.T s 0 c = some (.v (.bool t))) {σ : Nat → Value} {a : Act} {w : World} (hs : St W s σ a w) : a.eval c = .bool t := (zP (zq6 s) hs.2 h).1
theorem zfQ (hX : zk8 W X) {lp : Nat → AS → Option R} {I : Nat → Nat → Act → World → Prop} {β : Nat → Nat}
  (hback : ∀ id s σ a w, lp id s = some r → St W s σ a w → ∃ m, m < β id ∧ I id m a w) :
  ∀ (c : Code) (K : vV R) (Q : zog), yv W.N c = true → zaE W r K Q →
   (∀ x ∈ Xw X lp W.P I β c K Q, ∀ s σ a w, lp x.1 s = some r → St W s σ a w → (Code.loop x.2.1).wp W.P x.2.2.2 a w) →
   (∀ s σ a w, ev X lp c K s = some r → St W s σ a w → c.wp W.P Q a w) ∧ ∀ x ∈ Xw X lp W.P I β c K Q, zaE W r x.2.2.1 x.2.2.2
 | .skip, K, Q, _, hl, _ => ⟨fun s σ a w h hs => wp_skip (hl .n s σ a w h hs), fun x hx => by cases hx⟩
 | .label _, K, Q, _, hl, _ => ⟨fun s σ a w h hs => wp_label (hl .n s σ a w h hs), fun x hx => by cases hx⟩
 | .exit id, K, Q, _, hl, _ => ⟨fun s σ a w h hs => wp_exit (hl (.x id) s σ a w h hs), fun x hx => by cases hx⟩
 | .ret, K, Q, _, hl, _ => ⟨fun s σ a w h hs => wp_ret (hl .r s σ a w h hs), fun x hx => by cases hx⟩
 | .goto _, K, Q, _, hl, _ => ⟨(fun s σ a w h hs => by cases h), fun x hx => by cases hx⟩
 | .refuse _, K, Q, _, hl, _ => ⟨(fun s σ a w h hs => by cases h), fun x hx => by cases hx⟩
 | .scope _, K, Q, _, hl, _ => ⟨(fun s σ a w h hs => by cases h), fun x hx => by cases hx⟩
 | .rangeFunc .., K, Q, _, hl, _ => ⟨(fun s σ a w h hs => by cases h), fun x hx => by cases hx⟩
 | .region id ops draw, K, Q, hd, hl, _ => by
  refine ⟨fun s σ a w h hs => ?_, fun x hx => by cases hx⟩
  cases draw with
  | true => exact zS6 hX hX.mix (K := K .n) (r := r) (fun s' σ' a' w' h' hs' => hl .n s' σ' a' w' h' hs') hd h hs
  | false =>
   refine wp_region_list ?_
   have := zql hX ops.toList (K := K .n) (Q := Q) (r := r) (fun s' σ' a' w' h' hs' => hl .n s' σ' a' w' h' hs') ops.toList 0 s σ a w hd h hs
   simpa using this
 | .seq c d, K, Q, hd, hl, hlp => by
  simp only [yv, Bool.and_eq_true] at hd
  obtain ⟨h1, h2⟩ := zfQ hX hback d K Q hd.2 hl (fun x hx => hlp x (List.mem_append_right _ hx))
  have hl' : zaE W r (zs5 X lp d K) (Exit.then (d.wp W.P Q) Q) := by
   intro e s σ a w h hs
   cases e with
   | n => exact h1 s σ a w h hs
   | x i => exact hl (.x i) s σ a w h hs
   | r => exact hl .r s σ a w h hs
  obtain ⟨h3, h4⟩ := zfQ hX hback c (zs5 X lp d K) (Exit.then (d.wp W.P Q) Q) hd.1 hl' (fun x hx => hlp x (List.mem_append_left _ hx))
  exact ⟨fun s σ a w h hs => wp_seq (h3 s σ a w h hs), fun x hx => (List.mem_append.1 hx).elim (h4 x) (h2 x)⟩
 | .cond b c d, K, Q, hd, hl, hlp => by
  simp only [yv, Bool.and_eq_true] at hd
  obtain ⟨h1, h2⟩ := zfQ hX hback d K Q hd.2 hl (fun x hx => hlp x (List.mem_append_right _ hx))
  obtain ⟨h3, h4⟩ := zfQ hX hback c K Q hd.1 hl (fun x hx => hlp x (List.mem_append_left _ hx))
  refine ⟨fun s σ a w h hs => ?_, fun x hx => (List.mem_append.1 hx).elim (h4 x) (h2 x)⟩
  simp only [ev] at h
  split at h
  ·rename_i t ht
   cases t with
   | true => exact wp_cond_true (zzV ht hs) (h3 s σ a w h hs)
   | false => exact wp_cond_false (zzV ht hs) (h1 s σ a w h hs)
  ·cases h
 | .block id c, K, Q, hd, hl, hlp => by
  have hl' : zaE W r (za0 id K) (Exit.inBlock id Q) := by
   intro e s σ a w h hs
   cases e with
   | n => exact hl .n s σ a w h hs
   | r => exact hl .r s σ a w h hs
   | x i =>
    simp only [za0] at h
    show (if i = id then Q .normal a w else Q (.exit i) a w)
    cases hb : Nat.beq i id with
    | true =>
     rw [hb] at h
     rw [if_pos (Nat.eq_of_beq_eq_true hb)]
     exact hl .n s σ a w h hs
    | false =>
     rw [hb] at h
     rw [if_neg (fun e => by subst e; simp at hb)]
     exact hl (.x i) s σ a w h hs
  obtain ⟨h1, h2⟩ := zfQ hX hback c (za0 id K) (Exit.inBlock id Q) hd hl' hlp
  exact ⟨fun s σ a w h hs => wp_block (h1 s σ a w h hs), h2⟩
 | .loop c, K, Q, hd, hl, hlp => by
  have hl' : zaE W r (w9 lp (xk c) K) (Exit.then (fun a' w' => ∃ m, m < β (xk c) ∧ I (xk c) m a' w') Q) := by
   intro e s σ a w h hs
   cases e with
   | n => exact hback _ s σ a w h hs
   | x i => exact hl (.x i) s σ a w h hs
   | r => exact hl .r s σ a w h hs
  obtain ⟨h1, h2⟩ := zfQ hX hback c _ _ hd hl' (fun x hx => hlp x (List.mem_cons_of_mem _ hx))
  refine ⟨fun s σ a w h hs => hlp (xk c, c, K, Q) (by simp [Xw]) s σ a w h hs, fun x hx => ?_⟩
  rcases List.mem_cons.1 hx with rfl | hx
  ·exact hl
  ·exact h2 x hx
def ans (X : Ctx) (cn : Nat → AS → Option AS) (c : Code) (K0 : vV R) : Nat → Nat → AS → Option R
 | 0 => fun _ _ => none
 | n + 1 => fun id s => match lk (Xu X (lpc cn (ans X cn c K0 n)) c K0) id with
  | some (a, K) => ev X (lpc cn (ans X cn c K0 n)) a (w9 (lpc cn (ans X cn c K0 n)) id K) s
  | none => none
theorem wN {lp : Nat → AS → Option R} {P : Program} {I : Nat → Nat → Act → World → Prop} {β : Nat → Nat} : ∀ (c : Code) (K : vV R) (Q : zog), (Xw X lp P I β c K Q).map (·.1) = yw c
 | .skip, _, _ | .label _, _, _ | .exit _, _, _ | .ret, _, _ | .goto _, _, _ | .refuse _, _, _ | .scope _, _, _ | .rangeFunc .., _, _ | .region .., _, _ => rfl
 | .seq a b, K, Q => by simp only [Xw, List.map_append, wN a, wN b, yw]
 | .cond _ a b, K, Q => by simp only [Xw, List.map_append, wN a, wN b, yw]
 | .block _ a, K, Q => by simp only [Xw, wN a, yw]
 | .loop a, K, Q => by simp only [Xw, List.map_cons, wN a, yw]
theorem YV {lp : Nat → AS → Option R} {P : Program} {I : Nat → Nat → Act → World → Prop} {β : Nat → Nat} : ∀ (c : Code) (K : vV R) (Q : zog), (Xw X lp P I β c K Q).map (fun x => (x.1, x.2.1, x.2.2.1)) = Xu X lp c K
 | .skip, _, _ | .label _, _, _ | .exit _, _, _ | .ret, _, _ | .goto _, _, _ | .refuse _, _, _ | .scope _, _, _ | .rangeFunc .., _, _ | .region .., _, _ => rfl
 | .seq a b, K, Q => by simp only [Xw, List.map_append, YV a, YV b, Xu]
 | .cond _ a b, K, Q => by simp only [Xw, List.map_append, YV a, YV b, Xu]
 | .block _ a, K, Q => by simp only [Xw, YV a, Xu]
 | .loop a, K, Q => by simp only [Xw, List.map_cons, YV a, Xu]
theorem ZN {lp lp' : Nat → AS → Option R} {P : Program} {I : Nat → Nat → Act → World → Prop} {β β' : Nat → Nat} : ∀ (c : Code) (K K' : vV R) (Q : zog), (yw c).Nodup → ∀ x ∈ Xw X lp P I β c K Q, (∀ j, j ≠ x.1 → β' j = β j) → ∃ K2, (x.1, x.2.1, K2, x.2.2.2) ∈ Xw X lp' P I β' c K' Q
 | .skip, _, _, _, _, x, hx, _ | .label _, _, _, _, _, x, hx, _ | .exit _, _, _, _, _, x, hx, _ | .ret, _, _, _, _, x, hx, _ | .goto _, _, _, _, _, x, hx, _ | .refuse _, _, _, _, _, x, hx, _ | .scope _, _, _, _, _, x, hx, _ | .rangeFunc .., _, _, _, _, x, hx, _ | .region .., _, _, _, _, x, hx, _ => by cases hx
 | .seq a b, K, K', Q, hn, x, hx, hβ => by
  simp only [yw, List.nodup_append] at hn
  rcases List.mem_append.1 hx with hx | hx
  ·obtain ⟨K2, h⟩ := ZN a _ (zs5 X lp' b K') _ hn.1 x hx hβ
   exact ⟨K2, List.mem_append_left _ h⟩
  ·obtain ⟨K2, h⟩ := ZN b _ K' _ hn.2.1 x hx hβ
   exact ⟨K2, List.mem_append_right _ h⟩
 | .cond _ a b, K, K', Q, hn, x, hx, hβ => by
  simp only [yw, List.nodup_append] at hn
  rcases List.mem_append.1 hx with hx | hx
  ·obtain ⟨K2, h⟩ := ZN a _ K' _ hn.1 x hx hβ
   exact ⟨K2, List.mem_append_left _ h⟩
  ·obtain ⟨K2, h⟩ := ZN b _ K' _ hn.2.1 x hx hβ
   exact ⟨K2, List.mem_append_right _ h⟩
 | .block id a, K, K', Q, hn, x, hx, hβ => ZN a _ (za0 id K') _ hn x hx hβ
 | .loop a, K, K', Q, hn, x, hx, hβ => by
  simp only [yw, List.nodup_cons] at hn
  rcases List.mem_cons.1 hx with rfl | hx
  ·exact ⟨K', by simp [Xw]⟩
  ·have hne : xk a ≠ x.1 := by
    intro e
    apply hn.1
    rw [e, ← wN (X := X) (lp := lp) (P := P) (I := I) (β := β) a (w9 lp (xk a) K) (Exit.then (fun a' w' => ∃ m, m < β (xk a) ∧ I (xk a) m a' w') Q)]
    exact List.mem_map_of_mem hx
   obtain ⟨K2, h⟩ := ZN a _ (w9 lp' (xk a) K') _ hn.2 x hx hβ
   refine ⟨K2, List.mem_cons_of_mem _ ?_⟩
   rw [hβ _ hne]
   exact h
theorem WN {lp : Nat → AS → Option R} {P : Program} {I : Nat → Nat → Act → World → Prop} {β : Nat → Nat} : ∀ (c : Code) (K : vV R) (Q : zog), ∀ x ∈ Xw X lp P I β c K Q, (x.1 = xk x.2.1) ∧ (∀ N, yv N c = true → yv N x.2.1 = true) ∧ ∀ y ∈ Xw X lp P I β x.2.1 (w9 lp x.1 x.2.2.1) (Exit.then (fun a' w' => ∃ m, m < β x.1 ∧ I x.1 m a' w') x.2.2.2), y ∈ Xw X lp P I β c K Q
 | .skip, _, _, x, hx | .label _, _, _, x, hx | .exit _, _, _, x, hx | .ret, _, _, x, hx | .goto _, _, _, x, hx | .refuse _, _, _, x, hx | .scope _, _, _, x, hx | .rangeFunc .., _, _, x, hx | .region .., _, _, x, hx => by cases hx
 | .seq a b, K, Q, x, hx => by
  rcases List.mem_append.1 hx with hx | hx
  ·obtain ⟨h1, h2, h3⟩ := WN a _ _ x hx
   refine ⟨h1, fun N h => h2 N ?_, fun y hy => List.mem_append_left _ (h3 y hy)⟩
   simp only [yv, Bool.and_eq_true] at h; exact h.1
  ·obtain ⟨h1, h2, h3⟩ := WN b _ _ x hx
   refine ⟨h1, fun N h => h2 N ?_, fun y hy => List.mem_append_right _ (h3 y hy)⟩
   simp only [yv, Bool.and_eq_true] at h; exact h.2
 | .cond _ a b, K, Q, x, hx => by
  rcases List.mem_append.1 hx with hx | hx
  ·obtain ⟨h1, h2, h3⟩ := WN a _ _ x hx
   refine ⟨h1, fun N h => h2 N ?_, fun y hy => List.mem_append_left _ (h3 y hy)⟩
   simp only [yv, Bool.and_eq_true] at h; exact h.1
  ·obtain ⟨h1, h2, h3⟩ := WN b _ _ x hx
   refine ⟨h1, fun N h => h2 N ?_, fun y hy => List.mem_append_right _ (h3 y hy)⟩
   simp only [yv, Bool.and_eq_true] at h; exact h.2
 | .block id a, K, Q, x, hx => WN a _ _ x hx
 | .loop a, K, Q, x, hx => by
  rcases List.mem_cons.1 hx with rfl | hx
  ·exact ⟨rfl, fun N h => h, fun y hy => List.mem_cons_of_mem _ hy⟩
  ·obtain ⟨h1, h2, h3⟩ := WN a _ _ x hx
   exact ⟨h1, h2, fun y hy => List.mem_cons_of_mem _ (h3 y hy)⟩
theorem zuZ {α : Type} : ∀ (l : List (Nat × α)), (l.map (·.1)).Nodup → ∀ i x, (i, x) ∈ l → lk l i = some x
 | [], _, i, x, h => by cases h
 | (j, y) :: l, hn, i, x, h => by
  simp only [List.map_cons, List.nodup_cons] at hn
  simp only [lk]
  rcases List.mem_cons.1 h with h | h
  ·cases h
   simp
  ·have : i ≠ j := fun e => hn.1 (by rw [← e]; exact List.mem_map_of_mem (f := (·.1)) h)
   rw [xQ this]
   exact zuZ l hn.2 i x h
def zSn (W : SW) (cn : Nat → AS → Option AS) : Prop := ∀ id s s' σ a w, cn id s = some s' → St W s σ a w → ∃ σ', St W s' σ' a w
theorem zNj (hX : zk8 W X) {cn : Nat → AS → Option AS} (hcn : zSn W cn) {c : Code} {K0 : vV R} {Q0 : zog} (hd : yv W.N c = true) (hn : (yw c).Nodup) (hl : zaE W r K0 Q0) :
  let I : Nat → Nat → Act → World → Prop := fun id m a w => ∃ s σ, ans X cn c K0 m id s = some r ∧ St W s σ a w
  ∀ (n : Nat) (β : Nat → Nat), (∀ id, n < β id) → ∀ lp, ∀ x ∈ Xw X lp W.P I β c K0 Q0, ∀ a w, I x.1 n a w → (Code.loop x.2.1).wp W.P x.2.2.2 a w := by
 intro I n
 induction n using Nat.strongRecOn with
 | _ n ih =>
  intro β hβ lp x hx a w hI
  refine wp_loop_ghost (fun k a w => k ≤ n ∧ I x.1 k a w) n ⟨Nat.le_refl _, hI⟩ ?_
  rintro k a w ⟨hk, s, σ, hs, hst⟩
  cases k with
  | zero => cases hs
  | succ k =>
   let A := ans X cn c K0 k
   let lpk := lpc cn A
   let β' : Nat → Nat := fun j => if j = x.1 then k + 1 else β j
   have hβ' : ∀ id, k < β' id := fun id => by
    show k < if id = x.1 then k + 1 else β id
    split
    ·omega
    ·have := hβ id; omega
   have hback : ∀ id s σ a w, lpk id s = some r → St W s σ a w → ∃ m, m < β' id ∧ I id m a w := by
    intro id s σ a w h hs
    show ∃ m, _
    have h' : (match cn id s with | some s' => A id s' | none => none) = some r := h
    cases hc : cn id s with
    | none => rw [hc] at h'; cases h'
    | some s' =>
     rw [hc] at h'
     obtain ⟨σ', hs'⟩ := hcn id s s' σ a w hc hs
     exact ⟨k, hβ' id, s', σ', h', hs'⟩
   have hfwd : ∀ y ∈ Xw X lpk W.P I β' c K0 Q0, ∀ s σ a w, lpk y.1 s = some r → St W s σ a w → (Code.loop y.2.1).wp W.P y.2.2.2 a w := by
    intro y hy s σ a w h hs
    have h' : (match cn y.1 s with | some s' => A y.1 s' | none => none) = some r := h
    cases hc : cn y.1 s with
    | none => rw [hc] at h'; cases h'
    | some s' =>
     rw [hc] at h'
     obtain ⟨σ', hs'⟩ := hcn _ s s' σ a w hc hs
     exact ih k (by omega) β' hβ' lpk y hy a w ⟨s', σ', h', hs'⟩
   obtain ⟨K2, hx2⟩ := ZN (lp' := lpk) (β' := β') c K0 K0 Q0 hn x hx (fun j hj => if_neg hj)
   obtain ⟨_, hleaf⟩ := zfQ hX hback c K0 Q0 hd hl hfwd
   have hxl := hleaf _ hx2
   have hlk : lk (Xu X lpk c K0) x.1 = some (x.2.1, K2) := by
    apply zuZ
    ·have e1 := YV (X := X) (lp := lpk) (P := W.P) (I := I) (β := β') c K0 Q0
     rw [← e1, List.map_map]
     have e2 := wN (X := X) (lp := lpk) (P := W.P) (I := I) (β := β') c K0 Q0
     rw [← e2] at hn
     exact hn
    ·rw [← YV (X := X) (lp := lpk) (P := W.P) (I := I) (β := β') c K0 Q0]
     exact List.mem_map.2 ⟨_, hx2, rfl⟩
   have hev : ev X lpk x.2.1 (w9 lpk x.1 K2) s = some r := by
    have h' : (match lk (Xu X lpk c K0) x.1 with | some (a, K) => ev X lpk a (w9 lpk x.1 K) s | none => none) = some r := hs
    rw [hlk] at h'
    exact h'
   obtain ⟨_, hsl, hsub⟩ := WN c K0 Q0 _ hx2
   have hl' : zaE W r (w9 lpk x.1 K2) (Exit.then (fun a' w' => ∃ m, m < β' x.1 ∧ I x.1 m a' w') x.2.2.2) := by
    intro e s σ a w h hs
    cases e with
    | n => exact hback x.1 s σ a w h hs
    | x i => exact hxl (.x i) s σ a w h hs
    | r => exact hxl .r s σ a w h hs
   obtain ⟨hw, _⟩ := zfQ hX hback x.2.1 (w9 lpk x.1 K2) _ (hsl _ hd) hl' (fun y hy => hfwd y (hsub y hy))
   refine wp_mono (hw s σ a w hev hst) fun e a' w' hq => ?_
   cases e with
   | normal =>
    obtain ⟨m, h1, h2⟩ := hq
    have h1' : m < if x.1 = x.1 then k + 1 else β x.1 := h1
    rw [if_pos rfl] at h1'
    exact ⟨m, h1', by omega, h2⟩
   | exit id => exact hq
   | goto l => exact hq
   | ret => exact hq
   | panic ch => exact hq
   | outgrown => exact hq
end
end Go.RR
