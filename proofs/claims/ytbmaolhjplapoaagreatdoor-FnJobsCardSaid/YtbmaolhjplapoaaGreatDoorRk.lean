/- Code and loops. No condition. -/
import Derived.Test.YtbmaolhjplapoaaGreatDoorRx
set_option linter.unusedVariables false
set_option linter.unusedSimpArgs false
namespace Go.RR
open Go Go.RowKit
def exitOf : Ex → Exit
 | .n => .normal
 | .x i => .exit i
 | .r => .ret
section
variable {R : Type}
abbrev Kont (R : Type) := Ex → AS → Option R
abbrev Post := Exit → Act → World → Prop
def ctx2 (X : Ctx) (lp : Nat → AS → Option R) (P : Program) (I : Nat → Nat → Act → World → Prop) (β : Nat → Nat) : Code → Kont R → Post → List (Nat × Code × Kont R × Post)
 | .seq a b, K, Q => ctx2 X lp P I β a (seqK X lp b K) (Exit.then (b.wp P Q) Q) ++ ctx2 X lp P I β b K Q
 | .cond _ a b, K, Q => ctx2 X lp P I β a K Q ++ ctx2 X lp P I β b K Q
 | .block id a, K, Q => ctx2 X lp P I β a (blockK id K) (Exit.inBlock id Q)
 | .loop a, K, Q => (headId a, a, K, Q) :: ctx2 X lp P I β a (loopK lp (headId a) K) (Exit.then (fun a' w' => ∃ m, m < β (headId a) ∧ I (headId a) m a' w') Q)
 | _, _, _ => []
variable {X : Ctx} {W : SW} {r : R}
def LeafOK (W : SW) (r : R) (K : Kont R) (Q : Post) : Prop := ∀ e s σ a w, K e s = some r → St W s σ a w → Q (exitOf e) a w
theorem opA_bool {s : AS} {c : Operand} {t : Bool} (h : opA X.T s 0 c = some (.v (.bool t))) {σ : Nat → Value} {a : Act} {w : World} (hs : St W s σ a w) : a.eval c = .bool t := (opA_val (sub_of s) hs.2 h).1
theorem ev_ok (hX : CtxW W X) {lp : Nat → AS → Option R} {I : Nat → Nat → Act → World → Prop} {β : Nat → Nat}
  (hback : ∀ id s σ a w, lp id s = some r → St W s σ a w → ∃ m, m < β id ∧ I id m a w) :
  ∀ (c : Code) (K : Kont R) (Q : Post), slotsOk W.N c = true → LeafOK W r K Q →
   (∀ x ∈ ctx2 X lp W.P I β c K Q, ∀ s σ a w, lp x.1 s = some r → St W s σ a w → (Code.loop x.2.1).wp W.P x.2.2.2 a w) →
   (∀ s σ a w, ev X lp c K s = some r → St W s σ a w → c.wp W.P Q a w) ∧ ∀ x ∈ ctx2 X lp W.P I β c K Q, LeafOK W r x.2.2.1 x.2.2.2
 | .skip, K, Q, _, hl, _ => ⟨fun s σ a w h hs => wp_skip (hl .n s σ a w h hs), fun x hx => by cases hx⟩
 | .label _, K, Q, _, hl, _ => ⟨fun s σ a w h hs => wp_label (hl .n s σ a w h hs), fun x hx => by cases hx⟩
 | .exit id, K, Q, _, hl, _ => ⟨fun s σ a w h hs => wp_exit (hl (.x id) s σ a w h hs), fun x hx => by cases hx⟩
 | .ret, K, Q, _, hl, _ => ⟨fun s σ a w h hs => wp_ret (hl .r s σ a w h hs), fun x hx => by cases hx⟩
 | .goto _, K, Q, _, hl, _ => ⟨(fun s σ a w h hs => by cases h), fun x hx => by cases hx⟩
 | .refuse _, K, Q, _, hl, _ => ⟨(fun s σ a w h hs => by cases h), fun x hx => by cases hx⟩
 | .scope _, K, Q, _, hl, _ => ⟨(fun s σ a w h hs => by cases h), fun x hx => by cases hx⟩
 | .rangeFunc .., K, Q, _, hl, _ => ⟨(fun s σ a w h hs => by cases h), fun x hx => by cases hx⟩
 | .region id ops draw, K, Q, hd, hl, _ => by
  refine ⟨fun s σ a w h hs => ?_, fun x hx => by cases hx⟩
  cases draw with
  | true => exact dops_ok hX hX.mix (K := K .n) (r := r) (fun s' σ' a' w' h' hs' => hl .n s' σ' a' w' h' hs') hd h hs
  | false =>
   refine wp_region_list ?_
   have := aops_ok hX ops.toList (K := K .n) (Q := Q) (r := r) (fun s' σ' a' w' h' hs' => hl .n s' σ' a' w' h' hs') ops.toList 0 s σ a w hd h hs
   simpa using this
 | .seq c d, K, Q, hd, hl, hlp => by
  simp only [slotsOk, Bool.and_eq_true] at hd
  obtain ⟨h1, h2⟩ := ev_ok hX hback d K Q hd.2 hl (fun x hx => hlp x (List.mem_append_right _ hx))
  have hl' : LeafOK W r (seqK X lp d K) (Exit.then (d.wp W.P Q) Q) := by
   intro e s σ a w h hs
   cases e with
   | n => exact h1 s σ a w h hs
   | x i => exact hl (.x i) s σ a w h hs
   | r => exact hl .r s σ a w h hs
  obtain ⟨h3, h4⟩ := ev_ok hX hback c (seqK X lp d K) (Exit.then (d.wp W.P Q) Q) hd.1 hl' (fun x hx => hlp x (List.mem_append_left _ hx))
  exact ⟨fun s σ a w h hs => wp_seq (h3 s σ a w h hs), fun x hx => (List.mem_append.1 hx).elim (h4 x) (h2 x)⟩
 | .cond b c d, K, Q, hd, hl, hlp => by
  simp only [slotsOk, Bool.and_eq_true] at hd
  obtain ⟨h1, h2⟩ := ev_ok hX hback d K Q hd.2 hl (fun x hx => hlp x (List.mem_append_right _ hx))
  obtain ⟨h3, h4⟩ := ev_ok hX hback c K Q hd.1 hl (fun x hx => hlp x (List.mem_append_left _ hx))
  refine ⟨fun s σ a w h hs => ?_, fun x hx => (List.mem_append.1 hx).elim (h4 x) (h2 x)⟩
  simp only [ev] at h
  split at h
  ·rename_i t ht
   cases t with
   | true => exact wp_cond_true (opA_bool ht hs) (h3 s σ a w h hs)
   | false => exact wp_cond_false (opA_bool ht hs) (h1 s σ a w h hs)
  ·cases h
 | .block id c, K, Q, hd, hl, hlp => by
  have hl' : LeafOK W r (blockK id K) (Exit.inBlock id Q) := by
   intro e s σ a w h hs
   cases e with
   | n => exact hl .n s σ a w h hs
   | r => exact hl .r s σ a w h hs
   | x i =>
    simp only [blockK] at h
    show (if i = id then Q .normal a w else Q (.exit i) a w)
    cases hb : Nat.beq i id with
    | true =>
     rw [hb] at h
     rw [if_pos (Nat.eq_of_beq_eq_true hb)]
     exact hl .n s σ a w h hs
    | false =>
     rw [hb] at h
     rw [if_neg (fun e => by subst e; simp at hb)]
     exact hl (.x i) s σ a w h hs
  obtain ⟨h1, h2⟩ := ev_ok hX hback c (blockK id K) (Exit.inBlock id Q) hd hl' hlp
  exact ⟨fun s σ a w h hs => wp_block (h1 s σ a w h hs), h2⟩
 | .loop c, K, Q, hd, hl, hlp => by
  have hl' : LeafOK W r (loopK lp (headId c) K) (Exit.then (fun a' w' => ∃ m, m < β (headId c) ∧ I (headId c) m a' w') Q) := by
   intro e s σ a w h hs
   cases e with
   | n => exact hback _ s σ a w h hs
   | x i => exact hl (.x i) s σ a w h hs
   | r => exact hl .r s σ a w h hs
  obtain ⟨h1, h2⟩ := ev_ok hX hback c _ _ hd hl' (fun x hx => hlp x (List.mem_cons_of_mem _ hx))
  refine ⟨fun s σ a w h hs => hlp (headId c, c, K, Q) (by simp [ctx2]) s σ a w h hs, fun x hx => ?_⟩
  rcases List.mem_cons.1 hx with rfl | hx
  ·exact hl
  ·exact h2 x hx
def ans (X : Ctx) (cn : Nat → AS → Option AS) (c : Code) (K0 : Kont R) : Nat → Nat → AS → Option R
 | 0 => fun _ _ => none
 | n + 1 => fun id s => match lk (ctxs X (lpc cn (ans X cn c K0 n)) c K0) id with
  | some (a, K) => ev X (lpc cn (ans X cn c K0 n)) a (loopK (lpc cn (ans X cn c K0 n)) id K) s
  | none => none
theorem ctx2_ids {lp : Nat → AS → Option R} {P : Program} {I : Nat → Nat → Act → World → Prop} {β : Nat → Nat} : ∀ (c : Code) (K : Kont R) (Q : Post), (ctx2 X lp P I β c K Q).map (·.1) = loopIds c
 | .skip, _, _ | .label _, _, _ | .exit _, _, _ | .ret, _, _ | .goto _, _, _ | .refuse _, _, _ | .scope _, _, _ | .rangeFunc .., _, _ | .region .., _, _ => rfl
 | .seq a b, K, Q => by simp only [ctx2, List.map_append, ctx2_ids a, ctx2_ids b, loopIds]
 | .cond _ a b, K, Q => by simp only [ctx2, List.map_append, ctx2_ids a, ctx2_ids b, loopIds]
 | .block _ a, K, Q => by simp only [ctx2, ctx2_ids a, loopIds]
 | .loop a, K, Q => by simp only [ctx2, List.map_cons, ctx2_ids a, loopIds]
theorem ctx2_ctxs {lp : Nat → AS → Option R} {P : Program} {I : Nat → Nat → Act → World → Prop} {β : Nat → Nat} : ∀ (c : Code) (K : Kont R) (Q : Post), (ctx2 X lp P I β c K Q).map (fun x => (x.1, x.2.1, x.2.2.1)) = ctxs X lp c K
 | .skip, _, _ | .label _, _, _ | .exit _, _, _ | .ret, _, _ | .goto _, _, _ | .refuse _, _, _ | .scope _, _, _ | .rangeFunc .., _, _ | .region .., _, _ => rfl
 | .seq a b, K, Q => by simp only [ctx2, List.map_append, ctx2_ctxs a, ctx2_ctxs b, ctxs]
 | .cond _ a b, K, Q => by simp only [ctx2, List.map_append, ctx2_ctxs a, ctx2_ctxs b, ctxs]
 | .block _ a, K, Q => by simp only [ctx2, ctx2_ctxs a, ctxs]
 | .loop a, K, Q => by simp only [ctx2, List.map_cons, ctx2_ctxs a, ctxs]
theorem ctx2_change {lp lp' : Nat → AS → Option R} {P : Program} {I : Nat → Nat → Act → World → Prop} {β β' : Nat → Nat} : ∀ (c : Code) (K K' : Kont R) (Q : Post), (loopIds c).Nodup → ∀ x ∈ ctx2 X lp P I β c K Q, (∀ j, j ≠ x.1 → β' j = β j) → ∃ K2, (x.1, x.2.1, K2, x.2.2.2) ∈ ctx2 X lp' P I β' c K' Q
 | .skip, _, _, _, _, x, hx, _ | .label _, _, _, _, _, x, hx, _ | .exit _, _, _, _, _, x, hx, _ | .ret, _, _, _, _, x, hx, _ | .goto _, _, _, _, _, x, hx, _ | .refuse _, _, _, _, _, x, hx, _ | .scope _, _, _, _, _, x, hx, _ | .rangeFunc .., _, _, _, _, x, hx, _ | .region .., _, _, _, _, x, hx, _ => by cases hx
 | .seq a b, K, K', Q, hn, x, hx, hβ => by
  simp only [loopIds, List.nodup_append] at hn
  rcases List.mem_append.1 hx with hx | hx
  ·obtain ⟨K2, h⟩ := ctx2_change a _ (seqK X lp' b K') _ hn.1 x hx hβ
   exact ⟨K2, List.mem_append_left _ h⟩
  ·obtain ⟨K2, h⟩ := ctx2_change b _ K' _ hn.2.1 x hx hβ
   exact ⟨K2, List.mem_append_right _ h⟩
 | .cond _ a b, K, K', Q, hn, x, hx, hβ => by
  simp only [loopIds, List.nodup_append] at hn
  rcases List.mem_append.1 hx with hx | hx
  ·obtain ⟨K2, h⟩ := ctx2_change a _ K' _ hn.1 x hx hβ
   exact ⟨K2, List.mem_append_left _ h⟩
  ·obtain ⟨K2, h⟩ := ctx2_change b _ K' _ hn.2.1 x hx hβ
   exact ⟨K2, List.mem_append_right _ h⟩
 | .block id a, K, K', Q, hn, x, hx, hβ => ctx2_change a _ (blockK id K') _ hn x hx hβ
 | .loop a, K, K', Q, hn, x, hx, hβ => by
  simp only [loopIds, List.nodup_cons] at hn
  rcases List.mem_cons.1 hx with rfl | hx
  ·exact ⟨K', by simp [ctx2]⟩
  ·have hne : headId a ≠ x.1 := by
    intro e
    apply hn.1
    rw [e, ← ctx2_ids (X := X) (lp := lp) (P := P) (I := I) (β := β) a (loopK lp (headId a) K) (Exit.then (fun a' w' => ∃ m, m < β (headId a) ∧ I (headId a) m a' w') Q)]
    exact List.mem_map_of_mem hx
   obtain ⟨K2, h⟩ := ctx2_change a _ (loopK lp' (headId a) K') _ hn.2 x hx hβ
   refine ⟨K2, List.mem_cons_of_mem _ ?_⟩
   rw [hβ _ hne]
   exact h
theorem ctx2_sub {lp : Nat → AS → Option R} {P : Program} {I : Nat → Nat → Act → World → Prop} {β : Nat → Nat} : ∀ (c : Code) (K : Kont R) (Q : Post), ∀ x ∈ ctx2 X lp P I β c K Q, (x.1 = headId x.2.1) ∧ (∀ N, slotsOk N c = true → slotsOk N x.2.1 = true) ∧ ∀ y ∈ ctx2 X lp P I β x.2.1 (loopK lp x.1 x.2.2.1) (Exit.then (fun a' w' => ∃ m, m < β x.1 ∧ I x.1 m a' w') x.2.2.2), y ∈ ctx2 X lp P I β c K Q
 | .skip, _, _, x, hx | .label _, _, _, x, hx | .exit _, _, _, x, hx | .ret, _, _, x, hx | .goto _, _, _, x, hx | .refuse _, _, _, x, hx | .scope _, _, _, x, hx | .rangeFunc .., _, _, x, hx | .region .., _, _, x, hx => by cases hx
 | .seq a b, K, Q, x, hx => by
  rcases List.mem_append.1 hx with hx | hx
  ·obtain ⟨h1, h2, h3⟩ := ctx2_sub a _ _ x hx
   refine ⟨h1, fun N h => h2 N ?_, fun y hy => List.mem_append_left _ (h3 y hy)⟩
   simp only [slotsOk, Bool.and_eq_true] at h; exact h.1
  ·obtain ⟨h1, h2, h3⟩ := ctx2_sub b _ _ x hx
   refine ⟨h1, fun N h => h2 N ?_, fun y hy => List.mem_append_right _ (h3 y hy)⟩
   simp only [slotsOk, Bool.and_eq_true] at h; exact h.2
 | .cond _ a b, K, Q, x, hx => by
  rcases List.mem_append.1 hx with hx | hx
  ·obtain ⟨h1, h2, h3⟩ := ctx2_sub a _ _ x hx
   refine ⟨h1, fun N h => h2 N ?_, fun y hy => List.mem_append_left _ (h3 y hy)⟩
   simp only [slotsOk, Bool.and_eq_true] at h; exact h.1
  ·obtain ⟨h1, h2, h3⟩ := ctx2_sub b _ _ x hx
   refine ⟨h1, fun N h => h2 N ?_, fun y hy => List.mem_append_right _ (h3 y hy)⟩
   simp only [slotsOk, Bool.and_eq_true] at h; exact h.2
 | .block id a, K, Q, x, hx => ctx2_sub a _ _ x hx
 | .loop a, K, Q, x, hx => by
  rcases List.mem_cons.1 hx with rfl | hx
  ·exact ⟨rfl, fun N h => h, fun y hy => List.mem_cons_of_mem _ hy⟩
  ·obtain ⟨h1, h2, h3⟩ := ctx2_sub a _ _ x hx
   exact ⟨h1, h2, fun y hy => List.mem_cons_of_mem _ (h3 y hy)⟩
theorem lk_nodup {α : Type} : ∀ (l : List (Nat × α)), (l.map (·.1)).Nodup → ∀ i x, (i, x) ∈ l → lk l i = some x
 | [], _, i, x, h => by cases h
 | (j, y) :: l, hn, i, x, h => by
  simp only [List.map_cons, List.nodup_cons] at hn
  simp only [lk]
  rcases List.mem_cons.1 h with h | h
  ·cases h
   simp
  ·have : i ≠ j := fun e => hn.1 (by rw [← e]; exact List.mem_map_of_mem (f := (·.1)) h)
   rw [beqF this]
   exact lk_nodup l hn.2 i x h
def CnOK (W : SW) (cn : Nat → AS → Option AS) : Prop := ∀ id s s' σ a w, cn id s = some s' → St W s σ a w → ∃ σ', St W s' σ' a w
theorem loops_ok (hX : CtxW W X) {cn : Nat → AS → Option AS} (hcn : CnOK W cn) {c : Code} {K0 : Kont R} {Q0 : Post} (hd : slotsOk W.N c = true) (hn : (loopIds c).Nodup) (hl : LeafOK W r K0 Q0) :
  let I : Nat → Nat → Act → World → Prop := fun id m a w => ∃ s σ, ans X cn c K0 m id s = some r ∧ St W s σ a w
  ∀ (n : Nat) (β : Nat → Nat), (∀ id, n < β id) → ∀ lp, ∀ x ∈ ctx2 X lp W.P I β c K0 Q0, ∀ a w, I x.1 n a w → (Code.loop x.2.1).wp W.P x.2.2.2 a w := by
 intro I n
 induction n using Nat.strongRecOn with
 | _ n ih =>
  intro β hβ lp x hx a w hI
  refine wp_loop_ghost (fun k a w => k ≤ n ∧ I x.1 k a w) n ⟨Nat.le_refl _, hI⟩ ?_
  rintro k a w ⟨hk, s, σ, hs, hst⟩
  cases k with
  | zero => cases hs
  | succ k =>
   let A := ans X cn c K0 k
   let lpk := lpc cn A
   let β' : Nat → Nat := fun j => if j = x.1 then k + 1 else β j
   have hβ' : ∀ id, k < β' id := fun id => by
    show k < if id = x.1 then k + 1 else β id
    split
    ·omega
    ·have := hβ id; omega
   have hback : ∀ id s σ a w, lpk id s = some r → St W s σ a w → ∃ m, m < β' id ∧ I id m a w := by
    intro id s σ a w h hs
    show ∃ m, _
    have h' : (match cn id s with | some s' => A id s' | none => none) = some r := h
    cases hc : cn id s with
    | none => rw [hc] at h'; cases h'
    | some s' =>
     rw [hc] at h'
     obtain ⟨σ', hs'⟩ := hcn id s s' σ a w hc hs
     exact ⟨k, hβ' id, s', σ', h', hs'⟩
   have hfwd : ∀ y ∈ ctx2 X lpk W.P I β' c K0 Q0, ∀ s σ a w, lpk y.1 s = some r → St W s σ a w → (Code.loop y.2.1).wp W.P y.2.2.2 a w := by
    intro y hy s σ a w h hs
    have h' : (match cn y.1 s with | some s' => A y.1 s' | none => none) = some r := h
    cases hc : cn y.1 s with
    | none => rw [hc] at h'; cases h'
    | some s' =>
     rw [hc] at h'
     obtain ⟨σ', hs'⟩ := hcn _ s s' σ a w hc hs
     exact ih k (by omega) β' hβ' lpk y hy a w ⟨s', σ', h', hs'⟩
   obtain ⟨K2, hx2⟩ := ctx2_change (lp' := lpk) (β' := β') c K0 K0 Q0 hn x hx (fun j hj => if_neg hj)
   obtain ⟨_, hleaf⟩ := ev_ok hX hback c K0 Q0 hd hl hfwd
   have hxl := hleaf _ hx2
   have hlk : lk (ctxs X lpk c K0) x.1 = some (x.2.1, K2) := by
    apply lk_nodup
    ·have e1 := ctx2_ctxs (X := X) (lp := lpk) (P := W.P) (I := I) (β := β') c K0 Q0
     rw [← e1, List.map_map]
     have e2 := ctx2_ids (X := X) (lp := lpk) (P := W.P) (I := I) (β := β') c K0 Q0
     rw [← e2] at hn
     exact hn
    ·rw [← ctx2_ctxs (X := X) (lp := lpk) (P := W.P) (I := I) (β := β') c K0 Q0]
     exact List.mem_map.2 ⟨_, hx2, rfl⟩
   have hev : ev X lpk x.2.1 (loopK lpk x.1 K2) s = some r := by
    have h' : (match lk (ctxs X lpk c K0) x.1 with | some (a, K) => ev X lpk a (loopK lpk x.1 K) s | none => none) = some r := hs
    rw [hlk] at h'
    exact h'
   obtain ⟨_, hsl, hsub⟩ := ctx2_sub c K0 Q0 _ hx2
   have hl' : LeafOK W r (loopK lpk x.1 K2) (Exit.then (fun a' w' => ∃ m, m < β' x.1 ∧ I x.1 m a' w') x.2.2.2) := by
    intro e s σ a w h hs
    cases e with
    | n => exact hback x.1 s σ a w h hs
    | x i => exact hxl (.x i) s σ a w h hs
    | r => exact hxl .r s σ a w h hs
   obtain ⟨hw, _⟩ := ev_ok hX hback x.2.1 (loopK lpk x.1 K2) _ (hsl _ hd) hl' (fun y hy => hfwd y (hsub y hy))
   refine wp_mono (hw s σ a w hev hst) fun e a' w' hq => ?_
   cases e with
   | normal =>
    obtain ⟨m, h1, h2⟩ := hq
    have h1' : m < if x.1 = x.1 then k + 1 else β x.1 := h1
    rw [if_pos rfl] at h1'
    exact ⟨m, h1', by omega, h2⟩
   | exit id => exact hq
   | goto l => exact hq
   | ret => exact hq
   | panic ch => exact hq
   | outgrown => exact hq
end
end Go.RR
