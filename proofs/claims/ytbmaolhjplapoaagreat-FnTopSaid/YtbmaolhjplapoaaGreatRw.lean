/- Plain Lean that the closed forms use. No condition. -/
import Derived.Test.YtbmaolhjplapoaaGreatRo
import Derived.IntWalk
set_option linter.unusedVariables false
set_option linter.unusedSimpArgs false
namespace Go.RR
open Go
def zbW (p : Nat → Bool) : Nat → Nat → Bool
 | _, 0 => true
 | i, k + 1 => p i && zbW p (i + 1) k
theorem zjL {p q : Nat → Bool} : ∀ (k i : Nat), (∀ j, i ≤ j → j < i + k → p j = q j) → zbW p i k = zbW q i k
 | 0, i, h => rfl
 | k + 1, i, h => by
  simp only [zbW, h i (Nat.le_refl i) (by omega), zjL k (i + 1) fun j h1 h2 => h j (by omega) (by omega)]
theorem zg {i n : Nat} (h : i < n) : inB (i : Int) n = true := by
 unfold inB
 simp; omega
theorem zH {i : Nat} (h : i < 1000000000) : IntKind.wrap .i64 ((i : Int) + 1) = ((i + 1 : Nat) : Int) := by
 rw [IntWalk.i64_in _ (by omega)]; omega
theorem zD {i n : Nat} (h : i < n) : decide ((i : Int) < (n : Int)) = true := by simp; exact h
theorem zd (i : Nat) : Int.toNat (i : Int) = i := rfl
end Go.RR
namespace Go.RR
open Go
def exitL.{u, v, w} {α : Type u} {σ : Type v} {ρ : Type w} (step : σ → α → σ ⊕ ρ) : σ → List α → σ ⊕ ρ
 | s, [] => .inl s
 | s, x :: l => match step s x with
  | .inl s' => exitL step s' l
  | .inr r => .inr r
def Za {σ ρ : Type} (G : σ → Prop) (E : ρ → Prop) : σ ⊕ ρ → Prop
 | .inl s => G s
 | .inr r => E r
section
variable {α σ ρ : Type}
theorem zke {f g : σ → α → σ} : ∀ (l : List α) (s : σ), (∀ x, x ∈ l → ∀ s, f s x = g s x) → l.foldl f s = l.foldl g s
 | [], s, h => rfl
 | x :: l, s, h => by
  rw [List.foldl_cons, List.foldl_cons, h x (by simp) s]
  exact zke l _ fun y hy => h y (by simp [hy])
end
theorem zG {n : Nat} (h : n ≤ 140737488355328) : zW n = true := Nat.ble_eq_true_of_le h
theorem zQE {x : Int} {n : Nat} (h : 0 ≤ x ∧ x < (n : Int)) : inB x n = true := by
 unfold inB; simp [h.1, h.2]
theorem zS (n : Nat) : decide ((n : Int) < (n : Int)) = false := by simp
end Go.RR
namespace Go.RR
open Go Go.RowKit
def zI {σ ρ : Type} (step : σ → Option (σ ⊕ ρ)) : Nat → σ → Option ρ
 | 0, _ => none
 | k + 1, s => match step s with
  | none => none
  | some (.inl s') => zI step k s'
  | some (.inr r) => some r
theorem zpF : ∃ n : Nat, ∀ m : Nat, m ≤ 2 ^ 100 → m < n := ⟨2 ^ 100 + 1, fun m h => Nat.lt_succ_of_le h⟩
noncomputable def FU : Nat := Classical.choose zpF
theorem yC {m : Nat} (h : m ≤ 2 ^ 100) : m < FU := Classical.choose_spec zpF m h
def sem {β : Type} (S : β → Prop) (o : Option β) : Prop := ∃ y, o = some y ∧ S y
section
variable {β γ σ ρ : Type} {S : β → Prop}
theorem zf {g : Prop} (h : sem S none) : g := by obtain ⟨y, e, _⟩ := h; cases e
theorem zlB {y : β} (h : sem S (some y)) : S y := by obtain ⟨y', e, hy⟩ := h; cases e; exact hy
theorem zb {y : β} {g : Prop} (h : sem S (some y)) (k : S y → g) : g := k (zlB h)
theorem zTv {f : γ → β} {o : Option γ} (h : sem S (o.map f)) : sem (fun x => S (f x)) o := by
 cases o with
 | none => exact zf h
 | some x => exact ⟨x, rfl, zlB h⟩
theorem zeg {f : γ → β} {o : Option γ} {S' : γ → Prop} (h : sem S (o.map f)) (k : ∀ y, S (f y) → S' y) : sem S' o := by
 obtain ⟨y, e, hy⟩ := zTv h
 exact ⟨y, e, k y hy⟩
theorem za {c : Bool} {x y : Option β} {g : Type} {X Y : g} {r : g} (h : sem S (cond c x y)) (hx : sem S x → X = r) (hy : sem S y → Y = r) : cond c X Y = r := by
 cases c
 ·exact hy h
 ·exact hx h
theorem zT {m : Option γ} {f : γ → Option β} {g : Type} {F : γ → Option g} {r : g} (h : sem S (Option.bind m f)) (hf : ∀ v, sem S (f v) → F v = some r) : Option.bind m F = some r := by
 cases m with
 | none => exact zf h
 | some v => exact hf v h
theorem zKv {γ δ : Type} {m : Option (γ ⊕ δ)} {f : γ → Option β} {f' : δ → Option β} {g : Type} {F : γ → Option g} {F' : δ → Option g} {r : g} (h : sem S (yR m f f')) (hf : ∀ v, sem S (f v) → F v = some r) (hf' : ∀ v, sem S (f' v) → F' v = some r) : yR m F F' = some r := by
 cases m with
 | none => obtain ⟨y, e, _⟩ := h; cases e
 | some v =>
  cases v with
  | inl v => exact hf v h
  | inr v => exact hf' v h
def zJ {δ g : Type} (S : β → Prop) (r : g) (E : δ → Option β) (E' : δ → Option g) : Prop := ∀ v, sem S (E v) → E' v = some r
theorem zy {c : Bool} {x y : Option β} {g : Type} {X Y : g} {r : g} (hx : sem S x → X = r) (hy : sem S y → Y = r) : sem S (cond c x y) → cond c X Y = r := fun h => za h hx hy
theorem zA {m : Option γ} {f : γ → Option β} {g : Type} {F : γ → Option g} {r : g} (hf : ∀ v, sem S (f v) → F v = some r) : sem S (Option.bind m f) → Option.bind m F = some r := fun h => zT h hf
theorem zz {g : Prop} : sem S none → g := zf
theorem zp {γ δ : Type} {m : Option (γ ⊕ δ)} {f : γ → Option β} {f' : δ → Option β} {g : Type} {F : γ → Option g} {F' : δ → Option g} {r : g} (hf : ∀ v, sem S (f v) → F v = some r) (hf' : ∀ v, sem S (f' v) → F' v = some r) : sem S (yR m f f') → yR m F F' = some r := fun h => zKv h hf hf'
theorem zj {g : Type} {x r : g} (h : r = x) : some x = some r := by rw [h]
theorem zi {step : σ → Option (σ ⊕ ρ)} {G : σ → Prop} {E : ρ → Prop} (hs : ∀ x, sem (Za G E) (step x) → G x) : ∀ (k : Nat) (x : σ), sem E (zI step k x) → G x
 | 0, x, h => zf h
 | k + 1, x, h => by
  refine hs x ?_
  unfold zI at h
  split at h
  ·exact zf h
  ·rename_i s' e
   exact ⟨_, e, zi hs k s' h⟩
  ·rename_i r e
   exact ⟨_, e, show E r from zlB h⟩
theorem zcY {τ : Type} (step : σ → Option (σ ⊕ ρ)) (N : Nat) (emb : Nat → τ → σ) (g : τ → Nat → τ) (x : ρ) (hs : ∀ i st, i < N → step (emb i st) = some (.inl (emb (i + 1) (g st i)))) :
  ∀ (k i m : Nat), i + k = N → k < m → ∀ st, step (emb N ((List.range' i k).foldl g st)) = some (.inr x) → zI step m (emb i st) = some x
 | 0, i, m + 1, h, hm, st, e => by
  obtain rfl : i = N := h
  unfold zI
  rw [show step (emb i st) = some (.inr x) from e]
 | k + 1, i, m + 1, h, hm, st, e => by
  rw [List.range'_succ, List.foldl_cons] at e
  unfold zI
  rw [hs i st (by omega)]
  exact zcY step N emb g x hs k (i + 1) m (by omega) (by omega) _ e
 | _, _, 0, _, hm, _, _ => by omega
theorem zgQ {τ : Type} (step : σ → Option (σ ⊕ ρ)) (N : Nat) (emb : Nat → τ → σ) (g : τ → Nat → τ) (I : Nat → τ → Prop) (x : ρ) (hs : ∀ i st, i < N → I i st → step (emb i st) = some (.inl (emb (i + 1) (g st i))) ∧ I (i + 1) (g st i)) :
  ∀ (k i m : Nat), i + k = N → k < m → ∀ st, I i st → (I N ((List.range' i k).foldl g st) → step (emb N ((List.range' i k).foldl g st)) = some (.inr x)) → zI step m (emb i st) = some x
 | 0, i, m + 1, h, hm, st, hI, e => by
  obtain rfl : i = N := h
  unfold zI
  rw [show step (emb i st) = some (.inr x) from e hI]
 | k + 1, i, m + 1, h, hm, st, hI, e => by
  rw [List.range'_succ, List.foldl_cons] at e
  unfold zI
  rw [(hs i st (by omega) hI).1]
  exact zgQ step N emb g I x hs k (i + 1) m (by omega) (by omega) _ (hs i st (by omega) hI).2 e
 | _, _, 0, _, hm, _, _, _ => by omega
end
end Go.RR
