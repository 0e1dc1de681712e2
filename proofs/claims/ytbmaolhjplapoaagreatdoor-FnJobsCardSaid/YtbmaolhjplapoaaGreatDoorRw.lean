/- Plain Lean that the closed forms use. No condition. -/
import Derived.Test.YtbmaolhjplapoaaGreatDoorRo
import Derived.IntWalk
set_option linter.unusedVariables false
set_option linter.unusedSimpArgs false
namespace Go.RR
open Go
def allN (p : Nat → Bool) : Nat → Nat → Bool
 | _, 0 => true
 | i, k + 1 => p i && allN p (i + 1) k
theorem allN_congr {p q : Nat → Bool} : ∀ (k i : Nat), (∀ j, i ≤ j → j < i + k → p j = q j) → allN p i k = allN q i k
 | 0, i, h => rfl
 | k + 1, i, h => by
  simp only [allN, h i (Nat.le_refl i) (by omega), allN_congr k (i + 1) fun j h1 h2 => h j (by omega) (by omega)]
theorem blt_true {a b : Nat} (h : a < b) : Nat.blt a b = true := Nat.ble_eq_true_of_le h
theorem inB_nat {i n : Nat} (h : i < n) : inB (i : Int) n = true := by
 unfold inB
 simp; omega
theorem succ64 {i : Nat} (h : i < 1000000000) : IntKind.wrap .i64 ((i : Int) + 1) = ((i + 1 : Nat) : Int) := by
 rw [IntWalk.i64_in _ (by omega)]; omega
theorem lt_true {i n : Nat} (h : i < n) : decide ((i : Int) < (n : Int)) = true := by simp; exact h
theorem toNat_nat (i : Nat) : Int.toNat (i : Int) = i := rfl
end Go.RR
namespace Go.RR
open Go
def goesOn {σ ρ : Type} (G : σ → Prop) (E : ρ → Prop) : σ ⊕ ρ → Prop
 | .inl s => G s
 | .inr r => E r
section
variable {α σ ρ : Type}
end
theorem fits_small {n : Nat} (h : n ≤ 140737488355328) : fits n = true := Nat.ble_eq_true_of_le h
theorem inB_of {x : Int} {n : Nat} (h : 0 ≤ x ∧ x < (n : Int)) : inB x n = true := by
 unfold inB; simp [h.1, h.2]
theorem lt_neg (n : Nat) : decide ((n : Int) < (n : Int)) = false := by simp
end Go.RR
namespace Go.RR
open Go Go.RowKit
def iter {σ ρ : Type} (step : σ → Option (σ ⊕ ρ)) : Nat → σ → Option ρ
 | 0, _ => none
 | k + 1, s => match step s with
  | none => none
  | some (.inl s') => iter step k s'
  | some (.inr r) => some r
theorem exists_FU : ∃ n : Nat, ∀ m : Nat, m ≤ 2 ^ 100 → m < n := ⟨2 ^ 100 + 1, fun m h => Nat.lt_succ_of_le h⟩
noncomputable def FU : Nat := Classical.choose exists_FU
theorem FU_big {m : Nat} (h : m ≤ 2 ^ 100) : m < FU := Classical.choose_spec exists_FU m h
def sem {β : Type} (S : β → Prop) (o : Option β) : Prop := ∃ y, o = some y ∧ S y
section
variable {β γ σ ρ : Type} {S : β → Prop}
theorem sem_none {g : Prop} (h : sem S none) : g := by obtain ⟨y, e, _⟩ := h; cases e
theorem sem_some {y : β} (h : sem S (some y)) : S y := by obtain ⟨y', e, hy⟩ := h; cases e; exact hy
theorem sem_got {y : β} {g : Prop} (h : sem S (some y)) (k : S y → g) : g := k (sem_some h)
theorem sem_map {f : γ → β} {o : Option γ} (h : sem S (o.map f)) : sem (fun x => S (f x)) o := by
 cases o with
 | none => exact sem_none h
 | some x => exact ⟨x, rfl, sem_some h⟩
theorem sem_mapk {f : γ → β} {o : Option γ} {S' : γ → Prop} (h : sem S (o.map f)) (k : ∀ y, S (f y) → S' y) : sem S' o := by
 obtain ⟨y, e, hy⟩ := sem_map h
 exact ⟨y, e, k y hy⟩
theorem sem_cond {c : Bool} {x y : Option β} {g : Type} {X Y : g} {r : g} (h : sem S (cond c x y)) (hx : sem S x → X = r) (hy : sem S y → Y = r) : cond c X Y = r := by
 cases c
 ·exact hy h
 ·exact hx h
theorem sem_bind {m : Option γ} {f : γ → Option β} {g : Type} {F : γ → Option g} {r : g} (h : sem S (Option.bind m f)) (hf : ∀ v, sem S (f v) → F v = some r) : Option.bind m F = some r := by
 cases m with
 | none => exact sem_none h
 | some v => exact hf v h
theorem sem_bind2 {γ δ : Type} {m : Option (γ ⊕ δ)} {f : γ → Option β} {f' : δ → Option β} {g : Type} {F : γ → Option g} {F' : δ → Option g} {r : g} (h : sem S (bind2 m f f')) (hf : ∀ v, sem S (f v) → F v = some r) (hf' : ∀ v, sem S (f' v) → F' v = some r) : bind2 m F F' = some r := by
 cases m with
 | none => obtain ⟨y, e, _⟩ := h; cases e
 | some v =>
  cases v with
  | inl v => exact hf v h
  | inr v => exact hf' v h
def Leads {δ g : Type} (S : β → Prop) (r : g) (E : δ → Option β) (E' : δ → Option g) : Prop := ∀ v, sem S (E v) → E' v = some r
theorem sem_condK {c : Bool} {x y : Option β} {g : Type} {X Y : g} {r : g} (hx : sem S x → X = r) (hy : sem S y → Y = r) : sem S (cond c x y) → cond c X Y = r := fun h => sem_cond h hx hy
theorem sem_bindK {m : Option γ} {f : γ → Option β} {g : Type} {F : γ → Option g} {r : g} (hf : ∀ v, sem S (f v) → F v = some r) : sem S (Option.bind m f) → Option.bind m F = some r := fun h => sem_bind h hf
theorem sem_noneK {g : Prop} : sem S none → g := sem_none
theorem sem_bind2K {γ δ : Type} {m : Option (γ ⊕ δ)} {f : γ → Option β} {f' : δ → Option β} {g : Type} {F : γ → Option g} {F' : δ → Option g} {r : g} (hf : ∀ v, sem S (f v) → F v = some r) (hf' : ∀ v, sem S (f' v) → F' v = some r) : sem S (bind2 m f f') → bind2 m F F' = some r := fun h => sem_bind2 h hf hf'
theorem some_eq {g : Type} {x r : g} (h : r = x) : some x = some r := by rw [h]
theorem iter_sound {step : σ → Option (σ ⊕ ρ)} {G : σ → Prop} {E : ρ → Prop} (hs : ∀ x, sem (goesOn G E) (step x) → G x) : ∀ (k : Nat) (x : σ), sem E (iter step k x) → G x
 | 0, x, h => sem_none h
 | k + 1, x, h => by
  refine hs x ?_
  unfold iter at h
  split at h
  ·exact sem_none h
  ·rename_i s' e
   exact ⟨_, e, iter_sound hs k s' h⟩
  ·rename_i r e
   exact ⟨_, e, show E r from sem_some h⟩
theorem iter_count {τ : Type} (step : σ → Option (σ ⊕ ρ)) (N : Nat) (emb : Nat → τ → σ) (g : τ → Nat → τ) (x : ρ) (hs : ∀ i st, i < N → step (emb i st) = some (.inl (emb (i + 1) (g st i)))) :
  ∀ (k i m : Nat), i + k = N → k < m → ∀ st, step (emb N ((List.range' i k).foldl g st)) = some (.inr x) → iter step m (emb i st) = some x
 | 0, i, m + 1, h, hm, st, e => by
  obtain rfl : i = N := h
  unfold iter
  rw [show step (emb i st) = some (.inr x) from e]
 | k + 1, i, m + 1, h, hm, st, e => by
  rw [List.range'_succ, List.foldl_cons] at e
  unfold iter
  rw [hs i st (by omega)]
  exact iter_count step N emb g x hs k (i + 1) m (by omega) (by omega) _ e
 | _, _, 0, _, hm, _, _ => by omega
theorem iter_countI {τ : Type} (step : σ → Option (σ ⊕ ρ)) (N : Nat) (emb : Nat → τ → σ) (g : τ → Nat → τ) (I : Nat → τ → Prop) (x : ρ) (hs : ∀ i st, i < N → I i st → step (emb i st) = some (.inl (emb (i + 1) (g st i))) ∧ I (i + 1) (g st i)) :
  ∀ (k i m : Nat), i + k = N → k < m → ∀ st, I i st → (I N ((List.range' i k).foldl g st) → step (emb N ((List.range' i k).foldl g st)) = some (.inr x)) → iter step m (emb i st) = some x
 | 0, i, m + 1, h, hm, st, hI, e => by
  obtain rfl : i = N := h
  unfold iter
  rw [show step (emb i st) = some (.inr x) from e hI]
 | k + 1, i, m + 1, h, hm, st, hI, e => by
  rw [List.range'_succ, List.foldl_cons] at e
  unfold iter
  rw [(hs i st (by omega) hI).1]
  exact iter_countI step N emb g I x hs k (i + 1) m (by omega) (by omega) _ (hs i st (by omega) hI).2 e
 | _, _, 0, _, hm, _, _, _ => by omega
end
end Go.RR
