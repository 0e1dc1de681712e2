/- Numbers in decimal: what the program reads and what the reference reads. -/
import Derived.Test.YtbmaolhjplapoaaDoorVc
import Derived.Test.YtbmaolhjplapoaaDoorRy
import Derived.Lib.ParseIntBTie
set_option linter.unusedVariables false
set_option linter.unusedSimpArgs false
namespace Go.RR
open Go

/-- The digits of a number of three digits at most. -/
def dl (n : Nat) : List UInt8 := if n < 10 then [UInt8.ofNat (48 + n)] else if n < 100 then [UInt8.ofNat (48 + n / 10), UInt8.ofNat (48 + n % 10)] else [UInt8.ofNat (48 + n / 100), UInt8.ofNat (48 + n / 10 % 10), UInt8.ofNat (48 + n % 10)]
theorem dl_eq {n : Nat} (h : n < 1000) : Lib.decDigits n = dl n := by
  have one : ∀ m, m < 10 → Lib.decDigits m = [UInt8.ofNat (48 + m)] := fun m hm => by rw [Lib.decDigits, dif_pos hm]
  have step : ∀ m, ¬ m < 10 → Lib.decDigits m = Lib.decDigits (m / 10) ++ [UInt8.ofNat (48 + m % 10)] := fun m hm => by rw [Lib.decDigits, dif_neg hm]
  unfold dl
  by_cases h1 : n < 10
  · rw [if_pos h1, one n h1]
  · rw [if_neg h1, step n h1]
    by_cases h2 : n < 100
    · rw [if_pos h2, one _ (by omega)]; rfl
    · rw [if_neg h2, step _ (by omega), one _ (by omega), show n / 10 / 10 = n / 100 by omega]; rfl
theorem parse_all : ∀ n : Fin 1000, Lib.parseIntB 64 (dl n.1) = .ok (n.1 : Int) := by decide +kernel
theorem parse_dl {n : Nat} (h : n < 1000) : Lib.parseIntB 64 (dl n) = .ok (n : Int) := parse_all ⟨n, h⟩
theorem itoa_nat {n : Nat} (h : n < 1000) : Lib.itoa (n : Int) = dl n := by
  unfold Lib.itoa
  rw [if_neg (by omega), Int.toNat_natCast, dl_eq h]
/-- A word that is a width. -/
def IsWid (s : ByteArray) (lo hi n : Nat) : Prop := lo ≤ n ∧ n ≤ hi ∧ s.data.toList = dl n
theorem read_yes {s : ByteArray} {lo hi n : Nat} (hs : s.size ≤ 2000000) (hh : hi < 1000) (h : IsWid s lo hi n) : s_ireadDecimal s (lo : Int) (hi : Int) = some ((n : Int), true) := by
  obtain ⟨h1, h2, h3⟩ := h
  unfold s_ireadDecimal
  rw [show Nat.ble s.size 281474976710656 = true by rw [Nat.ble_eq]; omega, cond_true, h3, parse_dl (by omega)]
  dsimp only
  rw [decide_eq_true (show -9223372036854775808 ≤ (n : Int) by omega), decide_eq_true (show (n : Int) ≤ 9223372036854775807 by omega)]
  have : readB s (n : Int) (lo : Int) (hi : Int) = true := by
    unfold readB
    rw [itoa_nat (by omega), Lib.toList_data, h3, decide_eq_true rfl, decide_eq_true (show (lo : Int) ≤ n by omega), decide_eq_true (show (n : Int) ≤ hi by omega)]; rfl
  rw [this]; rfl
theorem read_no {s : ByteArray} {lo hi : Nat} (hs : s.size ≤ 2000000) (hh : hi < 1000) (h : ∀ n, ¬ IsWid s lo hi n) : ∃ v, s_ireadDecimal s (lo : Int) (hi : Int) = some (v, false) := by
  unfold s_ireadDecimal
  rw [show Nat.ble s.size 281474976710656 = true by rw [Nat.ble_eq]; omega, cond_true]
  cases hp : Lib.parseIntB 64 s.data.toList with
  | range => exact ⟨_, rfl⟩
  | ok v =>
    dsimp only
    have hb := Lib.parseIntB_bounds hp
    have e : ((2 ^ (64 - 1) : Nat) : Int) = 9223372036854775808 := by decide
    rw [e] at hb
    rw [decide_eq_true (show -9223372036854775808 ≤ v by omega), decide_eq_true (show v ≤ 9223372036854775807 by omega)]
    have : readB s v (lo : Int) (hi : Int) = false := by
      unfold readB
      by_cases h1 : (lo : Int) ≤ v ∧ v ≤ (hi : Int)
      · have hv : v = ((v.toNat : Nat) : Int) := (Int.toNat_of_nonneg (by omega)).symm
        by_cases h2 : Lib.itoa v = s.toList
        · exfalso
          refine h v.toNat ⟨by omega, by omega, ?_⟩
          rw [hv, itoa_nat (by omega), Lib.toList_data] at h2
          exact h2.symm
        · rw [decide_eq_false h2]; rfl
      · by_cases h3 : (lo : Int) ≤ v
        · rw [decide_eq_false (show ¬ v ≤ (hi : Int) by omega)]; simp
        · rw [decide_eq_false h3]; simp
    rw [this]; exact ⟨_, rfl⟩
  | _ => exact ⟨_, rfl⟩
end Go.RR
