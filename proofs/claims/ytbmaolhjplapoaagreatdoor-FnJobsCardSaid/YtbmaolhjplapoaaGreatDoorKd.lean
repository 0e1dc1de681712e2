/- What readDecimal answers: a walk with the contracts of ParseInt and FormatInt. -/
import Derived.Test.YtbmaolhjplapoaaGreatDoorTb
import Derived.Test.YtbmaolhjplapoaaGreatDoorSh
import Derived.WalkKit
import Derived.ProofKit
import Derived.Lib.AtoiErrMem
set_option linter.unusedVariables false
set_option linter.unusedSimpArgs false
namespace Go.RR
open Go Go.Proofs Go.RowKit
theorem decimal_walk (n : Int) (h0 : -9223372036854775808 ≤ n) (h1 : n ≤ 9223372036854775807) (w : World) (hJ : JJ Tryz.prog w) :
  Calls Tryz.prog 74 #[.int .i64 n] w fun e w' => e = .returned (.string ⟨(Lib.itoa n).toArray⟩) ∧ ∃ k os, w' = Sort.grow (w.drewN k) os := by
 have hF := Tryz.strconv_FormatInt_10 n h0 h1 w hJ.1
 go_enter Tryz.func74, Tryz.ntmps74
 go_wp2_with (go_at_call 157; refine hF.mono ?_; rintro e w' ⟨rfl, k, os, rfl⟩)
 go_ret
 exact ⟨rfl, k, os, rfl⟩
theorem readDecimal_bad (s : ByteArray) (lo hi : Int) (w : World) (hJ : JJ Tryz.prog w) (hlim : s.size ≤ 281474976710656) (h1 : ∀ v, Lib.parseIntB 64 s.data.toList ≠ .ok v) (h2 : Lib.parseIntB 64 s.data.toList ≠ .range) :
  Calls Tryz.prog 73 #[.string s, .int .i64 lo, .int .i64 hi] w fun e w' => e = .returned (.tuple #[.int .i64 0, .bool false]) ∧ Below w.heap.size w w' := by
 obtain ⟨_, ⟨tp, p, hv⟩, _, _⟩ := hJ
 have hP := Any.strconv_ParseInt_10_at64_syntax_var Tryz.laysC174 s hlim (by
  cases hq : Lib.parseIntB 64 s.data.toList with
  | ok v => exact absurd hq (h1 v)
  | range => exact absurd hq h2
  | _ => rfl) tp p w hv
 go_enter Tryz.func73, Tryz.ntmps73
 go_wp2_with (first | (go_at_call 156; refine hP.mono ?_; rintro e w' ⟨N, rfl, hN, hc, hb⟩) | go_in)
 go_ret2
 exact ⟨rfl, hb⟩
theorem readDecimal_far (s : ByteArray) (lo hi : Int) (w : World) (hJ : JJ Tryz.prog w) (hlim : s.size ≤ 281474976710656) (h : Lib.parseIntB 64 s.data.toList = .range) :
  Calls Tryz.prog 73 #[.string s, .int .i64 lo, .int .i64 hi] w fun e w' => e = .returned (.tuple #[.int .i64 (Lib.intSat 64 s.data.toList), .bool false]) ∧ Below w.heap.size w w' := by
 obtain ⟨_, _, ⟨tp, p, hv⟩, _⟩ := hJ
 have hP := Tryz.strconv_ParseInt_10_at64_range_var s hlim h tp p w hv
 go_enter Tryz.func73, Tryz.ntmps73
 go_wp2_with (first | (go_at_call 156; refine hP.mono ?_; rintro e w' ⟨N, rfl, hN, hc, hb⟩) | go_in)
 go_ret2
 exact ⟨rfl, hb⟩
theorem within_walk (n lo hi : Int) (w : World) : Calls Tryz.prog 84 #[.int .i64 n, .int .i64 lo, .int .i64 hi] w fun e w' => e = .returned (.bool (decide (lo ≤ n) && decide (n ≤ hi))) ∧ w' = w := by
 go_enter Tryz.func84, Tryz.ntmps84
 by_cases h1 : lo ≤ n
 ·have d1 : decide (lo ≤ n) = true := decide_eq_true h1
  go_wp2
  go_ret
  exact ⟨by simp [d1], rfl⟩
 ·have d1 : decide (lo ≤ n) = false := decide_eq_false h1
  go_wp2
  go_ret
  exact ⟨by simp [d1], rfl⟩
theorem JJ_below {P : Program} {w w' : World} (h : JJ P w) (hb : Below w.heap.size w w') : JJ P w' :=
 JJ_keep h hb.size fun g hg => hb.block g (JJ_lt h hg)
theorem parse_ok (s : ByteArray) (hmax : s.size ≤ 281474976710656) (v : Int) (h : Lib.parseIntB 64 s.data.toList = .ok v) (w : World) :
  Calls Tryz.prog 156 #[.string s, .int .i64 10, .int .i64 64] w fun e w' => e = .returned (.tuple #[.int .i64 v, .nilIface]) ∧ Below w.heap.size w w' := by
 refine (Tryz.strconv_ParseInt_10_at64_ok s (by omega) v h w).mono ?_
 rintro e w' ⟨rfl, rfl | ⟨t, rfl⟩⟩
 ·exact ⟨rfl, Below.refl _ _⟩
 ·exact ⟨rfl, Lib.bytesWorld_below _ _ _⟩
theorem decimal_below (n : Int) (h0 : -9223372036854775808 ≤ n) (h1 : n ≤ 9223372036854775807) (w : World) (hJ : JJ Tryz.prog w) :
  Calls Tryz.prog 74 #[.int .i64 n] w fun e w' => e = .returned (.string ⟨(Lib.itoa n).toArray⟩) ∧ Below w.heap.size w w' :=
 (decimal_walk n h0 h1 w hJ).mono fun e w' ⟨h2, k, os, h3⟩ => ⟨h2, by rw [h3]; exact Lib.below_grow _ w (Nat.le_refl _) k os⟩
def readB (s : ByteArray) (v lo hi : Int) : Bool := decide (Lib.itoa v = s.toList) && (decide (lo ≤ v) && decide (v ≤ hi))
theorem readDecimal_ok (s : ByteArray) (lo hi : Int) (w : World) (hJ : JJ Tryz.prog w) (hlim : s.size ≤ 281474976710656) (v : Int) (h : Lib.parseIntB 64 s.data.toList = .ok v) (h0 : -9223372036854775808 ≤ v) (h1 : v ≤ 9223372036854775807) :
  Calls Tryz.prog 73 #[.string s, .int .i64 lo, .int .i64 hi] w fun e w' => e = .returned (.tuple #[.int .i64 v, .bool (readB s v lo hi)]) ∧ Below w.heap.size w w' := by
 have hP := parse_ok s hlim v h w
 go_enter Tryz.func73, Tryz.ntmps73
 go_wp2_with (first
  | (go_at_call 156; refine hP.mono ?_; rintro e w1 ⟨rfl, hb1⟩)
  | (go_at_call 74; refine (decimal_below v h0 h1 _ (JJ_below hJ hb1)).mono ?_; rintro e w2 ⟨rfl, hb2⟩)
  | (go_at_call 84; refine (within_walk v lo hi _).mono ?_; rintro e w3 ⟨rfl, rfl⟩))
 ·go_ret2
  rename_i hq
  exact ⟨by simp [readB, hq], hb1.trans (hb2.mono hb1.size)⟩
 ·go_ret2
  rename_i hq
  exact ⟨by simp [readB, hq], hb1.trans (hb2.mono hb1.size)⟩
end Go.RR
