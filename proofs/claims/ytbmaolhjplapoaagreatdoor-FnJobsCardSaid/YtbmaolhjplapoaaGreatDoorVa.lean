/- Calls that are answered by contracts of the kit. -/
import Derived.Test.YtbmaolhjplapoaaGreatDoorTb
import Derived.Test.YtbmaolhjplapoaaGreatDoorRw
import Derived.Test.YtbmaolhjplapoaaGreatDoorSh
import Derived.Test.YtbmaolhjplapoaaGreatDoorKd
set_option linter.unusedVariables false
set_option linter.unusedSimpArgs false
set_option linter.unusedSectionVars false
set_option maxRecDepth 100000
namespace Go.RR
open Go Go.Proofs
def SoundAt (P : Program) (f : Nat) (rs : List A) (C : ACall) : Prop :=
 ∀ r, C.c = some r → ∀ w vs, JJ P w → ArgsV w rs vs → Calls P f vs.toArray w fun e w' => ∃ v, e = .returned v ∧ ResR w w' (C.res r) v ∧ RowKit.Below w.heap.size w w'
theorem sound_kit {P : Program} {f : Nat} {Φ : List A → ACall} (h : ∀ rs, SoundAt P f rs (Φ rs)) : Sound P f Φ := fun rs r e w vs hJ hv => h rs r e w vs hJ hv
theorem one_plain {w w' : World} {x v : Value} (h : ∀ H, WfA H (.v x)) (hv : v = x) : ResR w w' (.one (.v x)) v := by
 subst hv
 refine ⟨rfl, fun i a v h1 h2 => ?_, fun i j u v hij h1 h2 => ?_⟩
 ·cases i with
  | zero => cases h1; cases h2; exact ⟨h, rfl⟩
  | succ i => cases h1
 ·cases i with
  | succ i => cases h1
  | zero => cases j with
   | zero => exact absurd rfl hij
   | succ j => cases h2
theorem argv_int {w : World} {k : IntKind} {n : Int} {v : Value} (h : ArgV w (.v (.int k n)) v) : v = .int k n := (by simpa [ArgV, isAg, CellsR] using h : v = .int k n ∧ _).1
theorem argv_str {w : World} {z : ByteArray} {v : Value} (h : ArgV w (.v (.string z)) v) : v = .string z := (by simpa [ArgV, isAg, CellsR] using h : v = .string z ∧ _).1
theorem rows_strs {I : Inn} : ∀ {l : List ByteArray} {xs : List Value}, RowsC I (.one .s) l xs → xs = l.map Value.string
 | [], xs, h => h
 | x :: l, xs, h => by
  simp only [RowsC] at h
  obtain ⟨c1, c2, rfl, h1, h2⟩ := h
  have h1 : c1 = [.string x] := h1
  rw [h1, rows_strs h2]; rfl
theorem argv_strs {w : World} {l : List ByteArray} {v : Value} (h : ArgV w (.lst (.one .s) l) v) : ∃ ao cap, v = .slice ao l.length cap ∧ l.length ≤ cap ∧ (l ≠ [] → ∃ g o, ao = some ⟨g, o, none⟩ ∧ g < w.heap.size ∧ ∀ (j : Nat) x, l[j]? = some x → w.cell? ⟨g, o + j, none⟩ = some (.string x)) := by
 obtain ⟨xs, ao, cap, h1, h2, h3, h4⟩ := h
 have h3 := rows_strs h3
 subst h3
 refine ⟨ao, cap, (List.cons.inj h1).1, h2, fun hl => ?_⟩
 obtain ⟨g, o, h5, h6, h7⟩ := h4 hl
 refine ⟨g, o, h5, h6, fun j x hx => h7 j _ ?_⟩
 rw [List.getElem?_map, hx]; rfl
theorem two_plain {w w' : World} {x y v : Value} (h1 : ∀ H, WfA H (.v x)) (h2 : ∀ H, WfA H (.v y)) (hx : ownG x = none) (hv : v = .tuple #[x, y]) : ResR w w' (.tup [.v x, .v y]) v := by
 subst hv
 refine ⟨[x, y], rfl, rfl, fun i a v h3 h4 => ?_, fun i j u v hij h3 h4 k hk => ?_⟩
 ·match i with
  | 0 => cases h3; cases h4; exact ⟨h1, rfl⟩
  | 1 => cases h3; cases h4; exact ⟨h2, rfl⟩
  | i + 2 => cases h3
 ·match i, j with
  | 0, _ => cases h3; rw [hx] at hk; cases hk
  | 1, 0 => cases h4; rw [hx]; exact fun q => nomatch q
  | 1, 1 => exact absurd rfl hij
  | 1, j + 2 => cases h4
  | i + 2, _ => cases h3
noncomputable def s_q0n (a0 : ByteArray) (a1 a2 : Int) : Option (Int × Bool) := cond (Nat.ble a0.size 281474976710656) (match Lib.parseIntB 64 a0.data.toList with
 | .ok v => cond (decide (-9223372036854775808 ≤ v) && decide (v ≤ 9223372036854775807)) (some (v, readB a0 v a1 a2)) none
 | .range => some (Lib.intSat 64 a0.data.toList, false)
 | _ => some (0, false)) none
noncomputable def c_q0n : List A → ACall
 | [.v (.string a0), .v (.int .i64 a1), .v (.int .i64 a2)] => ⟨Int × Bool, s_q0n a0 a1 a2, fun r => .tup [.v (.int .i64 r.1), .v (.bool r.2)]⟩
 | _ => ACall.fail
theorem f_q0n_sound : Sound Tryz.prog 73 c_q0n := by
 refine sound_kit fun rs => ?_
 unfold c_q0n
 split
 ·rename_i a0 a1 a2
  intro r h w vs hJ hv
  have h : s_q0n a0 a1 a2 = some r := h
  obtain ⟨v, us, rfl, q1, v2, us2, rfl, q2, v3, us3, rfl, q3, rfl⟩ := hv
  obtain rfl := argv_str q1
  obtain rfl := argv_int q2
  obtain rfl := argv_int q3
  unfold s_q0n at h
  cases hc : Nat.ble a0.size 281474976710656
  ·rw [hc] at h; cases h
  ·rw [hc, cond_true] at h
   rw [Nat.ble_eq] at hc
   cases hp : Lib.parseIntB 64 a0.data.toList with
   | ok v =>
    rw [hp] at h
    dsimp only at h
    cases hd : (decide (-9223372036854775808 ≤ v) && decide (v ≤ 9223372036854775807))
    ·rw [hd] at h; cases h
    ·rw [hd, cond_true] at h
     simp only [Bool.and_eq_true, decide_eq_true_eq] at hd
     cases h
     refine (readDecimal_ok a0 a1 a2 w hJ hc v hp hd.1 hd.2).mono ?_
     rintro e w' ⟨rfl, hb⟩
     exact ⟨_, rfl, two_plain (fun _ => rfl) (fun _ => rfl) rfl rfl, hb⟩
   | range =>
    rw [hp] at h
    cases h
    refine (readDecimal_far a0 a1 a2 w hJ hc hp).mono ?_
    rintro e w' ⟨rfl, hb⟩
    exact ⟨_, rfl, two_plain (fun _ => rfl) (fun _ => rfl) rfl rfl, hb⟩
   | _ =>
    rw [hp] at h
    cases h
    refine (readDecimal_bad a0 a1 a2 w hJ hc (fun v q => by rw [hp] at q; cases q) (fun q => by rw [hp] at q; cases q)).mono ?_
    rintro e w' ⟨rfl, hb⟩
    exact ⟨_, rfl, two_plain (fun _ => rfl) (fun _ => rfl) rfl rfl, hb⟩
 ·intro r h; cases h
noncomputable def s_q0p (a0 a1 : ByteArray) : Option (List ByteArray) := cond (Nat.ble a0.size 1000000000 && Nat.ble 1 a1.size) (some (Lib.splitB a1 0 (Lib.countB a0 a1) a0)) none
noncomputable def c_q0p : List A → ACall
 | [.v (.string a0), .v (.string a1)] => ⟨List ByteArray, s_q0p a0 a1, fun r => .one (.lst (.one .s) r)⟩
 | _ => ACall.fail
theorem rows_of_strs {I : Inn} : ∀ l : List ByteArray, RowsC I (.one .s) l (l.map Value.string)
 | [] => rfl
 | x :: l => ⟨[.string x], l.map Value.string, rfl, rfl, rows_of_strs l⟩
theorem f_q0p_at (a0 a1 : ByteArray) : SoundAt Tryz.prog 72 [.v (.string a0), .v (.string a1)] ⟨List ByteArray, s_q0p a0 a1, fun r => .one (.lst (.one .s) r)⟩ := by
 intro r h w vs hJ hv
 have h : s_q0p a0 a1 = some r := h
 obtain ⟨v, us, rfl, q1, v2, us2, rfl, q2, rfl⟩ := hv
 obtain rfl := argv_str q1
 obtain rfl := argv_str q2
 unfold s_q0p at h
 cases hc : (Nat.ble a0.size 1000000000 && Nat.ble 1 a1.size)
 ·rw [hc] at h; cases h
 ·rw [hc, cond_true] at h
  rw [Bool.and_eq_true, Nat.ble_eq, Nat.ble_eq] at hc
  have h := Option.some.inj h
  obtain ⟨_, _, _, g, m, hg, hm⟩ := hJ
  obtain rfl := Option.some.inj ((show Tryz.prog.globalNamed "internal/bytealg.MaxLen" = some 0 by kernel_rfl).symm.trans hg)
  have hlen : r.length = Lib.countB a0 a1 + 1 := by rw [← h]; exact Lib.splitB_all a1 hc.2 0 _ a0 rfl
  refine (Tryz.strings_Split a0 a1 m w (by omega) hm hc.2).mono ?_
  rintro e w' ⟨rfl, rfl⟩
  rw [h, ← hlen]
  have hle : r.length ≤ 1000000001 := by
   have := Lib.countB_le a1 hc.2 a0.size a0 (Nat.le_refl _)
   omega
  refine ⟨_, rfl, ⟨rfl, fun i a v h1 h2 => ?_, fun i j u v hij h1 h2 => ?_⟩, ?_⟩
  ·cases i with
   | succ i => cases h1
   | zero =>
    cases h1; cases h2
    refine ⟨r.map Value.string, rows_of_strs r, .inr ⟨w.heap.size, r.length, (r.map Value.string).toArray, 9, rfl, Nat.le_refl _, by omega, ?_, Nat.le_refl _, by unfold maxLen; omega, ?_, ?_⟩⟩
    ·show (w.heap.push _)[w.heap.size]? = _
     simp
    ·show (r.map Value.string).toArray.size = r.length * 1
     simp
    ·show (r.map Value.string).take (r.length * 1) = r.map Value.string
     rw [Nat.mul_one]
     exact List.take_of_length_le (by simp)
  ·cases i with
   | succ i => cases h1
   | zero => cases j with
    | zero => exact absurd rfl hij
    | succ j => cases h2
  ·exact (RowKit.Below.refl _ w).alloc (Nat.le_refl _) _
theorem f_q0p_sound : Sound Tryz.prog 72 c_q0p := by
 refine sound_kit fun rs => ?_
 unfold c_q0p
 split
 ·rename_i a0 a1
  exact f_q0p_at a0 a1
 ·intro r h; cases h
noncomputable def s_q0b (a0 a1 : Int) : Option ByteArray := cond (decide (a1 = 10) && (decide (-9223372036854775808 ≤ a0) && decide (a0 ≤ 9223372036854775807))) (some (⟨(Lib.itoa a0).toArray⟩ : ByteArray)) none
noncomputable def c_q0b : List A → ACall
 | [.v (.int .i64 a0), .v (.int .i64 a1)] => ⟨ByteArray, s_q0b a0 a1, fun r => .one (.v (.string r))⟩
 | _ => ACall.fail
theorem f_q0b_sound : Sound Tryz.prog 157 c_q0b := by
 refine sound_kit fun rs => ?_
 unfold c_q0b
 split
 ·rename_i a0 a1
  intro r h w vs hJ hv
  have h : s_q0b a0 a1 = some r := h
  unfold s_q0b at h
  cases hc : (decide (a1 = 10) && (decide (-9223372036854775808 ≤ a0) && decide (a0 ≤ 9223372036854775807)))
  ·rw [hc] at h; cases h
  ·rw [hc] at h
   simp only [Bool.and_eq_true, decide_eq_true_eq] at hc
   obtain ⟨rfl, h0, h9⟩ := hc
   cases h
   obtain ⟨v, us, rfl, h1, v2, us2, rfl, h2, rfl⟩ := hv
   obtain rfl := argv_int h1
   obtain rfl := argv_int h2
   refine (Tryz.strconv_FormatInt_10 a0 h0 h9 w hJ.1).mono ?_
   rintro e w' ⟨rfl, k, os, rfl⟩
   exact ⟨_, rfl, one_plain (fun _ => rfl) rfl, Lib.below_grow _ w (Nat.le_refl _) k os⟩
 ·intro r h; cases h
noncomputable def s_q0v (a0 : List ByteArray) (a1 : ByteArray) : Option ByteArray := cond (Nat.ble a0.length 1000000 && Nat.ble (Lib.join (a0.map (·.data.toList)) a1.data.toList).length 140737488355328) (some (⟨(Lib.join (a0.map (·.data.toList)) a1.data.toList).toArray⟩ : ByteArray)) none
noncomputable def c_q0v : List A → ACall
 | [.lst (.one .s) a0, .v (.string a1)] => ⟨ByteArray, s_q0v a0 a1, fun r => .one (.v (.string r))⟩
 | _ => ACall.fail
theorem f_q0v_at (a0 : List ByteArray) (a1 : ByteArray) : SoundAt Tryz.prog 75 [.lst (.one .s) a0, .v (.string a1)] ⟨ByteArray, s_q0v a0 a1, fun r => .one (.v (.string r))⟩ := by
 intro r h w vs hJ hv
 have h : s_q0v a0 a1 = some r := h
 unfold s_q0v at h
 cases hc : (Nat.ble a0.length 1000000 && Nat.ble (Lib.join (a0.map (·.data.toList)) a1.data.toList).length 140737488355328)
 ·rw [hc] at h; cases h
 ·rw [hc] at h
  rw [Bool.and_eq_true, Nat.ble_eq, Nat.ble_eq] at hc
  cases h
  obtain ⟨v, us, rfl, h1, v2, us2, rfl, h2, rfl⟩ := hv
  obtain ⟨ao, cap, rfl, hcap, h3⟩ := argv_strs h1
  obtain rfl := argv_str h2
  cases a0 with
  | nil =>
   refine (Tryz.strings_Join_none ao cap a1 w).mono ?_
   rintro e w' ⟨rfl, rfl⟩
   exact ⟨_, rfl, one_plain (fun _ => rfl) rfl, ⟨rfl, rfl, rfl, Nat.le_refl _, fun _ _ => rfl⟩⟩
  | cons x a0 =>
   obtain ⟨g, o, rfl, hg, h4⟩ := h3 (fun q => nomatch q)
   refine (Tryz.strings_Join g o cap (x :: a0) a1 w h4 hg (by omega) hcap hc.2).mono ?_
   rintro e w' ⟨rfl, hb⟩
   exact ⟨_, rfl, one_plain (fun _ => rfl) rfl, hb⟩
theorem f_q0v_sound : Sound Tryz.prog 75 c_q0v := by
 refine sound_kit fun rs => ?_
 unfold c_q0v
 split
 ·rename_i a0 a1
  exact f_q0v_at a0 a1
 ·intro r h; cases h
end Go.RR
