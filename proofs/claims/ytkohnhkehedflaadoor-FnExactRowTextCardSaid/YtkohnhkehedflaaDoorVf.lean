/- Texts that are joined. -/
import Derived.Test.YtkohnhkehedflaaDoorVe
set_option linter.unusedVariables false
set_option linter.unusedSimpArgs false
set_option maxRecDepth 100000
namespace Go.RR
open Go Go.Proofs
theorem rows_strs {I : Inn} : ∀ {l : List ByteArray} {xs : List Value}, RowsC I (.one .s) l xs → xs = l.map Value.string
  | [], xs, h => h
  | x :: l, xs, h => by
    simp only [RowsC] at h
    obtain ⟨c1, c2, rfl, h1, h2⟩ := h
    have h1 : c1 = [.string x] := h1
    rw [h1, rows_strs h2]; rfl
theorem argv_strs {w : World} {l : List ByteArray} {v : Value} (h : ArgV w (.lst (.one .s) l) v) : ∃ ao cap, v = .slice ao l.length cap ∧ l.length ≤ cap ∧ (l ≠ [] → ∃ g o, ao = some ⟨g, o, none⟩ ∧ g < w.heap.size ∧ ∀ (j : Nat) x, l[j]? = some x → w.cell? ⟨g, o + j, none⟩ = some (.string x)) := by
  obtain ⟨xs, ao, cap, h1, h2, h3, h4⟩ := h
  have h3 := rows_strs h3
  subst h3
  refine ⟨ao, cap, (List.cons.inj h1).1, h2, fun hl => ?_⟩
  obtain ⟨g, o, h5, h6, h7⟩ := h4 hl
  refine ⟨g, o, h5, h6, fun j x hx => h7 j _ ?_⟩
  rw [List.getElem?_map, hx]; rfl
noncomputable def s_stringsJoin (a0 : List ByteArray) (a1 : ByteArray) : Option ByteArray := cond (Nat.ble a0.length 1000000 && Nat.ble (Lib.join (a0.map (·.data.toList)) a1.data.toList).length 140737488355328) (some (⟨(Lib.join (a0.map (·.data.toList)) a1.data.toList).toArray⟩ : ByteArray)) none
noncomputable def c_stringsJoin : List A → ACall
  | [.lst (.one .s) a0, .v (.string a1)] => ⟨ByteArray, s_stringsJoin a0 a1, fun r => .one (.v (.string r))⟩
  | _ => ACall.fail
theorem f_stringsJoin_at (a0 : List ByteArray) (a1 : ByteArray) : SoundAt Tryd.prog 31 [.lst (.one .s) a0, .v (.string a1)] ⟨ByteArray, s_stringsJoin a0 a1, fun r => .one (.v (.string r))⟩ := by
  intro r h w vs hJ hv
  have h : s_stringsJoin a0 a1 = some r := h
  unfold s_stringsJoin at h
  cases hc : (Nat.ble a0.length 1000000 && Nat.ble (Lib.join (a0.map (·.data.toList)) a1.data.toList).length 140737488355328)
  · rw [hc] at h; cases h
  · rw [hc] at h
    rw [Bool.and_eq_true, Nat.ble_eq, Nat.ble_eq] at hc
    cases h
    obtain ⟨v, us, rfl, h1, v2, us2, rfl, h2, rfl⟩ := hv
    obtain ⟨ao, cap, rfl, hcap, h3⟩ := argv_strs h1
    obtain rfl := argv_str h2
    cases a0 with
    | nil =>
      refine (Tryd.strings_Join_none ao cap a1 w).mono ?_
      rintro e w' ⟨rfl, rfl⟩
      exact ⟨_, rfl, one_plain (fun _ => rfl) rfl, ⟨rfl, rfl, rfl, Nat.le_refl _, fun _ _ => rfl⟩⟩
    | cons x a0 =>
      obtain ⟨g, o, rfl, hg, h4⟩ := h3 (fun q => nomatch q)
      refine (Tryd.strings_Join g o cap (x :: a0) a1 w h4 hg (by omega) hcap hc.2).mono ?_
      rintro e w' ⟨rfl, hb⟩
      exact ⟨_, rfl, one_plain (fun _ => rfl) rfl, hb⟩
theorem f_stringsJoin_sound : Sound Tryd.prog 31 c_stringsJoin := by
  refine sound_kit fun rs => ?_
  unfold c_stringsJoin
  split
  · rename_i a0 a1
    exact f_stringsJoin_at a0 a1
  · intro r h; cases h
end Go.RR
