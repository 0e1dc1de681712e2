/- Operations that make slices. No condition. -/
import Derived.Test.YtbmaolhjplapoaaGreatDoorRi
import Derived.Laws.MakeOwn
import Derived.Laws.AppendOwn
set_option linter.unusedVariables false
set_option linter.unusedSimpArgs false
namespace Go.RR
open Go Go.RowKit
theorem nil_innr {w : World} {O : Nat → Prop} {lo : Nat} {k : IntKind} : Innr w O lo k [] (.slice none 0 0) := ⟨none, 0, rfl, Nat.le_refl _, fun h => absurd rfl h⟩
theorem zero_rt {T : Tab} {w : World} {O : Nat → Prop} {lo : Nat} {σ : Nat → Value} {d t : Nat} {r : RT} {z : A} (hr : rtOf T t = some r) (hz : zeroA T d t = some z) : RTC (Innr w O lo) r r.dflt (enc σ z) ∧ (r.flat = true → z = r.toA r.dflt) := by
 cases d with
 | zero => simp only [zeroA] at hz; cases hz
 | succ d =>
  unfold rtOf at hr
  unfold zeroA at hz
  split at hr
  ·rename_i k s b ht
   rw [ht] at hz
   cases hr; cases hz
   exact ⟨rfl, fun _ => rfl⟩
  ·rename_i s b ht
   rw [ht] at hz
   cases hr; cases hz
   exact ⟨rfl, fun _ => rfl⟩
  ·rename_i s b ht
   rw [ht] at hz
   cases hr; cases hz
   exact ⟨rfl, fun _ => rfl⟩
  ·rename_i n e s b ht
   rw [ht] at hz
   dsimp only at hz
   split at hr
   ·rename_i k s2 b2 he
    rw [he] at hz
    cases hr; cases hz
    exact ⟨rfl, fun _ => rfl⟩
   ·cases hr
  ·rename_i e s b ht
   rw [ht] at hz
   dsimp only at hz
   split at hr
   ·rename_i k s2 b2 he
    cases hr
    split at hz
    ·cases hz
     exact ⟨⟨_, rfl, nil_innr⟩, fun h => by cases h⟩
    ·cases hz
   ·cases hr
  ·cases hr
theorem zero_rts {T : Tab} : ∀ (fs : List (Nat × Nat)) (d : Nat) (ts : List RT) (as : List A), rtsOf T fs = some ts → zeroL T d fs = some as → ts.all RT.flat = true ∧ as = fieldsA ts (densDflt ts)
 | [], d, ts, as, h, hz => by
  cases h
  cases d with
  | zero => simp only [zeroL] at hz; cases hz
  | succ d => simp only [zeroL, Option.some.injEq] at hz; subst hz; exact ⟨rfl, rfl⟩
 | (o, t) :: fs, d, ts, as, h, hz => by
  cases d with
  | zero => simp only [zeroL] at hz; cases hz
  | succ d =>
   simp only [rtsOf] at h
   simp only [zeroL] at hz
   split at h
   ·cases h
   ·rename_i r rs hn hr hrs
    cases h
    split at hz
    ·rename_i a as' ha has
     cases hz
     obtain ⟨h1, h2⟩ := zero_rts fs d rs as' hrs has
     have hfl : r.flat = true := by
      cases r with
      | ls k => exact (hn k rfl).elim
      | _ => rfl
     have ha' := (zero_rt (w := default) (O := fun _ => False) (lo := 0) (σ := fun _ => undef) hr ha).2 hfl
     refine ⟨by simp [hfl, h1], ?_⟩
     subst h2; subst ha'
     cases rs with
     | nil => rfl
     | cons r' rs => rfl
    ·cases hz
   ·cases h
theorem WfL_flat {H : HF} : ∀ (ts : List RT) (x : dens ts), ts.all RT.flat = true → WfL H (fieldsA ts x)
 | [], _, _ => trivial
 | [t], x, h => by cases t <;> first | exact ⟨rfl, trivial⟩ | exact ⟨trivial, trivial⟩ | (simp [RT.flat] at h)
 | t :: u :: r, x, h => by
  rw [List.all_cons, Bool.and_eq_true] at h
  refine ⟨?_, WfL_flat (u :: r) x.2 h.2⟩
  have h1 := h.1
  cases t <;> first | exact rfl | exact trivial | (simp [RT.flat] at h1)
theorem zero_el {T : Tab} {w : World} {O : Nat → Prop} {lo : Nat} {σ : Nat → Value} {d t : Nat} {e : ET} {z : A} (he : etOf T t = some e) (hz : zeroA T d t = some z) : ElC (Innr w O lo) e e.dflt (enc σ z) := by
 unfold etOf at he
 split at he
 ·rename_i fs s b ht
  split at he
  ·rename_i ts hts
   cases he
   cases d with
   | zero => simp only [zeroA] at hz; cases hz
   | succ d =>
    simp only [zeroA, ht] at hz
    split at hz
    ·rename_i as has
     cases hz
     obtain ⟨h1, h2⟩ := zero_rts fs d ts as hts has
     subst h2
     refine ⟨h1, ?_⟩
     show encL σ _ = encL (fun _ => undef) _
     exact encL_congr (H := fun _ => none) (fun b hb => by cases hb) _ (WfL_flat ts (densDflt ts) h1)
    ·cases hz
  ·cases he
 ·split at he
  ·rename_i r hr
   cases he
   exact (zero_rt hr hz).1
  ·cases he
theorem made_flat (zc : List Value) (s : Nat) (hs : zc.length = s) : ∀ m, (madeCells zc.toArray (m * s)).toList = (List.replicate m zc).flatten := by
 have h0 : ∀ n, (madeCells zc.toArray n).toList = (List.range n).map fun i => zc.getD (i % s) default := by
  intro n
  unfold madeCells
  rw [Array.toList_map, Array.toList_range]
  apply List.map_congr_left
  intro i _
  simp [hs, List.getD_eq_getElem?_getD]
 intro m
 rw [h0]
 induction m with
 | zero => simp
 | succ m ih =>
  rw [List.replicate_succ, List.flatten_cons, ← ih, Nat.succ_mul, Nat.add_comm (m * s) s, List.range_add, List.map_append]
  congr 1
  ·apply List.ext_getElem?
   intro i
   rw [List.getElem?_map]
   by_cases hi : i < s
   ·rw [List.getElem?_range hi, List.getElem?_eq_getElem (by omega)]
    simp [Nat.mod_eq_of_lt hi, List.getD_eq_getElem?_getD, hs, hi]
   ·rw [List.getElem?_eq_none_iff.2 (by simp; omega), List.getElem?_eq_none_iff.2 (by omega)]; rfl
  ·rw [List.map_map]
   apply List.map_congr_left
   intro i _
   simp
section
variable {R : Type} {W : SW} {X : Ctx} {s : AS} {o : Oper} {K : Eff → Option R} {r : R}
theorem aMakeSlice_ok (hT : TabOK W.P X.T) (hd : ∀ i, o.dst = some i → i < W.N) {t : Nat} {x y : Operand} (ho : o.op = .makeSlice t x y) (h : aMakeSlice X s o t x y K = some r) : ∃ e, K e = some r ∧ OpOK W o s e := by
 unfold aMakeSlice at h
 split at h
 ·rename_i u sz by_ m m' ht hx hy
  split at h
  ·rename_i e ti he hu
   split at h
   ·rename_i z hz
    obtain ⟨hc, hk⟩ := cond_some h
    simp only [Bool.and_eq_true, decide_eq_true_eq] at hc
    obtain ⟨⟨hft, hby⟩, ⟨h0, hmm⟩, hfit⟩ := hc
    subst hmm
    have hby : 0 < ti.by_ := Nat.le_of_ble_eq_true hby
    have hfit : m.toNat * ti.by_ ≤ 140737488355328 := Nat.le_of_ble_eq_true hfit
    refine retH_new hk hd fun S H σ a w hs hsim hnew => ?_
    obtain ⟨kx, h1⟩ := opI_val hs hsim hx
    obtain ⟨ky, h2⟩ := opI_val hs hsim hy
    obtain ⟨f, hf, hf1, hf2, hf3⟩ := (hT u ti hu).inf
    obtain ⟨hz1, hz2⟩ := hf3 z hz
    obtain ⟨d, hd1, hd2⟩ := (hT t _ ht).und
    have hund : W.P.underlying t = some (.slice u) := by
     cases d <;> simp [UndOK] at hd2
     rw [hd1, hd2]
    have hm : m.toNat ≤ 140737488355328 := Nat.le_trans (Nat.le_mul_of_pos_right _ hby) hfit
    have hmz : (m.toNat : Int) = m := Int.toNat_of_nonneg h0
    have hzc := val_cells (σ := fun _ => .bool false) (fun _ => rfl) (hz2 H)
    have hz1' : f.zero = some (val (fun _ => .bool false) z) := by rw [hz1]; exact congrArg some (zero_val' hz2 _)
    have hb3 : (f.bytes : Int) * m ≤ 281474976710656 := by
     rw [hf2, ← hmz]
     have h3 : ((ti.by_ * m.toNat : Nat) : Int) ≤ ((140737488355328 : Nat) : Int) := Int.ofNat_le.2 (by rw [Nat.mul_comm]; exact hfit)
     rw [Int.natCast_mul] at h3
     refine Int.le_trans h3 (by decide)
    have hrun := run_make (P := W.P) w t u f _ hund hf hz1' kx ky m m h0 (Int.le_refl _) hb3 (by omega)
    obtain ⟨ti', hti', hsz, _⟩ := fitT_spec hft
    rw [hu] at hti'; cases hti'
    have hlen : (enc (fun _ => .bool false) z).length = f.size := by rw [enc_len, hsz, hf1]
    have hesz : (enc (fun _ => .bool false) z).length = e.sz := (zero_el (w := w) (O := fun _ => False) (lo := 0) he hz).len
    have hcells := made_flat (enc (fun _ => .bool false) z) f.size hlen m.toNat
    rw [hzc] at hrun
    refine ⟨.slice (some ⟨w.heap.size, 0, none⟩) m.toNat m.toNat, .slice (some ⟨w.heap.size, 0, none⟩) m.toNat m.toNat, w.alloc (.cells (madeCells (enc (fun _ => .bool false) z).toArray (m.toNat * f.size)) u), by simp only [execOp, ho, h1, h2, Sem.run_bind, hrun, Result.andThen_ok, Sem.run_pure], hsim.new (w' := w.alloc (.cells (madeCells (enc (fun _ => .bool false) z).toArray (m.toNat * f.size)) u)) (blk := ⟨true, .arr e (List.replicate m.toNat e.dflt)⟩) (v := .slice (some ⟨w.heap.size, 0, none⟩) m.toNat m.toNat) rfl rfl rfl (by simp) (fun g hg => Below.heap_alloc w _ g hg) hnew rfl (fun _ g hg => ?_) ⟨(List.replicate m.toNat (enc (fun _ => .bool false) z)).flatten, RowsC.rep (zero_el (σ := fun _ => .bool false) he hz) m.toNat, ?_⟩, ?_, ?_⟩
    ·simp only [ownG] at hg
     split at hg
     ·cases hg
     ·cases hg; exact Nat.le_refl _
    ·rw [List.length_replicate]
     by_cases hm0 : m.toNat = 0
     ·exact .inl ⟨hm0, _, by rw [hm0]⟩
     ·refine .inr ⟨w.heap.size, m.toNat, _, u, rfl, W.hM _ hsim.bel.size, by omega, Go.heap_alloc_new w _, Nat.le_refl _, by simp only [maxLen]; omega, ?_, ?_⟩
      ·rw [size_madeCells, ← hesz, hlen]
      ·rw [hcells, List.take_of_length_le]
       rw [(RowsC.rep (zero_el (w := w) (O := fun _ => False) (lo := 0) (σ := fun _ => .bool false) he hz) m.toNat).len, List.length_replicate]
       exact Nat.le_refl _
    ·rw [val_sl, setF_same]
    ·show (setF H s.n _ s.n).isSome = true
     rw [setF_same]; rfl
   ·cases h
  ·cases h
 ·cases h
end
end Go.RR
