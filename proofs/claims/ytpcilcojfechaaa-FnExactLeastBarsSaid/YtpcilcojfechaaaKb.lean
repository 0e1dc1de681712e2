/- What marking rows of rows does: each row's numbers, in its own block. No condition; no theorem of the program but the walk. -/
import Derived.Test.YtpcilcojfechaaaKa
import Derived.Test.YtpcilcojfechaaaVc
import Derived.WalkKit
import Derived.ProofKit
import Derived.Lib.SliceRun
import Derived.Deep.LoopGhost
set_option linter.unusedVariables false
set_option linter.unusedSimpArgs false
set_option maxRecDepth 100000
namespace Go.RR
open Go Go.Proofs Go.RowKit

/-! ### Marks -/
def markI (n k : Nat) : List Int := (List.range' 0 n).map fun i : Nat => IntKind.wrap .i16 ((k + i : Nat) : Int)
theorem markI_len (n k : Nat) : (markI n k).length = n := by simp [markI]
theorem markI_get {n k i : Nat} (h : i < n) : (markI n k)[i]? = some (IntKind.wrap .i16 ((k + i : Nat) : Int)) := by
  unfold markI
  rw [List.getElem?_map, List.getElem?_range' (by omega)]
  simp
theorem markI_row (l : List Int) {k : Nat} (hl : l.length ≤ 1000000) (hk : k ≤ 100000000) : s_wmarkRow l (k : Int) = some (((k + l.length : Nat) : Int), markI l.length k) := by
  unfold s_wmarkRow f_wmarkRow_run2
  have key := run_count (step := fun x => f_wmarkRow_n2 x.1 x.2.1 x.2.2) (τ := Unit) l.length (fun i _ => (((k + i : Nat) : Int), (i : Int), (markI l.length k).take i ++ l.drop i)) (fun _ _ => ()) (((k + l.length : Nat) : Int), markI l.length k) () (by omega) ?_ ?_
  · exact key
  · intro i _ hi
    show f_wmarkRow_n2 ((k + i : Nat) : Int) i ((markI l.length k).take i ++ l.drop i) = _
    have hlen : ((markI l.length k).take i ++ l.drop i).length = l.length := by
      simp [markI_len]; omega
    unfold f_wmarkRow_n2
    rw [hlen, lt_true hi, inB_nat hi, succ64 (i := i) (by omega), succ64 (i := k + i) (by omega), toNat_nat]
    simp only [cond_true]
    have hset : ((markI l.length k).take i ++ l.drop i).set i (IntKind.wrap .i16 ((k + i : Nat) : Int)) = (markI l.length k).take (i + 1) ++ l.drop (i + 1) := by
      have h1 : ((markI l.length k).take i).length = i := by simp [markI_len]; omega
      rw [List.set_append_right _ _ (by omega), h1, Nat.sub_self, List.take_add_one, markI_get hi]
      rw [List.drop_eq_getElem_cons hi, List.set_cons_zero]
      simp
    rw [hset, Nat.add_assoc]
  · show f_wmarkRow_n2 ((k + l.length : Nat) : Int) (l.length : Nat) ((markI l.length k).take l.length ++ l.drop l.length) = _
    have h1 : (markI l.length k).take l.length ++ l.drop l.length = markI l.length k := by
      rw [List.drop_length, List.append_nil]
      exact List.take_of_length_le (by rw [markI_len]; exact Nat.le_refl _)
    rw [h1]
    unfold f_wmarkRow_n2
    rw [markI_len, lt_neg, cond_false]
theorem heldI_row {n k : Nat} (hn : n ≤ 1000000) (hk : k ≤ 100000000) : s_wheldRow (markI n k) (k : Int) = some ((k + n : Nat) : Int) := by
  unfold s_wheldRow f_wheldRow_run2
  refine run_count (step := fun x => f_wheldRow_n2 x.1 x.2.1 x.2.2) (τ := Unit) n (fun i _ => (((k + i : Nat) : Int), (i : Int), markI n k)) (fun _ _ => ()) _ () (by omega) (fun i _ hi => ?_) ?_
  · show f_wheldRow_n2 ((k + i : Nat) : Int) i (markI n k) = _
    unfold f_wheldRow_n2
    rw [markI_len, lt_true hi, inB_nat hi, succ64 (i := i) (by omega), succ64 (i := k + i) (by omega), toNat_nat, List.getD_eq_getElem?_getD, markI_get hi]
    simp [Nat.add_assoc]
  · show f_wheldRow_n2 ((k + n : Nat) : Int) (n : Nat) (markI n k) = _
    unfold f_wheldRow_n2
    rw [markI_len, lt_neg, cond_false]
def kk (l : List (List Int)) (k0 i : Nat) : Nat := k0 + ((l.take i).map List.length).sum
theorem kk_zero (l : List (List Int)) (k0 : Nat) : kk l k0 0 = k0 := by simp [kk]
theorem kk_succ {l : List (List Int)} {k0 i : Nat} (h : i < l.length) : kk l k0 (i + 1) = kk l k0 i + (l.getD i []).length := by
  unfold kk
  rw [List.take_add_one, List.getElem?_eq_getElem h, List.map_append, List.sum_append, List.getD_eq_getElem?_getD, List.getElem?_eq_getElem h]
  simp; omega
theorem kk_le {l : List (List Int)} {k0 : Nat} (hr : ∀ r ∈ l, r.length ≤ 1000) : ∀ i, i ≤ l.length → kk l k0 i ≤ k0 + i * 1000
  | 0, _ => by simp [kk]
  | i + 1, h => by
    have h1 := kk_le hr (k0 := k0) i (by omega)
    have h2 := hr _ (getD_mem' (d := ([] : List Int)) (show i < l.length by omega))
    rw [kk_succ (by omega)]
    omega
/-- Rows that are marked up to a place. -/
def Marked (l : List (List Int)) (k0 i : Nat) (cur : List (List Int)) : Prop := cur.length = l.length ∧ ∀ j, j < l.length → cur.getD j [] = if j < i then markI (l.getD j []).length (kk l k0 j) else l.getD j []
theorem Marked.start (l : List (List Int)) (k0 : Nat) : Marked l k0 0 l := ⟨rfl, fun j _ => by simp⟩
theorem Marked.step {l : List (List Int)} {k0 i : Nat} {cur : List (List Int)} (h : Marked l k0 i cur) (hi : i < l.length) : Marked l k0 (i + 1) (cur.set i (markI (l.getD i []).length (kk l k0 i))) := by
  refine ⟨by rw [List.length_set]; exact h.1, fun j hj => ?_⟩
  have hl := h.1
  by_cases e : j = i
  · subst e
    rw [List.getD_eq_getElem?_getD, List.getElem?_set_self (by omega), if_pos (by omega)]; rfl
  · rw [List.getD_eq_getElem?_getD, List.getElem?_set_ne (by omega), ← List.getD_eq_getElem?_getD, h.2 j hj]
    by_cases q : j < i
    · rw [if_pos q, if_pos (by omega)]
    · rw [if_neg q, if_neg (by omega)]
theorem heldS_ok {l cur : List (List Int)} {k0 : Nat} (h : Marked l k0 l.length cur) (hl : l.length ≤ 1000) (hr : ∀ r ∈ l, r.length ≤ 1000) (hk : k0 ≤ 1000) : s_wheldRowS cur (k0 : Int) = some ((kk l k0 l.length : Nat) : Int) := by
  unfold s_wheldRowS f_wheldRowS_run2
  have key := run_count (step := fun x => f_wheldRowS_n2 x.1 x.2.1 x.2.2) (τ := Unit) l.length (fun i _ => (((kk l k0 i : Nat) : Int), (i : Int), cur)) (fun _ _ => ()) ((kk l k0 l.length : Nat) : Int) () (by omega) (fun i _ hi => ?_) ?_
  · rw [show (0 : Int) = ((0 : Nat) : Int) from rfl]
    rw [kk_zero] at key
    exact key
  · show f_wheldRowS_n2 ((kk l k0 i : Nat) : Int) i cur = _
    have h1 := kk_le hr (k0 := k0) i (by omega)
    have h2 := hr _ (getD_mem' (d := ([] : List Int)) hi)
    unfold f_wheldRowS_n2
    rw [h.1, lt_true hi, inB_nat hi, toNat_nat, h.2 i hi, if_pos hi, heldI_row (by omega) (by omega), succ64 (i := i) (by omega), kk_succ hi]
    simp only [cond_true, Option.bind]
    rw [decide_eq_false (by omega)]
    rfl
  · show f_wheldRowS_n2 ((kk l k0 l.length : Nat) : Int) (l.length : Nat) cur = _
    unfold f_wheldRowS_n2
    rw [h.1, lt_neg, cond_false]

/-! ### The walk -/
/-- Worlds that differ in the rows alone. -/
structure Touch (vs : List Value) (w w' : World) : Prop where
  os : w'.os = w.os
  tape : w'.tape = w.tape
  output : w'.output = w.output
  size : w.heap.size ≤ w'.heap.size
  block : ∀ k, k < w.heap.size → (∀ u ∈ vs, ownG u ≠ some k) → w'.heap[k]? = w.heap[k]?
theorem Touch.refl (vs : List Value) (w : World) : Touch vs w w := ⟨rfl, rfl, rfl, Nat.le_refl _, fun _ _ _ => rfl⟩
theorem Touch.but {vs : List Value} {w w' w2 : World} {u : Value} (h : Touch vs w w') (hu : u ∈ vs) (hb : But u w' w2) : Touch vs w w2 :=
  ⟨hb.os.trans h.os, hb.tape.trans h.tape, hb.output.trans h.output, Nat.le_trans h.size hb.size, fun k hk hn => (hb.block k (Nat.lt_of_lt_of_le hk h.size) (hn u hu)).trans (h.block k hk hn)⟩
theorem Nest.set {w w2 : World} {lo : Nat} {k : IntKind} {l : List (List Int)} {vs : List Value} (h : Nest w lo k l vs) {i : Nat} {u : Value} (hu : vs[i]? = some u) (hb : But u w w2) {r : List Int} (hn : OwnV w2 u 1 r.length (r.map (Value.int k))) : Nest w2 lo k (l.set i r) vs := by
  have hil : i < l.length := by rw [← h.len]; exact (List.getElem?_eq_some_iff.1 hu).1
  refine ⟨by rw [List.length_set]; exact h.len, fun j v hv => ?_, h.sep⟩
  by_cases e : j = i
  · subst e
    rw [hu] at hv; cases hv
    rw [List.getD_eq_getElem?_getD, List.getElem?_set_self hil]
    exact ⟨hn, fun g hg => ⟨((h.row j u hu).2 g hg).1, Nat.lt_of_lt_of_le ((h.row j u hu).2 g hg).2 hb.size⟩⟩
  · rw [List.getD_eq_getElem?_getD, List.getElem?_set_ne (by omega), ← List.getD_eq_getElem?_getD]
    refine (h.row j v hv).keep hb.size fun g hg => ?_
    exact hb.block g ((h.row j v hv).2 g hg).2 (h.sep j i v u e hv hu g hg)
theorem mark_row {w : World} {lo k0 : Nat} {r : List Int} {u : Value} (h : NRow w lo .i16 r u) (hl : r.length ≤ 1000000) (hk : k0 ≤ 100000000) : Calls Try.prog 31 #[u, .int .i64 k0] w fun e w' => e = .returned (.int .i64 ((k0 + r.length : Nat) : Int)) ∧ But u w w' ∧ OwnV w' u 1 (markI r.length k0).length ((markI r.length k0).map (Value.int .i16)) := by
  refine (f_wmarkRow_sound (.one (.i .i16)) r [.v (.int .i64 (k0 : Int))] (((k0 + r.length : Nat) : Int), markI r.length k0) rfl rfl (markI_row r hl hk) w u (r.map (Value.int .i16)) [.int .i64 (k0 : Int)] trivial (fun _ _ hf => hf) h.1 (rows_int.2 rfl) ⟨_, [], rfl, ⟨rfl, rfl⟩, rfl⟩).mono ?_
  rintro e w' ⟨z, rfl, hz, xs', h1, h2, h3⟩
  have hz : (∀ H, WfA H (.v (.int .i64 ((k0 + r.length : Nat) : Int)))) ∧ z = val (fun _ => undef) (.v (.int .i64 ((k0 + r.length : Nat) : Int))) := hz
  have h1 : RowsC noInn (.one (.i .i16)) (markI r.length k0) xs' := h1
  have h2 : OwnV w' u 1 (markI r.length k0).length xs' := h2
  rw [rows_int] at h1
  subst h1
  exact ⟨congrArg _ hz.2, h3, h2⟩
theorem mark_walk {w : World} {lo k0 : Nat} {l : List (List Int)} {v : Value} {vs : List Value} (h : NestV w lo .i16 l v vs) (hl : l.length ≤ 1000) (hr : ∀ r ∈ l, r.length ≤ 1000) (hk : k0 ≤ 1000) :
    Calls Try.prog 8 #[v, .int .i64 k0] w fun e w' => e = .returned (.int .i64 ((kk l k0 l.length : Nat) : Int)) ∧ ∃ cur, Marked l k0 l.length cur ∧ NestV w' lo .i16 cur v vs ∧ Touch vs w w' := by
  have hN : Aside (NestV w lo .i16 l v vs) := h
  have hapart := h.apart
  have hvl := h.nest.len
  rcases h.own with ⟨h0, ao, rfl⟩ | ⟨g, cap, cur0, ty, rfl, hc, hg, h1, h2, h3, h4⟩
  · rw [h0]
    go_enter Try.func8, Try.ntmps8
    go_wp2
    go_loopg [1, 5] 0 (fun gg s1 s5 wr => s1 = .int .i64 (k0 : Int) ∧ s5 = .int .i64 0 ∧ wr = w)
    case atStart => exact ⟨rfl, rfl, rfl⟩
    case round =>
      obtain ⟨rfl, rfl, rfl⟩ := hrel
      go_wp2
      go_ret
      exact ⟨by simp [kk], l, ⟨rfl, fun j hj => by omega⟩, hN.out, Touch.refl _ _⟩
  · have hgl : g < w.heap.size := (Array.getElem?_eq_some_iff.1 hg).1
    have hG : Aside (w.heap[g]? = some (.cells cur0 ty (0, 0))) := hg
    have h4' : Aside (cur0.toList.take l.length = vs) := by rw [← h4]; congr 1; omega
    have hk1 := kk_le hr (k0 := k0)
    generalize hn : l.length = n at *
    clear hg h4 h3 h
    have hA : Aside (∀ u ∈ vs, ∀ g', ownG u = some g' → ownG (.slice (some ⟨g, 0, none⟩) n cap) ≠ some g') := hapart
    clear hapart
    go_enter Try.func8, Try.ntmps8
    go_wp2
    go_loopg [1, 5] n (fun gg s1 s5 wr => ∃ (i : Nat) (cur : List (List Int)), s1 = .int .i64 ((kk l k0 i : Nat) : Int) ∧ s5 = .int .i64 (i : Int) ∧ i ≤ n ∧ n - i ≤ gg ∧ Marked l k0 i cur ∧ Nest wr lo .i16 cur vs ∧ Touch vs w wr)
    case atStart => exact ⟨0, l, by rw [kk_zero], rfl, by omega, by omega, Marked.start l k0, hN.out.nest, Touch.refl _ _⟩
    case round =>
      obtain ⟨i, cur, rfl, rfl, hin, hgg, hM, hNe, hT⟩ := hrel
      have M2 : Aside (Marked l k0 i cur) := hM
      have N2 : Aside (Nest wr lo .i16 cur vs) := hNe
      have T2 : Aside (Touch vs w wr) := hT
      have hbl : wr.heap[g]? = some (.cells cur0 ty (0, 0)) := (hT.block g hgl (fun u hu e => hA.out u hu g e (by simp [ownG]; omega))).trans hG.out
      by_cases hlt : i < n
      · have hltz : (i : Int) < (n : Int) := by omega
        obtain ⟨u, hu⟩ : ∃ u, vs[i]? = some u := ⟨_, List.getElem?_eq_getElem (by rw [hvl]; exact hlt)⟩
        have ci : wr.cell? ⟨g, i, none⟩ = some u := by
          have := Lies.of_heap (n := n) hbl h4'.out i u hu
          simpa using this
        have hrow := hNe.row i u hu
        have hgi : cur.getD i [] = l.getD i [] := by rw [hM.2 i (by omega), if_neg (by omega)]
        rw [hgi] at hrow
        have hlen := hr _ (getD_mem' (d := ([] : List Int)) (show i < l.length by omega))
        have hkb := hk1 i (by omega)
        have hcall := mark_row (k0 := kk l k0 i) hrow (by omega) (by omega)
        have ks := kk_succ (k0 := k0) (show i < l.length by omega)
        have U2 : Aside (vs[i]? = some u) := hu
        clear hM hNe hT hbl hrow hu hgi hk1
        obtain ⟨ao, m, c, rfl⟩ : ∃ ao m c, u = .slice ao m c := by
          rcases (N2.out.row i u U2.out).1 with ⟨_, ao, rfl⟩ | ⟨g', cap', _, _, rfl, _⟩
          · exact ⟨_, _, _, rfl⟩
          · exact ⟨_, _, _, rfl⟩
        go_wp2_with (go_at_call 31; refine hcall.mono ?_; rintro e w2 ⟨rfl, hb2, hown2⟩; have B2 : Aside (But _ wr w2) := hb2; have O2 : Aside (OwnV w2 _ 1 _ _) := hown2; clear hb2 hown2)
        go_roundg (n - (i + 1))
        case measure => omega
        case rel =>
          refine ⟨i + 1, cur.set i (markI (l.getD i []).length (kk l k0 i)), by rw [ks, List.getD_eq_getElem?_getD, List.getElem?_eq_getElem (show i < l.length by omega), Int.natCast_add]; rfl, by go_num, by omega, by omega, M2.out.step (by omega), N2.out.set U2.out B2.out O2.out, T2.out.but (List.mem_of_getElem? U2.out) B2.out⟩
      · obtain rfl : i = n := by omega
        have hltz : ¬ (i : Int) < (i : Int) := by omega
        clear hM hNe hT hbl
        go_wp2
        go_ret
        have o2 : OwnV w (.slice (some ⟨g, 0, none⟩) i cap) 1 l.length vs := hN.out.own
        rw [hn] at o2
        refine ⟨rfl, cur, M2.out, ⟨N2.out, ?_, fun q hq => ⟨(hN.out.low q hq).1, Nat.lt_of_lt_of_le (hN.out.low q hq).2 T2.out.size⟩, hA.out⟩, T2.out⟩
        rw [M2.out.1, hn]
        exact o2.keep fun q hq => T2.out.block q (hN.out.low q hq).2 fun u hu e => hA.out u hu q e hq
end Go.RR
