/- What marking rows of numbers does: each row's numbers, in its own block. No condition; no theorem of the program but the walk. -/
import Derived.Test.YtpcilcojfechaaaKb
import Derived.Test.YtpcilcojfechaaaVf
import Derived.Test.YtpcilcojfechaaaLo
import Derived.Test.YtpcilcojfechaaaKe
set_option linter.unusedVariables false
set_option linter.unusedSimpArgs false
set_option maxRecDepth 100000
set_option maxHeartbeats 1000000
namespace Go.RR
open Go Go.Proofs Go.RowKit

/-! ### Marks -/
def mark8 (n k : Nat) : List Int := (List.range' 0 n).map fun i : Nat => ((k + i : Nat) : Int)
theorem mark8_len (n k : Nat) : (mark8 n k).length = n := by simp [mark8]
theorem mark8_get {n k i : Nat} (h : i < n) : (mark8 n k)[i]? = some (((k + i : Nat) : Int)) := by
  unfold mark8
  rw [List.getElem?_map, List.getElem?_range' (by omega)]
  simp
theorem mark8_row (l : List Int) {k : Nat} (hl : l.length ≤ 2000000) (hk : k ≤ 100000000) : s_wmarkInt64S l (k : Int) = some (((k + l.length : Nat) : Int), mark8 l.length k) := by
  unfold s_wmarkInt64S f_wmarkInt64S_run2
  have key := run_count (step := fun x => f_wmarkInt64S_n2 x.1 x.2.1 x.2.2) (τ := Unit) l.length (fun i _ => (((k + i : Nat) : Int), (i : Int), (mark8 l.length k).take i ++ l.drop i)) (fun _ _ => ()) (((k + l.length : Nat) : Int), mark8 l.length k) () (by omega) ?_ ?_
  · exact key
  · intro i _ hi
    show f_wmarkInt64S_n2 ((k + i : Nat) : Int) i ((mark8 l.length k).take i ++ l.drop i) = _
    have hlen : ((mark8 l.length k).take i ++ l.drop i).length = l.length := by
      simp [mark8_len]; omega
    unfold f_wmarkInt64S_n2
    rw [hlen, lt_true hi, inB_nat hi, succ64 (i := i) (by omega), succ64 (i := k + i) (by omega), toNat_nat]
    simp only [cond_true]
    have hset : ((mark8 l.length k).take i ++ l.drop i).set i (((k + i : Nat) : Int)) = (mark8 l.length k).take (i + 1) ++ l.drop (i + 1) := by
      have h1 : ((mark8 l.length k).take i).length = i := by simp [mark8_len]; omega
      rw [List.set_append_right _ _ (by omega), h1, Nat.sub_self, List.take_add_one, mark8_get hi]
      rw [List.drop_eq_getElem_cons hi, List.set_cons_zero]
      simp
    rw [hset, Nat.add_assoc]
  · show f_wmarkInt64S_n2 ((k + l.length : Nat) : Int) (l.length : Nat) ((mark8 l.length k).take l.length ++ l.drop l.length) = _
    have h1 : (mark8 l.length k).take l.length ++ l.drop l.length = mark8 l.length k := by
      rw [List.drop_length, List.append_nil]
      exact List.take_of_length_le (by rw [mark8_len]; exact Nat.le_refl _)
    rw [h1]
    unfold f_wmarkInt64S_n2
    rw [mark8_len, lt_neg, cond_false]
theorem held8_row {n k : Nat} (hn : n ≤ 2000000) (hk : k ≤ 100000000) : s_wheldInt64S (mark8 n k) (k : Int) = some ((k + n : Nat) : Int) := by
  unfold s_wheldInt64S f_wheldInt64S_run2
  refine run_count (step := fun x => f_wheldInt64S_n2 x.1 x.2.1 x.2.2) (τ := Unit) n (fun i _ => (((k + i : Nat) : Int), (i : Int), mark8 n k)) (fun _ _ => ()) _ () (by omega) (fun i _ hi => ?_) ?_
  · show f_wheldInt64S_n2 ((k + i : Nat) : Int) i (mark8 n k) = _
    unfold f_wheldInt64S_n2
    rw [mark8_len, lt_true hi, inB_nat hi, succ64 (i := i) (by omega), succ64 (i := k + i) (by omega), toNat_nat, List.getD_eq_getElem?_getD, mark8_get hi]
    simp [Nat.add_assoc]
  · show f_wheldInt64S_n2 ((k + n : Nat) : Int) (n : Nat) (mark8 n k) = _
    unfold f_wheldInt64S_n2
    rw [mark8_len, lt_neg, cond_false]
/-- Rows that are marked up to a place. -/
def Marked8 (l : List (List Int)) (k0 i : Nat) (cur : List (List Int)) : Prop := cur.length = l.length ∧ ∀ j, j < l.length → cur.getD j [] = if j < i then mark8 (l.getD j []).length (kk l k0 j) else l.getD j []
theorem Marked8.start (l : List (List Int)) (k0 : Nat) : Marked8 l k0 0 l := ⟨rfl, fun j _ => by simp⟩
theorem Marked8.step {l : List (List Int)} {k0 i : Nat} {cur : List (List Int)} (h : Marked8 l k0 i cur) (hi : i < l.length) : Marked8 l k0 (i + 1) (cur.set i (mark8 (l.getD i []).length (kk l k0 i))) := by
  refine ⟨by rw [List.length_set]; exact h.1, fun j hj => ?_⟩
  have hl := h.1
  by_cases e : j = i
  · subst e
    rw [List.getD_eq_getElem?_getD, List.getElem?_set_self (by omega), if_pos (by omega)]; rfl
  · rw [List.getD_eq_getElem?_getD, List.getElem?_set_ne (by omega), ← List.getD_eq_getElem?_getD, h.2 j hj]
    by_cases q : j < i
    · rw [if_pos q, if_pos (by omega)]
    · rw [if_neg q, if_neg (by omega)]
theorem held8_ok {l cur : List (List Int)} {k0 : Nat} (h : Marked8 l k0 l.length cur) (hl : l.length ≤ 1000) (hr : ∀ r ∈ l, r.length ≤ 1000) (hk : k0 ≤ 1000) : s_wheldInt64SS cur (k0 : Int) = some ((kk l k0 l.length : Nat) : Int) := by
  unfold s_wheldInt64SS f_wheldInt64SS_run2
  have key := run_count (step := fun x => f_wheldInt64SS_n2 x.1 x.2.1 x.2.2) (τ := Unit) l.length (fun i _ => (((kk l k0 i : Nat) : Int), (i : Int), cur)) (fun _ _ => ()) ((kk l k0 l.length : Nat) : Int) () (by omega) (fun i _ hi => ?_) ?_
  · rw [show (0 : Int) = ((0 : Nat) : Int) from rfl]
    rw [kk_zero] at key
    exact key
  · show f_wheldInt64SS_n2 ((kk l k0 i : Nat) : Int) i cur = _
    have h1 := kk_le hr (k0 := k0) i (by omega)
    have h2 := hr _ (getD_mem' (d := ([] : List Int)) hi)
    unfold f_wheldInt64SS_n2
    rw [h.1, lt_true hi, inB_nat hi, toNat_nat, h.2 i hi, if_pos hi, held8_row (by omega) (by omega), succ64 (i := i) (by omega), kk_succ hi]
    simp only [cond_true, Option.bind]
    rw [decide_eq_false (by omega)]
    rfl
  · show f_wheldInt64SS_n2 ((kk l k0 l.length : Nat) : Int) (l.length : Nat) cur = _
    unfold f_wheldInt64SS_n2
    rw [h.1, lt_neg, cond_false]

/-! ### The walk -/
theorem mark8_call {w : World} {lo k0 : Nat} {r : List Int} {u : Value} (h : NRow w lo .i64 r u) (hl : r.length ≤ 2000000) (hk : k0 ≤ 100000000) : Calls Try.prog 15 #[u, .int .i64 k0] w fun e w' => e = .returned (.int .i64 ((k0 + r.length : Nat) : Int)) ∧ But u w w' ∧ OwnV w' u 1 (mark8 r.length k0).length ((mark8 r.length k0).map (Value.int .i64)) := by
  refine (f_wmarkInt64S_sound (.one (.i .i64)) r [.v (.int .i64 (k0 : Int))] (((k0 + r.length : Nat) : Int), mark8 r.length k0) rfl rfl (mark8_row r hl hk) w u (r.map (Value.int .i64)) [.int .i64 (k0 : Int)] trivial (fun _ _ hf => hf) h.1 (rows_int.2 rfl) ⟨_, [], rfl, ⟨rfl, rfl⟩, rfl⟩).mono ?_
  rintro e w' ⟨z, rfl, hz, xs', h1, h2, h3⟩
  have hz : (∀ H, WfA H (.v (.int .i64 ((k0 + r.length : Nat) : Int)))) ∧ z = val (fun _ => undef) (.v (.int .i64 ((k0 + r.length : Nat) : Int))) := hz
  have h1 : RowsC noInn (.one (.i .i64)) (mark8 r.length k0) xs' := h1
  have h2 : OwnV w' u 1 (mark8 r.length k0).length xs' := h2
  rw [rows_int] at h1
  subst h1
  exact ⟨congrArg _ hz.2, h3, h2⟩
theorem mark8_walk {w : World} {lo k0 : Nat} {l : List (List Int)} {v : Value} {vs : List Value} (h : NestV w lo .i64 l v vs) (hl : l.length ≤ 1000) (hr : ∀ r ∈ l, r.length ≤ 1000) (hk : k0 ≤ 1000) :
    Calls Try.prog 16 #[v, .int .i64 k0] w fun e w' => e = .returned (.int .i64 ((kk l k0 l.length : Nat) : Int)) ∧ ∃ cur, Marked8 l k0 l.length cur ∧ NestV w' lo .i64 cur v vs ∧ Touch vs w w' := by
  have hN : Aside (NestV w lo .i64 l v vs) := h
  have hapart := h.apart
  have hvl := h.nest.len
  rcases h.own with ⟨h0, ao, rfl⟩ | ⟨g, cap, cur0, ty, rfl, hc, hg, h1, h2, h3, h4⟩
  · rw [h0]
    go_enter Try.func16, Try.ntmps16
    go_wp2
    go_loopg [1, 5] 0 (fun gg s1 s5 wr => s1 = .int .i64 (k0 : Int) ∧ s5 = .int .i64 0 ∧ wr = w)
    case atStart => exact ⟨rfl, rfl, rfl⟩
    case round =>
      obtain ⟨rfl, rfl, rfl⟩ := hrel
      go_wp2
      go_ret
      exact ⟨by simp [kk], l, ⟨rfl, fun j hj => by omega⟩, hN.out, Touch.refl _ _⟩
  · have hgl : g < w.heap.size := (Array.getElem?_eq_some_iff.1 hg).1
    have hG : Aside (w.heap[g]? = some (.cells cur0 ty (0, 0))) := hg
    have h4' : Aside (cur0.toList.take l.length = vs) := by rw [← h4]; congr 1; omega
    have hk1 := kk_le hr (k0 := k0)
    generalize hn : l.length = n at *
    clear hg h4 h3 h
    have hA : Aside (∀ u ∈ vs, ∀ g', ownG u = some g' → ownG (.slice (some ⟨g, 0, none⟩) n cap) ≠ some g') := hapart
    clear hapart
    go_enter Try.func16, Try.ntmps16
    go_wp2
    go_loopg [1, 5] n (fun gg s1 s5 wr => ∃ (i : Nat) (cur : List (List Int)), s1 = .int .i64 ((kk l k0 i : Nat) : Int) ∧ s5 = .int .i64 (i : Int) ∧ i ≤ n ∧ n - i ≤ gg ∧ Marked8 l k0 i cur ∧ Nest wr lo .i64 cur vs ∧ Touch vs w wr)
    case atStart => exact ⟨0, l, by rw [kk_zero], rfl, by omega, by omega, Marked8.start l k0, hN.out.nest, Touch.refl _ _⟩
    case round =>
      obtain ⟨i, cur, rfl, rfl, hin, hgg, hM, hNe, hT⟩ := hrel
      have M2 : Aside (Marked8 l k0 i cur) := hM
      have N2 : Aside (Nest wr lo .i64 cur vs) := hNe
      have T2 : Aside (Touch vs w wr) := hT
      have hbl : wr.heap[g]? = some (.cells cur0 ty (0, 0)) := (hT.block g hgl (fun u hu e => hA.out u hu g e (by simp [ownG]; omega))).trans hG.out
      by_cases hlt : i < n
      · have hltz : (i : Int) < (n : Int) := by omega
        obtain ⟨u, hu⟩ : ∃ u, vs[i]? = some u := ⟨_, List.getElem?_eq_getElem (by rw [hvl]; exact hlt)⟩
        have ci : wr.cell? ⟨g, i, none⟩ = some u := by
          have := Lies.of_heap (n := n) hbl h4'.out i u hu
          simpa using this
        have hrow := hNe.row i u hu
        have hgi : cur.getD i [] = l.getD i [] := by rw [hM.2 i (by omega), if_neg (by omega)]
        rw [hgi] at hrow
        have hlen := hr _ (getD_mem' (d := ([] : List Int)) (show i < l.length by omega))
        have hkb := hk1 i (by omega)
        have hcall := mark8_call (k0 := kk l k0 i) hrow (by omega) (by omega)
        have ks := kk_succ (k0 := k0) (show i < l.length by omega)
        have U2 : Aside (vs[i]? = some u) := hu
        clear hM hNe hT hbl hrow hu hgi hk1
        obtain ⟨ao, m, c, rfl⟩ : ∃ ao m c, u = .slice ao m c := by
          rcases (N2.out.row i u U2.out).1 with ⟨_, ao, rfl⟩ | ⟨g', cap', _, _, rfl, _⟩
          · exact ⟨_, _, _, rfl⟩
          · exact ⟨_, _, _, rfl⟩
        go_wp2_with (go_at_call 15; refine hcall.mono ?_; rintro e w2 ⟨rfl, hb2, hown2⟩; have B2 : Aside (But _ wr w2) := hb2; have O2 : Aside (OwnV w2 _ 1 _ _) := hown2; clear hb2 hown2)
        go_roundg (n - (i + 1))
        case measure => omega
        case rel =>
          refine ⟨i + 1, cur.set i (mark8 (l.getD i []).length (kk l k0 i)), by rw [ks, List.getD_eq_getElem?_getD, List.getElem?_eq_getElem (show i < l.length by omega), Int.natCast_add]; rfl, by go_num, by omega, by omega, M2.out.step (by omega), N2.out.set U2.out B2.out O2.out, T2.out.but (List.mem_of_getElem? U2.out) B2.out⟩
      · obtain rfl : i = n := by omega
        have hltz : ¬ (i : Int) < (i : Int) := by omega
        clear hM hNe hT hbl
        go_wp2
        go_ret
        have o2 : OwnV w (.slice (some ⟨g, 0, none⟩) i cap) 1 l.length vs := hN.out.own
        rw [hn] at o2
        refine ⟨rfl, cur, M2.out, ⟨N2.out, ?_, fun q hq => ⟨(hN.out.low q hq).1, Nat.lt_of_lt_of_le (hN.out.low q hq).2 T2.out.size⟩, hA.out⟩, T2.out⟩
        rw [M2.out.1, hn]
        exact o2.keep fun q hq => T2.out.block q (hN.out.low q hq).2 fun u hu e => hA.out u hu q e hq
theorem eq8_same (l : List Int) (hl : l.length ≤ 100000000) : s_weqInt64S l l = some true := by
  unfold s_weqInt64S
  have : (((List.length l : Nat) : Int) != ((List.length l : Nat) : Int)) = false := by simp
  rw [this, cond_false]
  unfold f_weqInt64S_run4
  have h := run_all (step := fun x => f_weqInt64S_n4 x.1 x.2.1 x.2.2) l.length (fun i => ((i : Int), l, l)) (fun i => true) true false (by omega) ?_ ?_
  · exact h.trans (by simp)
  · intro i hi
    show f_weqInt64S_n4 i l l = _
    unfold f_weqInt64S_n4
    rw [lt_true hi, inB_nat hi, toNat_nat, succ64 (by omega)]
    have : (l.getD i 0 != l.getD i 0) = false := by simp
    rw [this]; rfl
  · show f_weqInt64S_n4 (l.length : Nat) l l = _
    unfold f_weqInt64S_n4
    rw [lt_neg, cond_false]
theorem eqS8_same (l : List (List Int)) (hl : l.length ≤ 1000000) (hr : ∀ r ∈ l, r.length ≤ 1000) : s_weqInt64SS l l = some true := by
  unfold s_weqInt64SS
  have : (((List.length l : Nat) : Int) != ((List.length l : Nat) : Int)) = false := by simp
  rw [this, cond_false]
  unfold f_weqInt64SS_run4
  have h := run_all (step := fun x => f_weqInt64SS_n4 x.1 x.2.1 x.2.2) l.length (fun i => ((i : Int), l, l)) (fun i => true) true false (by omega) ?_ ?_
  · exact h.trans (by simp)
  · intro i hi
    have h1 := hr _ (getD_mem' (d := ([] : List Int)) hi)
    show f_weqInt64SS_n4 i l l = _
    unfold f_weqInt64SS_n4
    rw [lt_true hi, inB_nat hi, toNat_nat, succ64 (by omega), eq8_same _ (by omega)]
    rfl
  · show f_weqInt64SS_n4 (l.length : Nat) l l = _
    unfold f_weqInt64SS_n4
    rw [lt_neg, cond_false]
theorem mk_ok (n k : Nat) (h : n * k ≤ 140737488355328) : (decide (0 ≤ ((n : Nat) : Int)) && decide (((n : Nat) : Int) = ((n : Nat) : Int)) && fits ((Int.toNat ((n : Nat) : Int)) * k)) = true := by
  rw [toNat_nat, fits_small h]
  simp
theorem toInts {l : List Int} (hl : l.length ≤ 2000000) : s_wtoInt64S l = some l := by
  unfold s_wtoInt64S
  rw [mk_ok _ _ (by omega), cond_true, toNat_nat]
  unfold f_wtoInt64S_run3
  have key := run_count (step := fun x => f_wtoInt64S_n3 x.1 x.2.1 x.2.2) (τ := Unit) l.length (fun i _ => ((i : Int), l, l.take i ++ (List.replicate l.length 0).drop i)) (fun _ _ => ()) l () (by omega) ?_ ?_
  · exact key
  · intro i _ hi
    show f_wtoInt64S_n3 i l (l.take i ++ (List.replicate l.length 0).drop i) = _
    unfold f_wtoInt64S_n3
    have hlen : (l.take i ++ (List.replicate l.length 0).drop i).length = l.length := by simp; omega
    rw [hlen, lt_true hi, inB_nat hi, toNat_nat, succ64 (by omega)]
    simp only [cond_true]
    rw [set_copy (by simp) (show l[i]? = some (l.getD i 0) from by rw [List.getD_eq_getElem?_getD, List.getElem?_eq_getElem hi]; rfl)]
  · show f_wtoInt64S_n3 (l.length : Nat) l (l.take l.length ++ (List.replicate l.length 0).drop l.length) = _
    unfold f_wtoInt64S_n3
    rw [lt_neg, cond_false, List.take_length, List.drop_eq_nil_of_le (by simp), List.append_nil]
end Go.RR
namespace Go.RR
open Go Go.Proofs Go.RowKit

theorem eqS_call {l : List (List Int)} (hl : l.length ≤ 1000000) (hr : ∀ r ∈ l, r.length ≤ 1000) {w : World} {u v : Value} (hu : ArgV w (barsA l) u) (hv : ArgV w (barsA l) v) : Calls Try.prog 13 #[u, v] w fun e w' => e = .returned (.bool true) ∧ Below w.heap.size w w' := by
  refine (f_weqInt64SS_sound [barsA l, barsA l] true (eqS8_same l hl hr) w [u, v] trivial ⟨u, _, rfl, hu, v, [], rfl, hv, rfl⟩).mono ?_
  rintro e w' ⟨z, rfl, h, hb⟩
  rw [res_one h]
  exact ⟨rfl, hb⟩
theorem eqI_call {l : List Int} (hl : l.length ≤ 2000000) {w : World} {u v : Value} (hu : ArgV w (.lst (.one (.i .i64)) l) u) (hv : ArgV w (.lst (.one (.i .i64)) l) v) : Calls Try.prog 14 #[u, v] w fun e w' => e = .returned (.bool true) ∧ Below w.heap.size w w' := by
  refine (f_weqInt64S_sound [.lst (.one (.i .i64)) l, .lst (.one (.i .i64)) l] true (eq8_same l (by omega)) w [u, v] trivial ⟨u, _, rfl, hu, v, [], rfl, hv, rfl⟩).mono ?_
  rintro e w' ⟨z, rfl, h, hb⟩
  rw [res_one h]
  exact ⟨rfl, hb⟩
theorem heldS_call {l cur : List (List Int)} {k0 : Nat} (h : Marked8 l k0 l.length cur) (hl : l.length ≤ 1000) (hr : ∀ r ∈ l, r.length ≤ 1000) (hk : k0 ≤ 1000) {w : World} {u : Value} (hu : ArgV w (barsA cur) u) : Calls Try.prog 17 #[u, .int .i64 (k0 : Int)] w fun e w' => e = .returned (.int .i64 ((kk l k0 l.length : Nat) : Int)) ∧ Below w.heap.size w w' := by
  refine (f_wheldInt64SS_sound [barsA cur, .v (.int .i64 (k0 : Int))] ((kk l k0 l.length : Nat) : Int) (held8_ok h hl hr hk) w [u, .int .i64 (k0 : Int)] trivial ⟨u, _, rfl, hu, _, [], rfl, argv_int _, rfl⟩).mono ?_
  rintro e w' ⟨z, rfl, h, hb⟩
  rw [res_one h]
  exact ⟨rfl, hb⟩
theorem toInts_call {l : List Int} (hl : l.length ≤ 2000000) {w : World} {v : Value} (h : Innr w (fun _ => False) 0 .i64 l v) : Calls Try.prog 11 #[v] w fun e w' => ∃ ao m c, e = .returned (.slice ao m c) ∧ NRow w' w.heap.size .i64 l (.slice ao m c) ∧ Below w.heap.size w w' := by
  refine (f_wtoInt64S_sound [.lst (.one (.i .i64)) l] l (toInts hl) w [v] trivial ⟨_, [], rfl, h.argL, rfl⟩).mono ?_
  rintro e w' ⟨z, rfl, ⟨_, hres, _⟩, hb⟩
  have h1 := res_row (hres 0 _ _ rfl rfl)
  obtain ⟨ao, m, c, rfl⟩ := h1.slice
  exact ⟨ao, m, c, rfl, h1, hb⟩
def LeastS (a0 a1 : Int) (A : List Int) (a3 : Int) (l : List (List Int)) (k code : Int) : Prop := ∀ (w : World) (v : Value), Innr w (fun _ => False) 0 .i64 A v → Calls Try.prog 10 #[.int .i64 a0, .int .i64 a1, v, .int .i64 a3] w fun e w' => ∃ ao m c, e = .returned (.tuple #[.slice ao m c, .int .i64 k, .int .i64 code]) ∧ ArgV w' (barsA l) (.slice ao m c) ∧ Below w.heap.size w w'
def LeastI (a0 a1 : Int) (A : List Int) (a3 : Int) (l : List (List Int)) (k code : Int) : Prop := ∀ (w : World) (v : Value), Innr w (fun _ => False) 0 .i64 A v → Calls Try.prog 12 #[.int .i64 a0, .int .i64 a1, v, .int .i64 a3] w fun e w' => ∃ ao m c vs, e = .returned (.tuple #[.slice ao m c, .int .i64 k, .int .i64 code]) ∧ NestV w' w.heap.size .i64 l (.slice ao m c) vs ∧ Below w.heap.size w w'
theorem NRow.innr {w : World} {lo : Nat} {k : IntKind} {r : List Int} {u : Value} (h : NRow w lo k r u) : Innr w (fun _ => False) 0 k r u := h.1.innr
theorem NRow.old {w w' : World} {lo : Nat} {k : IntKind} {r : List Int} {u : Value} (h : NRow w lo k r u) (hb : Below w.heap.size w w') : NRow w' lo k r u := h.keep hb.size fun g hg => hb.block g (h.2 g hg).2
theorem ArgV.old {w w' : World} {l : List (List Int)} {v : Value} (h : ArgV w (barsA l) v) (hb : Below w.heap.size w w') : ArgV w' (barsA l) v := CellsR.below (e := .one (.ls .i64)) (l := l) (v := v) h hb
theorem below_but {n : Nat} {a w w' : World} {u : Value} (h : Below n a w) (hn : n ≤ a.heap.size) (hb : But u w w') (hlo : ∀ g, ownG u = some g → n ≤ g) : Below n a w' :=
  ⟨hb.os.trans h.os, hb.tape.trans h.tape, hb.output.trans h.output, Nat.le_trans h.size hb.size, fun k hk => (hb.block k (by have := h.size; omega) fun e => by have := hlo k e; omega).trans (h.block k hk)⟩
theorem below_touch' {n : Nat} {a w w' : World} {vs : List Value} (h : Below n a w) (hn : n ≤ a.heap.size) (hT : Touch vs w w') (hlo : ∀ u ∈ vs, ∀ g, ownG u = some g → n ≤ g) : Below n a w' :=
  ⟨hT.os.trans h.os, hT.tape.trans h.tape, hT.output.trans h.output, Nat.le_trans h.size hT.size, fun k hk => (hT.block k (by have := h.size; omega) fun u hu e => by have := hlo u hu k e; omega).trans (h.block k hk)⟩
theorem least_law {a0 a1 a3 : Int} {A : List Int} {l : List (List Int)} {k code : Int} (hA : A.length ≤ 1048576) (hl : l.length ≤ 20) (hr : ∀ r ∈ l, r.length ≤ 60) (h10 : LeastS a0 a1 A a3 l k code) (h12 : LeastI a0 a1 A a3 l k code) (w : World) {aoA : Option Addr} {cA : Nat} (hv : Innr w (fun _ => False) 0 .i64 A (.slice aoA A.length cA)) :
    Calls Try.prog 4 #[.int .i64 a0, .int .i64 a1, .slice aoA A.length cA, .int .i64 a3] w fun e w' => e = .returned (.bool true) ∧ Below w.heap.size w w' := by
  have hl1 : l.length ≤ 1000000 := by omega
  have hl2 : l.length ≤ 1000 := by omega
  have hr1 : ∀ r ∈ l, r.length ≤ 1000 := fun r hr' => by have := hr r hr'; omega
  have hA2 : A.length ≤ 2000000 := by omega
  have hAz : ¬ (A.length : Int) > 1048576 := by omega
  have hneg1 : ¬ ((1 + A.length : Nat) : Int) < 0 := by omega
  have hneg : ¬ ((kk l 1 l.length : Nat) : Int) < 0 := by omega
  have c11 : ∀ w', Below w.heap.size w w' → Calls Try.prog 11 #[.slice aoA A.length cA] w' fun e w2 => ∃ ao m c, e = .returned (.slice ao m c) ∧ NRow w2 w'.heap.size .i64 A (.slice ao m c) ∧ Below w'.heap.size w' w2 := fun w' hb => toInts_call hA2 (hv.old hb)
  have hB0 := Below.refl w.heap.size w
  have P1 : Aside True := trivial
  have P2 : Aside True := trivial
  have P3 : Aside True := trivial
  have P4 : Aside True := trivial
  have P5 : Aside True := trivial
  have P6 : Aside True := trivial
  have P7 : Aside True := trivial
  have P8 : Aside True := trivial
  have eqA := fun {w : World} {u v : Value} (hu : ArgV w (barsA l) u) (hv : ArgV w (barsA l) v) => eqS_call hl1 hr1 hu hv
  have eqB := fun {w : World} {u v : Value} (hu : ArgV w (.lst (.one (.i .i64)) A) u) (hv : ArgV w (.lst (.one (.i .i64)) A) v) => eqI_call hA2 hu hv
  have c15 := fun {w : World} {lo : Nat} {u : Value} (h : NRow w lo .i64 A u) => mark8_call (k0 := 1) h hA2 (by omega)
  have c16 := fun {w : World} {lo : Nat} {v : Value} {vs : List Value} (h : NestV w lo .i64 l v vs) => mark8_walk (k0 := 1) h hl2 hr1 (by omega)
  have c17 := fun {cur : List (List Int)} {w : World} {u : Value} (h : Marked8 l 1 l.length cur) (hu : ArgV w (barsA cur) u) => heldS_call h hl2 hr1 (by omega) hu
  have one1 : ((1 : Nat) : Int) = 1 := rfl
  clear hr hl hv
  go_enter Try.func4, Try.ntmps4
  go_wp2_with (first
    | (go_at_call 11; have := P1; refine (c11 _ hB0).mono ?_; rintro e w1 ⟨ao1, m1, q1, rfl, hN1, hb1⟩; clear this P1)
    | (go_at_call 10; refine (h10 _ _ hN1.innr).mono ?_; rintro e w2 ⟨ao2, m2, q2, rfl, hC2, hb2⟩; have hD2 := hb1.trans (hb2.mono hb1.size))
    | (go_at_call 11; have := P2; refine (c11 _ hD2).mono ?_; rintro e w3 ⟨ao3, m3, q3, rfl, hN3, hb3⟩; clear this P2)
    | (go_at_call 12; have := P3; refine (h12 _ _ hN3.innr).mono ?_; rintro e w4 ⟨ao4, m4, q4, vs4, rfl, hN4, hb4⟩; clear this P3; have hE4 := hb3.trans (hb4.mono hb3.size))
    | (go_at_call 13; have := P4; refine (eqA hN4.arg (hC2.old hE4)).mono ?_; rintro e w5 ⟨rfl, hb5⟩; clear this P4; have hE5 := hE4.trans (hb5.mono hE4.size); have hN5 := hN4.below hb5; have hF5 := hb4.trans (hb5.mono hb4.size))
    | (go_at_call 11; have := P5; refine (c11 _ (hD2.trans (hE5.mono hD2.size))).mono ?_; rintro e w6 ⟨ao6, m6, q6, rfl, hN6, hb6⟩; clear this P5; have hE6 := hE5.trans (hb6.mono hE5.size); have hM6 := hN5.below hb6; have hF6 := hF5.trans (hb6.mono hF5.size))
    | (go_at_call 14; refine (eqB (hN3.old hF6).arg hN6.arg).mono ?_; rintro e w7 ⟨rfl, hb7⟩; have hE7 := hE6.trans (hb7.mono hE6.size); have hM7 := hM6.below hb7; have hF7 := hF6.trans (hb7.mono hF6.size); have hN7 := hN3.old hF7)
    | (go_at_call 15; refine (c15 hN7).mono ?_; rintro e w8 ⟨rfl, hbut, _⟩; have hE8 := below_but hE7 (Nat.le_refl _) hbut (fun g hg => (hN3.2 g hg).1); have hM8 := hM7.keep hbut.size (fun g h1 h2 => hbut.block g h2 fun e => by have := (hN3.2 g e).2; omega))
    | (go_at_call 13; have := P6; refine (eqA hM8.arg (hC2.old hE8)).mono ?_; rintro e w9 ⟨rfl, hb9⟩; clear this P6; have hE9 := hE8.trans (hb9.mono hE8.size); have hM9 := hM8.below hb9)
    | (go_at_call 16; refine (c16 hM9).mono ?_; rintro e w10 ⟨rfl, cur, hM, hN10, hT10⟩; have hE10 := below_touch' hE9 (Nat.le_refl _) hT10 (fun u hu g hg => by have := (hM9.nest.low hu hg).1; have := hb3.size; omega))
    | (go_at_call 17; have := P7; refine (c17 hM hN10.arg).mono ?_; rintro e w11 ⟨rfl, hb11⟩; clear this P7; have hE11 := hE10.trans (hb11.mono hE10.size); have hN11 := hN10.below hb11)
    | (go_at_call 11; have := P8; refine (c11 _ (hD2.trans (hE11.mono hD2.size))).mono ?_; rintro e w12 ⟨ao12, m12, q12, rfl, hN12, hb12⟩; clear this P8; have hE12 := hE11.trans (hb12.mono hE11.size); have hM12 := hN11.below hb12)
    | (go_at_call 12; refine (h12 _ _ hN12.innr).mono ?_; rintro e w13 ⟨ao13, m13, q13, vs13, rfl, hN13, hb13⟩; have hE13 := hE12.trans (hb13.mono hE12.size); have hM13 := hM12.below hb13)
    | (go_at_call 13; refine (eqA hN13.arg (hC2.old hE13)).mono ?_; rintro e w14 ⟨rfl, hb14⟩; have hE14 := hE13.trans (hb14.mono hE13.size); have hM14 := hM13.below hb14)
    | (go_at_call 17; refine (c17 hM hM14.arg).mono ?_; rintro e w15 ⟨rfl, hb15⟩; have hE15 := hE14.trans (hb15.mono hE14.size)))
  go_ret
  exact ⟨rfl, hD2.trans (hE15.mono hD2.size)⟩
theorem least_big {a0 a1 a3 : Int} {n cA : Nat} {aoA : Option Addr} (hA : 1048576 < n) (w : World) :
    Calls Try.prog 4 #[.int .i64 a0, .int .i64 a1, .slice aoA n cA, .int .i64 a3] w fun e w' => e = .returned (.bool true) ∧ Below w.heap.size w w' := by
  have hAz : (n : Int) > 1048576 := by omega
  go_enter Try.func4, Try.ntmps4
  go_wp2
  go_ret
  exact ⟨rfl, Below.refl _ _⟩
end Go.RR
namespace Go.RR
open Go Go.Proofs Go.RowKit

theorem tryAll_ok {F : List (List Int) → SSt → Option SSt} {fit : List Int → Bool} {bud : Nat} {bars : List (List Int)} {k : Int} {G : SSt → Prop}
    (hF : ∀ a, a < bars.length → ∀ st st', G st → F (putB bars a k) ⟨st.found, st.best, st.looks + 1⟩ = some st' → G st') : ∀ (q : List Nat), (∀ a ∈ q, a < bars.length) → ∀ st st', G st → tryAll F fit bud bars k q st = some st' → G st'
  | [], _, st, st', h, e => by cases e; exact h
  | a :: q, hq, st, st', h, e => by
    have hq2 : ∀ b ∈ q, b < bars.length := fun b hb => hq b (List.mem_cons_of_mem _ hb)
    unfold tryAll at e
    cases hf : fit (bars.getD a []) with
    | false =>
      rw [hf, cond_false] at e
      exact tryAll_ok hF q hq2 st st' h e
    | true =>
      rw [hf, cond_true] at e
      cases hb : Nat.blt st.looks bud with
      | false => rw [hb, cond_false] at e; cases e
      | true =>
        rw [hb, cond_true] at e
        cases hy : F (putB bars a k) ⟨st.found, st.best, st.looks + 1⟩ with
        | none => rw [hy] at e; cases e
        | some st2 =>
          rw [hy] at e
          exact tryAll_ok hF q hq2 st2 st' (hF a (hq a (List.mem_cons_self ..)) st st2 h hy) e
theorem goB_ok {P : List Int} {S L : Int} {bud : Nat} : ∀ (rest : List Int) (i : Nat), i + rest.length ≤ 14 → (∀ x ∈ rest, 0 ≤ x ∧ x < (P.length : Int)) → ∀ (bars : List (List Int)) (st st' : SSt), BarsOK P i bars → BarsOK P 14 st.best → goB P S L bud rest bars st = some st' → BarsOK P 14 st'.best
  | [], i, hi, _, bars, st, st', hb, h, e => by
    have hi : i ≤ 14 := hi
    unfold goB at e
    cases hc : (!st.found || Nat.blt bars.length st.best.length) with
    | false => rw [hc, cond_false] at e; cases e; exact h
    | true =>
      rw [hc, cond_true] at e; cases e
      exact ⟨by have := hb.1; show bars.length ≤ 14; omega, fun r hr => by have := hb.2 r hr; exact ⟨this.1, by omega, this.2.2⟩⟩
  | k :: rest, i, hi, hx, bars, st, st', hb, h, e => by
    have hi : i + (rest.length + 1) ≤ 14 := hi
    have hk := hx k (List.mem_cons_self ..)
    have hx2 : ∀ x ∈ rest, 0 ≤ x ∧ x < (P.length : Int) := fun x hm => hx x (List.mem_cons_of_mem _ hm)
    unfold goB at e
    cases hT : tryAll (goB P S L bud rest) (fun r => fitB P S L r k) bud bars k (List.range' 0 bars.length) st with
    | none => rw [hT] at e; cases e
    | some st2 =>
      rw [hT] at e
      have h2 : BarsOK P 14 st2.best := tryAll_ok (G := fun st => BarsOK P 14 st.best) (fun a ha s s' hs hy => goB_ok rest (i + 1) (by omega) hx2 (putB bars a k) ⟨s.found, s.best, s.looks + 1⟩ s' (hb.put ha hk) hs hy) _ (fun a ha => by have := List.mem_range'_1.1 ha; omega) st st2 h hT
      have e : newB (goB P S L bud rest) bud bars k st2 = some st' := e
      unfold newB at e
      cases hc : (st2.found && Nat.ble st2.best.length (bars.length + 1)) with
      | true => rw [hc, cond_true] at e; cases e; exact h2
      | false =>
        rw [hc, cond_false] at e
        cases hb2 : Nat.blt st2.looks bud with
        | false => rw [hb2, cond_false] at e; cases e
        | true =>
          rw [hb2, cond_true] at e
          exact goB_ok rest (i + 1) (by omega) hx2 (bars ++ [[k]]) ⟨st2.found, st2.best, st2.looks + 1⟩ st' (hb.new hk) h2 e
theorem least_small (L S : Int) (P : List Int) (bud : Int) : (least L S P bud).1.length ≤ 20 ∧ ∀ r ∈ (least L S P bud).1, r.length ≤ 60 := by
  unfold least
  cases hc : (sawB L S P && decide (0 ≤ bud ∧ bud ≤ 20000)) with
  | false => exact ⟨by simp, fun r hr => by simp at hr⟩
  | true =>
    rw [cond_true]
    have hs : sawB L S P = true := by
      cases h : sawB L S P with
      | true => rfl
      | false => rw [h] at hc; cases hc
    cases hg : goB P S L bud.toNat (ordP P) [] ⟨false, [], 0⟩ with
    | none => exact ⟨by simp [ansB], fun r hr => by simp [ansB] at hr⟩
    | some st =>
      have hO := ordP_ok P
      have hl := (sawB_ok hs).1.len
      have h := goB_ok (ordP P) 0 (by omega) hO.2 [] ⟨false, [], 0⟩ st ⟨Nat.le_refl _, fun r hr => (nomatch hr)⟩ ⟨Nat.zero_le _, fun r hr => (nomatch hr)⟩ hg
      exact ⟨by have := h.1; show st.best.length ≤ 20; omega, fun r hr => by have := (h.2 r hr).2.1; omega⟩
section
variable {L S bud : Int} {P : List Int} {w : World} {aoP : Option Addr} {cP : Nat}
theorem ileast_no (hl : P.length ≤ 2000000) (h0 : (sawB L S P && decide (0 ≤ bud ∧ bud ≤ 20000)) = false) (h : Innr w (fun _ => False) 0 .i64 P (.slice aoP P.length cP)) :
    Calls Try.prog 12 #[.int .i64 L, .int .i64 S, .slice aoP P.length cP, .int .i64 bud] w fun e w' => e = .returned (.tuple #[.slice none 0 0, .int .i64 0, .int .i64 2]) ∧ Below w.heap.size w w' := by
  have c36 := bars_call (L := L) (S := S) hl h
  have c27 := in_call bud 0 20000
  clear h hl
  cases hs : sawB L S P with
  | false =>
    rw [hs] at c36
    clear hs h0
    go_enter Try.func12, Try.ntmps12
    go_wp2_with (go_at_call 36; refine c36.mono ?_; rintro e w1 ⟨rfl, hb1⟩)
    go_ret3
    exact ⟨rfl, hb1⟩
  | true =>
    rw [hs] at c36 h0
    have h0 : decide (0 ≤ bud ∧ bud ≤ 20000) = false := h0
    rw [h0] at c27
    clear hs h0
    go_enter Try.func12, Try.ntmps12
    go_wp2_with (first
      | (go_at_call 36; refine c36.mono ?_; rintro e w1 ⟨rfl, hb1⟩)
      | (go_at_call 27; refine (c27 _).mono ?_; rintro e w2 ⟨rfl, hb2⟩; replace hb2 := hb1.trans (hb2.mono hb1.size)))
    go_ret3
    exact ⟨rfl, hb2⟩
theorem sleast_no (hl : P.length ≤ 2000000) (h0 : (sawB L S P && decide (0 ≤ bud ∧ bud ≤ 20000)) = false) (h : Innr w (fun _ => False) 0 .i64 P (.slice aoP P.length cP)) :
    Calls Try.prog 10 #[.int .i64 L, .int .i64 S, .slice aoP P.length cP, .int .i64 bud] w fun e w' => ∃ ao, e = .returned (.tuple #[.slice ao 0 0, .int .i64 0, .int .i64 2]) ∧ Below w.heap.size w w' := by
  have c33 := sawn_call (L := L) (S := S) hl h
  have c21 := sin_call bud 0 20000
  clear h hl
  cases hs : sawB L S P with
  | false =>
    rw [hs] at c33
    clear hs h0
    go_enter Try.func10, Try.ntmps10
    go_wp2_with (go_at_call 33; refine c33.mono ?_; rintro e w1 ⟨rfl, hb1⟩)
    go_ret3
    exact ⟨_, rfl, hb1.alloc hb1.size _⟩
  | true =>
    rw [hs] at c33 h0
    have h0 : decide (0 ≤ bud ∧ bud ≤ 20000) = false := h0
    rw [h0] at c21
    clear hs h0
    go_enter Try.func10, Try.ntmps10
    go_wp2_with (first
      | (go_at_call 33; refine c33.mono ?_; rintro e w1 ⟨rfl, hb1⟩)
      | (go_at_call 21; refine (c21 _).mono ?_; rintro e w2 ⟨rfl, hb2⟩; replace hb2 := hb1.trans (hb2.mono hb1.size)))
    go_ret3
    exact ⟨_, rfl, hb2.alloc hb2.size _⟩
end
theorem argS {w : World} {l : List (List Int)} {v : Value} (h : ArgV w (barsA l) v) : ∃ ao m c, v = .slice ao m c := by
  obtain ⟨xs, ao, cap, e, _⟩ := h
  cases e
  exact ⟨_, _, _, rfl⟩
theorem Innr.form {w : World} {O : Nat → Prop} {lo : Nat} {k : IntKind} {l : List Int} {v : Value} (h : Innr w O lo k l v) : ∃ ao c, v = .slice ao l.length c := by
  obtain ⟨ao, c, e, _⟩ := h
  exact ⟨ao, c, e⟩
theorem least_s {a0 a1 a3 : Int} {A : List Int} (hA : A.length ≤ 1048576) : LeastS a0 a1 A a3 (least a0 a1 A a3).1 (least a0 a1 A a3).2.1 (least a0 a1 A a3).2.2 := fun w v hv => by
  unfold least
  cases hc : (sawB a0 a1 A && decide (0 ≤ a3 ∧ a3 ≤ 20000)) with
  | false =>
    obtain ⟨ao, c, rfl⟩ := hv.form
    refine (sleast_no (by omega) hc hv).mono ?_
    rintro e w' ⟨ao, rfl, hb⟩
    exact ⟨ao, 0, 0, rfl, (Near.nil _ 0 _ _).arg, hb⟩
  | true =>
    have hs : sawB a0 a1 A = true := by
      cases h : sawB a0 a1 A with
      | true => rfl
      | false => rw [h] at hc; cases hc
    rw [hs] at hc
    have hd : 0 ≤ a3 ∧ a3 ≤ 20000 := of_decide_eq_true hc
    obtain ⟨bud, rfl⟩ := Int.eq_ofNat_of_zero_le hd.1
    refine (sleast_ok hs (by omega) hv).mono ?_
    rintro e w' ⟨v, rfl, hN, hb⟩
    obtain ⟨ao, m, c, rfl⟩ := argS hN
    exact ⟨ao, m, c, rfl, hN, hb⟩
theorem least_i {a0 a1 a3 : Int} {A : List Int} (hA : A.length ≤ 1048576) : LeastI a0 a1 A a3 (least a0 a1 A a3).1 (least a0 a1 A a3).2.1 (least a0 a1 A a3).2.2 := fun w v hv => by
  unfold least
  cases hc : (sawB a0 a1 A && decide (0 ≤ a3 ∧ a3 ≤ 20000)) with
  | false =>
    obtain ⟨ao, c, rfl⟩ := hv.form
    refine (ileast_no (by omega) hc hv).mono ?_
    rintro e w' ⟨rfl, hb⟩
    exact ⟨none, 0, 0, [], rfl, nest_nil _ _, hb⟩
  | true =>
    have hs : sawB a0 a1 A = true := by
      cases h : sawB a0 a1 A with
      | true => rfl
      | false => rw [h] at hc; cases hc
    rw [hs] at hc
    have hd : 0 ≤ a3 ∧ a3 ≤ 20000 := of_decide_eq_true hc
    obtain ⟨bud, rfl⟩ := Int.eq_ofNat_of_zero_le hd.1
    refine (ileast_ok hs (by omega) hv).mono ?_
    rintro e w' ⟨v, vs, rfl, hN, hb⟩
    obtain ⟨ao, m, c, rfl⟩ := hN.slice
    exact ⟨ao, m, c, vs, rfl, hN, hb⟩
noncomputable def c_wFnExactLeastBars : List A → ACall
  | [.v (.int .i64 _), .v (.int .i64 _), .lst (.one (.i .i64)) _, .v (.int .i64 _)] => ⟨Bool, some true, fun r => .one (.v (.bool r))⟩
  | _ => ACall.fail
theorem arg_innr {w : World} {l : List Int} {v : Value} (h : ArgV w (.lst (.one (.i .i64)) l) v) : Innr w (fun _ => False) 0 .i64 l v := by
  obtain ⟨xs, ao, cap, e, h2, h3, h4⟩ := h
  cases e
  rw [rows_int] at h3
  subst h3
  refine ⟨ao, cap, rfl, h2, fun hl => ?_⟩
  obtain ⟨g, o, e, hg, hr⟩ := h4 hl
  exact ⟨g, o, e, Nat.zero_le _, hg, fun f => f, hr⟩
theorem f_wFnExactLeastBars_sound : Sound Try.prog 4 c_wFnExactLeastBars := by
  refine sound_kit fun rs => ?_
  unfold c_wFnExactLeastBars
  split
  · rename_i a0 a1 A a3
    intro r hr w vs hJ hv
    cases hr
    obtain ⟨v0, _, rfl, ⟨q0, _⟩, v1, _, rfl, ⟨q1, _⟩, v2, _, rfl, hA, v3, _, rfl, ⟨q3, _⟩, rfl⟩ := hv
    cases q0; cases q1; cases q3
    have hA := arg_innr hA
    obtain ⟨ao, c, rfl⟩ := hA.form
    have key : Calls Try.prog 4 #[.int .i64 a0, .int .i64 a1, .slice ao A.length c, .int .i64 a3] w fun e w' => e = .returned (.bool true) ∧ Below w.heap.size w w' := by
      by_cases hb : A.length ≤ 1048576
      · have hsm := least_small a0 a1 A a3
        exact least_law hb hsm.1 hsm.2 (least_s hb) (least_i hb) w hA
      · exact least_big (by omega) w
    refine key.mono ?_
    rintro e w' ⟨rfl, hb⟩
    refine ⟨_, rfl, ⟨rfl, fun i a v h1 h2 => ?_, fun i j u v hij h1 h2 => ?_⟩, hb⟩
    · cases i with
      | zero => cases h1; cases h2; exact ⟨fun H => rfl, rfl⟩
      | succ i => cases h1
    · cases i with
      | succ i => cases h1
      | zero => cases j with
        | zero => exact absurd rfl hij
        | succ j => cases h2
  · intro r hr; cases hr
theorem law_LeastBars {p q r s t : Prop} (_ : p) (_ : q) (_ : r) (_ : s) (_ : t) : (some true : Option Bool) = some true := rfl
end Go.RR
