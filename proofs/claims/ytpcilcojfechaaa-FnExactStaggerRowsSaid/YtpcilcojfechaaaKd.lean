/- The law of StaggerRows, walked: both answers agree, and the rows that are handed back are nobody else's. No condition. -/
import Derived.Test.YtpcilcojfechaaaKc
set_option linter.unusedVariables false
set_option linter.unusedSimpArgs false
set_option maxRecDepth 100000
namespace Go.RR
open Go Go.Proofs Go.RowKit

theorem eqRow_same (l : List Int) (hl : l.length ≤ 100000000) : s_weqRow l l = some true := by
  unfold s_weqRow
  have : (((List.length l : Nat) : Int) != ((List.length l : Nat) : Int)) = false := by simp
  rw [this, cond_false]
  unfold f_weqRow_run4
  have h := run_all (step := fun x => f_weqRow_n4 x.1 x.2.1 x.2.2) l.length (fun i => ((i : Int), l, l)) (fun i => true) true false (by omega) ?_ ?_
  · exact h.trans (by simp)
  · intro i hi
    show f_weqRow_n4 i l l = _
    unfold f_weqRow_n4
    rw [lt_true hi, inB_nat hi, toNat_nat, succ64 (by omega)]
    have : (l.getD i 0 != l.getD i 0) = false := by simp
    rw [this]; rfl
  · show f_weqRow_n4 (l.length : Nat) l l = _
    unfold f_weqRow_n4
    rw [lt_neg, cond_false]
theorem eqRowS_same (l : List (List Int)) (hl : l.length ≤ 1000000) (hr : ∀ r ∈ l, r.length ≤ 1000) : s_weqRowS l l = some true := by
  unfold s_weqRowS
  have : (((List.length l : Nat) : Int) != ((List.length l : Nat) : Int)) = false := by simp
  rw [this, cond_false]
  unfold f_weqRowS_run4
  have h := run_all (step := fun x => f_weqRowS_n4 x.1 x.2.1 x.2.2) l.length (fun i => ((i : Int), l, l)) (fun i => true) true false (by omega) ?_ ?_
  · exact h.trans (by simp)
  · intro i hi
    have h1 := hr _ (getD_mem' (d := ([] : List Int)) hi)
    show f_weqRowS_n4 i l l = _
    unfold f_weqRowS_n4
    rw [lt_true hi, inB_nat hi, toNat_nat, succ64 (by omega), eqRow_same _ (by omega)]
    rfl
  · show f_weqRowS_n4 (l.length : Nat) l l = _
    unfold f_weqRowS_n4
    rw [lt_neg, cond_false]
theorem CellsR.below {w w' : World} {e : ET} {l : List e.den} {v : Value} (h : CellsR w (.lst e l) [v]) (hb : Below w.heap.size w w') : CellsR w' (.lst e l) [v] := by
  obtain ⟨xs, ao, cap, h1, h2, h3, h4⟩ := h
  refine ⟨xs, ao, cap, h1, h2, h3.imp fun k l v hv => hv.keep hb.size fun g hg hn => ⟨hb.block g hg, hn⟩, fun hne => ?_⟩
  obtain ⟨g, o, h5, h6, h7⟩ := h4 hne
  exact ⟨g, o, h5, Nat.lt_of_lt_of_le h6 hb.size, h7.keep (hb.block g h6)⟩
theorem res_cells {w w' : World} {O : Nat → Prop} {e : ET} {l : List e.den} {v : Value} (h : ResV1 w w' O (.lst e l) v) : CellsR w' (.lst e l) [v] ∧ ∃ ao m c, v = .slice ao m c := by
  obtain ⟨xs, h1, h2⟩ := h
  have h3 : OwnV w' v e.sz l.length xs := by
    rcases h2 with h | ⟨g, cap, cur, ty, rfl, hlo, hc, r⟩
    · exact .inl h
    · exact .inr ⟨g, cap, cur, ty, rfl, hc, r⟩
  refine ⟨h3.cells (h1.imp fun k l v hv => hv.any), ?_⟩
  rcases h3 with ⟨_, ao, rfl⟩ | ⟨g, cap, _, _, rfl, _⟩
  · exact ⟨_, _, _, rfl⟩
  · exact ⟨_, _, _, rfl⟩
abbrev rowsA (l : List (List Int)) : A := .lst (.one (.ls .i16)) l
theorem eq_call {l : List (List Int)} (hl : l.length ≤ 1000000) (hr : ∀ r ∈ l, r.length ≤ 1000) {w : World} {u v : Value} (hu : CellsR w (rowsA l) [u]) (hv : CellsR w (rowsA l) [v]) : Calls Try.prog 7 #[u, v] w fun e w' => e = .returned (.bool true) ∧ Below w.heap.size w w' := by
  refine (f_weqRowS_sound [rowsA l, rowsA l] true (eqRowS_same l hl hr) w [u, v] trivial ⟨u, _, rfl, hu, v, [], rfl, hv, rfl⟩).mono ?_
  rintro e w' ⟨z, rfl, h, hb⟩
  rw [res_one h]
  exact ⟨rfl, hb⟩
theorem held_call {l cur : List (List Int)} {k0 : Nat} (h : Marked l k0 l.length cur) (hl : l.length ≤ 1000) (hr : ∀ r ∈ l, r.length ≤ 1000) (hk : k0 ≤ 1000) {w : World} {u : Value} (hu : CellsR w (rowsA cur) [u]) : Calls Try.prog 9 #[u, .int .i64 (k0 : Int)] w fun e w' => e = .returned (.int .i64 ((kk l k0 l.length : Nat) : Int)) ∧ Below w.heap.size w w' := by
  refine (f_wheldRowS_sound [rowsA cur, .v (.int .i64 (k0 : Int))] ((kk l k0 l.length : Nat) : Int) (heldS_ok h hl hr hk) w [u, .int .i64 (k0 : Int)] trivial ⟨u, _, rfl, hu, _, [], rfl, argv_int _, rfl⟩).mono ?_
  rintro e w' ⟨z, rfl, h, hb⟩
  rw [res_one h]
  exact ⟨rfl, hb⟩
theorem spec_call {a0 a1 a2 a3 a4 : Int} {l : List (List Int)} {code : Int} (h : s_sStaggerRows a0 a1 a2 a3 a4 = some (l, code)) (w : World) : Calls Try.prog 5 #[.int .i64 a0, .int .i64 a1, .int .i64 a2, .int .i64 a3, .int .i64 a4] w fun e w' => ∃ ao m c, e = .returned (.tuple #[.slice ao m c, .int .i64 code]) ∧ CellsR w' (rowsA l) [.slice ao m c] ∧ Below w.heap.size w w' := by
  refine (f_sStaggerRows_sound [.v (.int .i64 a0), .v (.int .i64 a1), .v (.int .i64 a2), .v (.int .i64 a3), .v (.int .i64 a4)] (l, code) h w _ trivial (ints_arg [a0, a1, a2, a3, a4])).mono ?_
  rintro e w' ⟨v, rfl, ⟨vs, rfl, hlen, hres, _⟩, hb⟩
  match vs, hlen with
  | [u, x], _ =>
    have h1 : ResV1 w w' (Ow [u, x]) (rowsA l) u := hres 0 _ _ rfl rfl
    have h2 : ResV1 w w' (Ow [u, x]) (.v (.int .i64 code)) x := hres 1 _ _ rfl rfl
    have h2 : x = .int .i64 code := h2.2
    subst h2
    obtain ⟨h3, ao, m, c, rfl⟩ := res_cells h1
    exact ⟨ao, m, c, rfl, h3, hb⟩
def StagC (a0 a1 a2 a3 a4 : Int) (l : List (List Int)) (code : Int) : Prop := ∀ w : World, Calls Try.prog 6 #[.int .i64 a0, .int .i64 a1, .int .i64 a2, .int .i64 a3, .int .i64 a4] w fun e w' => ∃ ao m c vs, e = .returned (.tuple #[.slice ao m c, .int .i64 code]) ∧ NestV w' w.heap.size .i16 l (.slice ao m c) vs ∧ Below w.heap.size w w'
theorem below_touch {a w w' : World} {vs : List Value} (h : Below a.heap.size a w) (hT : Touch vs w w') (hlo : ∀ u ∈ vs, ∀ g, ownG u = some g → a.heap.size ≤ g) : Below a.heap.size a w' :=
  ⟨hT.os.trans h.os, hT.tape.trans h.tape, hT.output.trans h.output, Nat.le_trans h.size hT.size, fun k hk => (hT.block k (Nat.lt_of_lt_of_le hk h.size) fun u hu e => by have := hlo u hu k e; omega).trans (h.block k hk)⟩
theorem law_walk {a0 a1 a2 a3 a4 : Int} {l : List (List Int)} {code : Int} (hl : l.length ≤ 20) (hr : ∀ r ∈ l, r.length ≤ 60) (h5 : s_sStaggerRows a0 a1 a2 a3 a4 = some (l, code)) (h6 : StagC a0 a1 a2 a3 a4 l code) (w : World) :
    Calls Try.prog 3 #[.int .i64 a0, .int .i64 a1, .int .i64 a2, .int .i64 a3, .int .i64 a4] w fun e w' => e = .returned (.bool true) ∧ Below w.heap.size w w' := by
  have hl1 : l.length ≤ 1000000 := by omega
  have hl2 : l.length ≤ 1000 := by omega
  have hr1 : ∀ r ∈ l, r.length ≤ 1000 := fun r hr' => by have := hr r hr'; omega
  have c5 := spec_call h5
  have P6 : Aside True := trivial
  have P7 : Aside True := trivial
  have P9 : Aside True := trivial
  have hneg : ¬ ((kk l 1 l.length : Nat) : Int) < 0 := by omega
  have one1 : ((1 : Nat) : Int) = 1 := rfl
  have c9 := fun {cur : List (List Int)} {w : World} {u : Value} (h : Marked l 1 l.length cur) (hu : CellsR w (rowsA cur) [u]) => held_call h hl2 hr1 (by omega) hu
  have c8 := fun {w : World} {lo : Nat} {v : Value} {vs : List Value} (h : NestV w lo .i16 l v vs) => mark_walk (k0 := 1) h hl2 hr1 (by omega)
  clear hr h5 hl
  go_enter Try.func3, Try.ntmps3
  go_wp2_with (first
    | (go_at_call 5; refine (c5 _).mono ?_; rintro e w1 ⟨ao1, m1, c1, rfl, hC1, hB1⟩)
    | (go_at_call 6; have := P6; refine (h6 _).mono ?_; rintro e w2 ⟨ao2, m2, c2, vs2, rfl, hN2, hD2⟩; clear this P6)
    | (go_at_call 7; have := P7; refine (eq_call hl1 hr1 hN2.arg (hC1.below hD2)).mono ?_; rintro e w3 ⟨rfl, hb3⟩; clear this P7; have hD3 := hD2.trans (hb3.mono hD2.size); have hN3 := hN2.below hb3)
    | (go_at_call 8; refine (c8 hN3).mono ?_; rintro e w4 ⟨rfl, cur, hM, hN4, hT4⟩; have hD4 := below_touch hD3 hT4 (fun u hu g hg => (hN3.nest.low hu hg).1))
    | (go_at_call 9; have := P9; refine (c9 hM hN4.arg).mono ?_; rintro e w5 ⟨rfl, hb5⟩; clear this P9; have hD5 := hD4.trans (hb5.mono hD4.size); have hN5 := hN4.below hb5)
    | (go_at_call 6; refine (h6 _).mono ?_; rintro e w6 ⟨ao6, m6, c6, vs6, rfl, hM6, hb6⟩; have hD6 := hD5.trans (hb6.mono hD5.size); have hN6 := hN5.below hb6)
    | (go_at_call 7; refine (eq_call hl1 hr1 hM6.arg (hC1.below hD6)).mono ?_; rintro e w7 ⟨rfl, hb7⟩; have hD7 := hD6.trans (hb7.mono hD6.size); have hN7 := hN6.below hb7)
    | (go_at_call 9; refine (c9 hM hN7.arg).mono ?_; rintro e w8 ⟨rfl, hb8⟩; have hD8 := hD7.trans (hb8.mono hD7.size)))
  go_ret
  exact ⟨rfl, hB1.trans (hD8.mono hB1.size)⟩
end Go.RR
