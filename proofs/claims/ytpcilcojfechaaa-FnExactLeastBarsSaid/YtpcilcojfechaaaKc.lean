/- What staggered rows are made of: a walk of its own. No condition but the range of the arguments. -/
import Derived.Test.YtpcilcojfechaaaKb
import Derived.Test.YtpcilcojfechaaaWe
import Derived.Deep.AppendLies
import Derived.OwnWalk
set_option linter.unusedVariables false
set_option linter.unusedSimpArgs false
set_option maxRecDepth 100000
namespace Go.RR
open Go Go.Proofs Go.RowKit

theorem argv_int {w : World} {k : IntKind} (n : Int) : ArgV w (.v (.int k n)) (.int k n) := ⟨rfl, rfl⟩
theorem res_one {w w' : World} {x v : Value} (h : ResR w w' (.one (.v x)) v) : v = x := (h.2.1 0 _ _ rfl rfl).2
theorem ints_arg {w : World} : ∀ ns : List Int, ArgsV w (ns.map fun n => .v (.int .i64 n)) (ns.map fun n => Value.int .i64 n)
  | [] => rfl
  | n :: ns => ⟨_, _, rfl, argv_int n, ints_arg ns⟩
theorem NRow.slice {w : World} {lo : Nat} {k : IntKind} {r : List Int} {u : Value} (h : NRow w lo k r u) : ∃ ao m c, u = .slice ao m c := by
  rcases h.1 with ⟨_, ao, rfl⟩ | ⟨g', cap', _, _, rfl, _⟩
  · exact ⟨_, _, _, rfl⟩
  · exact ⟨_, _, _, rfl⟩
theorem brick_call {L S W F : Nat} (hL : 1 ≤ L ∧ L ≤ 2000) (hS : S ≤ 200) (hW : 1 ≤ W ∧ W ≤ 200) (hF : 1 ≤ F ∧ F ≤ 200) (w : World) : Calls Try.prog 28 #[.int .i64 (L : Int), .int .i64 (S : Int), .int .i64 (W : Int), .int .i64 (F : Int)] w fun e w' => ∃ ao m c, e = .returned (.tuple #[.slice ao m c, .bool (brk L S W F).2]) ∧ NRow w' w.heap.size .i16 (brk L S W F).1 (.slice ao m c) ∧ Below w.heap.size w w' := by
  refine (f_ibrick_sound [.v (.int .i64 (L : Int)), .v (.int .i64 (S : Int)), .v (.int .i64 (W : Int)), .v (.int .i64 (F : Int))] (brk L S W F) (brick_i hL hS hW hF) w _ trivial (ints_arg [(L : Int), (S : Int), (W : Int), (F : Int)])).mono ?_
  rintro e w' ⟨v, rfl, ⟨vs, rfl, hlen, hres, _⟩, hb⟩
  match vs, hlen with
  | [u, x], _ =>
    have h1 : ResV1 w w' (Ow [u, x]) (.lst (.one (.i .i16)) (brk L S W F).1) u := hres 0 _ _ rfl rfl
    have h2 : ResV1 w w' (Ow [u, x]) (.v (.bool (brk L S W F).2)) x := hres 1 _ _ rfl rfl
    have h2 : x = .bool (brk L S W F).2 := h2.2
    subst h2
    have h3 := res_row h1
    obtain ⟨ao, m, c, rfl⟩ := h3.slice
    exact ⟨ao, m, c, rfl, h3, hb⟩
theorem clash_call {a b : List Int} {u v : Value} {S near : Int} {w : World} {lo lo2 : Nat} (hu : NRow w lo .i16 a u) (hv : NRow w lo2 .i16 b v) {r : List (Nat → Int)} (h : s_iclashes a b S near = some r) : Calls Try.prog 29 #[u, v, .int .i64 S, .int .i64 near] w fun e w' => ∃ ao cap, e = .returned (.slice ao r.length cap) ∧ Below w.heap.size w w' := by
  refine (f_iclashes_sound [.lst (.one (.i .i16)) a, .lst (.one (.i .i16)) b, .v (.int .i64 S), .v (.int .i64 near)] r h w [u, v, .int .i64 S, .int .i64 near] trivial ⟨u, _, rfl, hu.arg, v, _, rfl, hv.arg, ints_arg [S, near]⟩).mono ?_
  rintro e w' ⟨z, rfl, ⟨_, hres, _⟩, hb⟩
  have h1 : ResV1 w w' (Ow [z]) (.lst (.one (.fa 2 .i64)) r) z := hres 0 _ _ rfl rfl
  obtain ⟨xs, _, ⟨h0, ao, rfl⟩ | ⟨g, cap, cur, ty, rfl, _⟩⟩ := h1
  · exact ⟨ao, 0, by have h0 : r.length = 0 := h0; rw [h0], hb⟩
  · exact ⟨_, cap, rfl, hb⟩
theorem bool_call1 {f : Nat} {c : List A → ACall} {b : Bool} {w : World} {rs : List A} {vs : List Value} (hs : Sound Try.prog f c) (hc : c rs = ⟨Bool, some b, fun r => .one (.v (.bool r))⟩) (ha : ArgsV w rs vs) : Calls Try.prog f vs.toArray w fun e w' => e = .returned (.bool b) ∧ Below w.heap.size w w' := by
  have : ∀ z, c rs = z → z = ⟨Bool, some b, fun r => .one (.v (.bool r))⟩ → ∀ r : z.α, z.c = some r → Calls Try.prog f vs.toArray w fun e w' => ∃ v, e = .returned v ∧ ResR w w' (z.res r) v ∧ Below w.heap.size w w' := by
    intro z hz _ r hr
    subst hz
    exact hs rs r hr w vs trivial ha
  refine (this _ hc rfl b rfl).mono ?_
  rintro e w' ⟨v, rfl, h, hb⟩
  rw [res_one h]
  exact ⟨rfl, hb⟩
theorem Try.info42 : (Try.prog.info? 42).map (fun i => (i.zero, i.size, i.bytes)) = some (some (.slice none 0 0), 1, 24) := by kernel_rfl
theorem firstN_no (p : Nat → Bool) : ∀ (n j : Nat), (∀ i, j ≤ i → i < j + n → p i = false) → firstN p n j = j + n
  | 0, j, h => by simp [firstN]
  | n + 1, j, h => by
    simp only [firstN]
    rw [h j (Nat.le_refl _) (by omega), cond_false, firstN_no p n (j + 1) fun i h1 h2 => h i (by omega) (by omega)]
    omega
theorem firstN_at (p : Nat → Bool) : ∀ (n j k : Nat), j ≤ k → k < j + n → (∀ i, j ≤ i → i < k → p i = false) → p k = true → firstN p n j = k
  | 0, j, k, h1, h2, _, _ => by omega
  | n + 1, j, k, h1, h2, h3, h4 => by
    simp only [firstN]
    by_cases e : j = k
    · subst e
      rw [h4, cond_true]
    · rw [h3 j (Nat.le_refl _) (by omega), cond_false]
      exact firstN_at p n (j + 1) k (by omega) (by omega) (fun i q1 q2 => h3 i (by omega) q2) h4
theorem alloc_size (w : World) (o : Obj) : (w.alloc o).heap.size = w.heap.size + 1 := by
  show (w.heap.push _).size = _
  simp
theorem alloc_at (w : World) (o : Obj) : (w.alloc o).heap[w.heap.size]? = some o := by
  show (w.heap.push _)[w.heap.size]? = _
  simp
theorem width_call {W : Nat} (hW : 1 ≤ W ∧ W ≤ 200) (w : World) : Calls Try.prog 26 #[.slice (some ⟨w.heap.size, 0, none⟩) 1 1] (w.alloc (.cells #[.int .i64 (W : Int)] 2)) fun e w' => e = .returned (.bool true) ∧ Below w.heap.size w w' := by
  have h1 : s_iisWidth [(W : Int)] = some true := by
    rw [isWidth_all (by simp)]
    simp only [List.all_cons, List.all_nil, width_ok (show 1 ≤ (W : Int) ∧ (W : Int) ≤ 200 by omega), Bool.and_self]
  refine (f_iisWidth_sound [.lst (.one (.i .i64)) [(W : Int)]] true h1 (w.alloc (.cells #[.int .i64 (W : Int)] 2)) [.slice (some ⟨w.heap.size, 0, none⟩) 1 1] trivial ⟨_, [], rfl, ⟨[.int .i64 (W : Int)], _, 1, rfl, Nat.le_refl _, rows_int.2 rfl, fun _ => ⟨w.heap.size, 0, rfl, by rw [alloc_size]; omega, ?_⟩⟩, rfl⟩).mono ?_
  · exact Lies.of_heap (n := 1) (alloc_at w _) rfl
  · rintro e w' ⟨v, rfl, h, hb⟩
    rw [res_one h]
    exact ⟨rfl, ((Below.refl _ w).alloc (Nat.le_refl _) _).trans (hb.mono (by rw [alloc_size]; omega))⟩
/-- A slice of rows of one's own, as the kit says it. -/
structure RowsOwn (w : World) (lo : Nat) (l : List (List Int)) (v : Value) (vs : List Value) : Prop where
  nest : Nest w lo .i16 l vs
  own : w.ownsRow lo 42 1 v l.length vs
  apart : ∀ u ∈ vs, ∀ g, ownG u = some g → v.ownBlock ≠ some g
theorem ownsRow_own {w : World} {lo : Nat} {e : TypeId} {v : Value} {n : Nat} {xs : List Value} (h : w.ownsRow lo e 1 v n xs) : OwnV w v 1 n xs := by
  rcases h.2 with ⟨rfl, rfl⟩ | ⟨g, cap, cur, rfl, hlo, hg, h1, h2, h3, h4⟩
  · have h1 := h.1
    exact .inl ⟨rfl, none, rfl⟩
  · by_cases hc : cap = 0
    · subst hc
      exact .inl ⟨by omega, _, by rw [show n = 0 by omega]⟩
    · exact .inr ⟨g, cap, cur, e, rfl, by omega, hg, h1, h2, h3, h4⟩
theorem ownG_ownBlock {v : Value} {g : Nat} (h : ownG v = some g) : v.ownBlock = some g ∨ ∃ p, v = .pointer p := by
  unfold ownG at h
  split at h
  · exact .inr ⟨_, rfl⟩
  · split at h
    · cases h
    · exact .inl h
  · cases h
theorem RowsOwn.nestV {w : World} {lo : Nat} {l : List (List Int)} {v : Value} {vs : List Value} (h : RowsOwn w lo l v vs) : NestV w lo .i16 l v vs := by
  have hown := ownsRow_own h.own
  have hb : ∀ g, ownG v = some g → v.ownBlock = some g := fun g hg => by
    rcases ownG_ownBlock hg with h1 | ⟨p, rfl⟩
    · exact h1
    · rcases h.own.2 with ⟨q, _⟩ | ⟨_, _, _, q, _⟩ <;> cases q
  refine ⟨h.nest, hown, fun g hg => ?_, fun u hu g hg e => h.apart u hu g hg (hb g e)⟩
  rcases h.own.2 with ⟨rfl, _⟩ | ⟨g', cap, cur, rfl, hlo, hg', _⟩
  · cases hg
  · have := hb g hg
    simp only [Value.ownBlock, Option.some.injEq] at this
    subst this
    exact ⟨hlo, (Array.getElem?_eq_some_iff.1 hg').1⟩
theorem RowsOwn.below {w w' : World} {lo : Nat} {l : List (List Int)} {v : Value} {vs : List Value} (h : RowsOwn w lo l v vs) (hb : Below w.heap.size w w') : RowsOwn w' lo l v vs := by
  refine ⟨h.nest.keep hb.size fun u hu g hg => hb.block g (h.nest.low hu hg).2, ⟨h.own.1, ?_⟩, h.apart⟩
  rcases h.own.2 with q | ⟨g, cap, cur, q, hlo, hg, r⟩
  · exact .inl q
  · exact .inr ⟨g, cap, cur, q, hlo, by rw [hb.block g (Array.getElem?_eq_some_iff.1 hg).1]; exact hg, r⟩
/-- One row more. -/
theorem RowsOwn.snoc {w w1 : World} {lo : Nat} {l : List (List Int)} {v : Value} {vs : List Value} (h : RowsOwn w lo l v vs) {r : List Int} {u : Value} {a : Nat} (ha : lo ≤ a) (hr : NRow w a .i16 r u) (hf : ∀ x ∈ vs, ∀ g, ownG x = some g → g < a) (hfv : ∀ g, v.ownBlock = some g → g < a) {o : Obj}
    {g cap : Nat} (hown : w1.ownsRow lo 42 1 (.slice (some ⟨g, 0, none⟩) (l.length + 1) cap) (l.length + 1) (vs ++ [u])) (hgrow : (w.alloc o).grownBy w1 v.ownBlock) (hat : v.ownBlock = some g ∨ g = (w.alloc o).heap.size) : RowsOwn w1 lo (l ++ [r]) (.slice (some ⟨g, 0, none⟩) (l.length + 1) cap) (vs ++ [u]) := by
  have hsz := alloc_size w o
  have hk : ∀ q, q < w.heap.size → v.ownBlock ≠ some q → w1.heap[q]? = w.heap[q]? := fun q hq hne => by
    rw [hgrow.block q (by omega) (fun e => hne e.symm)]
    exact Below.heap_alloc w o q hq
  have hs : w.heap.size ≤ w1.heap.size := by have := hgrow.size; omega
  refine ⟨Nest.snoc (h.nest.keep hs fun x hx q hq => hk q (h.nest.low hx hq).2 (h.apart x hx q hq)) ((hr.lower ha).keep hs fun q hq => hk q (hr.2 q hq).2 fun e => ?_) fun x hx q hq e => ?_, by rw [List.length_append]; exact hown, fun x hx q hq e => ?_⟩
  · have := hfv q e; have := (hr.2 q hq).1; omega
  · have := hf x hx q e; have := (hr.2 q hq).1; omega
  · simp only [Value.ownBlock, Option.some.injEq] at e
    subst e
    rcases List.mem_append.1 hx with hx | hx
    · have h1 := h.nest.low hx hq
      rcases hat with hat | hat
      · exact h.apart x hx _ hq hat
      · omega
    · rw [List.mem_singleton] at hx
      subst hx
      have h1 := hr.2 _ hq
      rcases hat with hat | hat
      · have := hfv _ hat; omega
      · omega
theorem RowsOwn.first {w : World} {lo : Nat} (hlo : lo ≤ w.heap.size) {r : List Int} {u : Value} (hr : NRow w lo .i16 r u) : RowsOwn (w.alloc (.cells #[u] 42)) lo [r] (.slice (some ⟨w.heap.size, 0, none⟩) 1 1) [u] := by
  have hb : Below w.heap.size w (w.alloc (.cells #[u] 42)) := (Below.refl _ w).alloc (Nat.le_refl _) _
  refine ⟨Nest.one (hr.keep hb.size fun g hg => hb.block g (hr.2 g hg).2), ⟨rfl, .inr ⟨w.heap.size, 1, #[u], rfl, hlo, alloc_at w _, Nat.le_refl _, by decide, rfl, rfl⟩⟩, fun x hx g hg e => ?_⟩
  rw [List.mem_singleton] at hx
  subst hx
  have := (hr.2 g hg).2
  simp only [Value.ownBlock, Option.some.injEq] at e
  omega
theorem RowsOwn.lt {w : World} {lo : Nat} {l : List (List Int)} {v : Value} {vs : List Value} (h : RowsOwn w lo l v vs) : (∀ x ∈ vs, ∀ g, ownG x = some g → g < w.heap.size) ∧ ∀ g, v.ownBlock = some g → g < w.heap.size := by
  refine ⟨fun x hx g hg => (h.nest.low hx hg).2, fun g hg => ?_⟩
  rcases h.own.2 with ⟨rfl, _⟩ | ⟨g', cap, cur, rfl, hlo, hg', _⟩
  · cases hg
  · simp only [Value.ownBlock, Option.some.injEq] at hg
    subst hg
    exact (Array.getElem?_eq_some_iff.1 hg').1
theorem stag_walk {L S W R : Nat} {near : Int} (hL : 1 ≤ L ∧ L ≤ 2000) (hS : S ≤ 200) (hW : 1 ≤ W ∧ W ≤ 200) (hR : 1 ≤ R ∧ R ≤ 20) (hn : 0 ≤ near ∧ near ≤ 2000) (w : World) :
    Calls Try.prog 6 #[.int .i64 (L : Int), .int .i64 (S : Int), .int .i64 (W : Int), .int .i64 near, .int .i64 (R : Int)] w fun e w' => ∃ v vs, e = .returned (.tuple #[v, .int .i64 (stag L S W near R).2]) ∧ NestV w' w.heap.size .i16 (stag L S W near R).1 v vs ∧ Below w.heap.size w w' := by
  have c24 : ∀ w', Calls Try.prog 24 #[.int .i64 (L : Int)] w' fun e w2 => e = .returned (.bool true) ∧ Below w'.heap.size w' w2 := fun w' => by
    have := bool_call1 (w := w') f_iisLong_sound (b := s_iisLong (L : Int)) (rs := [.v (.int .i64 (L : Int))]) rfl (ints_arg [(L : Int)])
    rwa [long_ok (by omega)] at this
  have c25 : ∀ w', Calls Try.prog 25 #[.int .i64 (S : Int)] w' fun e w2 => e = .returned (.bool true) ∧ Below w'.heap.size w' w2 := fun w' => by
    have := bool_call1 (w := w') f_iisSeam_sound (b := s_iisSeam (S : Int)) (rs := [.v (.int .i64 (S : Int))]) rfl (ints_arg [(S : Int)])
    rwa [seam_ok (by omega)] at this
  have c27 : ∀ (x a b : Int) w', a ≤ x → x ≤ b → Calls Try.prog 27 #[.int .i64 x, .int .i64 a, .int .i64 b] w' fun e w2 => e = .returned (.bool true) ∧ Below w'.heap.size w' w2 := fun x a b w' h1 h2 => by
    have := bool_call1 (w := w') f_iwithin_sound (b := s_iwithin x a b) (rs := [.v (.int .i64 x), .v (.int .i64 a), .v (.int .i64 b)]) rfl (ints_arg [x, a, b])
    rwa [show s_iwithin x a b = true by unfold s_iwithin; rw [decide_eq_true h1, decide_eq_true h2]; rfl] at this
  have c26 := width_call hW
  have c28 := brick_call hL hS hW hW
  have none_ok : ∀ w', NestV w' w.heap.size .i16 [] (.slice none 0 0) [] := fun w' => ⟨⟨rfl, fun i u h => by simp at h, fun i j u v _ h => by simp at h⟩, .inl ⟨rfl, none, rfl⟩, fun g h => (nomatch h), fun u h => (nomatch h)⟩
  cases hb0 : (brk L S W W).2 with
  | false =>
    have hst : stag L S W near R = ([], 6) := by unfold stag; rw [hb0]; rfl
    rw [hst]
    rw [hb0] at c28
    go_enter Try.func6, Try.ntmps6
    go_wp2_with (first | (go_at_call 24; refine (c24 _).mono ?_; rintro e w1 ⟨rfl, hb1⟩) | (go_at_call 25; refine (c25 _).mono ?_; rintro e w2 ⟨rfl, hb2⟩; replace hb1 := hb1.trans (hb2.mono hb1.size); clear hb2) | (go_at_call 26; refine (c26 _).mono ?_; rintro e w3 ⟨rfl, hb2⟩; replace hb1 := hb1.trans (hb2.mono hb1.size); clear hb2) | (go_at_call 27; refine (c27 _ _ _ _ (by omega) (by omega)).mono ?_; rintro e w4 ⟨rfl, hb2⟩; replace hb1 := hb1.trans (hb2.mono hb1.size); clear hb2) | (go_at_call 28; refine (c28 _).mono ?_; rintro e w5 ⟨ao, m, c, rfl, hu, hb2⟩; have hu1 := hu.lower hb1.size; replace hb1 := hb1.trans (hb2.mono hb1.size); clear hb2))
    go_ret2
    exact ⟨_, [], rfl, none_ok _, hb1⟩
  | true =>
    rw [hb0] at c28
    obtain ⟨X, hX⟩ : ∃ X, exitL (stG L S W near) [(brk L S W W).1] (List.range' 0 (R - 1)) = X := ⟨_, rfl⟩
    have hst : stag L S W near R = endL (fun out => (out, 0)) X := by unfold stag; rw [hb0, cond_true, hX]
    rw [hst]
    have I0 := stI_first (near := near) hL.1 hW.1 hb0
    go_enter Try.func6, Try.ntmps6
    go_wp2_with (first | (go_at_call 24; refine (c24 _).mono ?_; rintro e w1 ⟨rfl, hb1⟩) | (go_at_call 25; refine (c25 _).mono ?_; rintro e w2 ⟨rfl, hb2⟩; replace hb1 := hb1.trans (hb2.mono hb1.size); clear hb2) | (go_at_call 26; refine (c26 _).mono ?_; rintro e w3 ⟨rfl, hb2⟩; replace hb1 := hb1.trans (hb2.mono hb1.size); clear hb2) | (go_at_call 27; refine (c27 _ _ _ _ (by omega) (by omega)).mono ?_; rintro e w4 ⟨rfl, hb2⟩; replace hb1 := hb1.trans (hb2.mono hb1.size); clear hb2) | (go_at_call 28; refine (c28 _).mono ?_; rintro e w5 ⟨ao, m, c, rfl, hu, hb2⟩; have hu1 := hu.lower hb1.size; replace hb1 := hb1.trans (hb2.mono hb1.size); clear hb2))
    go_loopg [14, 57] (R - 1) (fun gg s14 s57 wr => ∃ (i g cap : Nat) (out : List (List Int)) (vs : List Value), s14 = .slice (some ⟨g, 0, none⟩) (i + 1) cap ∧ s57 = .int .i64 (i : Int) ∧ i ≤ R - 1 ∧ R - 1 - i ≤ gg ∧ StI L S near i out ∧ exitL (stG L S W near) out (List.range' i (R - 1 - i)) = X ∧ RowsOwn wr w.heap.size out (.slice (some ⟨g, 0, none⟩) (i + 1) cap) vs ∧ Below w.heap.size w wr)
    case atStart =>
      refine ⟨0, w5.heap.size, 1, _, _, rfl, rfl, by omega, by omega, I0, hX, RowsOwn.first hb1.size hu1, hb1.alloc hb1.size _⟩
    case round =>
      obtain ⟨i, g, cap, out, vs, rfl, rfl, hi, hgg, hI, hE, hO, hB⟩ := hrel
      have hI2 : Aside (StI L S near i out) := hI
      have hE2 : Aside (exitL (stG L S W near) out (List.range' i (R - 1 - i)) = X) := hE
      have hO2 : Aside (RowsOwn wr w.heap.size out (.slice (some ⟨g, 0, none⟩) (i + 1) cap) vs) := hO
      have hB2 : Aside (Below w.heap.size w wr) := hB
      clear hI hE hO hB
      by_cases hlt : i < R - 1
      · have hltz : (i : Int) < (R : Int) - 1 := by omega
        go_wp2
        go_loopg [14, 15, 16] (W + 1) (fun gg s14 s15 s16 wi =>
          (∃ j : Nat, s14 = .slice (some ⟨g, 0, none⟩) (i + 1) cap ∧ s15 = .bool false ∧ s16 = .int .i64 ((W - j : Nat) : Int) ∧ j ≤ W ∧ W - j + 1 ≤ gg ∧ (∀ q, q < j → okAt L S W near (gR out (out.length - 1)) (W - q) = false) ∧ RowsOwn wi w.heap.size out (.slice (some ⟨g, 0, none⟩) (i + 1) cap) vs ∧ Below w.heap.size w wi) ∨
          (∃ (j g' cap' : Nat) (u : Value), s14 = .slice (some ⟨g', 0, none⟩) (i + 2) cap' ∧ s15 = .bool true ∧ s16 = .int .i64 ((W - (j + 1) : Nat) : Int) ∧ j < W ∧ atJ L S W near out = j ∧ RowsOwn wi w.heap.size (out ++ [(brk L S W (W - j)).1]) (.slice (some ⟨g', 0, none⟩) (i + 2) cap') (vs ++ [u]) ∧ Below w.heap.size w wi))
        case atStart => exact .inl ⟨0, rfl, rfl, rfl, by omega, by omega, fun q hq => by omega, hO2.out, hB2.out⟩
        case round =>
          rcases hrel with ⟨j, rfl, rfl, rfl, hj, hgj, hno, hO, hB⟩ | ⟨j, g', cap', u, rfl, rfl, rfl, hj, hat, hO, hB⟩
          · by_cases hjW : j < W
            · have hge : ((W - j : Nat) : Int) ≥ 1 := by omega
              have c28' := brick_call hL hS hW (F := W - j) (by omega)
              have hO3 : Aside (RowsOwn wr w.heap.size out (.slice (some ⟨g, 0, none⟩) (i + 1) cap) vs) := hO
              have hB3 : Aside (Below w.heap.size w wr) := hB
              have hno3 : Aside (∀ q, q < j → okAt L S W near (gR out (out.length - 1)) (W - q) = false) := hno
              have hlen : out.length = i + 1 := hI2.out.len
              have hvl : vs.length = i + 1 := by rw [hO.nest.len, hlen]
              clear hO hB hno
              cases hbq : (brk L S W (W - j)).2 with
              | false =>
                rw [hbq] at c28'
                go_wp2_with (go_at_call 28; refine (c28' _).mono ?_; rintro e w6 ⟨ao6, m6, c6, rfl, hu6, hb6⟩)
                go_roundg (W - (j + 1) + 1)
                case measure => omega
                case rel =>
                  refine .inl ⟨j + 1, rfl, rfl, by go_num, by omega, by omega, fun q hq => ?_, hO3.out.below hb6, hB3.out.trans (hb6.mono hB3.out.size)⟩
                  by_cases e : q = j
                  · subst e; unfold okAt; rw [hbq]; rfl
                  · exact hno3.out q (by omega)
              | true =>
                rw [hbq] at c28'
                have hbr := (brk_okr (S := S) hL.1 hW.1 (show 1 ≤ W - j by omega) hbq).1
                have hlast : OKR (gR out (out.length - 1)) := (hI2.out.row _ (getD_mem' (d := ([] : List Int)) (by omega))).1
                have hcl := cl_i (near := near) hlast hbr (show 0 ≤ (S : Int) ∧ (S : Int) ≤ 200 by omega)
                have hany := CLs_any (J (gR out (out.length - 1)) S) (J (brk L S W (W - j)).1 S) near
                obtain ⟨ul, hul⟩ : ∃ ul, vs[i]? = some ul := ⟨_, List.getElem?_eq_getElem (by omega)⟩
                have hrl : NRow wr w.heap.size .i16 (gR out (out.length - 1)) ul := by
                  have := hO3.out.nest.row i ul hul
                  rw [hlen]; exact this
                obtain ⟨aol, ml, cl, rfl⟩ := hrl.slice
                have c29 : ∀ w6 ao6 m6 c6, Below wr.heap.size wr w6 → NRow w6 wr.heap.size .i16 (brk L S W (W - j)).1 (.slice ao6 m6 c6) → Calls Try.prog 29 #[.slice aol ml cl, .slice ao6 m6 c6, .int .i64 (S : Int), .int .i64 near] w6 fun e w' => ∃ ao cap, e = .returned (.slice ao (CLs (J (gR out (out.length - 1)) S) (J (brk L S W (W - j)).1 S) near).length cap) ∧ Below w6.heap.size w6 w' :=
                  fun w6 ao6 m6 c6 hb hr => clash_call (hrl.keep hb.size fun q hq => hb.block q (hrl.2 q hq).2) hr hcl
                have ci : ∀ w6, Below wr.heap.size wr w6 → w6.cell? ⟨g, i, none⟩ = some (.slice aol ml cl) := fun w6 hb => by
                  rcases (hO3.out.below hb).own.2 with ⟨q, _⟩ | ⟨g1, cap1, cur, q, hlo, hg, h1, h2, h3, h4⟩
                  · cases q
                  · simp only [Value.slice.injEq, Option.some.injEq, Addr.mk.injEq] at q
                    obtain ⟨⟨rfl, _⟩, _, rfl⟩ := q
                    have := Lies.of_heap hg h4 i _ hul
                    simpa using this
                have hok : okAt L S W near (gR out (out.length - 1)) (W - j) = !decide (0 < (CLs (J (gR out (out.length - 1)) S) (J (brk L S W (W - j)).1 S) near).length) := by
                  unfold okAt; rw [hbq, hany]; rfl
                generalize hql : (CLs (J (gR out (out.length - 1)) S) (J (brk L S W (W - j)).1 S) near).length = ql at *
                clear hany hcl
                by_cases hq0 : ql = 0
                · subst hq0
                  have hok : okAt L S W near (gR out (out.length - 1)) (W - j) = true := by rw [hok]; rfl
                  have hat : atJ L S W near out = j := firstN_at _ _ _ _ (by omega) (by omega) (fun q _ hq => hno3.out q hq) hok
                  have A3 : Aside (atJ L S W near out = j) := hat
                  obtain ⟨i0, hi42, hz0, hz1, hz2⟩ := info_parts Try.info42
                  have hown : ∀ w7 o, Below wr.heap.size wr w7 → (w7.alloc o).ownsRow w.heap.size 42 1 (.slice (some ⟨g, 0, none⟩) (i + 1) cap) (i + 1) vs := fun w7 o hb => by
                    have := ((hO3.out.below hb).below ((Below.refl _ _).alloc (Nat.le_refl _) o)).own
                    rwa [hlen] at this
                  have hbase : ∀ w7 o, Below wr.heap.size wr w7 → w.heap.size ≤ (w7.alloc o).heap.size := fun w7 o hb => by
                    have h1 := hB3.out.size; have h2 := hb.size; have h3 := alloc_size w7 o; omega
                  have h63 : i + 1 + 1 ≤ maxLen := by unfold maxLen; omega
                  clear hok hrl hul hat
                  go_wp2_with (first | (go_at_call 28; refine (c28' _).mono ?_; rintro e w6 ⟨ao6, m6, c6, rfl, hu6, hb6⟩; have ci6 := ci _ hb6) | (go_at_call 29; refine (c29 _ _ _ _ hb6 hu6).mono ?_; rintro e w7 ⟨ao7, cap7, rfl, hb7⟩; have hbb := hb6.trans (hb7.mono hb6.size)) | (at_builtin; refine wpList_append_lies _ rfl (.tmp 91) (.tmp 93) 22 rfl w.heap.size 42 i0 (.slice none 0 0) 1 24 Try.underlying22 hi42 hz0 hz1 hz2 rfl (by decide) _ _ _ rfl (hown _ _ hbb) ⟨w7.heap.size, 0, none⟩ 1 1 [.slice ao6 m6 c6] rfl rfl (World.news_of_block (alloc_at _ _)) (fun u hu => by rw [List.mem_singleton] at hu; subst hu; rfl) (by decide) h63 (by omega) (hbase _ _ hbb) _ rfl ?_; intro g2 cap2 w8 hown8 hgrow8 hat8 hlt8))
                  go_roundg (W - (j + 1))
                  case measure => omega
                  case rel =>
                    have h7 : RowsOwn w7 w.heap.size out (.slice (some ⟨g, 0, none⟩) (i + 1) cap) vs := hO3.out.below hbb
                    have hu7 : NRow w7 wr.heap.size .i16 (brk L S W (W - j)).1 (.slice ao6 m6 c6) := hu6.keep hb7.size fun q hq => hb7.block q (hu6.2 q hq).2
                    have e2 : out.length + 1 = i + 1 + 1 := by omega
                    have h8 := h7.snoc (w1 := w8) (cap := cap2) hB3.out.size hu7 hO3.out.lt.1 hO3.out.lt.2 (by rw [e2]; exact hown8) hgrow8 hat8
                    rw [e2] at h8
                    refine .inr ⟨j, g2, cap2, _, rfl, rfl, by go_num, hjW, A3.out, h8, ?_⟩
                    have hB7 := hB3.out.trans (hbb.mono hB3.out.size)
                    exact (hB7.alloc hB7.size _).grown hgrow8 (hbase _ _ hbb) fun k hk => by
                      have hk : some g = some k := hk
                      cases hk
                      rcases hO3.out.own.2 with ⟨q, _⟩ | ⟨g1, cap1, cur, q, hlo, _⟩
                      · cases q
                      · simp only [Value.slice.injEq, Option.some.injEq, Addr.mk.injEq] at q
                        rw [q.1.1]; exact hlo
                · have hqz : ¬ (ql : Int) = 0 := by omega
                  have hok : okAt L S W near (gR out (out.length - 1)) (W - j) = false := by rw [hok, decide_eq_true (by omega)]; rfl
                  have hok3 : Aside (okAt L S W near (gR out (out.length - 1)) (W - j) = false) := hok
                  clear hok hrl hul
                  go_wp2_with (first | (go_at_call 28; refine (c28' _).mono ?_; rintro e w6 ⟨ao6, m6, c6, rfl, hu6, hb6⟩; have ci6 := ci _ hb6) | (go_at_call 29; refine (c29 _ _ _ _ hb6 hu6).mono ?_; rintro e w7 ⟨ao7, cap7, rfl, hb7⟩))
                  go_roundg (W - (j + 1) + 1)
                  case measure => omega
                  case rel =>
                    have hbb := hb6.trans (hb7.mono hb6.size)
                    refine .inl ⟨j + 1, rfl, rfl, by go_num, by omega, by omega, fun q hq => ?_, hO3.out.below hbb, hB3.out.trans (hbb.mono hB3.out.size)⟩
                    by_cases e : q = j
                    · subst e; exact hok3.out
                    · exact hno3.out q (by omega)
            · obtain rfl : j = W := by omega
              have hlt1 : ¬ ((j - j : Nat) : Int) ≥ 1 := by omega
              have hno3 : Aside (∀ q, q < j → okAt L S j near (gR out (out.length - 1)) (j - q) = false) := hno
              have hB3 : Aside (Below w.heap.size w wr) := hB
              clear hno hO hB
              go_wp2
              go_ret2
              have hat : atJ L S j near out = j := by
                unfold atJ
                rw [firstN_no _ _ _ fun q _ hq => hno3.out q (by omega)]; omega
              have hXe : X = .inr ([], 6) := by
                rw [← hE2.out, show R - 1 - i = (R - 1 - i - 1) + 1 by omega, List.range'_succ]
                unfold exitL stG
                rw [hat, blt_f (by omega)]
                rfl
              subst hXe
              exact ⟨_, rfl, ⟨[], none_ok _⟩, hB3.out⟩
          · have hO3 : Aside (RowsOwn wr w.heap.size (out ++ [(brk L S W (W - j)).1]) (.slice (some ⟨g', 0, none⟩) (i + 2) cap') (vs ++ [u])) := hO
            have hB3 : Aside (Below w.heap.size w wr) := hB
            clear hO hB
            have fin : exitL (stG L S W near) (out ++ [(brk L S W (W - j)).1]) (List.range' (i + 1) (R - 1 - (i + 1))) = X ∧ StI L S near (i + 1) (out ++ [(brk L S W (W - j)).1]) := by
              have hG : stG L S W near out i = .inl (out ++ [(brk L S W (W - j)).1]) := by
                unfold stG
                rw [hat, blt_t hj]
                rfl
              refine ⟨?_, stI_step hL.1 hW.1 hI2.out _ hG⟩
              rw [← hE2.out, show R - 1 - i = (R - 1 - (i + 1)) + 1 by omega, List.range'_succ]
              conv => rhs; unfold exitL
              rw [hG]
            have F3 : Aside (exitL (stG L S W near) (out ++ [(brk L S W (W - j)).1]) (List.range' (i + 1) (R - 1 - (i + 1))) = X ∧ StI L S near (i + 1) (out ++ [(brk L S W (W - j)).1])) := fin
            clear fin
            by_cases hge : ((W - (j + 1) : Nat) : Int) ≥ 1
            · go_wp2
              go_roundg (R - 1 - (i + 1))
              case measure => omega
              case rel => exact ⟨i + 1, g', cap', _, _, rfl, by go_num, by omega, by omega, F3.out.2, F3.out.1, hO3.out, hB3.out⟩
            · go_wp2
              go_roundg (R - 1 - (i + 1))
              case measure => omega
              case rel => exact ⟨i + 1, g', cap', _, _, rfl, by go_num, by omega, by omega, F3.out.2, F3.out.1, hO3.out, hB3.out⟩
      · obtain rfl : i = R - 1 := by omega
        have hltz : ¬ ((R - 1 : Nat) : Int) < (R : Int) - 1 := by omega
        go_wp2
        go_ret2
        have e1 : R - 1 + 1 = R := by omega
        have h1 := hO2.out
        have h2 := hE2.out
        rw [e1] at h1
        rw [Nat.sub_self] at h2
        have h2 : X = .inl out := h2.symm
        subst h2
        exact ⟨_, rfl, ⟨vs, h1.nestV⟩, hB2.out⟩
end Go.RR
