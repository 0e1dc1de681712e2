/- Appending. No condition. -/
import Derived.Test.YtbmaolhjplapoaaGreatDoorRs
set_option linter.unusedVariables false
set_option linter.unusedSimpArgs false
namespace Go.RR
open Go Go.RowKit
section
variable {P : Program} (w : World)
theorem app_room (t ty e ty2 : TypeId) (i : TypeInfo) (ht : P.underlying t = some (.slice e)) (hi : P.info? e = some i)
  (g sLen sCap : Nat) (cur : Array Value) (hg : w.heap[g]? = some (.cells cur ty2 (0, 0)))
  (a : Addr) (m c : Nat) (news : List Value) (hl : news.length = m * i.size) (hnews : ∀ j u, news[j]? = some u → w.cell? (a.add j) = some u) (h1 : ∀ u ∈ news, u.oneCell' = true)
  (hroom : sLen + m ≤ sCap) (hfit : sLen * i.size + news.length ≤ cur.size) :
  (Builtin.append_ #[t, t] ty #[.slice (some ⟨g, 0, none⟩) sLen sCap, .slice (some a) m c]).run P w =
   .ok (.slice (some ⟨g, 0, none⟩) (sLen + m) sCap) (w.setRow g (cur.toList.take (sLen * i.size) ++ news ++ cur.toList.drop (sLen * i.size + news.length)).toArray) := by
 have hf := run_firstCells_some (P := P) w i.size m a m c news hl hnews
 have hst := run_storeCells_at P g (sLen * i.size) ty2 news 0 cur w hg (by simpa using hfit) h1
 simp only [Nat.add_zero] at hst
 simp [Builtin.append_, run_underlying ht, sizeOf, typeInfo, hi, Builtin.lenOf, hroom, hf, Addr.add_lit, hst]
theorem app_none (t ty e : TypeId) (i : TypeInfo) (ht : P.underlying t = some (.slice e)) (hi : P.info? e = some i) (ao ao2 : Option Addr) (n c c2 : Nat) (hn : n ≤ c) :
  (Builtin.append_ #[t, t] ty #[.slice ao n c, .slice ao2 0 c2]).run P w = .ok (.slice ao n c) w := by
 cases ao <;> cases ao2 <;> simp [Builtin.append_, run_underlying ht, sizeOf, typeInfo, hi, Builtin.lenOf, Builtin.firstCells, loadCells, loadCellsFrom, storeCells, hn]
end
theorem Sim.grow {W : SW} {S : Nat → SV} {H : HF} {σ : Nat → Value} {a : Act} {w w' : World} (h : Sim W S H σ a w)
  (hos : w'.os = w.os) (htape : w'.tape = w.tape) (hout : w'.output = w.output) (hs : w.heap.size ≤ w'.heap.size)
  {b n : Nat} {c : Con} {blk : Blk} {v : Value} (hb : H b = some (some ⟨true, c⟩)) (hn : H n = none) (hk : ∀ g, g < w.heap.size → ownG (σ b) ≠ some g → w'.heap[g]? = w.heap[g]?)
  (hv : v.oneCell' = true) (hown : ∀ g, ownG v = some g → ownG (σ b) = some g ∨ w.heap.size ≤ g)
  (hrep : RepB W (setF (setF H b (some none)) n (some (some blk))) (setF σ n v) w' v blk) : Sim W S (setF (setF H b (some none)) n (some (some blk))) (setF σ n v) a w' := by
 have hne : ∀ b', (H b').isSome = true → b' ≠ n := fun b' hb' e => by rw [e, hn] at hb'; cases hb'
 have hbn : b ≠ n := hne b (by rw [hb]; rfl)
 have hget : ∀ b' x, setF (setF H b (some none)) n (some (some blk)) b' = some (some x) → (b' = n ∧ x = blk) ∨ (b' ≠ n ∧ b' ≠ b ∧ H b' = some (some x)) := by
  intro b' x hx
  by_cases e : b' = n
  ·subst e; rw [setF_same] at hx; cases hx; exact .inl ⟨rfl, rfl⟩
  ·rw [setF_other _ _ e] at hx
   by_cases e2 : b' = b
   ·subst e2; rw [setF_same] at hx; cases hx
   ·rw [setF_other _ _ e2] at hx; exact .inr ⟨e, e2, hx⟩
 refine h.upd hos htape hout hs (fun b' => ?_) (fun b' hb' => setF_other _ _ (hne b' hb')) (fun b' hb' => ?_) (fun g => ownG (σ b) = some g) hk (fun g hg => ⟨⟨b, c, hb, hg⟩, (h.own_lt hb hg).2⟩) (fun g hg ho => ?_) (fun b' blk' hb' => ?_) (fun b1 b2 c1 c2 h1 h2 hn12 k hk1 hk2 => ?_)
 ·by_cases e : b' = n
  ·subst e; rw [setF_same]; exact hv
  ·rw [setF_other _ _ e]; exact h.one b'
 ·rw [setF_other _ _ (hne b' hb')]
  by_cases e2 : b' = b
  ·subst e2; rw [setF_same]; exact ⟨rfl, fun blk' q => by cases q⟩
  ·rw [setF_other _ _ e2]; exact ⟨hb', fun blk' q => ⟨blk', q, fun _ _ hd => hd⟩⟩
 ·obtain ⟨b', c', q1, q2⟩ := ho
  rcases hget b' _ q1 with ⟨rfl, _⟩ | ⟨e1, e2, q3⟩
  ·rw [setF_same] at q2
   rcases hown g q2 with q | q
   ·exact ⟨b, c, hb, q⟩
   ·omega
  ·rw [setF_other _ _ e1] at q2
   exact ⟨b', c', q3, q2⟩
 ·rcases hget b' _ hb' with ⟨rfl, rfl⟩ | ⟨e1, e2, q3⟩
  ·right; rw [setF_same]; exact hrep
  ·left
   obtain ⟨own, con⟩ := blk'
   refine ⟨q3, fun ho g hg => ?_⟩
   subst ho
   exact ⟨fun ht => h.sep b' b con c q3 hb e2 g hg ht, (h.own_lt q3 hg).1⟩
 ·rcases hget b1 _ h1 with ⟨rfl, _⟩ | ⟨e1, e2, q3⟩
  ·rcases hget b2 _ h2 with ⟨rfl, _⟩ | ⟨f1, f2, q4⟩
   ·exact hn12 rfl
   ·rw [setF_same] at hk1
    rw [setF_other _ _ f1] at hk2
    rcases hown k hk1 with q | q
    ·exact h.sep b b2 c c2 hb q4 (fun e => f2 e.symm) k q hk2
    ·have := (h.own_lt q4 hk2).1; omega
  ·rw [setF_other _ _ e1] at hk1
   rcases hget b2 _ h2 with ⟨rfl, _⟩ | ⟨f1, f2, q4⟩
   ·rw [setF_same] at hk2
    rcases hown k hk2 with q | q
    ·exact h.sep b1 b c1 c q3 hb e2 k hk1 q
    ·have := (h.own_lt q3 hk1).1; omega
   ·rw [setF_other _ _ f1] at hk2
    exact h.sep b1 b2 c1 c2 q3 q4 hn12 k hk1 hk2
theorem app_run {W : SW} {w : World} (hM : ∀ g, w.heap.size ≤ g → W.M g) (t ty e : TypeId) (i : TypeInfo) (z : Value) (ht : W.P.underlying t = some (.slice e)) (hi : W.P.info? e = some i) (hz : i.zero = some z) (hzs : z.cells.size = i.size) (hpos : 0 < i.size)
  {v : Value} {n : Nat} {xs : List Value} (hown : OwnArr W w v i.size n xs) (hxs : xs.length = n * i.size)
  {ao2 : Option Addr} {m c2 : Nat} {news : List Value} (hl : news.length = m * i.size) (hnews : m ≠ 0 → ∃ g o, ao2 = some ⟨g, o, none⟩ ∧ Lies w g o news) (h1 : ∀ u ∈ news, u.oneCell' = true)
  (h63 : n + m ≤ maxLen) (hby : (n + m) * i.bytes ≤ 140737488355328) :
  ∃ v' w', (Builtin.append_ #[t, t] ty #[v, .slice ao2 m c2]).run W.P w = .ok v' w' ∧ OwnArr W w' v' i.size (n + m) (xs ++ news) ∧ w'.os = w.os ∧ w'.tape = w.tape ∧ w'.output = w.output ∧ w.heap.size ≤ w'.heap.size ∧
   (∀ g, g < w.heap.size → ownG v ≠ some g → w'.heap[g]? = w.heap[g]?) ∧ v'.oneCell' = true ∧ ∀ g, ownG v' = some g → ownG v = some g ∨ w.heap.size ≤ g := by
 by_cases hm : m = 0
 ·subst hm
  have hnn : news = [] := List.eq_nil_of_length_eq_zero (by simpa using hl)
  subst hnn
  rw [List.append_nil, Nat.add_zero]
  have hv : ∃ ao c, v = .slice ao n c ∧ n ≤ c := by
   rcases hown with ⟨rfl, ao, rfl⟩ | ⟨g, cap, cur, ty', rfl, _, _, _, h5, _⟩
   ·exact ⟨ao, 0, rfl, Nat.le_refl _⟩
   ·exact ⟨_, cap, rfl, h5⟩
  obtain ⟨ao, c, rfl, hc⟩ := hv
  exact ⟨_, w, app_none w t ty e i ht hi ao ao2 n c c2 hc, hown, rfl, rfl, rfl, Nat.le_refl _, fun _ _ _ => rfl, rfl, fun g hg => .inl hg⟩
 ·obtain ⟨g2, o2, rfl, hlie⟩ := hnews hm
  have hnews' : ∀ j u, news[j]? = some u → w.cell? ((⟨g2, o2, none⟩ : Addr).add j) = some u := fun j u hj => by rw [Addr.add_lit]; exact hlie j u hj
  have hlen : (xs ++ news).length = (n + m) * i.size := by rw [List.length_append, hxs, hl, Nat.add_mul]
  have h63' : n + m ≤ 9223372036854775807 := by simp only [maxLen] at h63; omega
  have grown : ∀ (old : Nat) (w1 : World), w1 = w.drew.alloc (.cells (xs.toArray ++ news.toArray ++ Builtin.zeroCells z.cells (grownCap w (n + m) old e - (n + m))) e) →
    OwnArr W w1 (.slice (some ⟨w.heap.size, 0, none⟩) (n + m) (grownCap w (n + m) old e)) i.size (n + m) (xs ++ news) ∧ w1.os = w.os ∧ w1.tape = w.tape ∧ w1.output = w.output ∧ w.heap.size ≤ w1.heap.size ∧
    (∀ g, g < w.heap.size → w1.heap[g]? = w.heap[g]?) := by
   rintro old w1 rfl
   have hge := grownCap_ge w (n + m) old e
   have hcm : grownCap w (n + m) old e ≤ maxLen := grownCap_le_maxLen w (n + m) old e h63
   refine ⟨.inr ⟨w.heap.size, _, _, e, rfl, hM _ (Nat.le_refl _), by omega, heap_alloc_new w.drew _, hge, hcm, ?_, ?_⟩, rfl, rfl, rfl, by simp, fun k hk => heap_alloc_old w.drew _ hk⟩
   ·simp only [Array.size_append, List.size_toArray, size_zeroCells, hzs, hxs, hl, ← Nat.add_mul]
    congr 1
    omega
   ·simp only [Array.toList_append, List.append_assoc]
    rw [← List.append_assoc, ← hlen]
    exact List.take_left
  have fin : ∀ (old : Nat), (Builtin.append_ #[t, t] ty #[v, .slice (some ⟨g2, o2, none⟩) m c2]).run W.P w = .ok (.slice (some ⟨w.heap.size, 0, none⟩) (n + m) (grownCap w (n + m) old e)) (w.drew.alloc (.cells (xs.toArray ++ news.toArray ++ Builtin.zeroCells z.cells (grownCap w (n + m) old e - (n + m))) e)) →
    ∃ v' w', (Builtin.append_ #[t, t] ty #[v, .slice (some ⟨g2, o2, none⟩) m c2]).run W.P w = .ok v' w' ∧ OwnArr W w' v' i.size (n + m) (xs ++ news) ∧ w'.os = w.os ∧ w'.tape = w.tape ∧ w'.output = w.output ∧ w.heap.size ≤ w'.heap.size ∧
   (∀ g, g < w.heap.size → ownG v ≠ some g → w'.heap[g]? = w.heap[g]?) ∧ v'.oneCell' = true ∧ ∀ g, ownG v' = some g → ownG v = some g ∨ w.heap.size ≤ g := by
   intro old hr
   obtain ⟨q1, q2, q3, q4, q5, q6⟩ := grown old _ rfl
   refine ⟨_, _, hr, q1, q2, q3, q4, q5, fun g hg _ => q6 g hg, rfl, fun g hg => .inr ?_⟩
   simp only [ownG] at hg
   split at hg
   ·cases hg
   ·cases hg; exact Nat.le_refl _
  rcases hown with ⟨rfl, ao, rfl⟩ | ⟨g, cap, cur, ty', rfl, hMg, hc0, hg, hnc, hcm, hcs, htake⟩
  ·have hx : xs = [] := List.eq_nil_of_length_eq_zero (by simpa using hxs)
   subst hx
   cases ao with
   | none =>
    refine fin 0 ?_
    have hr := run_append_nil (P := W.P) w t ty e i z ht hi hz ⟨g2, o2, none⟩ m c2 news hl hnews' (by omega) (by omega) (by have hb := hby; simp only [Nat.zero_add] at hb; omega)
    simpa only [Nat.zero_add, List.nil_append, Array.empty_append] using hr
   | some b =>
    refine fin 0 ?_
    exact run_append_grow (P := W.P) w t ty e i z ht hi hz b 0 0 [] (by simp) (fun j u h => by simp at h) ⟨g2, o2, none⟩ m c2 news hl hnews' (by omega) (by omega) (growslice_fits (by omega) hby)
  ·by_cases hroom : n + m ≤ cap
   ·have hfit : n * i.size + news.length ≤ cur.size := by rw [hl, hcs, ← Nat.add_mul]; exact Nat.mul_le_mul_right _ hroom
    have hr := app_room (P := W.P) w t ty e ty' i ht hi g n cap cur hg ⟨g2, o2, none⟩ m c2 news hl hnews' h1 hroom hfit
    refine ⟨_, _, hr, .inr ⟨g, cap, _, ty', rfl, hMg, hc0, setRow_heap w g cur _ ty' _ hg, hroom, hcm, ?_, ?_⟩, rfl, rfl, rfl, by simp, fun k _ hk => setRow_other w g k _ (fun e => hk ?_), rfl, fun k hk => .inl ?_⟩
    ·simp only [List.size_toArray, List.length_append, List.length_take, List.length_drop, Array.length_toList]
     omega
    ·rw [htake, ← hlen]
     exact List.take_left
    ·simp only [ownG]; rw [if_neg (by omega), e]
    ·simp only [ownG] at hk ⊢; exact hk
   ·have holds : ∀ j u, xs[j]? = some u → w.cell? ((⟨g, 0, none⟩ : Addr).add j) = some u := fun j u hj => by
     rw [Addr.add_lit]; exact Lies.of_heap hg htake j u hj
    exact fin cap (run_append_grow (P := W.P) w t ty e i z ht hi hz ⟨g, 0, none⟩ n cap xs hxs holds ⟨g2, o2, none⟩ m c2 news hl hnews' (by omega) (by omega) (growslice_fits (by omega) hby))
theorem Con.as_spec {e : ET} {c : Con} {l : List e.den} (h : c.as e = some l) : c = .arr e l := by
 unfold Con.as at h
 split at h
 ·split at h
  ·rename_i e' l' he
   subst he
   cases h; rfl
  ·cases h
 ·cases h
theorem RowsC_flat {I J : Inn} {e : ET} (hf : e.flat = true) : ∀ {l : List e.den} {xs : List Value}, RowsC I e l xs → RowsC J e l xs
 | [], xs, h => h
 | x :: l, xs, h => by
  obtain ⟨c1, c2, he, h1, h2⟩ := h
  refine ⟨c1, c2, he, ?_, RowsC_flat hf h2⟩
  cases e with
  | one t =>
   cases t with
   | ls k => simp [ET.flat] at hf
   | _ => exact h1
  | st ts => exact h1
section
variable {R : Type} {W : SW} {X : Ctx} {s : AS} {o : Oper} {K : Eff → Option R} {r : R}
theorem RTC.one {I : Inn} (hI : ∀ k l v, I k l v → v.oneCell' = true) {t : RT} {x : t.den} {cs : List Value} (h : RTC I t x cs) : ∀ u ∈ cs, u.oneCell' = true := by
 intro u hu
 cases t <;> simp only [RTC] at h
 case ls k => obtain ⟨v, rfl, hv⟩ := h; simp at hu; subst hu; exact hI _ _ _ hv
 all_goals subst h; simp at hu
 case fa n k => obtain ⟨_, _, rfl⟩ := hu; rfl
 all_goals subst hu; rfl
theorem RowsC.ones {I : Inn} (hI : ∀ k l v, I k l v → v.oneCell' = true) {e : ET} : ∀ {l : List e.den} {xs : List Value}, RowsC I e l xs → ∀ u ∈ xs, u.oneCell' = true
 | [], xs, h, u, hu => by simp only [RowsC] at h; subst h; simp at hu
 | x :: l, xs, h, u, hu => by
  obtain ⟨c1, c2, rfl, h1, h2⟩ := h
  rcases List.mem_append.1 hu with hu | hu
  ·cases e with
   | one t => exact RTC.one hI h1 u hu
   | st ts =>
    obtain ⟨hf, rfl⟩ := h1
    rw [encL_congr (H := fun _ => none) (σ := fun _ => .bool false) (τ := fun _ => undef) (fun b hb => by cases hb) _ (WfL_flat ts x hf)] at hu
    exact encL_one (H := fun _ => none) (fun _ => rfl) _ (WfL_flat ts x hf) u hu
  ·exact RowsC.ones hI h2 u hu
theorem Innr.one {w : World} {O : Nat → Prop} {lo : Nat} {k : IntKind} {l : List Int} {v : Value} (h : Innr w O lo k l v) : v.oneCell' = true := by
 obtain ⟨ao, cap, rfl, _⟩ := h; rfl
theorem from_spec {S : Nat → SV} {H : HF} {σ : Nat → Value} {a : Act} {w : World} (hs : Sub s S H) (hsim : Sim W S H σ a w) {e : ET} {y : A} {c1 : Con} {l1 : List e.den} (hc : fromC s e y = some c1) (hl : c1.as e = some l1) :
  ∃ ao c2 news, val σ y = .slice ao l1.length c2 ∧ RowsC (Innr w (Owned H σ) W.lo) e l1 news ∧ (l1.length ≠ 0 → ∃ g o, ao = some ⟨g, o, none⟩ ∧ Lies w g o news) := by
 have hc1 := Con.as_spec hl
 unfold fromC at hc
 split at hc
 ·rename_i e'
  rw [hc1] at hc
  simp only [Option.some.injEq, Con.arr.injEq] at hc
  obtain ⟨he, hh⟩ := hc
  subst he
  obtain rfl := eq_of_heq hh
  exact ⟨none, 0, [], rfl, rfl, fun h => absurd rfl h⟩
 ·rename_i b
  split at hc
  ·rename_i own c hb
   obtain ⟨hof, hc⟩ := cond_some hc
   obtain rfl := Option.some.inj hc
   subst hc1
   have hr := hsim.blk b _ (hs.blk hb)
   rw [val_sl]
   cases own
   ·obtain ⟨xs, ao, cap, h1, h2, h3, h4⟩ := hr
    simp only [Bool.false_or] at hof
    refine ⟨ao, cap, xs, h2, RowsC_flat hof h1, fun hne => ?_⟩
    obtain ⟨g, o, q1, q2, q3, q4⟩ := h4 (fun h => hne (by rw [h]; rfl))
    exact ⟨g, o, q1, q4⟩
   ·obtain ⟨xs, h1, ⟨hn, ao, h5⟩ | ⟨g, cap, cur, ty, h5, _, _, hg, _, _, _, ht⟩⟩ := hr
    ·exact ⟨ao, 0, xs, by rw [h5, hn], h1, fun h => absurd hn h⟩
    ·exact ⟨_, cap, xs, h5, h1, fun _ => ⟨g, 0, rfl, Lies.of_heap hg ht⟩⟩
  ·cases hc
 ·cases hc
theorem onto_spec {S : Nat → SV} {H : HF} {σ : Nat → Value} {a : Act} {w : World} (hs : Sub s S H) (hsim : Sim W S H σ a w) {e : ET} {y : A} {c0 : Con} {dead : List (Nat × Option Blk)} {l0 : List e.den} (hc : ontoC s y = some (c0, dead)) (hl : c0.as e = some l0) :
  ∃ xs, OwnArr W w (val σ y) e.sz l0.length xs ∧ RowsC (Innr w (Owned H σ) W.lo) e l0 xs ∧ ((dead = [] ∧ ownG (val σ y) = none) ∨ ∃ b, val σ y = σ b ∧ H b = some (some ⟨true, .arr e l0⟩) ∧ dead = [(b, none)] ∧ (lk s.hp b).isSome = true) := by
 have hc1 := Con.as_spec hl
 unfold ontoC at hc
 split at hc
 ·rename_i e'
  rw [hc1] at hc
  simp only [Option.some.injEq, Prod.mk.injEq, Con.arr.injEq] at hc
  obtain ⟨⟨he, hh⟩, hd⟩ := hc
  subst he
  obtain rfl := eq_of_heq hh
  exact ⟨[], .inl ⟨rfl, none, rfl⟩, rfl, .inl ⟨hd.symm, rfl⟩⟩
 ·rename_i b
  split at hc
  ·rename_i c hb
   simp only [Option.some.injEq, Prod.mk.injEq] at hc
   obtain ⟨rfl, rfl⟩ := hc
   subst hc1
   obtain ⟨xs, h1, h2⟩ := hsim.blk b _ (hs.blk hb)
   refine ⟨xs, h2, h1, .inr ⟨b, rfl, hs.blk hb, rfl, ?_⟩⟩
   unfold AS.blk at hb
   cases hq : lk s.hp b with
   | none => rw [hq] at hb; cases hb
   | some _ => rfl
  ·cases hc
 ·cases hc
theorem aAppend_ok (hT : TabOK W.P X.T) (hd : ∀ i, o.dst = some i → i < W.N) {t u : Nat} {x y : Operand} (ho : o.op = .call { callee := .builtin .append, args := #[x, y], argTypes := #[t, u] }) (h : aAppend X s o t u x y K = some r) : ∃ e, K e = some r ∧ OpOK W o s e := by
 unfold aAppend at h
 split at h
 ·rename_i e0 sz by_ ax ay ht hx hy
  split at h
  ·rename_i e ti z c0 dead he hu hz hon
   split at h
   ·rename_i c1 hfr
    split at h
    ·rename_i l0 l1 hl0 hl1
     obtain ⟨hc, hk⟩ := cond_some h
     simp only [Bool.and_eq_true] at hc
     obtain ⟨⟨⟨⟨htu, hft⟩, hby⟩, hpos⟩, hfit⟩ := hc
     have htu : t = u := Nat.eq_of_beq_eq_true htu
     subst htu
     have hby : 0 < ti.by_ := Nat.le_of_ble_eq_true hby
     have hpos : 0 < ti.sz := Nat.le_of_ble_eq_true hpos
     have hfit : (l0.length + l1.length) * ti.by_ ≤ 140737488355328 := Nat.le_of_ble_eq_true hfit
     have hdead : ∀ b x, (b, x) ∈ dead → (lk s.hp b).isSome = true := by
      intro b x hm
      unfold ontoC at hon
      split at hon
      ·simp only [Option.some.injEq, Prod.mk.injEq] at hon
       rw [← hon.2] at hm; cases hm
      ·rename_i b'
       split at hon
       ·rename_i c hb
        simp only [Option.some.injEq, Prod.mk.injEq] at hon
        rw [← hon.2] at hm
        simp only [List.mem_singleton, Prod.mk.injEq] at hm
        rw [hm.1]
        unfold AS.blk at hb
        cases hq : lk s.hp b' with
        | none => rw [hq] at hb; cases hb
        | some _ => rfl
       ·cases hon
      ·cases hon
     refine ⟨_, hk, ⟨Nat.le_succ _, fun b x hm => ?_⟩, ?_⟩
     ·rcases List.mem_cons.1 hm with hm | hm
      ·simp only [Prod.mk.injEq] at hm
       rw [hm.1]; exact .inl ⟨Nat.le_refl _, Nat.lt_succ_self _⟩
      ·exact .inr (hdead b x hm)
     intro S H σ a w hs hf hsim next Q hnx
     have hnew := hf s.n (Nat.le_refl _) (Nat.lt_succ_self _)
     have h1 := (opA_val hs hsim hx).1
     have h2 := (opA_val hs hsim hy).1
     obtain ⟨f, hf0, hf1, hf2, hf3⟩ := (hT e0 ti hu).inf
     obtain ⟨hz1, hz2⟩ := hf3 z hz
     obtain ⟨d, hd1, hd2⟩ := (hT t _ ht).und
     have hund : W.P.underlying t = some (.slice e0) := by
      cases d <;> simp [UndOK] at hd2
      rw [hd1, hd2]
     have hzc := val_cells (σ := fun _ => .bool false) (fun _ => rfl) (hz2 H)
     have hz1' : f.zero = some (val (fun _ => .bool false) z) := by rw [hz1]; exact congrArg some (zero_val' hz2 _)
     obtain ⟨ti', hti', hsz, _⟩ := fitT_spec hft
     rw [hu] at hti'; cases hti'
     have hlen : (enc (fun _ => .bool false) z).length = f.size := by rw [enc_len, hsz, hf1]
     have hesz : (enc (fun _ => .bool false) z).length = e.sz := (zero_el (w := w) (O := fun _ => False) (lo := 0) he hz).len
     have hfe : f.size = e.sz := by rw [← hlen, hesz]
     have hzs : (val (fun _ => .bool false) z).cells.size = f.size := by rw [hzc, ← hlen]; simp
     obtain ⟨xs, hown, hr0, hcase⟩ := onto_spec hs hsim hon hl0
     obtain ⟨ao2, c2, news, hv2, hr1, hlie⟩ := from_spec hs hsim hfr hl1
     have hsum : l0.length + l1.length ≤ 140737488355328 := Nat.le_trans (Nat.le_mul_of_pos_right _ hby) hfit
     obtain ⟨v', w', hrun, hown', g1, g2, g3, g4, g5, g6, g7⟩ := app_run (W := W) (w := w) (fun g hg => W.hM g (Nat.le_trans hsim.bel.size hg)) t o.type e0 f _ hund hf0 hz1' hzs (by rw [hf1]; exact hpos)
      (v := val σ ax) (n := l0.length) (xs := xs) (by rw [hfe]; exact hown) (by rw [hfe]; exact hr0.len) (ao2 := ao2) (m := l1.length) (c2 := c2) (news := news) (by rw [hfe]; exact hr1.len) hlie (hr1.ones fun k l v hv => hv.one) (by simp only [maxLen]; omega) (by rw [hf2]; exact hfit)
     have hexec : (execOp a.eval o).run W.P w = .ok (.value v') w' := by
      simp only [execOp, ho, Go.resolve, invoke, builtin, Sem.run_bind, Sem.run_pure, Result.andThen_ok]
      simp [h1, h2, hv2, hrun]
     have rep : ∀ H' σ', (∀ g, g < w.heap.size → Owned H' σ' g → Owned H σ g) → (∀ g, ownG (val σ ax) = some g → Owned H σ g) → RepB W H' σ' w' v' ⟨true, .arr e (l0 ++ l1)⟩ := by
      intro H' σ' hOO hvO
      refine ⟨xs ++ news, (hr0.append hr1).imp fun k l v hv => hv.keep g4 (fun g hg hO => ⟨g5 g hg fun he => hO (hvO g he), fun ho => hO (hOO g hg ho)⟩), ?_⟩
      rw [List.length_append, ← hfe]
      exact hown'
     refine wp_value hexec (hnx (setF σ s.n v') _ _ ?_)
     refine Sim.put ?_ (d := o.dst) (sv := .a (.sl s.n)) (v := v') hd ⟨by rw [val_sl, setF_same], by show (appH H ((s.n, _) :: dead) s.n).isSome = true; simp only [appH, setF_same]; rfl⟩
     rcases hcase with ⟨rfl, hvn⟩ | ⟨b, hvb, hb, rfl, hbs⟩
     ·refine hsim.new g1 g2 g3 g4 (fun g hg => g5 g hg (by rw [hvn]; simp)) hnew g6 (fun _ g hg => ?_) (rep _ _ (fun g hg ho => ?_) (fun g hg => by rw [hvn] at hg; cases hg))
      ·rcases g7 g hg with q | q
       ·rw [hvn] at q; cases q
       ·exact q
      ·obtain ⟨b', c', q1, q2⟩ := ho
       by_cases hbn : b' = s.n
       ·subst hbn
        rw [setF_same] at q2
        rcases g7 g q2 with q | q
        ·rw [hvn] at q; cases q
        ·omega
       ·rw [setF_other _ _ hbn] at q1 q2
        exact ⟨b', c', q1, q2⟩
     ·rw [hvb] at g5 g7 rep
      refine hsim.grow g1 g2 g3 g4 hb hnew g5 g6 g7 (rep _ _ (fun g hg ho => ?_) (fun g hg => ⟨b, _, hb, hg⟩))
      obtain ⟨b', c', q1, q2⟩ := ho
      by_cases hbn : b' = s.n
      ·subst hbn
       rw [setF_same] at q2
       rcases g7 g q2 with q | q
       ·exact ⟨b, _, hb, q⟩
       ·omega
      ·rw [setF_other _ _ hbn] at q1 q2
       by_cases hbb : b' = b
       ·subst hbb; rw [setF_same] at q1; cases q1
       ·rw [setF_other _ _ hbb] at q1
        exact ⟨b', c', q1, q2⟩
    ·cases h
   ·cases h
  ·cases h
 ·cases h
end
end Go.RR
