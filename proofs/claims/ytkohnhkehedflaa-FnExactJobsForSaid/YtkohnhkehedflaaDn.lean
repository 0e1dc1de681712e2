/- slices.DeleteFunc with the program's own closure: its contract holds. No condition. -/
import Derived.Test.YtkohnhkehedflaaDm
set_option linter.unusedVariables false
set_option linter.unusedSimpArgs false
set_option maxRecDepth 100000
namespace Go.RR
open Go Go.Proofs Go.RowKit

noncomputable def delHp (a0 : List (List Int)) (a1 a2 : Int) (a3 : Nat → Int) : List (Nat × Option Blk) := [(0, some ⟨true, .arr (.one (.ls .i64)) a0⟩), (1, some ⟨true, .box (picA a1 a2 a3)⟩)]
noncomputable def delOut (r : List (List Int)) (a1 a2 : Int) (a3 : Nat → Int) : HOut := ⟨.a (.sl 2), [(0, none), (1, some ⟨true, .box (picA a1 a2 a3)⟩), (2, some ⟨true, .arr (.one (.ls .i64)) r⟩)], 3⟩
theorem del_core (a0 : List (List Int)) (a1 a2 : Int) (a3 : Nat → Int) (h0 : 0 < a0.length) (hbig : a0.length ≤ 1000000) (hval : a0.all validR = true)
    (w : World) (lo : Nat) (hlo : lo ≤ w.heap.size) (σ : Nat → Value) (hJ : JJ Try.prog w) (hO : ∀ g, Owned (lk (delHp a0 a1 a2 a3)) σ g → ¬ TabBlk Try.prog g ∧ lo ≤ g)
    (hgiv : Given (swH Try.prog w 0 (lk (delHp a0 a1 a2 a3)) σ lo hlo [] hJ hO) (lk (delHp a0 a1 a2 a3)) σ w) :
    Calls Try.prog 141 #[σ 0, .func (.func 143) #[] #[ptrv (σ 1) 0]] w fun en w' => ∃ z, en = .returned z ∧ ∃ σ', Back (swH Try.prog w 0 (lk (delHp a0 a1 a2 a3)) σ lo hlo [] hJ hO) (lk (delHp a0 a1 a2 a3)) σ 2 w' (delOut (dropR (bareR a3) a0) a1 a2 a3) z σ' := by
  have l0 : lk (delHp a0 a1 a2 a3) 0 = some (some ⟨true, .arr (.one (.ls .i64)) a0⟩) := rfl
  have l1 : lk (delHp a0 a1 a2 a3) 1 = some (some ⟨true, .box (picA a1 a2 a3)⟩) := rfl
  have l2 : ∀ b, b ≠ 0 → b ≠ 1 → lk (delHp a0 a1 a2 a3) b = none := fun b h1 h2 => by
    unfold delHp
    simp only [lk]
    rw [beqF h1, beqF h2]; rfl
  generalize hH : lk (delHp a0 a1 a2 a3) = H at *
  obtain ⟨xs, hrow, hown⟩ := hgiv.blk 0 _ l0
  obtain ⟨_, g1, ty1, s1, hM1, hh1⟩ := hgiv.blk 1 _ l1
  rcases hown with ⟨hz, _⟩ | ⟨g, cap, cur, ty, s0, hM0, hcap0, hh0, hle, hmax, hsz, htk⟩
  · have hz : List.length (α := List Int) a0 = 0 := hz
    omega
  have hsz : cur.size = cap := by rw [hsz]; exact Nat.mul_one _
  have htk : cur.toList.take a0.length = xs := by rw [← htk]; congr 1; exact (Nat.mul_one _).symm
  have hxl := rows_len hrow
  have hle' : xs.length ≤ cap := by rw [hxl]; exact hle
  have s0' : σ 0 = .slice (some ⟨g, 0, none⟩) xs.length cap := by rw [s0, hxl]; rfl
  have own0 : ownG (σ 0) = some g := by rw [s0]; simp only [ownG]; rw [if_neg (by omega)]
  have own1 : ownG (σ 1) = some g1 := by rw [s1]; rfl
  have hO0 : Owned H σ g := ⟨0, _, l0, own0⟩
  have hO1 : Owned H σ g1 := ⟨1, _, l1, own1⟩
  have hne : g1 ≠ g := fun e => hgiv.sep 0 1 _ _ l0 l1 (by omega) g own0 (by rw [own1, e])
  have hgl : g < w.heap.size := (Array.getElem?_eq_some_iff.1 hh0).1
  have hg1l : g1 < w.heap.size := (Array.getElem?_eq_some_iff.1 hh1).1
  have hg0 : w.heap[g]? = some (.cells cur.toList.toArray ty (0, 0)) := by rw [hh0]
  have hat := fun i v (hv : xs[i]? = some v) => rows_at hrow i v hv
  have hil : ∀ (i : Nat) (v : Value), xs[i]? = some v → i < a0.length := fun i v hv => by rw [← hxl]; exact (List.getElem?_eq_some_iff.1 hv).1
  have hpb : ∀ (i : Nat) (v : Value), xs[i]? = some v → saysV w a3 v = bareR a3 (a0.getD i []) := fun i v hv => saysV_ok (hat i v hv) (all_getD' hval (hil i v hv))
  have keepI : ∀ w', Near g w w' → ∀ (O : Nat → Prop), (∀ k, k < w.heap.size → ¬ Owned H σ k → ¬ O k) → ∀ (lo' : Nat) (r : List Int) (v : Value), Innr w (Owned H σ) lo' .i64 r v → Innr w' O lo' .i64 r v := fun w' hN O hO' lo' r v hv =>
    hv.keep hN.size fun k hk hn => ⟨hN.block k hk (fun e => hn (e ▸ hO0)), hO' k hk hn⟩
  have picV : ∀ w', Near g w w' → CellsR w' (.ref (picA a1 a2 a3)) [ptrv (σ 1) 0] := fun w' hN => by
    refine ⟨g1, 0, enc σ (picA a1 a2 a3), by rw [s1]; rfl, Nat.lt_of_lt_of_le hg1l hN.size, cells_pic, ?_⟩
    have hh : w'.heap[g1]? = some (.cells (enc σ (picA a1 a2 a3)).toArray ty1 (0, 0)) := (hN.block g1 hg1l hne).trans hh1
    exact Lies.of_heap (n := (enc σ (picA a1 a2 a3)).length) hh (by simp)
  have jj : ∀ w', Near g w w' → JJ Try.prog w' := fun w' hN => JJ_keep hJ hN.size fun k hk => hN.block k (JJ_lt hJ hk) fun e => (hO g hO0).1 (e ▸ hk)
  obtain ⟨k, hk1, hk2⟩ := index_ok (f := a3) a1 a2 hbig hval
  have near0 : Near g w w := ⟨rfl, rfl, rfl, Nat.le_refl _, fun _ _ _ => rfl⟩
  -- the search
  have hI : Calls Try.prog 187 #[.slice (some ⟨g, 0, none⟩) xs.length cap, .func (.func 143) #[] #[ptrv (σ 1) 0]] w fun e w' => e = .returned (.int .i64 k) ∧ Below w.heap.size w w' := by
    have hs := f_gIndexFunc_int64S_a_sound [.lst (.one (.ls .i64)) a0, .clo 143 [.ref (picA a1 a2 a3)]] k hk1 w [.slice (some ⟨g, 0, none⟩) xs.length cap, .func (.func 143) #[] #[ptrv (σ 1) 0]] hJ ?_
    · refine hs.mono ?_
      rintro e w' ⟨v, rfl, hv, hb⟩
      exact ⟨by rw [res_int hv], hb⟩
    · refine ⟨_, _, rfl, ⟨xs, some ⟨g, 0, none⟩, cap, by rw [hxl]; rfl, hle, hrow.imp fun _ _ _ h => h.any, fun _ => ⟨g, 0, rfl, hgl, Lies.of_heap hh0 htk⟩⟩, _, [], rfl, ?_, rfl⟩
      exact ⟨rfl, [ptrv (σ 1) 0], rfl, [ptrv (σ 1) 0], [], rfl, picV w near0, rfl⟩
  -- the closure
  have hC : ∀ v ∈ xs, ∀ w', Near g w w' → Calls Try.prog 143 (#[v] ++ #[ptrv (σ 1) 0]) w' fun e w2 => e = .returned (.bool (saysV w a3 v)) ∧ Below w'.heap.size w' w2 := by
    intro v hv w' hN
    obtain ⟨i, hi⟩ := List.getElem?_of_mem hv
    have hr := hat i v hi
    have hvr := all_getD' hval (hil i v hi)
    rw [hpb i v hi]
    generalize a0.getD i [] = r at hr hvr
    obtain ⟨ao, vc, rfl, h2, h3⟩ := keepI w' hN (fun _ => False) (fun _ _ _ h => h) _ r v hr
    have hs := f_iJobsFor_1_sound [.lst (.one (.i .i64)) r, .ref (picA a1 a2 a3)] (bareR a3 r) (closure_ok a1 a2 hvr) w' [.slice ao r.length vc, ptrv (σ 1) 0] (jj w' hN) ?_
    · refine hs.mono ?_
      rintro e w2 ⟨v, rfl, hv, hb⟩
      exact ⟨by rw [res_bool hv], hb⟩
    · refine ⟨_, _, rfl, ⟨r.map (Value.int .i64), ao, vc, rfl, h2, rows_i64_of r, fun hne => ?_⟩, _, [], rfl, picV w' hN, rfl⟩
      obtain ⟨gr, o, e, _, hgr, _, hl⟩ := h3 hne
      exact ⟨gr, o, e, hgr, hl⟩
  have hsl : ∀ v ∈ xs, ∃ ao m c, v = .slice ao m c := fun v hv => by
    obtain ⟨i, hi⟩ := List.getElem?_of_mem hv
    obtain ⟨ao, vc, e, _⟩ := hat i v hi
    exact ⟨ao, _, vc, e⟩
  have hk3 : (k = -1 ∧ ∀ m v, m < xs.length → xs[m]? = some v → saysV w a3 v = false) ∨ ∃ (k0 : Nat) (v : Value), k = (k0 : Int) ∧ xs[k0]? = some v ∧ saysV w a3 v = true ∧ ∀ m v, m < k0 → xs[m]? = some v → saysV w a3 v = false := by
    rcases hk2 with ⟨e, ha⟩ | ⟨k0, e, hl, ht, ha⟩
    · exact .inl ⟨e, fun m v hm hv => by rw [hpb m v hv]; exact ha m (by omega)⟩
    · have hx := List.getElem?_eq_getElem (l := xs) (i := k0) (by omega)
      exact .inr ⟨k0, _, e, hx, by rw [hpb k0 _ hx]; exact ht, fun m v hm hv => by rw [hpb m v hv]; exact ha m hm⟩
  have hwalk := del_walk cap g ty cur.toList xs (saysV w a3) #[ptrv (σ 1) 0] w hg0 (by simpa using hsz) hle' hmax (by rw [hxl]; exact htk) hsl k hk3 hI hC
  obtain ⟨hfl, hfr⟩ := rows_filter (pb := saysV w a3) (q := bareR a3) hxl hpb
  rw [s0']
  refine hwalk.mono ?_
  rintro en w' ⟨rfl, hN, ys, hy1, hy2, hy3⟩
  have hlen := List.length_filter_le (fun v => !saysV w a3 v) xs
  have hlen : (keepV (saysV w a3) xs).length ≤ xs.length := hlen
  generalize hz : Value.slice (some ⟨g, 0, none⟩) (keepV (saysV w a3) xs).length cap = z
  have ownz : ownG z = some g := by rw [← hz]; simp only [ownG]; rw [if_neg (by omega)]
  refine ⟨z, rfl, setF σ 2 z, ?_⟩
  have hH' : ∀ b, appH H (delOut (dropR (bareR a3) a0) a1 a2 a3).hp b = if b = 0 then some none else if b = 1 then some (some ⟨true, .box (picA a1 a2 a3)⟩) else if b = 2 then some (some ⟨true, .arr (.one (.ls .i64)) (dropR (bareR a3) a0)⟩) else H b := fun b => rfl
  have hl' : ∀ b, lk (delOut (dropR (bareR a3) a0) a1 a2 a3).hp b = if b = 0 then some none else if b = 1 then some (some ⟨true, .box (picA a1 a2 a3)⟩) else if b = 2 then some (some ⟨true, .arr (.one (.ls .i64)) (dropR (bareR a3) a0)⟩) else none := fun b => by
    unfold delOut
    simp only [lk]
    by_cases e0 : b = 0
    · subst e0; rfl
    · by_cases e1 : b = 1
      · subst e1; rfl
      · by_cases e2 : b = 2
        · subst e2; rfl
        · rw [beqF e0, beqF e1, beqF e2, if_neg e0, if_neg e1, if_neg e2]; rfl
  have e2 : setF σ 2 z 2 = z := setF_same _ _ _
  have eo : ∀ b, b ≠ 2 → setF σ 2 z b = σ b := fun b hb => setF_other _ _ hb
  have owned' : ∀ k, Owned (appH H (delOut (dropR (bareR a3) a0) a1 a2 a3).hp) (setF σ 2 z) k → Owned H σ k := by
    rintro k ⟨b, c, q1, q2⟩
    rw [hH'] at q1
    by_cases b0 : b = 0
    · rw [if_pos b0] at q1; cases q1
    · rw [if_neg b0] at q1
      by_cases b1 : b = 1
      · subst b1
        rw [eo 1 (by omega)] at q2
        exact ⟨1, _, l1, q2⟩
      · rw [if_neg b1] at q1
        by_cases b2 : b = 2
        · subst b2
          rw [e2, ownz] at q2
          cases q2
          exact hO0
        · rw [if_neg b2, l2 b b0 b1] at q1; cases q1
  have ownarr : ∀ W : SW, W.M g → OwnArr W w' z 1 (dropR (bareR a3) a0).length (keepV (saysV w a3) xs) := fun W hM =>
    .inr ⟨g, cap, ys.toArray, ty, by rw [← hz, hfl], hM, hcap0, hy1, by omega, hmax, by simpa using hy2, by rw [Nat.mul_one, hfl]; exact hy3⟩
  refine ⟨⟨hN.os, hN.tape, hN.output, hN.size, fun k hk hM => hN.block k hk fun e => hM (.inr (e ▸ hO0))⟩, fun b hb => ?_, fun b => ?_, fun b hb => ?_, ?_, fun b x hb => ?_, fun b c hb => ?_, fun b blk hb => ?_, fun b b' c c' q1 q2 hn k hk => ?_⟩
  · refine eo b fun e => ?_
    subst e
    rw [l2 2 (by omega) (by omega)] at hb; cases hb
  · by_cases hb : b = 2
    · subst hb; rw [e2, ← hz]; rfl
    · rw [eo b hb]; exact hgiv.one b
  · rw [hH']
    by_cases b0 : b = 0
    · rw [if_pos b0]; exact ⟨rfl, fun blk q => by cases q⟩
    · rw [if_neg b0]
      by_cases b1 : b = 1
      · subst b1
        rw [if_pos rfl]
        exact ⟨rfl, fun blk q => ⟨blk, by rw [l1]; exact q, fun _ _ hd => hd⟩⟩
      · rw [l2 b b0 b1] at hb; cases hb
  · refine ⟨?_, by show (appH H _ 2).isSome = true; rw [hH']; rfl⟩
    show z = val (setF σ 2 z) (.sl 2)
    rw [val_sl, e2]
  · rw [hl'] at hb
    by_cases b0 : b = 0
    · subst b0; exact .inl ⟨_, l0⟩
    · rw [if_neg b0] at hb
      by_cases b1 : b = 1
      · subst b1; exact .inl ⟨_, l1⟩
      · rw [if_neg b1] at hb
        by_cases b2 : b = 2
        · subst b2; exact .inr ⟨Nat.le_refl _, Nat.lt_succ_self _⟩
        · rw [if_neg b2] at hb; cases hb
  · rw [hl']
    by_cases b0 : b = 0
    · rw [if_pos b0]; rfl
    · rw [if_neg b0]
      by_cases b1 : b = 1
      · rw [if_pos b1]; rfl
      · rw [l2 b b0 b1] at hb; cases hb
  · rw [hl'] at hb
    by_cases b0 : b = 0
    · rw [if_pos b0] at hb; cases hb
    · rw [if_neg b0] at hb
      by_cases b1 : b = 1
      · subst b1
        rw [if_pos rfl] at hb
        cases hb
        refine ⟨rfl, .inl rfl, ⟨⟨rfl, rfl, trivial, trivial⟩, g1, ty1, by rw [eo 1 (by omega)]; exact s1, hM1, (hN.block g1 hg1l hne).trans hh1⟩⟩
      · rw [if_neg b1] at hb
        by_cases b2 : b = 2
        · subst b2
          rw [if_pos rfl] at hb
          cases hb
          rw [e2]
          refine ⟨rfl, .inr ⟨0, rowsE, a0, dropR (bareR a3) a0, xs, keepV (saysV w a3) xs, l0, by rw [hxl]; exact (Nat.mul_one _).symm, .inr ⟨g, cap, cur, ty, s0, hM0, hcap0, hh0, hle, hmax, by rw [hsz]; exact (Nat.mul_one _).symm, by rw [← htk]; congr 1; exact Nat.mul_one _⟩, rfl, ownarr _ hM0, hfr⟩, ?_⟩
          refine ⟨keepV (saysV w a3) xs, ?_, ownarr _ hM0⟩
          refine (hfr _ hrow).imp fun kk r v hv => ?_
          exact hv.keep hN.size fun k hk hn => ⟨hN.block k hk (fun e => hn (e ▸ hO0)), fun ho => hn (owned' k ho)⟩
        · rw [if_neg b2] at hb; cases hb
  · rw [hH'] at q1 q2
    have cases3 : ∀ b c, (if b = 0 then some none else if b = 1 then some (some (⟨true, .box (picA a1 a2 a3)⟩ : Blk)) else if b = 2 then some (some ⟨true, .arr (.one (.ls .i64)) (dropR (bareR a3) a0)⟩) else H b) = some (some ⟨true, c⟩) → (b = 1 ∨ b = 2) := by
      intro b c q
      by_cases b0 : b = 0
      · rw [if_pos b0] at q; cases q
      · by_cases b1 : b = 1
        · exact .inl b1
        · by_cases b2 : b = 2
          · exact .inr b2
          · rw [if_neg b0, if_neg b1, if_neg b2, l2 b b0 b1] at q; cases q
    rcases cases3 b c q1 with rfl | rfl <;> rcases cases3 b' c' q2 with rfl | rfl
    · exact absurd rfl hn
    · rw [eo 1 (by omega), own1] at hk
      rw [e2, ownz]
      cases hk
      exact fun e => hne (Option.some.inj e).symm
    · rw [e2, ownz] at hk
      rw [eo 1 (by omega), own1]
      cases hk
      exact fun e => hne (Option.some.inj e)
    · exact absurd rfl hn
theorem del_some {a0 : List (List Int)} {a1 a2 : Int} {a3 : Nat → Int} {r : List (List Int) × Int × Int × (Nat → Int)} (h : s_gDeleteFunc a0 a1 a2 a3 = some r) : (0 < a0.length ∧ a0.length ≤ 1000000 ∧ a0.all validR = true) ∧ r = (dropR (bareR a3) a0, a1, a2, a3) := by
  unfold s_gDeleteFunc at h
  cases hc : Nat.blt 0 a0.length && (Nat.ble a0.length 1000000 && a0.all validR) with
  | false => rw [hc] at h; cases h
  | true =>
    rw [hc] at h
    cases h
    rw [Bool.and_eq_true, Bool.and_eq_true, Nat.ble_eq] at hc
    exact ⟨⟨Nat.le_of_ble_eq_true hc.1, hc.2.1, hc.2.2⟩, rfl⟩
theorem f_gDeleteFunc_sound : HSound Try.prog 141 h_gDeleteFunc := by
  intro xs hp
  suffices h : ∀ z, h_gDeleteFunc xs hp = z → ∀ r : z.α, z.c = some r → ∀ (w : World) (lo : Nat) (hlo : lo ≤ w.heap.size) (σ : Nat → Value) (hJ : JJ Try.prog w) (hO : ∀ g, Owned (lk hp) σ g → ¬ TabBlk Try.prog g ∧ lo ≤ g), (∀ b, b < hp.length ↔ (lk hp b).isSome = true) → WfL (lk hp) xs → Given (swH Try.prog w 0 (lk hp) σ lo hlo [] hJ hO) (lk hp) σ w →
      Calls Try.prog 141 (xs.map (val σ)).toArray w fun en w' => ∃ q, en = .returned q ∧ ∃ σ', Back (swH Try.prog w 0 (lk hp) σ lo hlo [] hJ hO) (lk hp) σ hp.length w' (z.out r) q σ' from h _ rfl
  intro z hz
  unfold h_gDeleteFunc at hz
  split at hz
  · rename_i a0 a1 a2 a3
    subst hz
    intro r hr w lo hlo σ hJ hO hdom hwf hgiv
    obtain ⟨⟨c1, c2, c3⟩, e⟩ := del_some hr
    have e : r = (dropR (bareR a3) a0, a1, a2, a3) := e
    subst e
    exact del_core a0 a1 a2 a3 c1 c2 c3 w lo hlo σ hJ hO hgiv
  · subst hz
    intro r hr
    cases hr
end Go.RR
