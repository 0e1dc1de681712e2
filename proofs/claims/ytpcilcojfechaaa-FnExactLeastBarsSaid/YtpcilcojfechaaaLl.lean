/- The program's search for the fewest bars, walked: where all pieces are placed. No condition but the ranges. -/
import Derived.Test.YtpcilcojfechaaaLj
import Derived.Test.YtpcilcojfechaaaLf
import Derived.Deep.RegionHeld3
import Derived.Deep.RegionLaw
import Derived.Deep.AppendLies
import Derived.OwnWalk
set_option linter.unusedVariables false
set_option linter.unusedSimpArgs false
set_option maxRecDepth 100000
set_option maxHeartbeats 4000000
namespace Go.RR
open Go Go.Proofs Go.RowKit

def IB (L S : Int) (vP vO vB vb : Value) (fd : Bool) (lk bud : Nat) : Array Value := #[.int .i64 L, .int .i64 S, vP, vO, vB, vb, .bool fd, .int .i64 (lk : Int), .int .i64 (bud : Int)]
/-- The searcher's box and what it leads to. -/
structure Sw (w : World) (b : Nat) (L S : Int) (vP vO : Value) (bud : Nat) (bars : List (List Int)) (st : SSt) (vB : Value) (vs : List Value) (vb : Value) (bs : List Value) : Prop where
  bx : Bx w b (IB L S vP vO vB vb st.found st.looks bud)
  nt : NT w (b + 1) bars vB vs
  ro : RO w (b + 1) st.best vb bs
  sep : ∀ g, FP vB vs g → ¬ FPr vb bs g
def LPost (w : World) (b : Nat) (L S : Int) (vP vO : Value) (bud : Nat) (bars : List (List Int)) (e : Ending) (w' : World) : Option SSt → Prop
  | some st => e = .returned (.bool true) ∧ Below b w w' ∧ st.looks ≤ bud ∧ ∃ vB vs vb bs, Sw w' b L S vP vO bud bars st vB vs vb bs
  | none => e = .returned (.bool false) ∧ Below b w w'
def LookC (P O : List Int) (S L : Int) (bud : Nat) (W : World) (vP vO : Value) (rest : List Int) : Prop :=
  ∀ (i : Nat), O.drop i = rest → i ≤ O.length → ∀ (bars : List (List Int)) (st : SSt) (w : World) (vB : Value) (vs : List Value) (vb : Value) (bs : List Value), BarsOK P i bars → st.looks ≤ bud → Below W.heap.size W w → Sw w W.heap.size L S vP vO bud bars st vB vs vb bs →
    Calls Try.prog 38 #[.pointer (some ⟨W.heap.size, 0, none⟩), .int .i64 (i : Int)] w fun e w' => LPost w W.heap.size L S vP vO bud bars e w' (goB P S L bud rest bars st)
theorem Sw.heap {w w' : World} {b : Nat} {L S : Int} {vP vO : Value} {bud : Nat} {bars : List (List Int)} {st : SSt} {vB : Value} {vs : List Value} {vb : Value} {bs : List Value} (h : Sw w b L S vP vO bud bars st vB vs vb bs) (e : w'.heap = w.heap) : Sw w' b L S vP vO bud bars st vB vs vb bs :=
  ⟨h.bx.keep (by rw [e]), h.nt.keep fun _ _ => by rw [e], h.ro.keep (by rw [e]; exact Nat.le_refl _) fun _ _ => by rw [e], h.sep⟩
theorem Sw.copy {wr w6 w8 : World} {b : Nat} {L S : Int} {vP vO : Value} {bud lk i g2 cap2 : Nat} {bars : List (List Int)} {vB : Value} {vs : List Value} {vb : Value} {bs : List Value} {u' : Value} {o : Obj} (h : Sw wr b L S vP vO bud bars ⟨true, bars.take i, lk⟩ vB vs vb bs) (hb6 : Below wr.heap.size wr w6)
    (hu : NRow w6 wr.heap.size .i64 (bars.getD i []) u') (hi : i < bars.length) (hown : w8.ownsRow (b + 1) 28 1 (.slice (some ⟨g2, 0, none⟩) (i + 1) cap2) (i + 1) (bs ++ [u'])) (hgrow : (w6.alloc o).grownBy w8 vb.ownBlock) (hat : vb.ownBlock = some g2 ∨ g2 = (w6.alloc o).heap.size) :
    Sw (w8.setCell ⟨b, 5, none⟩ (.slice (some ⟨g2, 0, none⟩) (i + 1) cap2)) b L S vP vO bud bars ⟨true, bars.take (i + 1), lk⟩ vB vs (.slice (some ⟨g2, 0, none⟩) (i + 1) cap2) (bs ++ [u']) ∧ Below b wr (w8.setCell ⟨b, 5, none⟩ (.slice (some ⟨g2, 0, none⟩) (i + 1) cap2)) := by
  have hsz := alloc_size w6 o
  have h6 := hb6.size
  have h8 := hgrow.size
  have hlt := h.bx.lt
  have hvb : ∀ g, vb.ownBlock = some g → b + 1 ≤ g ∧ g < wr.heap.size := fun g hg => h.ro.lt' (.inl hg)
  have hold : ∀ k, k < wr.heap.size → vb.ownBlock ≠ some k → w8.heap[k]? = wr.heap[k]? := fun k hk hne => by
    rw [hgrow.block k (by omega) fun e => hne e.symm, Below.heap_alloc w6 o k (by omega), hb6.block k hk]
  have hbne : vb.ownBlock ≠ some b := fun e => by have := (hvb b e).1; omega
  have hti : (bars.take i).length = i := by rw [List.length_take]; omega
  have hr6 : RO w6 (b + 1) (bars.take i) vb bs := h.ro.keep h6 fun g hg => hb6.block g (h.ro.lt' hg).2
  have h9 := hr6.snoc (w1 := w8) (cap := cap2) (g := g2) (a := wr.heap.size) (by omega) hu (fun x hx g hg => (h.ro.lt' (.inr ⟨x, hx, hg⟩)).2) (fun g hg => (hvb g hg).2) (by rw [hti]; exact hown) hgrow hat
  rw [hti] at h9
  have htake : bars.take (i + 1) = bars.take i ++ [bars.getD i []] := by
    have e1 : bars[i]? = some (bars.getD i []) := by rw [List.getD_eq_getElem?_getD, List.getElem?_eq_getElem hi]; rfl
    rw [List.take_add_one, e1]; rfl
  refine ⟨⟨?_, ?_, ?_, fun g hg hg2 => ?_⟩, ?_⟩
  · exact (h.bx.keep (hold b hlt hbne)).set 5 _
  · refine h.nt.keep fun g hg => ?_
    have hg2 := h.nt.lt hg
    rw [setCell_other (by omega)]
    exact hold g hg2.2 fun e => h.sep g hg (.inl e)
  · rw [htake]
    exact h9.keep (by rw [setCell_size]; exact Nat.le_refl _) fun g hg => setCell_other (by have := (h9.lt' hg).1; omega)
  · have h1 := (h.nt.lt hg).2
    rcases hg2 with e | ⟨x, hx, e⟩
    · have e : g2 = g := Option.some.inj e
      subst e
      rcases hat with hat | hat
      · exact h.sep g2 hg (.inl hat)
      · omega
    · rcases List.mem_append.1 hx with hx | hx
      · exact h.sep g hg (.inr ⟨x, hx, e⟩)
      · rw [List.mem_singleton] at hx
        subst hx
        have := (hu.2 g e).1; omega
  · refine ⟨?_, ?_, ?_, by rw [setCell_size]; omega, fun k hk => ?_⟩
    · exact (show w8.os = _ from hgrow.os).trans hb6.os
    · exact (show w8.tape = _ from hgrow.tape).trans hb6.tape
    · exact (show w8.output = _ from hgrow.output).trans hb6.output
    · rw [setCell_other (by omega)]
      exact hold k (by omega) fun e => by have := (hvb k e).1; omega
theorem Sw.clear {w1 : World} {b : Nat} {L S : Int} {vP vO : Value} {bud : Nat} {bars : List (List Int)} {st : SSt} {vB : Value} {vs : List Value} {vb : Value} {bs : List Value} (h : Sw w1 b L S vP vO bud bars st vB vs vb bs) :
    Sw (((w1.setCell ⟨b, 5, none⟩ (.slice (some ⟨w1.heap.size, 0, none⟩) 0 0)).setCell ⟨b, 6, none⟩ (.bool true)).alloc (.cells #[] 28)) b L S vP vO bud bars ⟨true, bars.take 0, st.looks⟩ vB vs (.slice (some ⟨w1.heap.size, 0, none⟩) 0 0) [] ∧ Below b w1 (((w1.setCell ⟨b, 5, none⟩ (.slice (some ⟨w1.heap.size, 0, none⟩) 0 0)).setCell ⟨b, 6, none⟩ (.bool true)).alloc (.cells #[] 28)) := by
  have hlt := h.bx.lt
  have hsz : ((w1.setCell ⟨b, 5, none⟩ (.slice (some ⟨w1.heap.size, 0, none⟩) 0 0)).setCell ⟨b, 6, none⟩ (.bool true)).heap.size = w1.heap.size := by rw [setCell_size, setCell_size]
  have hold : ∀ k, k < w1.heap.size → k ≠ b → (((w1.setCell ⟨b, 5, none⟩ (.slice (some ⟨w1.heap.size, 0, none⟩) 0 0)).setCell ⟨b, 6, none⟩ (.bool true)).alloc (.cells #[] 28)).heap[k]? = w1.heap[k]? := fun k hk hne => by
    rw [Below.heap_alloc _ _ k (by rw [hsz]; exact hk), setCell_other hne, setCell_other hne]
  have hnew := alloc_at ((w1.setCell ⟨b, 5, none⟩ (.slice (some ⟨w1.heap.size, 0, none⟩) 0 0)).setCell ⟨b, 6, none⟩ (.bool true)) (.cells #[] 28)
  rw [hsz] at hnew
  refine ⟨⟨?_, h.nt.keep fun g hg => ?_, ⟨⟨rfl, fun i u h => by simp at h, fun i j u v _ h => by simp at h⟩, ⟨rfl, .inr ⟨w1.heap.size, 0, #[], rfl, by omega, hnew, Nat.le_refl _, by decide, rfl, rfl⟩⟩, fun u hu => (nomatch hu)⟩, fun g hg hg2 => ?_⟩, ?_⟩
  · exact ((h.bx.set 5 (.slice (some ⟨w1.heap.size, 0, none⟩) 0 0)).set 6 (.bool true)).keep (Below.heap_alloc _ _ b (by rw [hsz]; exact hlt))
  · have := h.nt.lt hg
    exact hold g this.2 (by omega)
  · have := (h.nt.lt hg).2
    rcases hg2 with e | ⟨x, hx, _⟩
    · have e : w1.heap.size = g := Option.some.inj e
      omega
    · cases hx
  · exact ⟨rfl, rfl, rfl, by rw [alloc_size, hsz]; omega, fun k hk => hold k (by omega) (by omega)⟩
theorem below_same {B : Nat} {u w w' : World} (h : Below B u w) (n : Nat) (e : w' = w.drewN n) : Below B u w' := by
  subst e
  exact ⟨h.os, h.tape, h.output, h.size, h.block⟩
theorem Try.info28 : (Try.prog.info? 28).map (fun i => (i.zero, i.size, i.bytes)) = some (some (.slice none 0 0), 1, 24) := by kernel_rfl
theorem Try.info2 : (Try.prog.info? 2).map (fun i => (i.zero, i.size, i.bytes)) = some (some (.int .i64 0), 1, 8) := by kernel_rfl
theorem Innr.old {W w : World} {k : IntKind} {l : List Int} {v : Value} (h : Innr W (fun _ => False) 0 k l v) (hb : Below W.heap.size W w) : Innr w (fun _ => False) 0 k l v :=
  h.keep hb.size fun g hg hn => ⟨hb.block g hg, hn⟩
theorem clone_call {r : List Int} (hr : r ≠ []) (hl : r.length ≤ 14) {w : World} {u : Value} (hu : Innr w (fun _ => False) 0 .i64 r u) : Calls Try.prog 54 #[u] w fun e w' => ∃ ao m c, e = .returned (.slice ao m c) ∧ NRow w' w.heap.size .i64 r (.slice ao m c) ∧ Below w.heap.size w w' := by
  have h1 : s_gClone_int64 r = some r := by
    unfold s_gClone_int64
    have f1 : fits ((List.length ([] : List Int) + List.length (r : List Int)) * 8) = true := fits_small (by simp only [List.length_nil]; omega)
    rw [blt_true (List.length_pos_iff.2 hr), cond_true, f1, cond_true, List.nil_append]
  refine (f_gClone_int64_sound [.lst (.one (.i .i64)) r] r h1 w [u] trivial ⟨u, [], rfl, hu.argL, rfl⟩).mono ?_
  rintro e w' ⟨v, rfl, ⟨_, hres, _⟩, hB⟩
  have h2 := res_row (hres 0 _ _ rfl rfl)
  obtain ⟨ao, m, c, rfl⟩ := h2.slice
  exact ⟨ao, m, c, rfl, h2, hB⟩
theorem look_base {P O : List Int} {S L : Int} {bud : Nat} {W : World} {vP vO : Value} (hOl : O.length ≤ 14) (hm : bud ≤ 20000) (hO : Innr W (fun _ => False) 0 .i64 O vO) : LookC P O S L bud W vP vO [] := by
  intro i hd hi bars st w vB vs vb bs hbars hlk hW hS
  obtain rfl : i = O.length := by
    have := congrArg List.length hd
    rw [List.length_drop, List.length_nil] at this
    omega
  obtain ⟨aoO, cO, rfl, _⟩ := id hO
  generalize hb : W.heap.size = b at *
  obtain ⟨aB, cB, rfl⟩ := hS.nt.slice
  obtain ⟨ab, cb, rfl⟩ := hS.ro.slice
  have hB := hS.bx
  have c3 : w.cell? ⟨b, 3, none⟩ = some (.slice aoO O.length cO) := hB.cell 3
  have c4 : w.cell? ⟨b, 4, none⟩ = some (.slice aB bars.length cB) := hB.cell 4
  have c5 : w.cell? ⟨b, 5, none⟩ = some (.slice ab st.best.length cb) := hB.cell 5
  have c6 : w.cell? ⟨b, 6, none⟩ = some (.bool st.found) := hB.cell 6
  have f5 := hB.frozen 5
  have f6 := hB.frozen 6
  have hblt := hB.lt
  have AS : Aside (Sw w b L S vP (.slice aoO O.length cO) bud bars st (.slice aB bars.length cB) vs (.slice ab st.best.length cb) bs) := hS
  have AL : Aside (st.looks ≤ bud) := hlk
  have AK : Aside (BarsOK P O.length bars) := hbars
  have hbl := hbars.1
  obtain ⟨fd, best, lk⟩ := st
  clear hS hlk hO hbars hd hB hi
  by_cases hkeep : fd = true ∧ ¬ bars.length < best.length
  · obtain ⟨rfl, hlt⟩ := hkeep
    have hltz : decide ((bars.length : Int) < (best.length : Int)) = false := decide_eq_false (by omega)
    have hg : goB P S L bud [] bars ⟨true, best, lk⟩ = some ⟨true, best, lk⟩ := by simp only [goB, blt_false (show best.length ≤ bars.length by omega)]; rfl
    rw [hg]
    clear hg
    go_enter Try.func38, Try.ntmps38
    go_wp2
    go_quiet (fail)
    go_wp2
    go_ret
    have h := AS.out
    exact ⟨rfl, below_same (Below.refl _ _) _ rfl, AL.out, _, _, _, _, h.heap rfl⟩
  · have hg : goB P S L bud [] bars ⟨fd, best, lk⟩ = some ⟨true, bars, lk⟩ := by
      cases fd with
      | false => rfl
      | true =>
        have hlt : bars.length < best.length := by
          by_cases h : bars.length < best.length
          · exact h
          · exact absurd ⟨rfl, h⟩ hkeep
        simp only [goB, blt_true hlt]; rfl
    rw [hg]
    have hcase : fd = false ∨ (fd = true ∧ (bars.length : Int) < (best.length : Int)) := by
      cases fd with
      | false => exact .inl rfl
      | true =>
        refine .inr ⟨rfl, ?_⟩
        by_cases h : bars.length < best.length
        · omega
        · exact absurd ⟨rfl, h⟩ hkeep
    have hbw : b ≤ w.heap.size := by omega
    have hne : w.heap.size ≠ b := by omega
    clear hg hkeep
    rcases hcase with rfl | ⟨rfl, hltz⟩
    all_goals
      go_enter Try.func38, Try.ntmps38
      go_wp2
      go_quiet (fail)
      generalize hw1 : w.drewN nq = w1
      have hh : Aside (w1.heap = w.heap) := by rw [← hw1]; rfl
      have S1 := AS.out.heap hh.out
      have hD1 : Aside (Below b w w1) := by rw [← hw1]; exact below_same (Below.refl _ _) _ rfl
      have c4 : w1.cell? ⟨b, 4, none⟩ = some (.slice aB bars.length cB) := S1.bx.cell 4
      have f5 := S1.bx.frozen 5
      have f6 := S1.bx.frozen 6
      have c5 : (w1.cell? ⟨b, 5, none⟩) = some (.slice ab best.length cb) := S1.bx.cell 5
      have c6 : (w1.cell? ⟨b, 6, none⟩) = some (.bool _) := S1.bx.cell 6
      have hblt1 : b < w1.heap.size := by rw [hh.out]; exact hblt
      have AS1 := S1.clear
      have A1 : Aside (Below b w _) := hD1.out.trans AS1.2
      have A2 : Aside (Sw _ b L S vP (.slice aoO O.length cO) bud bars ⟨true, bars.take 0, lk⟩ (.slice aB bars.length cB) vs _ _) := AS1.1
      clear S1 AS AS1
      go_wp2
      go_loopg [46] bars.length (fun gg s46 wr => ∃ (i : Nat) (vb : Value) (bs : List Value), s46 = .int .i64 (i : Int) ∧ i ≤ bars.length ∧ bars.length - i ≤ gg ∧ Below b w wr ∧ Sw wr b L S vP (.slice aoO O.length cO) bud bars ⟨true, bars.take i, lk⟩ (.slice aB bars.length cB) vs vb bs)
      case atStart => exact ⟨0, _, _, rfl, by omega, by omega, A1.out, A2.out⟩
      case round =>
        obtain ⟨i, vb, bs, rfl, hi, hgg, hB, hS⟩ := hrel
        have hB : Aside (Below b w wr) := hB
        by_cases hlt : i < bars.length
        · have hlti : (i : Int) < (bars.length : Int) := by omega
          obtain ⟨gB, cB', e⟩ := hS.nt.form (by rintro rfl; simp at hlt)
          simp only [Value.slice.injEq] at e
          obtain ⟨rfl, _, rfl⟩ := e
          obtain ⟨u, hu⟩ := hS.nt.at hlt
          obtain ⟨hrow, gu, cu, rfl⟩ := hS.nt.row i u hu
          have hcu := (hS.nt.cell hu).1
          obtain ⟨avb, cvb, evb⟩ := hS.ro.slice
          have hti : (bars.take i).length = i := by rw [List.length_take]; omega
          subst evb
          have d5 : wr.cell? ⟨b, 5, none⟩ = some (.slice avb (bars.take i).length cvb) := hS.bx.cell 5
          have e5 := hS.bx.frozen 5
          have hbr := hS.bx.lt
          have hin : Innr wr (fun _ => False) 0 .i64 (bars.getD i []) (.slice (some ⟨gu, 0, none⟩) (bars.getD i []).length cu) := ownsRow_innr hrow
          have c54 : Calls Try.prog 54 #[.slice (some ⟨gu, 0, none⟩) (bars.getD i []).length cu] wr.drew fun e w' => ∃ ao m c, e = .returned (.slice ao m c) ∧ NRow w' wr.heap.size .i64 (bars.getD i []) (.slice ao m c) ∧ Below wr.heap.size wr.drew w' := clone_call (AK.out.row hlt).1 (by have := (AK.out.row hlt).2.1; omega) (w := wr.drew) hin
          have hS2 : Aside (Sw wr b L S vP (.slice aoO O.length cO) bud bars ⟨true, bars.take i, lk⟩ (.slice (some ⟨gB, 0, none⟩) bars.length cB) vs (.slice avb (bars.take i).length cvb) bs) := hS
          rw [hti] at d5
          have hvbB : ∀ g, (Value.slice avb i cvb).ownBlock = some g → g ≠ b := fun g hg => by have := (hS.ro.lt' (g := g) (.inl (by rw [hti]; exact hg))).1; omega
          obtain ⟨i0, hi28, hz0, hz1, hz2⟩ := info_parts Try.info28
          have hro : Aside (wr.ownsRow (b + 1) 28 1 (.slice avb i cvb) i bs) := by have := hS.ro.own; rw [hti] at this; exact this
          have hown6 : ∀ (w6 : World) (o : Obj), Below wr.heap.size wr.drew w6 → (w6.alloc o).ownsRow (b + 1) 28 1 (.slice avb i cvb) i bs := fun w6 o h6 => ownsRow_keep hro.out fun g hg => by
            have h1 := (ownsRow_lt hro.out hg).2
            have h2 := h6.size
            have h3 : wr.drew.heap.size = wr.heap.size := rfl
            rw [Below.heap_alloc w6 o g (by omega)]
            exact h6.block g h1
          have hbs6 : ∀ (w6 : World) (o : Obj), Below wr.heap.size wr.drew w6 → b + 1 ≤ (w6.alloc o).heap.size := fun w6 o h6 => by
            have h2 := h6.size
            have h3 : wr.drew.heap.size = wr.heap.size := rfl
            have h4 := alloc_size w6 o
            omega
          have h63 : i + 1 ≤ maxLen := by unfold maxLen; omega
          have hby : (i + 1) * 24 ≤ 140737488355328 := by omega
          have hcell6 : ∀ (w6 : World), Below wr.heap.size wr.drew w6 → w6.cell? ⟨b, 5, none⟩ = some (.slice avb i cvb) ∧ w6.frozen? ⟨b, 5, none⟩ = false := fun w6 h6 => ⟨(World.cell?_of_block (h6.block b hbr)).trans d5, (World.frozen?_of_block (h6.block b hbr)).trans e5⟩
          have hcell7 : ∀ (w6 : World) (o : Obj), Below wr.heap.size wr.drew w6 → (w6.alloc o).cell? ⟨b, 5, none⟩ = some (.slice avb i cvb) ∧ (w6.alloc o).frozen? ⟨b, 5, none⟩ = false := fun w6 o h6 => by
            have h3 : wr.drew.heap.size = wr.heap.size := rfl
            have hk := Below.heap_alloc w6 o b (by have := h6.size; omega)
            exact ⟨(World.cell?_of_block hk).trans (hcell6 w6 h6).1, (World.frozen?_of_block hk).trans (hcell6 w6 h6).2⟩
          have hcell8 : ∀ (w6 w8 : World) (o : Obj), Below wr.heap.size wr.drew w6 → (w6.alloc o).grownBy w8 (Value.slice avb i cvb).ownBlock → w8.cell? ⟨b, 5, none⟩ = some (.slice avb i cvb) ∧ w8.frozen? ⟨b, 5, none⟩ = false := fun w6 w8 o h6 hg => by
            have h3 : wr.drew.heap.size = wr.heap.size := rfl
            have hk := hg.block b (by have := h6.size; have := alloc_size w6 o; omega) fun e => hvbB b e.symm rfl
            exact ⟨(World.cell?_of_block hk).trans (hcell7 w6 o h6).1, (World.frozen?_of_block hk).trans (hcell7 w6 o h6).2⟩
          have hlt6 : ∀ (w6 : World), Below wr.heap.size wr.drew w6 → b < w6.heap.size := fun w6 h6 => by
            have h3 : wr.drew.heap.size = wr.heap.size := rfl
            have := h6.size; omega
          clear hS hrow hu hin
          generalize hnr : (bars.getD i []).length = nr at *
          go_wp2
          go_region_law (first
            | ((refine step_append_lies _ (by rfl) (.tmp 54) (.tmp 57) 29 (by rfl) (b + 1) 28 i0 (.slice none 0 0) 1 24 Try.underlying29 hi28 hz0 hz1 hz2 rfl (by decide) (.slice avb i cvb) i bs (by rfl) (hown6 _ _ hb6) ⟨w6.heap.size, 0, none⟩ 1 1 [.slice ao6 m6 c6'] (by rfl) rfl (World.news_of_block (alloc_at _ _)) (fun u hu => by rw [List.mem_singleton] at hu; subst hu; rfl) (by decide) h63 hby (hbs6 _ _ hb6) _ rfl ?_; intro g2 cap2 w8 hown8 hgrow8 hat8 hlt8; have hq8 := hcell8 _ _ _ hb6 hgrow8))
            | (go_simp; go_at_call 54; refine c54.mono ?_; rintro e w6 ⟨ao6, m6, c6', rfl, hu6, hb6⟩; have hq6 := hcell6 _ hb6; have hl6 := hlt6 _ hb6))
          all_goals
            go_wp2
            go_roundg (bars.length - (i + 1))
            case measure => omega
            case rel =>
              have hS3 := hS2.out
              rw [hti] at hS3
              have C := Sw.copy hS3 ⟨hb6.os, hb6.tape, hb6.output, hb6.size, hb6.block⟩ hu6 hlt hown8 hgrow8 hat8
              exact ⟨i + 1, _, _, by go_num, by omega, by omega, hB.out.trans C.2, C.1⟩
        · obtain rfl : i = bars.length := by omega
          have hS2 : Aside (Sw wr b L S vP (.slice aoO O.length cO) bud bars ⟨true, bars.take bars.length, lk⟩ (.slice aB bars.length cB) vs vb bs) := hS
          have hltz : ¬ ((bars.length : Nat) : Int) < ((bars.length : Nat) : Int) := by omega
          clear hS
          go_wp2
          go_ret
          have hS3 := hS2.out
          rw [List.take_length] at hS3
          exact ⟨rfl, hB.out, AL.out, _, _, _, _, hS3⟩
end Go.RR
namespace Go.RR
open Go Go.Proofs Go.RowKit

section
variable {w w1 w' : World} {b : Nat} {L S : Int} {vP vO : Value} {bud : Nat} {bars : List (List Int)} {st : SSt} {vB : Value} {vs : List Value} {vb : Value} {bs : List Value}
theorem Sw.below (h : Sw w b L S vP vO bud bars st vB vs vb bs) (hb : Below w.heap.size w w') : Sw w' b L S vP vO bud bars st vB vs vb bs :=
  ⟨h.bx.below hb, h.nt.keep fun g hg => hb.block g (h.nt.lt hg).2, h.ro.keep hb.size fun g hg => hb.block g (h.ro.lt' hg).2, h.sep⟩
theorem Sw.look (h : Sw w b L S vP vO bud bars st vB vs vb bs) : Sw (w.setCell ⟨b, 7, none⟩ (.int .i64 ((st.looks + 1 : Nat) : Int))) b L S vP vO bud bars ⟨st.found, st.best, st.looks + 1⟩ vB vs vb bs ∧ Below b w (w.setCell ⟨b, 7, none⟩ (.int .i64 ((st.looks + 1 : Nat) : Int))) :=
  ⟨⟨h.bx.set 7 _, h.nt.keep fun g hg => setCell_other (by have := (h.nt.lt hg).1; omega), h.ro.keep (by rw [setCell_size]; exact Nat.le_refl _) fun g hg => setCell_other (by have := (h.ro.lt' hg).1; omega), h.sep⟩, (Below.refl b w).setCell (Nat.le_refl b) _⟩
/-- A bar's row is another one. -/
theorem Sw.setRow {i gB n cB : Nat} {u u' : Value} {r : List Int} (h : Sw w b L S vP vO bud bars st (.slice (some ⟨gB, 0, none⟩) n cB) vs vb bs) (hi : vs[i]? = some u)
    (hn : NT (w1.setCell ⟨gB, i, none⟩ u') (b + 1) (bars.set i r) (.slice (some ⟨gB, 0, none⟩) n cB) (vs.set i u')) (hs : w.heap.size ≤ w1.heap.size) (hk : ∀ k, k < w.heap.size → u.ownBlock ≠ some k → w1.heap[k]? = w.heap[k]?)
    (hat : ∀ g, u'.ownBlock = some g → u.ownBlock = some g ∨ w.heap.size ≤ g) (ho : w1.os = w.os ∧ w1.tape = w.tape ∧ w1.output = w.output) :
    Sw (w1.setCell ⟨gB, i, none⟩ u') b L S vP vO bud (bars.set i r) st (.slice (some ⟨gB, 0, none⟩) n cB) (vs.set i u') vb bs ∧ Below b w (w1.setCell ⟨gB, i, none⟩ u') := by
  have hum : u ∈ vs := List.mem_of_getElem? hi
  have hgB := h.nt.lt (g := gB) (.inl rfl)
  have hu : ∀ g, u.ownBlock = some g → b + 1 ≤ g ∧ g < w.heap.size := fun g hg => h.nt.lt (.inr ⟨u, hum, hg⟩)
  refine ⟨⟨?_, hn, ?_, fun g hg hg2 => ?_⟩, ⟨ho.1, ho.2.1, ho.2.2, by rw [setCell_size]; exact hs, fun k hkb => ?_⟩⟩
  · refine h.bx.keep ?_
    rw [setCell_other (by omega)]
    exact hk b h.bx.lt fun e => by have := (hu b e).1; omega
  · refine h.ro.keep (by rw [setCell_size]; exact hs) fun g hg => ?_
    rw [setCell_other (show g ≠ gB from fun e => by subst e; exact h.sep g (.inl rfl) hg)]
    exact hk g (h.ro.lt' hg).2 fun e => h.sep g (.inr ⟨u, hum, e⟩) hg
  · rcases hg with hg | ⟨x, hx, hg⟩
    · exact h.sep g (.inl hg) hg2
    · rcases set_mem hx with rfl | ⟨j, hj, hx⟩
      · rcases hat g hg with q | q
        · exact h.sep g (.inr ⟨u, hum, q⟩) hg2
        · have := (h.ro.lt' hg2).2; omega
      · exact h.sep g (.inr ⟨x, List.mem_of_getElem? hx, hg⟩) hg2
  · rw [setCell_other (by omega)]
    exact hk k (by have := h.bx.lt; omega) fun e => by have := (hu k e).1; omega
theorem Sw.put {i gB n cB g cap : Nat} {u : Value} {k : Int} {o : Obj} (h : Sw w b L S vP vO bud bars st (.slice (some ⟨gB, 0, none⟩) n cB) vs vb bs) (hi : vs[i]? = some u)
    (hown : w1.ownsRow (b + 1) 2 1 (.slice (some ⟨g, 0, none⟩) ((bars.getD i []).length + 1) cap) ((bars.getD i []).length + 1) ((bars.getD i []).map (Value.int .i64) ++ [.int .i64 k]))
    (hgrow : (w.alloc o).grownBy w1 u.ownBlock) (hat : u.ownBlock = some g ∨ g = w.heap.size + 1) :
    Sw (w1.setCell ⟨gB, i, none⟩ (.slice (some ⟨g, 0, none⟩) ((bars.getD i []).length + 1) cap)) b L S vP vO bud (putB bars i k) st (.slice (some ⟨gB, 0, none⟩) n cB) (vs.set i (.slice (some ⟨g, 0, none⟩) ((bars.getD i []).length + 1) cap)) vb bs ∧ Below b w (w1.setCell ⟨gB, i, none⟩ (.slice (some ⟨g, 0, none⟩) ((bars.getD i []).length + 1) cap)) := by
  have hsz := alloc_size w o
  have hs := hgrow.size
  refine Sw.setRow h hi (NT.put h.nt hi hown hgrow hat) (by omega) (fun q hq hne => ?_) (fun g' hg' => ?_) ⟨hgrow.os, hgrow.tape, hgrow.output⟩
  · rw [hgrow.block q (by omega) fun e => hne e.symm]
    exact Below.heap_alloc w o q hq
  · have e : g = g' := Option.some.inj hg'
    subst e
    rcases hat with hat | hat
    · exact .inl hat
    · exact .inr (by omega)
theorem Sw.cut {i gB n cB g c : Nat} {r : List Int} {k : Int} (h : Sw w b L S vP vO bud bars st (.slice (some ⟨gB, 0, none⟩) n cB) vs vb bs) (hr : bars.getD i [] = r ++ [k]) (hi : vs[i]? = some (.slice (some ⟨g, 0, none⟩) (r.length + 1) c)) :
    Sw (w.setCell ⟨gB, i, none⟩ (.slice (some ⟨g, 0, none⟩) r.length c)) b L S vP vO bud (bars.set i r) st (.slice (some ⟨gB, 0, none⟩) n cB) (vs.set i (.slice (some ⟨g, 0, none⟩) r.length c)) vb bs ∧ Below b w (w.setCell ⟨gB, i, none⟩ (.slice (some ⟨g, 0, none⟩) r.length c)) :=
  Sw.setRow h hi (NT.cut h.nt hr hi) (Nat.le_refl _) (fun _ _ _ => rfl) (fun g' hg' => .inl hg') ⟨rfl, rfl, rfl⟩
/-- A bar more. -/
theorem Sw.snoc {g cap gr : Nat} {k : Int} {o : Obj} {w0 : World} (h : Sw w b L S vP vO bud bars st vB vs vb bs) (hw0 : w0 = w.alloc (.cells #[.int .i64 k] 2)) (hgr : gr = w.heap.size)
    (hown : w1.ownsRow (b + 1) 28 1 (.slice (some ⟨g, 0, none⟩) (bars.length + 1) cap) (bars.length + 1) (vs ++ [.slice (some ⟨gr, 0, none⟩) 1 1])) (hgrow : (w0.alloc o).grownBy w1 vB.ownBlock) (hat : vB.ownBlock = some g ∨ g = w.heap.size + 2) :
    Sw (w1.setCell ⟨b, 4, none⟩ (.slice (some ⟨g, 0, none⟩) (bars.length + 1) cap)) b L S vP vO bud (bars ++ [[k]]) st (.slice (some ⟨g, 0, none⟩) (bars.length + 1) cap) (vs ++ [.slice (some ⟨gr, 0, none⟩) 1 1]) vb bs ∧ Below b w (w1.setCell ⟨b, 4, none⟩ (.slice (some ⟨g, 0, none⟩) (bars.length + 1) cap)) := by
  have hlt := h.bx.lt
  have hN := NT.snoc (by omega) h.nt hw0 hgr hown hgrow hat
  subst hw0 hgr
  have hs0 := alloc_size w (.cells #[.int .i64 k] 2)
  have hs1 := alloc_size (w.alloc (.cells #[.int .i64 k] 2)) o
  have hs2 := hgrow.size
  have hvB : ∀ g, vB.ownBlock = some g → b + 1 ≤ g ∧ g < w.heap.size := fun g hg => h.nt.lt (.inl hg)
  have hold : ∀ q, q < w.heap.size → vB.ownBlock ≠ some q → w1.heap[q]? = w.heap[q]? := fun q hq hne => by
    rw [hgrow.block q (by omega) fun e => hne e.symm, Below.heap_alloc _ o q (by omega), Below.heap_alloc w _ q hq]
  have hbne : vB.ownBlock ≠ some b := fun e => by have := (hvB b e).1; omega
  refine ⟨⟨(h.bx.keep (hold b hlt hbne)).set 4 _, hN.keep fun q hq => setCell_other (by have := (hN.lt hq).1; omega), h.ro.keep (by rw [setCell_size]; omega) fun q hq => ?_, fun q hq hq2 => ?_⟩, ⟨hgrow.os, hgrow.tape, hgrow.output, by rw [setCell_size]; omega, fun q hq => ?_⟩⟩
  · have h1 := h.ro.lt' hq
    rw [setCell_other (by omega)]
    exact hold q h1.2 fun e => h.sep q (.inl e) hq
  · have h1 := (h.ro.lt' hq2).2
    rcases hq with e | ⟨x, hx, e⟩
    · have e : g = q := Option.some.inj e
      subst e
      rcases hat with hat | hat
      · exact h.sep g (.inl hat) hq2
      · omega
    · rcases List.mem_append.1 hx with hx | hx
      · exact h.sep q (.inr ⟨x, hx, e⟩) hq2
      · rw [List.mem_singleton] at hx
        subst hx
        have e : w.heap.size = q := Option.some.inj e
        omega
  · rw [setCell_other (by omega)]
    exact hold q (by omega) fun e => by have := (hvB q e).1; omega
/-- A bar less. -/
theorem Sw.pop {g n c : Nat} {r : List Int} (h : Sw w b L S vP vO bud (bars ++ [r]) st (.slice (some ⟨g, 0, none⟩) n c) vs vb bs) :
    Sw (w.setCell ⟨b, 4, none⟩ (.slice (some ⟨g, 0, none⟩) bars.length c)) b L S vP vO bud bars st (.slice (some ⟨g, 0, none⟩) bars.length c) (vs.take bars.length) vb bs ∧ Below b w (w.setCell ⟨b, 4, none⟩ (.slice (some ⟨g, 0, none⟩) bars.length c)) := by
  have hlt := h.bx.lt
  have hN := h.nt.pop
  refine ⟨⟨h.bx.set 4 _, hN.keep fun q hq => setCell_other (by have := (hN.lt hq).1; omega), h.ro.keep (by rw [setCell_size]; exact Nat.le_refl _) fun q hq => setCell_other (by have := (h.ro.lt' hq).1; omega), fun q hq hq2 => ?_⟩, (Below.refl b w).setCell (Nat.le_refl b) _⟩
  rcases hq with e | ⟨x, hx, e⟩
  · exact h.sep q (.inl e) hq2
  · exact h.sep q (.inr ⟨x, List.mem_of_mem_take hx, e⟩) hq2
end
theorem room_call {P : List Int} {S L : Int} (hP : PcOK P S) {r : List Int} (hr : r ≠ []) (hl : r.length ≤ 14) (hx : ∀ x ∈ r, 0 ≤ x ∧ x < (P.length : Int)) {k : Int} (hk : 0 ≤ k ∧ k < (P.length : Int)) {w : World} {vP u : Value} (hvP : Innr w (fun _ => False) 0 .i64 P vP) (hu : Innr w (fun _ => False) 0 .i64 r u) :
    Calls Try.prog 55 #[.int .i64 L, .int .i64 S, vP, u, .int .i64 k] w fun e w' => e = .returned (.bool (fitB P S L r k)) ∧ Below w.heap.size w w' := by
  refine (f_ihasRoom_sound [.v (.int .i64 L), .v (.int .i64 S), .lst (.one (.i .i64)) P, .lst (.one (.i .i64)) r, .v (.int .i64 k)] (fitB P S L r k) (hasRoom_run hP hr hl hx hk) w [.int .i64 L, .int .i64 S, vP, u, .int .i64 k] trivial ⟨_, _, rfl, argv_int L, _, _, rfl, argv_int S, _, _, rfl, hvP.argL, _, _, rfl, hu.argL, _, _, rfl, argv_int k, rfl⟩).mono ?_
  rintro e w' ⟨v, rfl, h, hB⟩
  rw [res_one h]
  exact ⟨rfl, hB⟩
end Go.RR
