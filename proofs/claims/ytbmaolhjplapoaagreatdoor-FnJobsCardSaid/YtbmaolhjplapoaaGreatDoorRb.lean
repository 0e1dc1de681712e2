/- How abstract values, memory and states stand for the machine's: encodings, sizes, places; what the simulation asks. No condition. -/
import Derived.Test.YtbmaolhjplapoaaGreatDoorRa
import Derived.Orders
import Derived.Below
import Derived.Deep.LoopGhost
import Derived.Laws.Rows
import Derived.Laws.AppendOwn
set_option linter.unusedVariables false
set_option linter.unusedSimpArgs false
namespace Go.RR
open Go Go.RowKit
def ptrv (v : Value) (off : Nat) : Value := match v with
 | .pointer (some ⟨g, o, _⟩) => .pointer (some ⟨g, o + off, none⟩)
 | .slice (some ⟨g, o, _⟩) _ _ => .pointer (some ⟨g, o + off, none⟩)
 | _ => .pointer none
mutual
def enc (σ : Nat → Value) : A → List Value
 | .v x => [x]
 | .rc fs => encL σ fs
 | .fa n k f => (List.range n).map fun j => .int k (f j)
 | .fb n f => (List.range n).map fun j => .bool (f j)
 | .fa2 n m k f => (List.range (n * m)).map fun j => .int k (f (j / m) (j % m))
 | .nil _ => [.slice none 0 0]
 | .sl b => [σ b]
 | .ptr b _ off => [ptrv (σ b) off]
 | .clo f cs => [.func (.func f) #[] (encL σ cs).toArray]
 | .lst _ _ => [undef]
 | .ref _ => [undef]
def encL (σ : Nat → Value) : List A → List Value
 | [] => []
 | a :: as => enc σ a ++ encL σ as
end
def val (σ : Nat → Value) (a : A) : Value := match isAg a with
 | true => .agg (enc σ a).toArray
 | false => (enc σ a).headD undef
mutual
theorem enc_len (σ : Nat → Value) : ∀ a : A, (enc σ a).length = sz a
 | .v _ => rfl
 | .rc fs => by simp only [enc, sz]; exact encL_len σ fs
 | .fa n _ _ => by simp [enc, sz]
 | .fb n _ => by simp [enc, sz]
 | .fa2 n m _ _ => by simp [enc, sz]
 | .nil _ => rfl
 | .sl _ => rfl
 | .ptr _ _ _ => rfl
 | .clo _ _ => rfl
 | .lst _ _ => rfl
 | .ref _ => rfl
theorem encL_len (σ : Nat → Value) : ∀ as : List A, (encL σ as).length = szL as
 | [] => rfl
 | a :: as => by simp only [encL, szL, List.length_append, enc_len σ a, encL_len σ as]
end
abbrev Inn := IntKind → List Int → Value → Prop
def RTC (I : Inn) : (t : RT) → t.den → List Value → Prop
 | .i k, x, cs => cs = [.int k x]
 | .b, x, cs => cs = [.bool x]
 | .s, x, cs => cs = [.string x]
 | .fa n k, f, cs => cs = (List.range n).map fun j => .int k ((f : Nat → Int) j)
 | .ls k, l, cs => ∃ v, cs = [v] ∧ I k l v
def RT.flat : RT → Bool
 | .ls _ => false
 | _ => true
def ElC (I : Inn) : (e : ET) → e.den → List Value → Prop
 | .one t, x, cs => RTC I t x cs
 | .st ts, x, cs => ts.all RT.flat = true ∧ cs = encL (fun _ => undef) (fieldsA ts x)
def RowsC (I : Inn) (e : ET) : List e.den → List Value → Prop
 | [], xs => xs = []
 | x :: l, xs => ∃ c1 c2, xs = c1 ++ c2 ∧ ElC I e x c1 ∧ RowsC I e l c2
theorem RTC.len {I : Inn} {t : RT} {x : t.den} {cs : List Value} (h : RTC I t x cs) : cs.length = t.sz := by
 cases t <;> simp only [RTC] at h
 case ls k => obtain ⟨v, rfl, _⟩ := h; rfl
 all_goals subst h; simp [RT.sz]
theorem fieldsA_sz : ∀ (ts : List RT) (x : dens ts), szL (fieldsA ts x) = szs ts
 | [], _ => rfl
 | [t], x => by cases t <;> rfl
 | t :: u :: r, x => by
  show sz (t.toA x.1) + szL (fieldsA (u :: r) x.2) = t.sz + szs (u :: r)
  rw [fieldsA_sz (u :: r) x.2]
  cases t <;> rfl
theorem ElC.len {I : Inn} {e : ET} {x : e.den} {cs : List Value} (h : ElC I e x cs) : cs.length = e.sz := by
 cases e with
 | one t => exact RTC.len h
 | st ts =>
  obtain ⟨_, rfl⟩ := h
  exact (encL_len _ _).trans (fieldsA_sz ts x)
theorem RowsC.len {I : Inn} {e : ET} : ∀ {l : List e.den} {xs : List Value}, RowsC I e l xs → xs.length = l.length * e.sz
 | [], xs, h => by simp only [RowsC] at h; subst h; simp
 | x :: l, xs, h => by
  simp only [RowsC] at h
  obtain ⟨c1, c2, rfl, h1, h2⟩ := h
  rw [List.length_append, ElC.len h1, RowsC.len h2, List.length_cons, Nat.succ_mul, Nat.add_comm]
theorem RTC.imp {I J : Inn} (hI : ∀ k l v, I k l v → J k l v) {t : RT} {x : t.den} {cs : List Value} (h : RTC I t x cs) : RTC J t x cs := by
 cases t <;> simp only [RTC] at h ⊢ <;> first | exact h | (obtain ⟨v, e, hv⟩ := h; exact ⟨v, e, hI _ _ _ hv⟩)
theorem ElC.imp {I J : Inn} (hI : ∀ k l v, I k l v → J k l v) {e : ET} {x : e.den} {cs : List Value} (h : ElC I e x cs) : ElC J e x cs := by
 cases e with
 | one t => exact RTC.imp hI h
 | st ts => exact h
theorem RowsC.imp {I J : Inn} (hI : ∀ k l v, I k l v → J k l v) {e : ET} : ∀ {l : List e.den} {xs : List Value}, RowsC I e l xs → RowsC J e l xs
 | [], xs, h => h
 | x :: l, xs, h => by
  simp only [RowsC] at h ⊢
  obtain ⟨c1, c2, he, h1, h2⟩ := h
  exact ⟨c1, c2, he, ElC.imp hI h1, RowsC.imp hI h2⟩
theorem RowsC.append {I : Inn} {e : ET} : ∀ {l l' : List e.den} {xs ys : List Value}, RowsC I e l xs → RowsC I e l' ys → RowsC I e (l ++ l') (xs ++ ys)
 | [], l', xs, ys, h, h' => by simp only [RowsC] at h; subst h; exact h'
 | x :: l, l', xs, ys, h, h' => by
  simp only [RowsC] at h
  obtain ⟨c1, c2, rfl, h1, h2⟩ := h
  exact ⟨c1, c2 ++ ys, by rw [List.append_assoc], h1, RowsC.append h2 h'⟩
theorem RowsC.get {I : Inn} {e : ET} : ∀ {l : List e.den} {xs : List Value}, RowsC I e l xs → ∀ (i : Nat), i < l.length → ∃ a c b, xs = a ++ c ++ b ∧ a.length = i * e.sz ∧ ElC I e (l.getD i e.dflt) c ∧
  (∀ (y : e.den) (d : List Value), ElC I e y d → RowsC I e (l.set i y) (a ++ d ++ b))
 | [], _, _, i, hi => absurd hi (by simp)
 | x :: l, xs, h, 0, hi => by
  simp only [RowsC] at h
  obtain ⟨c1, c2, rfl, h1, h2⟩ := h
  exact ⟨[], c1, c2, by simp, by simp, by simpa using h1, fun y d hd => ⟨d, c2, by simp, hd, h2⟩⟩
 | x :: l, xs, h, i + 1, hi => by
  simp only [RowsC] at h
  obtain ⟨c1, c2, rfl, h1, h2⟩ := h
  obtain ⟨a, c, b, he, ha, hc, hs⟩ := RowsC.get h2 i (by simpa using hi)
  refine ⟨c1 ++ a, c, b, by rw [he]; simp, by rw [List.length_append, ElC.len h1, ha, Nat.succ_mul, Nat.add_comm], by simpa using hc, fun y d hd => ?_⟩
  exact ⟨c1, a ++ d ++ b, by simp, h1, hs y d hd⟩
theorem RowsC.take {I : Inn} {e : ET} : ∀ {l : List e.den} {xs : List Value}, RowsC I e l xs → ∀ n, RowsC I e (l.take n) (xs.take ((l.take n).length * e.sz))
 | [], xs, h, n => by simp only [RowsC] at h; subst h; simp [RowsC]
 | x :: l, xs, h, 0 => by simp [RowsC]
 | x :: l, xs, h, n + 1 => by
  simp only [RowsC] at h
  obtain ⟨c1, c2, rfl, h1, h2⟩ := h
  have := RowsC.take h2 n
  have hl := ElC.len h1
  simp only [List.take_succ_cons, List.length_cons, Nat.succ_mul, RowsC]
  refine ⟨c1, c2.take ((l.take n).length * e.sz), ?_, h1, this⟩
  rw [List.take_append, Nat.add_comm, hl, Nat.add_sub_cancel_left, List.take_of_length_le (by omega)]
theorem RowsC.drop {I : Inn} {e : ET} : ∀ {l : List e.den} {xs : List Value}, RowsC I e l xs → ∀ n, n ≤ l.length → RowsC I e (l.drop n) (xs.drop (n * e.sz))
 | l, xs, h, 0, _ => by simpa using h
 | [], xs, h, n + 1, hn => absurd hn (by simp)
 | x :: l, xs, h, n + 1, hn => by
  simp only [RowsC] at h
  obtain ⟨c1, c2, rfl, h1, h2⟩ := h
  have := RowsC.drop h2 n (by simpa using hn)
  have hl := ElC.len h1
  rw [List.drop_succ_cons, show (n + 1) * e.sz = c1.length + n * e.sz by rw [Nat.succ_mul, Nat.add_comm, hl], ← List.drop_drop, List.drop_left]
  exact this
theorem RowsC.rep {I : Inn} {e : ET} {x : e.den} {c : List Value} (h : ElC I e x c) : ∀ n, RowsC I e (List.replicate n x) (List.replicate n c).flatten
 | 0 => by simp [RowsC]
 | n + 1 => by
  rw [List.replicate_succ, List.replicate_succ, List.flatten_cons]
  exact ⟨c, _, rfl, h, RowsC.rep h n⟩
theorem keq_eq {a b : IntKind} (h : keq a b = true) : a = b := by cases a <;> cases b <;> first | rfl | (simp [keq] at h)
theorem keq_refl (a : IntKind) : keq a a = true := by cases a <;> rfl
theorem cond_some {α : Type} {b : Bool} {x : Option α} {r : α} (h : cond b x none = some r) : b = true ∧ x = some r := by
 cases b
 ·cases h
 ·exact ⟨rfl, h⟩
theorem cond_none {α : Type} {b : Bool} {x : Option α} {r : α} (h : cond b none x = some r) : b = false ∧ x = some r := by
 cases b
 ·exact ⟨rfl, h⟩
 ·cases h
theorem RT.ofA_eq {t : RT} {a : A} {x : t.den} (h : t.ofA a = some x) : a = t.toA x ∧ t.flat = true := by
 unfold RT.ofA at h
 split at h
 ·obtain ⟨hk, h2⟩ := cond_some h
  have := keq_eq hk
  subst this
  obtain rfl := Option.some.inj h2
  exact ⟨rfl, rfl⟩
 ·obtain rfl := Option.some.inj h
  exact ⟨rfl, rfl⟩
 ·obtain rfl := Option.some.inj h
  exact ⟨rfl, rfl⟩
 ·obtain ⟨hk, h2⟩ := cond_some h
  simp only [Bool.and_eq_true, Nat.beq_eq] at hk
  have := keq_eq hk.1
  subst this
  obtain rfl := hk.2
  obtain rfl := Option.some.inj h2
  exact ⟨rfl, rfl⟩
 ·cases h
theorem one?_eq {as : List A} {a : A} (h : one? as = some a) : as = [a] := by
 unfold one? at h
 split at h
 ·rw [Option.some.inj h]
 ·cases h
theorem head?_eq {as : List A} {p : A × List A} (h : head? as = some p) : as = p.1 :: p.2 := by
 unfold head? at h
 split at h
 ·rw [← Option.some.inj h]
 ·cases h
theorem fieldsOf_eq : ∀ (ts : List RT) (as : List A) (x : dens ts), fieldsOf ts as = some x → as = fieldsA ts x ∧ ts.all RT.flat = true
 | [], as, x, h => by
  unfold fieldsOf at h
  split at h
  ·exact ⟨rfl, rfl⟩
  ·cases h
 | [t], as, x, h => by
  unfold fieldsOf at h
  split at h
  ·rename_i a ha
   obtain ⟨h1, h2⟩ := RT.ofA_eq h
   rw [one?_eq ha, h1]
   exact ⟨rfl, by simp [h2]⟩
  ·cases h
 | t :: u :: r, as, x, h => by
  unfold fieldsOf at h
  split at h
  ·rename_i a as' ha
   rw [head?_eq ha]
   split at h
   ·rename_i y z hy hz
    rw [← Option.some.inj h]
    obtain ⟨h1, h2⟩ := RT.ofA_eq hy
    obtain ⟨h3, h4⟩ := fieldsOf_eq _ _ _ hz
    exact ⟨by rw [h1, h3]; rfl, by rw [List.all_cons, h2, h4]; rfl⟩
   ·cases h
  ·cases h
theorem RTC.of_flat {I : Inn} (σ : Nat → Value) {t : RT} (x : t.den) (h : t.flat = true) : RTC I t x (enc σ (t.toA x)) := by
 cases t
 case ls k => cases h
 all_goals rfl
theorem enc_flat (σ τ : Nat → Value) {t : RT} (x : t.den) : enc σ (t.toA x) = enc τ (t.toA x) := by cases t <;> rfl
theorem encL_flat (σ τ : Nat → Value) : ∀ (ts : List RT) (x : dens ts), encL σ (fieldsA ts x) = encL τ (fieldsA ts x)
 | [], _ => rfl
 | [t], x => congrArg (· ++ []) (enc_flat σ τ (t := t) x)
 | t :: u :: r, x => by
  have h1 := enc_flat σ τ (t := t) x.1
  have h2 := encL_flat σ τ (u :: r) x.2
  show enc σ (t.toA x.1) ++ encL σ (fieldsA (u :: r) x.2) = enc τ (t.toA x.1) ++ encL τ (fieldsA (u :: r) x.2)
  rw [h1, h2]
theorem ElC.ofA {I : Inn} (σ : Nat → Value) {e : ET} {a : A} {x : e.den} (h : e.ofA a = some x) : ElC I e x (enc σ a) := by
 cases e with
 | one t =>
  obtain ⟨rfl, h2⟩ := RT.ofA_eq (t := t) h
  exact RTC.of_flat σ x h2
 | st ts =>
  cases a with
  | rc fs =>
   obtain ⟨rfl, h2⟩ := fieldsOf_eq ts fs x h
   exact ⟨h2, encL_flat _ _ _ _⟩
  | _ => cases h
theorem ElC.isEnc {I : Inn} (σ : Nat → Value) {e : ET} {x : e.den} {cs : List Value} (h : ElC I e x cs) : (∃ k, e = .one (.ls k)) ∨ cs = enc σ (e.toA x) := by
 cases e with
 | one t =>
  cases t
  case ls k => exact .inl ⟨k, rfl⟩
  all_goals exact .inr h
 | st ts =>
  obtain ⟨h1, rfl⟩ := h
  exact .inr (encL_flat _ _ _ _)
end Go.RR
