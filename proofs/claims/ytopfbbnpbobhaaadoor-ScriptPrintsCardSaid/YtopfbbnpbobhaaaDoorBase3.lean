/- Rows of structs: cells laid one behind the other; an owned row behind a store into one of its cells. -/
import Derived.Test.YtopfbbnpbobhaaaDoorBase2
set_option linter.unusedVariables false
set_option linter.unusedSimpArgs false
namespace Go.Sal
open Go.RowKit
section
variable {α : Type} {f : α → List Value} {size : Nat}
theorem rf_len (hf : ∀ x, (f x).length = size) (l : List α) : (l.flatMap f).length = l.length * size := by
  induction l with
  | nil => simp
  | cons x l ih => rw [List.flatMap_cons, List.length_append, hf, ih, List.length_cons, Nat.add_mul]; omega
theorem rf_get (hf : ∀ x, (f x).length = size) : ∀ (l : List α) (k j : Nat) (hk : k < l.length) (hj : j < size), (l.flatMap f)[k * size + j]? = (f l[k])[j]?
  | [], k, j, hk, _ => by simp at hk
  | x :: l, 0, j, _, hj => by
    rw [List.flatMap_cons, Nat.zero_mul, Nat.zero_add, List.getElem?_append_left (by rw [hf]; exact hj)]
    rfl
  | x :: l, k + 1, j, hk, hj => by
    rw [List.flatMap_cons, List.getElem?_append_right (by rw [hf, Nat.add_mul]; omega), hf]
    have e : (k + 1) * size + j - size = k * size + j := by rw [Nat.add_mul]; omega
    rw [e, rf_get hf l k j (by simpa using hk) hj]
    rfl
theorem rf_set (hf : ∀ x, (f x).length = size) : ∀ (l : List α) (k j : Nat) (hk : k < l.length) (hj : j < size) (u : Value) (x' : α), f x' = (f l[k]).set j u → (l.flatMap f).set (k * size + j) u = (l.set k x').flatMap f
  | [], k, j, hk, _, _, _, _ => by simp at hk
  | x :: l, 0, j, _, hj, u, x', h => by
    rw [List.flatMap_cons, Nat.zero_mul, Nat.zero_add, List.set_append_left _ _ (by rw [hf]; exact hj), List.set_cons_zero, List.flatMap_cons, h]
    rfl
  | x :: l, k + 1, j, hk, hj, u, x', h => by
    rw [List.flatMap_cons, List.set_append_right _ _ (by rw [hf, Nat.add_mul]; omega), hf]
    have e : (k + 1) * size + j - size = k * size + j := by rw [Nat.add_mul]; omega
    rw [e, rf_set hf l k j (by simpa using hk) hj u x' h, List.set_cons_succ, List.flatMap_cons]
theorem rf_drop (hf : ∀ x, (f x).length = size) : ∀ (l : List α) (k : Nat), (l.drop k).flatMap f = (l.flatMap f).drop (k * size)
  | [], k => by simp
  | x :: l, 0 => by simp
  | x :: l, k + 1 => by
    rw [List.drop_succ_cons, rf_drop hf l k, List.flatMap_cons, List.drop_append, hf]
    have e : (k + 1) * size - size = k * size := by rw [Nat.add_mul]; omega
    rw [e, List.drop_eq_nil_of_le (as := f x) (by rw [hf, Nat.add_mul]; omega), List.nil_append]
theorem rf_take (hf : ∀ x, (f x).length = size) : ∀ (l : List α) (k : Nat), (l.take k).flatMap f = (l.flatMap f).take (k * size)
  | [], k => by simp
  | x :: l, 0 => by simp
  | x :: l, k + 1 => by
    rw [List.take_succ_cons, List.flatMap_cons, rf_take hf l k, List.flatMap_cons, List.take_append, hf]
    have e : (k + 1) * size - size = k * size := by rw [Nat.add_mul]; omega
    rw [e, List.take_of_length_le (l := f x) (by rw [hf, Nat.add_mul]; omega)]
end
/-- an owned row behind a store into one of its cells -/
theorem ownsRow_set {w : World} {base n size cap g : Nat} {e : TypeId} {xs : List Value} (h : w.ownsRow base e size (.slice (some ⟨g, 0, none⟩) n cap) n xs) (j : Nat) (hj : j < n * size) (u : Value) :
    (w.setCell ⟨g, j, none⟩ u).ownsRow base e size (.slice (some ⟨g, 0, none⟩) n cap) n (xs.set j u) := by
  refine ⟨by rw [List.length_set]; exact h.1, ?_⟩
  rcases h.2 with ⟨h0, _⟩ | ⟨g', cap', cur, hv, hb, hh, h1, h2, h3, h4⟩
  · cases h0
  · injection hv with hv1 _ hv2
    injection hv1 with hv1
    injection hv1 with hv1
    subst hv1
    subst hv2
    refine .inr ⟨g, cap, cur.setIfInBounds j u, rfl, hb, ?_, h1, h2, by simpa using h3, ?_⟩
    · have := Blk.set_ (w := w) (g := g) (t := e) (cs := cur) hh j u
      exact this
    · rw [← h4, Array.toList_setIfInBounds, List.take_set]
theorem ownsRow_cell {w : World} {base n size cap g : Nat} {e : TypeId} {xs : List Value} (h : w.ownsRow base e size (.slice (some ⟨g, 0, none⟩) n cap) n xs) {j : Nat} {u : Value} (hj : xs[j]? = some u) :
    w.cell? ⟨g, j, none⟩ = some u ∧ w.frozen? ⟨g, j, none⟩ = false := by
  have h1 := h.cells (g := g) rfl j u hj
  rw [add_mk, Nat.zero_add] at h1
  refine ⟨h1, ?_⟩
  rcases h.2 with ⟨h0, _⟩ | ⟨g', cap', cur, hv, hb, hh, _⟩
  · cases h0
  · injection hv with hv1 _ _
    injection hv1 with hv1
    injection hv1 with hv1
    subst hv1
    exact Blk.free (cs := cur) (t := e) hh j
theorem own_some {base n size c : Nat} {e : TypeId} {A : Option Addr} {xs : List Value} {w : World} (h : w.ownsRow base e size (.slice A n c) n xs) (hn : 0 < n) : ∃ g, A = some ⟨g, 0, none⟩ ∧ g < w.heap.size ∧ base ≤ g := by
  obtain ⟨g, cap, hv, h1, h2⟩ := h.form hn
  injection hv with hv
  exact ⟨g, hv, h2, h1⟩
end Go.Sal
