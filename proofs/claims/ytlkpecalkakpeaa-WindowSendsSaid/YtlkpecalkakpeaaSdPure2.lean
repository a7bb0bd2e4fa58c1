/- What an acknowledgement does to a sender's row, on lists alone. -/
import Derived.Test.YtlkpecalkakpeaaSdPure
set_option linter.unusedVariables false
set_option linter.unusedSimpArgs false
namespace Go.Sal
section
variable {α β : Type} {R : α → β → Prop} {all : Int} {M : Nat}
def hitB (all : Int) (M : Nat) (n : Int) : Bool := decide (n ≤ all) || (decide (0 ≤ n - all - 2) && decide (n - all - 2 < 64) && M.testBit (n - all - 2).toNat)
def ackU (all : Int) (M : Nat) (n : Int) (x : Snt α) : Snt α := if hitB all M n = true then { x with done := true } else x
def ackR (all : Int) (M : Nat) : List (Snt α) → Int → List (Snt α)
  | [], _ => []
  | x :: r, n => ackU all M n x :: ackR all M r (n + 1)
def ackL (all : Int) (M : Nat) (bse : Int) (k : Nat) (l : List (Snt α)) : List (Snt α) := ackR all M (l.take k) bse ++ l.drop k
def ackF (all : Int) (M : Nat) : List (Snt α) → Int → Nat
  | [], _ => 0
  | x :: r, n => (if hitB all M n = true ∧ x.done = false then 1 else 0) + ackF all M r (n + 1)
def doneN (l : List (Snt α)) : Nat := (l.takeWhile (·.done)).length
theorem ackR_len : ∀ (l : List (Snt α)) (n : Int), (ackR all M l n).length = l.length
  | [], _ => rfl
  | x :: l, n => by simp [ackR, ackR_len l (n + 1)]
theorem ackR_snoc : ∀ (l : List (Snt α)) (x : Snt α) (n : Int), ackR all M (l ++ [x]) n = ackR all M l n ++ [ackU all M (n + l.length) x]
  | [], x, n => by simp [ackR]
  | y :: l, x, n => by
    simp only [List.cons_append, ackR, ackR_snoc l x (n + 1), List.length_cons]
    have e : n + 1 + (l.length : Int) = n + ((l.length + 1 : Nat) : Int) := by omega
    rw [e]
theorem ackF_snoc : ∀ (l : List (Snt α)) (x : Snt α) (n : Int), ackF all M (l ++ [x]) n = ackF all M l n + (if hitB all M (n + l.length) = true ∧ x.done = false then 1 else 0)
  | [], x, n => by simp [ackF]
  | y :: l, x, n => by
    simp only [List.cons_append, ackF, ackF_snoc l x (n + 1), List.length_cons]
    have e : n + 1 + (l.length : Int) = n + ((l.length + 1 : Nat) : Int) := by omega
    rw [e]
    omega
theorem ackF_le : ∀ (l : List (Snt α)) (n : Int), ackF all M l n ≤ l.length
  | [], _ => Nat.le_refl _
  | x :: l, n => by
    have := ackF_le l (n + 1)
    simp only [ackF, List.length_cons]
    split <;> omega
variable {bse : Int} {k : Nat} {l : List (Snt α)}
theorem ackL_len : (ackL all M bse k l).length = l.length := by
  unfold ackL; rw [List.length_append, ackR_len]; simp; omega
theorem ackL_zero : ackL all M bse 0 l = l := by simp [ackL, ackR]
theorem ackL_all : ackL all M bse l.length l = ackR all M l bse := by simp [ackL]
theorem ackL_at (hk : k < l.length) (h : k < (ackL all M bse k l).length) : (ackL all M bse k l)[k] = l[k] := by
  apply Option.some.inj
  rw [← List.getElem?_eq_getElem h, ← List.getElem?_eq_getElem hk]
  unfold ackL
  rw [List.getElem?_append_right (by rw [ackR_len]; simp; omega), ackR_len]
  simp
  congr 1
  omega
theorem ackL_set (hk : k < l.length) : (ackL all M bse k l).set k (ackU all M (bse + k) l[k]) = ackL all M bse (k + 1) l := by
  unfold ackL
  rw [List.set_append_right _ _ (by rw [ackR_len]; simp; omega)]
  have e : k - (ackR all M (List.take k l) bse).length = 0 := by rw [ackR_len]; simp; omega
  have e2 : (List.take k l).length = k := by simp; omega
  rw [e, List.drop_eq_getElem_cons hk, List.set_cons_zero, List.take_succ_eq_append_getElem hk, ackR_snoc, List.append_assoc, e2]
  rfl
theorem ackL_skip (hk : k < l.length) (h : ackU all M (bse + k) l[k] = l[k]) : ackL all M bse (k + 1) l = ackL all M bse k l := by
  rw [← ackL_set hk, h]
  apply List.ext_getElem (by simp)
  intro i h1 h2
  rw [List.getElem_set]
  split
  · rename_i hi
    subst hi
    rw [ackL_at hk h2]
  · rfl
theorem ackF_take {n : Int} (hk : k < l.length) : ackF all M (l.take (k + 1)) n = ackF all M (l.take k) n + (if hitB all M (n + k) = true ∧ l[k].done = false then 1 else 0) := by
  have e2 : (List.take k l).length = k := by simp; omega
  rw [List.take_succ_eq_append_getElem hk, ackF_snoc, e2]
theorem doneN_of {j : Nat} (hj : j ≤ l.length) (h1 : ∀ i (h : i < l.length), i < j → l[i].done = true) (h2 : ∀ h : j < l.length, l[j].done = false) : doneN l = j := by
  unfold doneN
  induction l generalizing j with
  | nil => simp at hj; simp [hj]
  | cons x l ih =>
    cases j with
    | zero =>
      have := h2 (by simp)
      simp at this
      simp [List.takeWhile_cons, this]
    | succ j =>
      have h0 := h1 0 (by simp) (by omega)
      simp at h0
      rw [List.takeWhile_cons, h0, if_pos rfl, List.length_cons, ih (by simpa using hj) (fun i h hi => h1 (i + 1) (by simpa using h) (by omega)) (fun h => h2 (by simpa using h))]
theorem SR.ack : ∀ {l : List (Snt α)} {p : List (Snt β)} (n : Int), SR R l p → SR R (ackR all M l n) (ackR all M p n)
  | [], [], _, _ => trivial
  | a :: l, b :: p, n, h => by
    refine ⟨?_, SR.ack (l := l) (p := p) (n + 1) h.2⟩
    unfold ackU
    split
    · exact ⟨h.1.1, h.1.2.1, rfl, h.1.2.2.2⟩
    · exact h.1
  | [], _ :: _, _, h => h.elim
  | _ :: _, [], _, h => h.elim
theorem SR.ackF : ∀ {l : List (Snt α)} {p : List (Snt β)} (n : Int), SR R l p → ackF all M l n = Go.Sal.ackF all M p n
  | [], [], _, _ => rfl
  | a :: l, b :: p, n, h => by
    simp only [Go.Sal.ackF]
    rw [SR.ackF (l := l) (p := p) (n + 1) h.2, h.1.2.2.1]
  | [], _ :: _, _, h => h.elim
  | _ :: _, [], _, h => h.elim
theorem SR.doneN : ∀ {l : List (Snt α)} {p : List (Snt β)}, SR R l p → Go.Sal.doneN l = Go.Sal.doneN p
  | [], [], _ => rfl
  | a :: l, b :: p, h => by
    have := SR.doneN (l := l) (p := p) h.2
    unfold Go.Sal.doneN at *
    rw [List.takeWhile_cons, List.takeWhile_cons, h.1.2.2.1]
    split <;> simp [this]
  | [], _ :: _, h => h.elim
  | _ :: _, [], h => h.elim
theorem doneN_le : doneN l ≤ l.length := by
  unfold doneN
  exact (List.takeWhile_sublist _).length_le
end
end Go.Sal
