import Derived.Lib.ItoaNum
import Derived.Lib.ItoaLen
import Derived.Lib.Repeat
namespace Go.Proofs.YtopfbbnpbobhaaaDoor
open Go

/-- A hex digit's byte. -/
def hx (n : Nat) : UInt8 := if n < 10 then UInt8.ofNat (48 + n) else UInt8.ofNat (87 + n)
/-- A byte's two digits. -/
def pr (c : UInt8) : List UInt8 := [hx (c.toNat / 16), hx (c.toNat % 16)]
/-- The run of c at the head of a row. -/
def rl (c : UInt8) : List UInt8 → Nat
  | [] => 0
  | x :: t => if x = c then rl c t + 1 else 0
/-- One run's text. -/
def runT (c : UInt8) (n : Nat) : List UInt8 := if n ≤ 4 then Lib.repeatL (pr c) n else pr c ++ ([42] ++ Lib.decDigits n ++ [44])
/-- The runs of a row. -/
def runsF : Nat → List UInt8 → List (UInt8 × Nat)
  | 0, _ => []
  | _, [] => []
  | f + 1, c :: t => (c, rl c (c :: t)) :: runsF f ((c :: t).drop (rl c (c :: t)))
def runs (b : List UInt8) : List (UInt8 × Nat) := runsF b.length b
def hexRow (b : List UInt8) : List UInt8 := ((runs b).map fun p => runT p.1 p.2).flatten
/-- The text of bytes. -/
def hexS (b : List UInt8) : List UInt8 := if b = [] then [46] else hexRow b

theorem rl_le (c : UInt8) : ∀ l, rl c l ≤ l.length
  | [] => by simp [rl]
  | x :: t => by
    have := rl_le c t
    unfold rl
    split <;> simp <;> omega
theorem rl_pos (c : UInt8) (t : List UInt8) : 1 ≤ rl c (c :: t) := by simp [rl]
theorem runsF_more : ∀ (f g : Nat) (b : List UInt8), b.length ≤ f → b.length ≤ g → runsF f b = runsF g b
  | 0, g, b, hf, _ => by
    obtain rfl : b = [] := List.length_eq_zero_iff.1 (by omega)
    cases g <;> rfl
  | f + 1, 0, b, _, hg => by
    obtain rfl : b = [] := List.length_eq_zero_iff.1 (by omega)
    rfl
  | f + 1, g + 1, [], _, _ => rfl
  | f + 1, g + 1, c :: t, hf, hg => by
    have h1 := rl_pos c t
    have h2 := rl_le c (c :: t)
    simp only [List.length_cons] at hf hg h2
    simp only [runsF]
    rw [runsF_more f g _ (by simp; omega) (by simp; omega)]
theorem runs_nil : runs [] = [] := rfl
theorem runs_cons (c : UInt8) (t : List UInt8) : runs (c :: t) = (c, rl c (c :: t)) :: runs ((c :: t).drop (rl c (c :: t))) := by
  have h1 := rl_pos c t
  have h2 := rl_le c (c :: t)
  simp only [List.length_cons] at h2
  show runsF (t.length + 1) (c :: t) = _
  simp only [runsF]
  congr 1
  exact runsF_more _ _ _ (by simp; omega) (by simp)
theorem hexRow_nil : hexRow [] = [] := rfl
theorem hexRow_cons (c : UInt8) (t : List UInt8) : hexRow (c :: t) = runT c (rl c (c :: t)) ++ hexRow ((c :: t).drop (rl c (c :: t))) := by
  unfold hexRow
  rw [runs_cons]
  simp

/-- How far a run has been counted: n bytes are c's; the next is or is not. -/
theorem rl_count (c : UInt8) : ∀ (l : List UInt8) (n : Nat), (∀ j, j < n → l[j]? = some c) → rl c l = n + rl c (l.drop n)
  | l, 0, _ => by simp
  | [], n + 1, h => by have := h 0 (by omega); simp at this
  | x :: t, n + 1, h => by
    have h0 := h 0 (by omega)
    simp at h0
    subst h0
    have := rl_count x t n (fun j hj => by have := h (j + 1) (by omega); simpa using this)
    simp only [rl, if_true, this, List.drop_succ_cons]
    omega
theorem rl_stop (c : UInt8) (l : List UInt8) (n : Nat) (h : ∀ j, j < n → l[j]? = some c) (hn : ∀ x, l[n]? = some x → x ≠ c) : rl c l = n := by
  rw [rl_count c l n h]
  cases e : l.drop n with
  | nil => simp [rl]
  | cons x t =>
    have : l[n]? = some x := by
      have := congrArg (fun m => m[0]?) e
      simpa using this
    simp [rl, hn x this]

/-- The decimal digits, from the last one on. -/
theorem decDigits_step (n : Nat) (s : List UInt8) : Lib.decDigits n ++ s = if n < 10 then UInt8.ofNat (48 + n) :: s else Lib.decDigits (n / 10) ++ (UInt8.ofNat (48 + n % 10) :: s) := by
  rw [Lib.decDigits]
  split
  · simp
  · simp
end Go.Proofs.YtopfbbnpbobhaaaDoor
