/- Hex's text: how long it is. -/
import Derived.Test.YtopfbbnpbobhaaaDoorHx
namespace Go.Proofs.YtopfbbnpbobhaaaDoor
open Go

theorem runs_mem : ∀ (f : Nat) (b : List UInt8) (p : UInt8 × Nat), p ∈ runsF f b → 1 ≤ p.2 ∧ p.2 ≤ b.length
  | 0, _, p, h => by simp [runsF] at h
  | f + 1, [], p, h => by simp [runsF] at h
  | f + 1, c :: t, p, h => by
    have h1 := rl_pos c t
    have h2 := rl_le c (c :: t)
    simp only [runsF, List.mem_cons] at h
    rcases h with rfl | h
    · exact ⟨h1, h2⟩
    · have := runs_mem f _ p h
      simp only [List.length_drop] at this
      omega
theorem repeatL_len (l : List UInt8) (n : Nat) : (Lib.repeatL l n).length = n * l.length := Lib.repeatL_length l n
theorem runT_len (c : UInt8) (n : Nat) (h : 1 ≤ n) (h2 : n < 18446744073709551616) : (runT c n).length ≤ 24 * n := by
  unfold runT
  split
  · rw [repeatL_len]
    simp [pr]
    omega
  · have := Lib.nDigits_le20 n h2
    simp [pr, Lib.decDigits_length]
    omega
theorem runsF_len : ∀ (f : Nat) (b : List UInt8), b.length < 18446744073709551616 → (((runsF f b).map fun p => runT p.1 p.2).flatten).length ≤ 24 * b.length
  | 0, _, _ => by simp [runsF]
  | f + 1, [], _ => by simp [runsF]
  | f + 1, c :: t, h => by
    have h1 := rl_pos c t
    have h2 := rl_le c (c :: t)
    have h3 := runT_len c _ h1 (by omega)
    have h4 := runsF_len f ((c :: t).drop (rl c (c :: t))) (by rw [List.length_drop]; omega)
    rw [List.length_drop] at h4
    simp only [runsF, List.map_cons, List.flatten_cons, List.length_append]
    omega
theorem pre_len {b : List UInt8} {pre : List (UInt8 × Nat)} (hp : pre <+: runs b) (h : b.length < 18446744073709551616) : ((pre.map fun p => runT p.1 p.2).flatten).length ≤ 24 * b.length := by
  obtain ⟨t, ht⟩ := hp
  have := runsF_len b.length b h
  rw [show runsF b.length b = pre ++ t from ht.symm] at this
  rw [List.map_append, List.flatten_append, List.length_append] at this
  omega
theorem last_mem {b : List UInt8} {pre : List (UInt8 × Nat)} {x : UInt8 × Nat} (hp : (pre ++ [x]) <+: runs b) : 1 ≤ x.2 ∧ x.2 ≤ b.length := by
  obtain ⟨t, ht⟩ := hp
  exact runs_mem b.length b x (by rw [show runsF b.length b = _ from ht.symm]; simp)
theorem hexS_len (b : List UInt8) (h : b.length < 18446744073709551616) : (hexS b).length ≤ 24 * b.length + 1 := by
  unfold hexS
  split
  · simp
  · have := runsF_len b.length b h
    unfold hexRow runs
    omega
end Go.Proofs.YtopfbbnpbobhaaaDoor
