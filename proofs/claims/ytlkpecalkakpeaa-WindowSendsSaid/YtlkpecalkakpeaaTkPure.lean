/- What a taker computes, on lists alone. -/
import Derived.Test.YtlkpecalkakpeaaBase2
set_option linter.unusedVariables false
set_option linter.unusedSimpArgs false
namespace Go.Sal
/-- hand on what stands in its turn -/
def tdrain {α : Type} : Nat → Int → List (Int × α) → List (Int × α) → Int × List (Int × α) × List (Int × α)
  | 0, wt, l, out => (wt, l, out)
  | k + 1, wt, l, out =>
    match mlook l wt with
    | some v => tdrain k (wt + 1) (mdrop l wt) (out ++ [(wt, v)])
    | none => (wt, l, out)
/-- error, waits, early, handed on -/
def ttake {α : Type} (sz wt : Int) (l : List (Int × α)) (N : Int) (v : α) : Int × Int × List (Int × α) × List (Int × α) :=
  if N < 1 ∨ wt ≤ N - sz then (192, wt, l, [])
  else if N < wt ∨ (mlook l N).isSome = true then (0, wt, l, [])
  else (0, tdrain (l.length + 1) wt (l ++ [(N, v)]) [])
theorem mdrop_len {α : Type} {l : List (Int × α)} {k : Int} (h : (mlook l k).isSome = true) : (mdrop l k).length + 1 = l.length := by
  unfold mdrop
  have hh : l.any (fun p => p.1 == k) = true := by
    unfold mlook at h
    rw [Option.isSome_map] at h
    rw [List.any_eq_true]
    obtain ⟨x, hx⟩ := Option.isSome_iff_exists.1 h
    exact ⟨x, List.mem_of_find?_eq_some hx, by simpa using List.find?_some hx⟩
  rw [List.length_eraseP, if_pos hh]
  have : 0 < l.length := by
    cases l with
    | nil => simp at hh
    | cons _ _ => simp
  omega
theorem tdrain_step {α : Type} {k : Nat} {wt : Int} {l out : List (Int × α)} {v : α} (h : mlook l wt = some v) : tdrain (k + 1) wt l out = tdrain k (wt + 1) (mdrop l wt) (out ++ [(wt, v)]) := by
  rw [tdrain, h]
theorem tdrain_stop {α : Type} {k : Nat} {wt : Int} {l out : List (Int × α)} (h : mlook l wt = none) : tdrain k wt l out = (wt, l, out) := by
  cases k with
  | zero => rfl
  | succ k => rw [tdrain, h]
/-- a value that is a slice -/
def IsSl (v : Value) : Prop := ∃ A n c, v = .slice A n c
def flat (l : List (Int × Value)) : List Value := l.flatMap fun p => [.int .i64 p.1, p.2]
theorem flat_len (l : List (Int × Value)) : (flat l).length = l.length * 2 := by
  unfold flat
  induction l with
  | nil => rfl
  | cons p l ih => simp [ih]; omega
theorem flat_snoc (l : List (Int × Value)) (n : Int) (v : Value) : flat (l ++ [(n, v)]) = flat l ++ [.int .i64 n, v] := by simp [flat]
end Go.Sal
