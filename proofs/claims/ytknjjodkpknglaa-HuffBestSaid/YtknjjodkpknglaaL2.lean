/- Lengths and the reference's, in one word each. -/
import Derived.Test.YtknjjodkpknglaaL1
set_option linter.unusedVariables false
set_option linter.unusedSimpArgs false
namespace Go.Huf
instance (cs : List Int) : Decidable (okC cs) := by unfold okC; infer_instance
def resL (cs : List Int) : List Int := if okC cs then toI (lens cs) else []
def errL (cs : List Int) : Int := if okC cs then 0 else 50
end Go.Huf
namespace Go.Proofs.Ytknjjodkpknglaa
open Go.ChangeShapes Go.WideShapes Go.ChangeAt Go.RowKit Go.Sal Go.Huf
theorem own_n {w : World} {base n : Nat} {v : Value} {l : List Int} (h : w.ownsRow base 3 1 v n (inI l)) : n = l.length := by
  have := h.1
  rw [inI_len] at this
  omega
/-- a call's answer that is a new row of ints and a number -/
def RowE (w : World) (l : List Int) (E : Int) (e : Ending) (w' : World) : Prop := ∃ A c, e = .returned (.tuple #[.slice A l.length c, .int .i64 E]) ∧ w'.ownsRow w.heap.size 3 1 (.slice A l.length c) l.length (inI l) ∧ Keep [] w w'
theorem lengths_any (cs : List Int) (A : Option Addr) (c : Nat) (w : World) (hs : ISrc w A cs) (hn : cs.length ≤ 100000000) :
    Calls Try.prog 12 #[.slice A cs.length c] w fun e w' => RowE w (resL cs) (errL cs) e w' := by
  unfold resL errL
  by_cases h : okC cs
  · rw [if_pos h, if_pos h]
    refine (lengths_ok cs A c w hs h).mono ?_
    rintro e w' ⟨AO, cO, rfl, hown, hk⟩
    have hl := own_n hown
    rw [hl] at hown ⊢
    exact ⟨AO, cO, rfl, hown, hk⟩
  · rw [if_neg h, if_neg h]
    refine (lengths_bad cs A c w hs hn h).mono ?_
    rintro e w' ⟨rfl, rfl⟩
    exact ⟨none, 0, rfl, World.ownsRow_nil _ _ _ _, Keep.refl _ _⟩
theorem rlengths_any (cs : List Int) (A : Option Addr) (c : Nat) (w : World) (hs : ISrc w A cs) (hn : cs.length ≤ 100000000) :
    Calls Try.prog 13 #[.slice A cs.length c] w fun e w' => RowE w (resL cs) (errL cs) e w' := by
  unfold resL errL
  by_cases h : okC cs
  · rw [if_pos h, if_pos h]
    refine (rlengths_ok cs A c w hs h).mono ?_
    rintro e w' ⟨AO, cO, rfl, hown, hk⟩
    have hl := own_n hown
    rw [hl] at hown ⊢
    exact ⟨AO, cO, rfl, hown, hk⟩
  · rw [if_neg h, if_neg h]
    refine (rlengths_bad cs A c w hs hn h).mono ?_
    rintro e w' ⟨rfl, rfl⟩
    exact ⟨none, 0, rfl, World.ownsRow_nil _ _ _ _, Keep.refl _ _⟩
theorem lens_len : ∀ (f : Nat) (cs : List Int), (lensF f cs).length = cs.length
  | 0, cs => by simp [lensF, depths]
  | f + 1, cs => by
    rw [lensF]
    split
    · simp [depths]
    · rw [lens_len f]; simp
theorem resL_len (cs : List Int) : (resL cs).length ≤ cs.length := by
  unfold resL
  split
  · simp [toI, lens, lens_len]
  · simp
end Go.Proofs.Ytknjjodkpknglaa
