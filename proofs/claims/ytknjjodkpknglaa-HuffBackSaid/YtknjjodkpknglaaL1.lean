/- Arguments opened: slices of ints; few of them. -/
import Derived.Test.YtknjjodkpknglaaL0
import Derived.Test.YtknjjodkpknglaaArg
set_option linter.unusedVariables false
set_option linter.unusedSimpArgs false
namespace Go.Sal
theorem spot_of_cell {w : World} {a : Addr} {v : Value} (h : w.cell? a = some v) : a.spot = none := by
  unfold World.cell? at h
  split at h
  · split at h
    · cases h
    · rename_i h1
      simpa using h1
  · cases h
end Go.Sal
namespace Go.Proofs.Ytknjjodkpknglaa
open Go.ChangeShapes Go.WideShapes Go.ChangeAt Go.RowKit Go.Sal Go.Huf
theorem Try.own : ownKnob Try.prog.godebug = none := by kernel_rfl
theorem Try.laidOut : laidOutB Try.prog = true := by kernel_rfl
/-- an argument that is a slice of ints -/
def IntArg (w : World) (v : Value) (cs : List Int) : Prop :=
  ∃ A c, v = .slice A cs.length c ∧ cs.length ≤ c ∧ c ≤ 9223372036854775807 ∧ ISrc w A cs ∧ ∀ n ∈ cs, -9223372036854775808 ≤ n ∧ n ≤ 9223372036854775807
theorem intArg_of_trod {H : Type} {enc : TypeId × Value → H} {w : World} {base : Nat} {spare : Nat → Bool} {held : Bool} {fuel : Nat} {v : Value} {y : DataW H × List MemPlace}
    (h : DataW.trod enc Try.prog w base spare held fuel 22 [v] = some y) : ∃ cs, IntArg w v cs := by
  rcases open_ints Try.underlying22 Try.underlying3 (by kernel_rfl) h with ⟨hcs, _⟩ | ⟨a, len, cap, zs, hcs, _, hl, hm, hz, _, hcell, hwz⟩
  · injection hcs with hcs
    subst hcs
    exact ⟨[], none, 0, rfl, by simp, by simp, fun i hi => by simp at hi, by simp⟩
  · injection hcs with hcs
    subst hcs
    have hlz : len ≤ zs.length := by rw [hz]; split <;> omega
    have hlen : (zs.take len).length = len := by rw [List.length_take]; omega
    refine ⟨zs.take len, some a, cap, by rw [hlen], by omega, by unfold maxLen at hm; omega, fun i hi => ?_, fun n hn => ?_⟩
    · have hi' : i < len ∧ i < zs.length := by rw [hlen] at hi; omega
      have hc0 := hcell 0 (by omega)
      have hsp : a.spot = none := spot_of_cell (by simpa [Addr.add] using hc0)
      obtain ⟨g, o, rfl⟩ : ∃ g o, a = ⟨g, o, none⟩ := ⟨a.block, a.off, by cases a; simp_all⟩
      have hgl := World.block_lt_of_cell? _ _ hc0
      rw [add_block] at hgl
      have hc := hcell i hi'.2
      rw [add_mk] at hc
      refine ⟨g, o, rfl, hgl, ?_⟩
      rw [hc, List.getElem_take]
      simp [List.getD, hi'.2]
    · have := hwz n ((List.take_sublist len zs).mem hn)
      simp [Lit.wf, IntKind.min, IntKind.max, IntKind.bits, IntKind.signed] at this
      omega
theorem few_big (A : Option Addr) (n c : Nat) (w : World) (hn : n ≤ c) (hc : c ≤ 9223372036854775807) :
    Calls Try.prog 11 #[.slice A n c] w fun e w' => e = .returned (.slice A (min n 60) c) ∧ w = w' := by
  go_enter Try.func11, Try.ntmps11
  by_cases h : 60 < n
  · have h2 : (60 : Int) < n := by omega
    have hm : min n 60 = 60 := by omega
    rw [hm]
    cases A with
    | none =>
      go_wp2
      go_ret
      exact ⟨rfl, rfl⟩
    | some a =>
      go_wp2
      go_ret
      exact ⟨rfl, rfl⟩
  · have h2 : ¬ (60 : Int) < n := by omega
    have hm : min n 60 = n := by omega
    rw [hm]
    go_wp2
    go_ret
    exact ⟨rfl, rfl⟩
theorem ISrc.take {w : World} {A : Option Addr} {cs : List Int} (h : ISrc w A cs) (k : Nat) : ISrc w A (cs.take k) := fun i hi => by
  rw [List.length_take] at hi
  obtain ⟨g, o, e, h1, h2⟩ := h i (by omega)
  exact ⟨g, o, e, h1, by rw [h2, List.getElem_take]⟩
/-- few of a slice: the first 60 -/
theorem few_ints {w : World} {v : Value} {cs : List Int} (h : IntArg w v cs) :
    Calls Try.prog 11 #[v] w fun e w' => ∃ A c, e = .returned (.slice A (cs.take 60).length c) ∧ (cs.take 60).length ≤ 60 ∧ ISrc w A (cs.take 60) ∧ w = w' := by
  obtain ⟨A, c, rfl, h1, h2, h3, _⟩ := h
  refine (few_big A cs.length c w h1 h2).mono ?_
  rintro e w' ⟨rfl, rfl⟩
  have hl : (cs.take 60).length = min cs.length 60 := by rw [List.length_take, Nat.min_comm]
  exact ⟨A, c, by rw [hl], by omega, h3.take 60, rfl⟩
end Go.Proofs.Ytknjjodkpknglaa
