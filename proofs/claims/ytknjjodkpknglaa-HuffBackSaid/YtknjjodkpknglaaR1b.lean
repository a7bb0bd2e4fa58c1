/- The reference's tests of counts and depths. -/
import Derived.Test.YtknjjodkpknglaaH9
set_option linter.unusedVariables false
set_option linter.unusedSimpArgs false
namespace Go.Proofs.Ytknjjodkpknglaa
open Go.RowKit Go.Sal Go.Huf
/-- the answer is a bool that says P, the world stays -/
def SaysB (P : Prop) (w : World) (e : Ending) (w' : World) : Prop := ∃ b : Bool, e = .returned (.bool b) ∧ (b = true ↔ P) ∧ w = w'
theorem SaysB.yes {P : Prop} {w : World} (h : P) : SaysB P w (.returned (.bool true)) w := ⟨true, rfl, ⟨fun _ => h, fun _ => rfl⟩, rfl⟩
theorem SaysB.no {P : Prop} {w : World} (h : ¬ P) : SaysB P w (.returned (.bool false)) w := ⟨false, rfl, ⟨fun h2 => (by cases h2), fun h2 => absurd h2 h⟩, rfl⟩
set_option maxRecDepth 20000 in
set_option maxHeartbeats 2000000 in
theorem rcounted_any (cs : List Int) (A : Option Addr) (c : Nat) (w : World) (hs : ISrc w A cs) (hn : cs.length ≤ 100000000) :
    Calls Try.prog 26 #[.slice A cs.length c] w fun e w' => SaysB (okC cs) w e w' := by
  have Hs := Lib.hid hs
  clear hs
  go_enter Try.func26, Try.ntmps26
  go_wp2
  go_loop [3] (fun i => ∃ k : Nat, i = .int .i64 k ∧ k ≤ cs.length ∧ k ≤ 512 ∧ Hid (∀ j (h : j < cs.length), j < k → 0 ≤ cs[j] ∧ cs[j] ≤ 1073741824)) (fun i => cs.length - (intOf i).toNat)
  case atStart => exact ⟨0, rfl, by omega, by omega, Lib.hid (fun j h hj => by omega)⟩
  case round =>
    obtain ⟨k, rfl, hk, hk2, hall⟩ := hrel
    rcases Nat.lt_or_ge k cs.length with hkl | hkl
    · obtain ⟨g, o, rfl, hg, hc⟩ := Hs.out k hkl
      have hno : Hid (¬ (0 ≤ cs[k] ∧ cs[k] ≤ 1073741824) → ¬ okC cs) := Lib.hid (fun h h2 => h (h2.2 _ (List.getElem_mem hkl)))
      have hno2 : Hid (512 ≤ k → ¬ okC cs) := Lib.hid (fun h h2 => by have := h2.1; omega)
      have hstep : Hid (0 ≤ cs[k] ∧ cs[k] ≤ 1073741824 → ∀ j (h : j < cs.length), j < k + 1 → 0 ≤ cs[j] ∧ cs[j] ≤ 1073741824) := Lib.hid (fun hb j h hj => by
        rcases Nat.lt_succ_iff_lt_or_eq.1 hj with h1 | rfl
        · exact hall.out j h h1
        · exact hb)
      generalize cs[k] = x at *
      have hwk : IntKind.i64.wrap ((k : Int) + 1) = (k : Int) + 1 := by rw [IntKind.wrap_i64]; omega
      by_cases h1 : 512 ≤ k
      · go_wp2
        go_ret
        exact SaysB.no (hno2.out h1)
      · by_cases h2 : x < 0
        · go_wp2
          go_ret
          exact SaysB.no (hno.out (by omega))
        · by_cases h3 : 1073741824 < x
          · go_wp2
            go_ret
            exact SaysB.no (hno.out (by omega))
          · go_wp2
            exact ⟨⟨k + 1, by simp, by omega, by omega, Lib.hid (hstep.out (by omega))⟩, by simp [intOf]; omega⟩
    · obtain rfl : k = cs.length := by omega
      go_wp2
      go_ret
      refine SaysB.yes ⟨hk2, fun n hn => ?_⟩
      obtain ⟨j, hj, rfl⟩ := List.mem_iff_getElem.1 hn
      exact hall.out j hj hj
/-- is one too deep? -/
theorem rdeep_any (ds : List Int) (A : Option Addr) (c : Nat) (w : World) (hs : ISrc w A ds) (hn : ds.length ≤ 100000000) :
    Calls Try.prog 27 #[.slice A ds.length c] w fun e w' => SaysB (∃ d ∈ ds, 15 < d) w e w' := by
  have Hs := Lib.hid hs
  clear hs
  go_enter Try.func27, Try.ntmps27
  go_wp2
  go_loop [3] (fun i => ∃ k : Nat, i = .int .i64 k ∧ k ≤ ds.length ∧ Hid (∀ j (h : j < ds.length), j < k → ds[j] ≤ 15)) (fun i => ds.length - (intOf i).toNat)
  case atStart => exact ⟨0, rfl, by omega, Lib.hid (fun j h hj => by omega)⟩
  case round =>
    obtain ⟨k, rfl, hk, hall⟩ := hrel
    rcases Nat.lt_or_ge k ds.length with hkl | hkl
    · obtain ⟨g, o, rfl, hg, hc⟩ := Hs.out k hkl
      have hmem : Hid (ds[k] ∈ ds) := Lib.hid (List.getElem_mem hkl)
      have hstep : Hid (ds[k] ≤ 15 → ∀ j (h : j < ds.length), j < k + 1 → ds[j] ≤ 15) := Lib.hid (fun hb j h hj => by
        rcases Nat.lt_succ_iff_lt_or_eq.1 hj with h1 | rfl
        · exact hall.out j h h1
        · exact hb)
      generalize ds[k] = x at *
      have hwk : IntKind.i64.wrap ((k : Int) + 1) = (k : Int) + 1 := by rw [IntKind.wrap_i64]; omega
      by_cases h1 : 15 < x
      · go_wp2
        go_ret
        exact SaysB.yes ⟨x, hmem.out, h1⟩
      · go_wp2
        exact ⟨⟨k + 1, by simp, by omega, Lib.hid (hstep.out (by omega))⟩, by simp [intOf]; omega⟩
    · obtain rfl : k = ds.length := by omega
      go_wp2
      go_ret
      refine SaysB.no ?_
      rintro ⟨d, hd, h⟩
      obtain ⟨j, hj, rfl⟩ := List.mem_iff_getElem.1 hd
      have := hall.out j hj hj
      omega
end Go.Proofs.Ytknjjodkpknglaa
