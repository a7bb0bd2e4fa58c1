/- few, same. -/
import Derived.Test.YtknjjodkpknglaaR3
set_option linter.unusedVariables false
set_option linter.unusedSimpArgs false
namespace Go.Proofs.Ytknjjodkpknglaa
open Go.RowKit Go.Sal Go.Huf
theorem few_any (A : Option Addr) (n c : Nat) (w : World) (hn : n ≤ 100000000) (hc : n ≤ c) :
    Calls Try.prog 11 #[.slice A n c] w fun e w' => e = .returned (.slice A (min n 60) c) ∧ w = w' := by
  go_enter Try.func11, Try.ntmps11
  by_cases h : 60 < n
  · have h2 : (60 : Int) < n := by omega
    have hm : min n 60 = 60 := by omega
    rw [hm]
    cases A with
    | none =>
      go_wp2
      go_ret
      exact ⟨rfl, rfl⟩
    | some a =>
      go_wp2
      go_ret
      exact ⟨rfl, rfl⟩
  · have h2 : ¬ (60 : Int) < n := by omega
    have hm : min n 60 = n := by omega
    rw [hm]
    go_wp2
    go_ret
    exact ⟨rfl, rfl⟩
def SameP (P : Prop) (w : World) (e : Ending) (w' : World) : Prop := ∃ b : Bool, e = .returned (.bool b) ∧ (b = true ↔ P) ∧ ∃ k, w' = w.drewN k
set_option maxRecDepth 20000 in
set_option maxHeartbeats 2000000 in
theorem same_any (a b : List Int) (A B : Option Addr) (ca cb : Nat) (w : World) (ha : ISrc w A a) (hb : ISrc w B b) (hna : a.length ≤ 100000000) (hnb : b.length ≤ 100000000) :
    Calls Try.prog 14 #[.slice A a.length ca, .slice B b.length cb] w fun e w' => SameP (a = b) w e w' := by
  have Ha := Lib.hid ha
  have Hb := Lib.hid hb
  clear ha hb
  go_enter Try.func14, Try.ntmps14
  by_cases hl : a.length = b.length
  · go_wp2
    go_loopw [5] (fun i wr => ∃ k q : Nat, i = .int .i64 k ∧ k ≤ a.length ∧ wr = w.drewN q ∧ Hid (∀ j (h1 : j < a.length) (h2 : j < b.length), j < k → a[j] = b[j])) (fun i _ => a.length - (intOf i).toNat)
    case atStart => exact ⟨0, 0, rfl, by omega, rfl, Lib.hid (fun j h1 h2 hj => by omega)⟩
    case round =>
      obtain ⟨k, q, rfl, hk, rfl, hI⟩ := hrel
      rcases Nat.lt_or_ge k a.length with hkl | hkl
      · have hkb : k < b.length := by omega
        obtain ⟨g, o, rfl, hg, hc⟩ := Ha.out k hkl
        obtain ⟨g2, o2, rfl, hg2, hc2⟩ := Hb.out k hkb
        have hwk : IntKind.i64.wrap ((k : Int) + 1) = (k : Int) + 1 := by rw [IntKind.wrap_i64]; omega
        have hst : Hid (a[k] = b[k] → ∀ j (h1 : j < a.length) (h2 : j < b.length), j < k + 1 → a[j] = b[j]) := Lib.hid (fun he j h1 h2 hj => by
          rcases Nat.lt_succ_iff_lt_or_eq.1 hj with h | rfl
          · exact hI.out j h1 h2 h
          · exact he)
        have hne : Hid (a[k] ≠ b[k] → a ≠ b) := Lib.hid (fun h he => h (by subst he; rfl))
        clear hI
        generalize a[k] = x at *
        generalize b[k] = y at *
        have hkbi : (k : Int) < b.length := by omega
        have hkai : (k : Int) < a.length := by omega
        clear hl
        by_cases hxy : x = y
        · have hxn : (x != y) = false := by simpa using hxy
          have HS := Lib.hid (hst.out hxy)
          clear hst hne hxy
          go_wp2
          go_quiet (fail)
          go_wp2
          exact ⟨⟨k + 1, _, by simp, by omega, rfl, HS⟩, by simp [intOf]; omega⟩
        · have hxn : (x != y) = true := by simpa using hxy
          have HS := Lib.hid (hne.out hxy)
          clear hst hne hxy
          go_wp2
          go_quiet (fail)
          go_wp2
          go_ret
          exact ⟨false, rfl, ⟨fun h => (by cases h), fun h => absurd h HS.out⟩, _, World.drewN_drewN _ _ _⟩
      · obtain rfl : k = a.length := by omega
        have HS := Lib.hid (List.ext_getElem hl (fun j h1 h2 => hI.out j h1 h2 h1))
        clear hI
        go_wp2
        go_ret
        exact ⟨true, rfl, ⟨fun _ => HS.out, fun _ => rfl⟩, q, rfl⟩
  · have hne : Hid (a ≠ b) := Lib.hid (fun h => hl (by rw [h]))
    have hl2 : ((a.length : Int) != (b.length : Int)) = true := by simpa using (by omega : (a.length : Int) ≠ (b.length : Int))
    go_wp2
    go_ret
    exact ⟨false, rfl, ⟨fun h => (by cases h), fun h => absurd h hne.out⟩, 0, rfl⟩
end Go.Proofs.Ytknjjodkpknglaa
