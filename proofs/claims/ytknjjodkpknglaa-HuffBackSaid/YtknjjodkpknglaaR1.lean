/- The reference's least node, its tests of counts and depths. -/
import Derived.Test.YtknjjodkpknglaaH9
import Derived.Test.YtknjjodkpknglaaHfR
import Derived.BigQuiet
set_option linter.unusedVariables false
set_option linter.unusedSimpArgs false
namespace Go.Proofs.Ytknjjodkpknglaa
open Go.RowKit Go.Sal Go.Huf
/-- a node of the reference: weight, in, symbol -/
def rc3 (x : (Int × Int) × Int) : List Value := [.int .i64 x.1.1, .int .i64 x.1.2, .int .i64 x.2]
theorem rc3_len (x : (Int × Int) × Int) : (rc3 x).length = 3 := rfl
theorem rndinfo : (Try.prog.info? 63).map (fun i => (i.zero, i.size, i.bytes)) = some (some (.agg #[.int .i64 0, .int .i64 0, .int .i64 0]), 3, 24) := by kernel_rfl
def RRow (w : World) (base g n c : Nat) (r : List ((Int × Int) × Int)) : Prop := w.ownsRow base 63 3 (.slice (some ⟨g, 0, none⟩) n c) n (r.flatMap rc3)
theorem rr_cell {w : World} {base g n c i : Nat} {r : List ((Int × Int) × Int)} (h : RRow w base g n c r) (hi : i < r.length) :
    w.cell? ⟨g, i * 3, none⟩ = some (.int .i64 (wt (r.map Prod.fst) i)) ∧ w.cell? ⟨g, i * 3 + 1, none⟩ = some (.int .i64 (up1 (r.map Prod.fst) i)) ∧ w.cell? ⟨g, i * 3 + 2, none⟩ = some (.int .i64 r[i].2) ∧ w.frozen? ⟨g, i * 3 + 1, none⟩ = false := by
  have e : (r.map Prod.fst).getD i (0, -1) = r[i].1 := by simp [List.getD, hi]
  have q0 := ownsRow_cell h (show (r.flatMap rc3)[i * 3]? = some (.int .i64 (wt (r.map Prod.fst) i)) by
    have := rf_get rc3_len r i 0 hi (by omega)
    rw [Nat.add_zero] at this
    rw [this, wt, e]; rfl)
  have q1 := ownsRow_cell h (show (r.flatMap rc3)[i * 3 + 1]? = some (.int .i64 (up1 (r.map Prod.fst) i)) by
    rw [rf_get rc3_len r i 1 hi (by omega), up1, e]; rfl)
  have q2 := ownsRow_cell h (show (r.flatMap rc3)[i * 3 + 2]? = some (.int .i64 r[i].2) by
    rw [rf_get rc3_len r i 2 hi (by omega)]; rfl)
  exact ⟨q0.1, q1.1, q2.1, q1.2⟩

set_option maxRecDepth 20000 in
set_option maxHeartbeats 16000000 in
theorem rleast_any (base g n c : Nat) (r : List ((Int × Int) × Int)) (no : Int) (w : World) (h : RRow w base g n c r) (hn : n = r.length) (hn2 : n ≤ 10000) (hno : -1 ≤ no ∧ no ≤ 10000) :
    Calls Try.prog 36 #[.slice (some ⟨g, 0, none⟩) n c, .int .i64 no] w fun e w' => e = .returned (.int .i64 (rl (r.map Prod.fst) no n)) ∧ ∃ k, w' = w.drewN k := by
  have hcl : ∀ i, i < n → w.cell? ⟨g, i * 3, none⟩ = some (.int .i64 (wt (r.map Prod.fst) i)) ∧ w.cell? ⟨g, i * 3 + 1, none⟩ = some (.int .i64 (up1 (r.map Prod.fst) i)) := fun i hi => by
    obtain ⟨a, b, _⟩ := rr_cell h (show i < r.length by omega)
    exact ⟨a, b⟩
  have Hcl := Lib.hid hcl
  clear h hcl
  generalize r.map Prod.fst = l at *
  go_enter Try.func36, Try.ntmps36
  go_wp2
  go_loopw [5, 6] (fun best i wr => ∃ j q : Nat, i = .int .i64 j ∧ j ≤ n ∧ best = .int .i64 (rl l no j) ∧ wr = w.drewN q) (fun _ i _ => n - (intOf i).toNat)
  case atStart => exact ⟨0, 0, rfl, by omega, rfl, rfl⟩
  case round =>
    obtain ⟨j, q, rfl, hj, rfl, rfl⟩ := hrel
    rcases Nat.lt_or_ge j n with hlt | hge
    · as_aux_lemma =>
        obtain ⟨c0, c1⟩ := Hcl.out j hlt
        have hst : rl l no (j + 1) = if (j : Int) ≠ no ∧ up1 l j < 0 ∧ (rl l no j < 0 ∨ wt l j < wt l (rl l no j).toNat) then (j : Int) else rl l no j := rfl
        have hsp : rl l no j = -1 ∨ ∃ b : Nat, rl l no j = b ∧ b < j := by
          rcases rl_spec l no j with ⟨h1, _⟩ | ⟨b, h1, h2, _⟩
          · exact .inl h1
          · exact .inr ⟨b, h1, h2⟩
        have hwj : IntKind.i64.wrap ((j : Int) + 1) = (j : Int) + 1 := by rw [IntKind.wrap_i64]; omega
        generalize rl l no j = bst at *
        by_cases e1 : (j : Int) = no
        · have d1 : ((j : Int) != no) = false := by simpa using e1
          rw [if_neg (fun h => h.1 e1)] at hst
          have Hst := Lib.hid hst
          have He := Lib.hid e1
          clear hst hsp c0 c1 e1
          go_wp2
          go_quiet (fail)
          go_wp2
          exact ⟨⟨j + 1, _, by simp, by omega, by rw [Hst.out], rfl⟩, by simp [intOf]; omega⟩
        · have d1 : ((j : Int) != no) = true := by simpa using e1
          by_cases e2 : up1 l j < 0
          · have d2 : decide (up1 l j < 0) = true := by simpa using e2
            rcases hsp with hsp | ⟨b, hsp, hbj⟩
            · subst hsp
              have d3 : decide ((-1 : Int) < 0) = true := by decide
              rw [if_pos ⟨e1, e2, .inl (by omega)⟩] at hst
              have Hst := Lib.hid hst
              clear hst e1 e2
              generalize up1 l j = u at *
              go_wp2
              go_quiet (fail)
              go_wp2
              exact ⟨⟨j + 1, _, by simp, by omega, by rw [Hst.out], rfl⟩, by simp [intOf]; omega⟩
            · subst hsp
              have d3 : decide ((b : Int) < 0) = false := by simp
              obtain ⟨c2, _⟩ := Hcl.out b (by omega)
              have hbn : b < n := by omega
              rw [Int.toNat_natCast] at hst
              by_cases e3 : wt l j < wt l b
              · have d4 : decide (wt l j < wt l b) = true := by simpa using e3
                rw [if_pos ⟨e1, e2, .inr e3⟩] at hst
                have Hst := Lib.hid hst
                clear hst e1 e2 e3
                generalize up1 l j = u at *
                generalize wt l j = wj at *
                generalize wt l b = wb at *
                go_wp2
                go_quiet (fail)
                go_wp2
                exact ⟨⟨j + 1, _, by simp, by omega, by rw [Hst.out], rfl⟩, by simp [intOf]; omega⟩
              · have d4 : decide (wt l j < wt l b) = false := by simpa using e3
                rw [if_neg (fun h => by rcases h.2.2 with h | h <;> omega)] at hst
                have Hst := Lib.hid hst
                clear hst e1 e2 e3
                generalize up1 l j = u at *
                generalize wt l j = wj at *
                generalize wt l b = wb at *
                go_wp2
                go_quiet (fail)
                go_wp2
                exact ⟨⟨j + 1, _, by simp, by omega, by rw [Hst.out], rfl⟩, by simp [intOf]; omega⟩
          · have d2 : decide (up1 l j < 0) = false := by simpa using e2
            rw [if_neg (fun h => e2 h.2.1)] at hst
            have Hst := Lib.hid hst
            clear hst e1 e2 hsp
            generalize up1 l j = u at *
            go_wp2
            go_quiet (fail)
            go_wp2
            exact ⟨⟨j + 1, _, by simp, by omega, by rw [Hst.out], rfl⟩, by simp [intOf]; omega⟩
    · obtain rfl : j = n := by omega
      go_wp2
      go_ret
      exact ⟨rfl, q, rfl⟩
end Go.Proofs.Ytknjjodkpknglaa
