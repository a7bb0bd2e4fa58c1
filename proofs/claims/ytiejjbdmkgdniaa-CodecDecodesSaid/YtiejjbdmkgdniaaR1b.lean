/- The reference's tests of counts and depths. -/
import Derived.Test.YtiejjbdmkgdniaaH6
import Derived.Test.YtiejjbdmkgdniaaHfP
import Derived.BigQuiet
set_option linter.unusedVariables false
set_option linter.unusedSimpArgs false
namespace Go.Proofs.Ytiejjbdmkgdniaa
open Go.RowKit Go.Sal Go.Huf
/-- the answer is a bool that says P, the world stays -/
def SaysB (P : Prop) (w : World) (e : Ending) (w' : World) : Prop := ∃ b : Bool, e = .returned (.bool b) ∧ (b = true ↔ P) ∧ w = w'
theorem SaysB.yes {P : Prop} {w : World} (h : P) : SaysB P w (.returned (.bool true)) w := ⟨true, rfl, ⟨fun _ => h, fun _ => rfl⟩, rfl⟩
theorem SaysB.no {P : Prop} {w : World} (h : ¬ P) : SaysB P w (.returned (.bool false)) w := ⟨false, rfl, ⟨fun h2 => (by cases h2), fun h2 => absurd h2 h⟩, rfl⟩
set_option maxRecDepth 20000 in
set_option maxHeartbeats 2000000 in
theorem rcounted_any (cs : List Int) (A : Option Addr) (c : Nat) (w : World) (hs : ISrc w A cs) (hn : cs.length ≤ 100000000) :
    Calls Try.prog 69 #[.slice A cs.length c] w fun e w' => SaysB (okC cs) w e w' := by
  have Hs := Lib.hid hs
  clear hs
  go_enter Try.func69, Try.ntmps69
  go_wp2
  go_loop [3] (fun i => ∃ k : Nat, i = .int .i64 k ∧ k ≤ cs.length ∧ k ≤ 512 ∧ Hid (∀ j (h : j < cs.length), j < k → 0 ≤ cs[j] ∧ cs[j] ≤ 1073741824)) (fun i => cs.length - (intOf i).toNat)
  case atStart => exact ⟨0, rfl, by omega, by omega, Lib.hid (fun j h hj => by omega)⟩
  case round =>
    obtain ⟨k, rfl, hk, hk2, hall⟩ := hrel
    rcases Nat.lt_or_ge k cs.length with hkl | hkl
    · obtain ⟨g, o, rfl, hg, hc⟩ := Hs.out k hkl
      have hno : Hid (¬ (0 ≤ cs[k] ∧ cs[k] ≤ 1073741824) → ¬ okC cs) := Lib.hid (fun h h2 => h (h2.2 _ (List.getElem_mem hkl)))
      have hno2 : Hid (512 ≤ k → ¬ okC cs) := Lib.hid (fun h h2 => by have := h2.1; omega)
      have hstep : Hid (0 ≤ cs[k] ∧ cs[k] ≤ 1073741824 → ∀ j (h : j < cs.length), j < k + 1 → 0 ≤ cs[j] ∧ cs[j] ≤ 1073741824) := Lib.hid (fun hb j h hj => by
        rcases Nat.lt_succ_iff_lt_or_eq.1 hj with h1 | rfl
        · exact hall.out j h h1
        · exact hb)
      generalize cs[k] = x at *
      have hwk : IntKind.i64.wrap ((k : Int) + 1) = (k : Int) + 1 := by rw [IntKind.wrap_i64]; omega
      by_cases h1 : 512 ≤ k
      · go_wp2
        go_ret
        exact SaysB.no (hno2.out h1)
      · by_cases h2 : x < 0
        · go_wp2
          go_ret
          exact SaysB.no (hno.out (by omega))
        · by_cases h3 : 1073741824 < x
          · go_wp2
            go_ret
            exact SaysB.no (hno.out (by omega))
          · go_wp2
            exact ⟨⟨k + 1, by simp, by omega, by omega, Lib.hid (hstep.out (by omega))⟩, by simp [intOf]; omega⟩
    · obtain rfl : k = cs.length := by omega
      go_wp2
      go_ret
      refine SaysB.yes ⟨hk2, fun n hn => ?_⟩
      obtain ⟨j, hj, rfl⟩ := List.mem_iff_getElem.1 hn
      exact hall.out j hj hj
/-- is one too deep? -/
theorem rdeep_any (ds : List Int) (A : Option Addr) (c : Nat) (w : World) (hs : ISrc w A ds) (hn : ds.length ≤ 100000000) :
    Calls Try.prog 71 #[.slice A ds.length c] w fun e w' => SaysB (∃ d ∈ ds, 15 < d) w e w' := by
  have Hs := Lib.hid hs
  clear hs
  go_enter Try.func71, Try.ntmps71
  go_wp2
  go_loop [3] (fun i => ∃ k : Nat, i = .int .i64 k ∧ k ≤ ds.length ∧ Hid (∀ j (h : j < ds.length), j < k → ds[j] ≤ 15)) (fun i => ds.length - (intOf i).toNat)
  case atStart => exact ⟨0, rfl, by omega, Lib.hid (fun j h hj => by omega)⟩
  case round =>
    obtain ⟨k, rfl, hk, hall⟩ := hrel
    rcases Nat.lt_or_ge k ds.length with hkl | hkl
    · obtain ⟨g, o, rfl, hg, hc⟩ := Hs.out k hkl
      have hmem : Hid (ds[k] ∈ ds) := Lib.hid (List.getElem_mem hkl)
      have hstep : Hid (ds[k] ≤ 15 → ∀ j (h : j < ds.length), j < k + 1 → ds[j] ≤ 15) := Lib.hid (fun hb j h hj => by
        rcases Nat.lt_succ_iff_lt_or_eq.1 hj with h1 | rfl
        · exact hall.out j h h1
        · exact hb)
      generalize ds[k] = x at *
      have hwk : IntKind.i64.wrap ((k : Int) + 1) = (k : Int) + 1 := by rw [IntKind.wrap_i64]; omega
      by_cases h1 : 15 < x
      · go_wp2
        go_ret
        exact SaysB.yes ⟨x, hmem.out, h1⟩
      · go_wp2
        exact ⟨⟨k + 1, by simp, by omega, Lib.hid (hstep.out (by omega))⟩, by simp [intOf]; omega⟩
    · obtain rfl : k = ds.length := by omega
      go_wp2
      go_ret
      refine SaysB.no ?_
      rintro ⟨d, hd, h⟩
      obtain ⟨j, hj, rfl⟩ := List.mem_iff_getElem.1 hd
      have := hall.out j hj hj
      omega
end Go.Proofs.Ytiejjbdmkgdniaa
set_option linter.unusedVariables false
set_option linter.unusedSimpArgs false
namespace Go.Proofs.Ytiejjbdmkgdniaa
open Go.RowKit Go.Sal Go.Huf
/-- a node of the reference: weight, in, symbol -/
def rc3 (x : (Int × Int) × Int) : List Value := [.int .i64 x.1.1, .int .i64 x.1.2, .int .i64 x.2]
theorem rc3_len (x : (Int × Int) × Int) : (rc3 x).length = 3 := rfl
theorem rndinfo : (Try.prog.info? 139).map (fun i => (i.zero, i.size, i.bytes)) = some (some (.agg #[.int .i64 0, .int .i64 0, .int .i64 0]), 3, 24) := by kernel_rfl
def RRow (w : World) (base g n c : Nat) (r : List ((Int × Int) × Int)) : Prop := w.ownsRow base 139 3 (.slice (some ⟨g, 0, none⟩) n c) n (r.flatMap rc3)
theorem rr_cell {w : World} {base g n c i : Nat} {r : List ((Int × Int) × Int)} (h : RRow w base g n c r) (hi : i < r.length) :
    w.cell? ⟨g, i * 3, none⟩ = some (.int .i64 (wt (r.map Prod.fst) i)) ∧ w.cell? ⟨g, i * 3 + 1, none⟩ = some (.int .i64 (up1 (r.map Prod.fst) i)) ∧ w.cell? ⟨g, i * 3 + 2, none⟩ = some (.int .i64 r[i].2) ∧ w.frozen? ⟨g, i * 3 + 1, none⟩ = false := by
  have e : (r.map Prod.fst).getD i (0, -1) = r[i].1 := by simp [List.getD, hi]
  have q0 := ownsRow_cell h (show (r.flatMap rc3)[i * 3]? = some (.int .i64 (wt (r.map Prod.fst) i)) by
    have := rf_get rc3_len r i 0 hi (by omega)
    rw [Nat.add_zero] at this
    rw [this, wt, e]; rfl)
  have q1 := ownsRow_cell h (show (r.flatMap rc3)[i * 3 + 1]? = some (.int .i64 (up1 (r.map Prod.fst) i)) by
    rw [rf_get rc3_len r i 1 hi (by omega), up1, e]; rfl)
  have q2 := ownsRow_cell h (show (r.flatMap rc3)[i * 3 + 2]? = some (.int .i64 r[i].2) by
    rw [rf_get rc3_len r i 2 hi (by omega)]; rfl)
  exact ⟨q0.1, q1.1, q2.1, q1.2⟩

set_option maxRecDepth 20000 in
set_option maxHeartbeats 16000000 in
theorem rleast_any (base g n c : Nat) (r : List ((Int × Int) × Int)) (no : Int) (w : World) (h : RRow w base g n c r) (hn : n = r.length) (hn2 : n ≤ 10000) (hno : -1 ≤ no ∧ no ≤ 10000) :
    Calls Try.prog 90 #[.slice (some ⟨g, 0, none⟩) n c, .int .i64 no] w fun e w' => e = .returned (.int .i64 (rl (r.map Prod.fst) no n)) ∧ ∃ k, w' = w.drewN k := by
  have hcl : ∀ i, i < n → w.cell? ⟨g, i * 3, none⟩ = some (.int .i64 (wt (r.map Prod.fst) i)) ∧ w.cell? ⟨g, i * 3 + 1, none⟩ = some (.int .i64 (up1 (r.map Prod.fst) i)) := fun i hi => by
    obtain ⟨a, b, _⟩ := rr_cell h (show i < r.length by omega)
    exact ⟨a, b⟩
  have Hcl := Lib.hid hcl
  clear h hcl
  generalize r.map Prod.fst = l at *
  go_enter Try.func90, Try.ntmps90
  go_wp2
  go_loopw [5, 6] (fun best i wr => ∃ j q : Nat, i = .int .i64 j ∧ j ≤ n ∧ best = .int .i64 (rl l no j) ∧ wr = w.drewN q) (fun _ i _ => n - (intOf i).toNat)
  case atStart => exact ⟨0, 0, rfl, by omega, rfl, rfl⟩
  case round =>
    obtain ⟨j, q, rfl, hj, rfl, rfl⟩ := hrel
    rcases Nat.lt_or_ge j n with hlt | hge
    · as_aux_lemma =>
        obtain ⟨c0, c1⟩ := Hcl.out j hlt
        have hst : rl l no (j + 1) = if (j : Int) ≠ no ∧ up1 l j < 0 ∧ (rl l no j < 0 ∨ wt l j < wt l (rl l no j).toNat) then (j : Int) else rl l no j := rfl
        have hsp : rl l no j = -1 ∨ ∃ b : Nat, rl l no j = b ∧ b < j := by
          rcases rl_spec l no j with ⟨h1, _⟩ | ⟨b, h1, h2, _⟩
          · exact .inl h1
          · exact .inr ⟨b, h1, h2⟩
        have hwj : IntKind.i64.wrap ((j : Int) + 1) = (j : Int) + 1 := by rw [IntKind.wrap_i64]; omega
        generalize rl l no j = bst at *
        by_cases e1 : (j : Int) = no
        · have d1 : ((j : Int) != no) = false := by simpa using e1
          rw [if_neg (fun h => h.1 e1)] at hst
          have Hst := Lib.hid hst
          have He := Lib.hid e1
          clear hst hsp c0 c1 e1
          go_wp2
          go_quiet (fail)
          go_wp2
          exact ⟨⟨j + 1, _, by simp, by omega, by rw [Hst.out], rfl⟩, by simp [intOf]; omega⟩
        · have d1 : ((j : Int) != no) = true := by simpa using e1
          by_cases e2 : up1 l j < 0
          · have d2 : decide (up1 l j < 0) = true := by simpa using e2
            rcases hsp with hsp | ⟨b, hsp, hbj⟩
            · subst hsp
              have d3 : decide ((-1 : Int) < 0) = true := by decide
              rw [if_pos ⟨e1, e2, .inl (by omega)⟩] at hst
              have Hst := Lib.hid hst
              clear hst e1 e2
              generalize up1 l j = u at *
              go_wp2
              go_quiet (fail)
              go_wp2
              exact ⟨⟨j + 1, _, by simp, by omega, by rw [Hst.out], rfl⟩, by simp [intOf]; omega⟩
            · subst hsp
              have d3 : decide ((b : Int) < 0) = false := by simp
              obtain ⟨c2, _⟩ := Hcl.out b (by omega)
              have hbn : b < n := by omega
              rw [Int.toNat_natCast] at hst
              by_cases e3 : wt l j < wt l b
              · have d4 : decide (wt l j < wt l b) = true := by simpa using e3
                rw [if_pos ⟨e1, e2, .inr e3⟩] at hst
                have Hst := Lib.hid hst
                clear hst e1 e2 e3
                generalize up1 l j = u at *
                generalize wt l j = wj at *
                generalize wt l b = wb at *
                go_wp2
                go_quiet (fail)
                go_wp2
                exact ⟨⟨j + 1, _, by simp, by omega, by rw [Hst.out], rfl⟩, by simp [intOf]; omega⟩
              · have d4 : decide (wt l j < wt l b) = false := by simpa using e3
                rw [if_neg (fun h => by rcases h.2.2 with h | h <;> omega)] at hst
                have Hst := Lib.hid hst
                clear hst e1 e2 e3
                generalize up1 l j = u at *
                generalize wt l j = wj at *
                generalize wt l b = wb at *
                go_wp2
                go_quiet (fail)
                go_wp2
                exact ⟨⟨j + 1, _, by simp, by omega, by rw [Hst.out], rfl⟩, by simp [intOf]; omega⟩
          · have d2 : decide (up1 l j < 0) = false := by simpa using e2
            rw [if_neg (fun h => e2 h.2.1)] at hst
            have Hst := Lib.hid hst
            clear hst e1 e2 hsp
            generalize up1 l j = u at *
            go_wp2
            go_quiet (fail)
            go_wp2
            exact ⟨⟨j + 1, _, by simp, by omega, by rw [Hst.out], rfl⟩, by simp [intOf]; omega⟩
    · obtain rfl : j = n := by omega
      go_wp2
      go_ret
      exact ⟨rfl, q, rfl⟩
end Go.Proofs.Ytiejjbdmkgdniaa
