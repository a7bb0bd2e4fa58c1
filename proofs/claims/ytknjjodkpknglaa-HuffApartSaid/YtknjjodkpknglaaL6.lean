/- HuffApart, walked. -/
import Derived.Test.YtknjjodkpknglaaL1
import Derived.Test.YtknjjodkpknglaaS12
import Derived.Test.YtknjjodkpknglaaB1
import Derived.Test.YtknjjodkpknglaaHfX
import Derived.BigQuiet
set_option linter.unusedVariables false
set_option linter.unusedSimpArgs false
namespace Go.Proofs.Ytknjjodkpknglaa
open Go.ChangeShapes Go.WideShapes Go.ChangeAt Go.RowKit Go.Sal Go.Huf
set_option maxRecDepth 20000 in
set_option maxHeartbeats 1000000 in
theorem law6_any (v0 : Value) (l0 : List Int) (za zb : Int) (w : World) (h0 : IntArg w v0 l0) (hza : -9223372036854775808 ≤ za ∧ za ≤ 9223372036854775807) (hzb : -9223372036854775808 ≤ zb ∧ zb ≤ 9223372036854775807) :
    Calls Try.prog 6 #[v0, .int .i64 za, .int .i64 zb] w fun e w' => e = .returned (.bool true) ∧ Keep [] w w' := by
  have Hf := Lib.hid (few_ints h0)
  clear h0
  have hl60 : (l0.take 60).length ≤ 60 := by rw [List.length_take]; omega
  generalize l0.take 60 = l at *
  by_cases hok : okL l
  · have Hcd : Hid (∀ A c w, ISrc w A l → Calls Try.prog 21 #[.slice A l.length c] w (fun e w' => ∃ AO cO, e = .returned (.tuple #[.slice AO l.length cO, .int .i64 0]) ∧ w'.ownsRow w.heap.size 44 1 (.slice AO l.length cO) l.length (inU (codesL l)) ∧ Keep [] w w')) :=
      Lib.hid (fun A c w hs => codes_ok stab_k (Nat.le_refl _) l A c w hs (by omega) hok)
    have Hok := Lib.hid hok
    clear hok
    go_enter Try.func6, Try.ntmps6
    go_wp2_with (first
      | (go_at_call 11; refine Hf.out.mono ?_; rintro e w1 ⟨A, c, rfl, _, hs, rfl⟩; have Hs := Lib.hid hs; clear hs)
      | (go_at_call 21; refine (Hcd.out A c _ Hs.out).mono ?_; rintro e w1 ⟨A1, c1, rfl, hown1, hk1⟩
         have Ho1 := Lib.hid hown1; have Hk1 := Lib.hid hk1; clear hown1 hk1))
    clear Hf Hcd
    by_cases h1 : za < 0
    · have d1 : decide (za < 0) = true := by simpa using h1
      go_wp2_with fail
      go_quiet (fail)
      go_wp2_with (go_at_call 15; refine (alive_any _).mono ?_; rintro e w4 ⟨rfl, hk4⟩; have Hk4 := Lib.hid (Hk1.out.trans (Keep.of_drewN hk4)); clear hk4)
      go_ret
      exact ⟨rfl, Hk4.out⟩
    have d1 : decide (za < 0) = false := by simpa using h1
    by_cases h2 : zb < 0
    · have d2 : decide (zb < 0) = true := by simpa using h2
      go_wp2_with fail
      go_quiet (fail)
      go_wp2_with (go_at_call 15; refine (alive_any _).mono ?_; rintro e w4 ⟨rfl, hk4⟩; have Hk4 := Lib.hid (Hk1.out.trans (Keep.of_drewN hk4)); clear hk4)
      go_ret
      exact ⟨rfl, Hk4.out⟩
    have d2 : decide (zb < 0) = false := by simpa using h2
    obtain ⟨a, rfl⟩ : ∃ a : Nat, za = a := ⟨za.toNat, by omega⟩
    obtain ⟨b, rfl⟩ : ∃ b : Nat, zb = b := ⟨zb.toNat, by omega⟩
    by_cases h3 : a < l.length
    case neg =>
      have h3i : (l.length : Int) ≤ a := by omega
      have h3n : l.length ≤ a := by omega
      have d3 : decide ((l.length : Int) ≤ (a : Int)) = true := by simpa using h3i
      go_wp2_with fail
      go_quiet (fail)
      go_wp2_with (go_at_call 15; refine (alive_any _).mono ?_; rintro e w4 ⟨rfl, hk4⟩; have Hk4 := Lib.hid (Hk1.out.trans (Keep.of_drewN hk4)); clear hk4)
      go_ret
      exact ⟨rfl, Hk4.out⟩
    have h3i : ¬ (l.length : Int) ≤ a := by omega
    have h3n : ¬ l.length ≤ a := by omega
    have d3 : decide ((l.length : Int) ≤ (a : Int)) = false := by simpa using h3i
    by_cases h4 : b < l.length
    case neg =>
      have h4i : (l.length : Int) ≤ b := by omega
      have h4n : l.length ≤ b := by omega
      have d4 : decide ((l.length : Int) ≤ (b : Int)) = true := by simpa using h4i
      go_wp2_with fail
      go_quiet (fail)
      go_wp2_with (go_at_call 15; refine (alive_any _).mono ?_; rintro e w4 ⟨rfl, hk4⟩; have Hk4 := Lib.hid (Hk1.out.trans (Keep.of_drewN hk4)); clear hk4)
      go_ret
      exact ⟨rfl, Hk4.out⟩
    have h4i : ¬ (l.length : Int) ≤ b := by omega
    have h4n : ¬ l.length ≤ b := by omega
    have d4 : decide ((l.length : Int) ≤ (b : Int)) = false := by simpa using h4i
    by_cases h5 : a = b
    · subst h5
      go_wp2_with fail
      go_quiet (fail)
      go_wp2_with (go_at_call 15; refine (alive_any _).mono ?_; rintro e w4 ⟨rfl, hk4⟩; have Hk4 := Lib.hid (Hk1.out.trans (Keep.of_drewN hk4)); clear hk4)
      go_ret
      exact ⟨rfl, Hk4.out⟩
    have d5 : ((a : Int) == (b : Int)) = false := by simpa using (by omega : (a : Int) ≠ b)
    obtain ⟨g, o, rfl, hg, hca'⟩ := Hs.out a h3
    obtain ⟨g', o', he, hg', hcb'⟩ := Hs.out b h4
    injection he with he
    injection he with he1 he2
    subst he1 he2
    have hca := (Hk1.out.cell (p := ⟨g, o + a, none⟩) hg (by simp)).trans hca'
    have hcb := (Hk1.out.cell (p := ⟨g, o + b, none⟩) hg (by simp)).trans hcb'
    have hai : (a : Int) < l.length := by omega
    have hbi : (b : Int) < l.length := by omega
    have hga := ln_good Hok.out.2.1 a
    have hgb := ln_good Hok.out.2.1 b
    have hea := ln_eq h3
    have heb := ln_eq h4
    obtain ⟨x, hx⟩ : ∃ x : Nat, l[a] = x := ⟨l[a].toNat, by omega⟩
    obtain ⟨y, hy⟩ : ∃ y : Nat, l[b] = y := ⟨l[b].toNat, by omega⟩
    rw [hx] at hca
    rw [hy] at hcb
    have Hap : Hid (0 < x → x ≤ y → ¬ ∀ i, i < x → bitAt (codeV l a) x i = bitAt (codeV l b) y i) := Lib.hid (fun q1 q2 => by
      have := bits_apart Hok.out h3 h4 (by omega) (by omega) h5
      rw [show (ln l a).toNat = x by omega, show (ln l b).toNat = y by omega] at this
      exact this)
    have hxy15 : x ≤ 15 ∧ y ≤ 15 := by omega
    clear hca' hcb' hga hgb hea heb hx hy
    by_cases h6 : x = 0
    · subst h6
      go_wp2_with fail
      go_quiet (fail)
      go_wp2_with (go_at_call 15; refine (alive_any _).mono ?_; rintro e w4 ⟨rfl, hk4⟩; have Hk4 := Lib.hid (Hk1.out.trans (Keep.of_drewN hk4)); clear hk4)
      go_ret
      exact ⟨rfl, Hk4.out⟩
    have d6 : ((x : Int) == 0) = false := by simpa using (by omega : (x : Int) ≠ 0)
    by_cases h7 : y < x
    · have h7i : (y : Int) < x := by omega
      have d7 : decide ((y : Int) < (x : Int)) = true := by simpa using h7i
      go_wp2_with fail
      go_quiet (fail)
      go_wp2_with (go_at_call 15; refine (alive_any _).mono ?_; rintro e w4 ⟨rfl, hk4⟩; have Hk4 := Lib.hid (Hk1.out.trans (Keep.of_drewN hk4)); clear hk4)
      go_ret
      exact ⟨rfl, Hk4.out⟩
    have h7i : ¬ (y : Int) < x := by omega
    have d7 : decide ((y : Int) < (x : Int)) = false := by simpa using h7
    go_wp2_with fail
    go_quiet (fail)
    go_wp2_with fail
    obtain ⟨gc, rfl, hgc, _⟩ := own_some Ho1.out (by omega)
    have m1 : w1.cell? ⟨gc, a, none⟩ = some (.int .u16 (codeV l a : Nat)) := by
      have := (inU_cell Ho1.out (i := a) (by rw [codesL_len]; omega)).1
      simpa [codesL] using this
    have m2 : w1.cell? ⟨gc, b, none⟩ = some (.int .u16 (codeV l b : Nat)) := by
      have := (inU_cell Ho1.out (i := b) (by rw [codesL_len]; omega)).1
      simpa [codesL] using this
    have hva := codeV_small Hok.out h3
    have hvb := codeV_small Hok.out h4
    have hg1 : g < w1.heap.size := Nat.lt_of_lt_of_le hg Hk1.out.size
    generalize codeV l a = cA at *
    generalize codeV l b = cB at *
    obtain ⟨wq, hwq⟩ : ∃ wq, wq = w1.drewN nq := ⟨_, rfl⟩
    rw [← hwq]
    have HSS : Hid (∀ W : World, Keep [] wq W → (W.cell? ⟨gc, a, none⟩ = some (.int .u16 (cA : Nat)) ∧ W.cell? ⟨gc, b, none⟩ = some (.int .u16 (cB : Nat))) ∧ W.cell? ⟨g, o + a, none⟩ = some (.int .i64 (x : Nat)) ∧ W.cell? ⟨g, o + b, none⟩ = some (.int .i64 (y : Nat))) := Lib.hid (fun W k => by
      subst hwq
      exact ⟨⟨(k.cell (p := ⟨gc, a, none⟩) hgc (by simp)).trans m1, (k.cell (p := ⟨gc, b, none⟩) hgc (by simp)).trans m2⟩, (k.cell (p := ⟨g, o + a, none⟩) hg1 (by simp)).trans hca, (k.cell (p := ⟨g, o + b, none⟩) hg1 (by simp)).trans hcb⟩)
    have Hkq : Hid (Keep [] w wq) := by rw [hwq]; exact Lib.hid (Hk1.out.drewN _)
    have hS7 := HSS.out _ ((Keep.refl [] wq).drew)
    clear hwq m1 m2 hca hcb Ho1 Hk1
    go_wp2_with fail
    refine wp_region_G (fun W => (W.cell? ⟨gc, a, none⟩ = some (.int .u16 (cA : Nat)) ∧ W.cell? ⟨gc, b, none⟩ = some (.int .u16 (cB : Nat))) ∧ W.cell? ⟨g, o + a, none⟩ = some (.int .i64 (x : Nat)) ∧ W.cell? ⟨g, o + b, none⟩ = some (.int .i64 (y : Nat))) [] #[false, false, false, false, false, false, false, false, false, false, false, false, false, false, false, false, false, false, false, false] 20 (by kernel_rfl) (by kernel_rfl) (by kernel_rfl) ?_
    refine wpAnyG_take0 (i := 0) (oi := { dst := some 70, op := Go.Op.move (Go.Operand.tmp 7), type := 39, pos := "law.go:155", after := #[], guard := none }) (v := ?vg1_0) rfl (by kernel_rfl) (by kernel_rfl) (by kernel_rfl) (by kernel_rfl) (fun _ _ _ h => h) (fun _ => hS7) (Or.inl ⟨by rfl, ?hg1_0⟩) ?_
    case hg1_0 => intro w _; go_simp; (try with_reducible rfl)
    try simp only [Act.put, List.setIfInBounds_toArray, List.set_cons_zero, List.set_cons_succ]
    refine wpAnyG_take0 (i := 1) (oi := { dst := some 71, op := Go.Op.move (Go.Operand.tmp 1), type := 3, pos := "law.go:155", after := #[], guard := none }) (v := ?vg1_1) rfl (by kernel_rfl) (by kernel_rfl) (by kernel_rfl) (by kernel_rfl) (fun _ _ _ h => h) (fun _ => hS7) (Or.inl ⟨by rfl, ?hg1_1⟩) ?_
    case hg1_1 => intro w _; go_simp; (try with_reducible rfl)
    try simp only [Act.put, List.setIfInBounds_toArray, List.set_cons_zero, List.set_cons_succ]
    refine wpAnyG_take0 (i := 2) (oi := { dst := some 72, op := Go.Op.indexAddr 39 (Go.Operand.tmp 70) (Go.Operand.tmp 71), type := 0, pos := "law.go:155", after := #[{ on := 0, ground := Go.Ground.data }, { on := 1, ground := Go.Ground.data }], guard := none }) (v := ?vg1_2) rfl (by kernel_rfl) (by kernel_rfl) (by kernel_rfl) (by kernel_rfl) (fun _ _ _ h => h) (fun _ => hS7) (Or.inl ⟨by rfl, ?hg1_2⟩) ?_
    case hg1_2 => intro w _; go_simp; (try with_reducible rfl)
    try simp only [Act.put, List.setIfInBounds_toArray, List.set_cons_zero, List.set_cons_succ]
    refine wpAnyG_take (i := 3) (oi := { dst := some 73, op := Go.Op.load 44 (Go.Operand.tmp 72), type := 44, pos := "law.go:155", after := #[{ on := 2, ground := Go.Ground.data }], guard := none }) (v := ?vg1_3) [3, 8, 17, 18, 19] rfl (by kernel_rfl) (by kernel_rfl) (by kernel_rfl) (by kernel_rfl) (by kernel_rfl) (fun _ _ _ h => h) (fun _ => hS7) (Or.inl ⟨by rfl, ?hg1_3⟩) ?_
    case hg1_3 => intro w hSw; (try dsimp only at hSw); go_simp; (try with_reducible rfl)
    try simp only [Act.put, List.setIfInBounds_toArray, List.set_cons_zero, List.set_cons_succ]
    refine wpAnyG_take0 (i := 4) (oi := { dst := some 74, op := Go.Op.move (Go.Operand.tmp 0), type := 22, pos := "law.go:155", after := #[], guard := none }) (v := ?vg1_4) rfl (by kernel_rfl) (by kernel_rfl) (by kernel_rfl) (by kernel_rfl) (fun _ _ _ h => h) (fun _ => hS7) (Or.inl ⟨by rfl, ?hg1_4⟩) ?_
    case hg1_4 => intro w _; go_simp; (try with_reducible rfl)
    try simp only [Act.put, List.setIfInBounds_toArray, List.set_cons_zero, List.set_cons_succ]
    refine wpAnyG_take0 (i := 5) (oi := { dst := some 75, op := Go.Op.move (Go.Operand.tmp 1), type := 3, pos := "law.go:155", after := #[], guard := none }) (v := ?vg1_5) rfl (by kernel_rfl) (by kernel_rfl) (by kernel_rfl) (by kernel_rfl) (fun _ _ _ h => h) (fun _ => hS7) (Or.inl ⟨by rfl, ?hg1_5⟩) ?_
    case hg1_5 => intro w _; go_simp; (try with_reducible rfl)
    try simp only [Act.put, List.setIfInBounds_toArray, List.set_cons_zero, List.set_cons_succ]
    refine wpAnyG_take0 (i := 6) (oi := { dst := some 76, op := Go.Op.indexAddr 22 (Go.Operand.tmp 74) (Go.Operand.tmp 75), type := 0, pos := "law.go:155", after := #[{ on := 4, ground := Go.Ground.data }, { on := 5, ground := Go.Ground.data }], guard := none }) (v := ?vg1_6) rfl (by kernel_rfl) (by kernel_rfl) (by kernel_rfl) (by kernel_rfl) (fun _ _ _ h => h) (fun _ => hS7) (Or.inl ⟨by rfl, ?hg1_6⟩) ?_
    case hg1_6 => intro w _; go_simp; (try with_reducible rfl)
    try simp only [Act.put, List.setIfInBounds_toArray, List.set_cons_zero, List.set_cons_succ]
    refine wpAnyG_take (i := 7) (oi := { dst := some 77, op := Go.Op.load 3 (Go.Operand.tmp 76), type := 3, pos := "law.go:155", after := #[{ on := 6, ground := Go.Ground.data }], guard := none }) (v := ?vg1_7) [7, 8, 17, 18, 19] rfl (by kernel_rfl) (by kernel_rfl) (by kernel_rfl) (by kernel_rfl) (by kernel_rfl) (fun _ _ _ h => h) (fun _ => hS7) (Or.inl ⟨by rfl, ?hg1_7⟩) ?_
    case hg1_7 => intro w hSw; (try dsimp only at hSw); go_simp; (try with_reducible rfl)
    try simp only [Act.put, List.setIfInBounds_toArray, List.set_cons_zero, List.set_cons_succ]
    refine wpAnyG_take0 (i := 9) (oi := { dst := some 79, op := Go.Op.move (Go.Operand.tmp 7), type := 39, pos := "law.go:155", after := #[], guard := none }) (v := ?vg1_9) rfl (by kernel_rfl) (by kernel_rfl) (by kernel_rfl) (by kernel_rfl) (fun _ _ _ h => h) (fun _ => hS7) (Or.inl ⟨by rfl, ?hg1_9⟩) ?_
    case hg1_9 => intro w _; go_simp; (try with_reducible rfl)
    try simp only [Act.put, List.setIfInBounds_toArray, List.set_cons_zero, List.set_cons_succ]
    refine wpAnyG_take0 (i := 10) (oi := { dst := some 80, op := Go.Op.move (Go.Operand.tmp 2), type := 3, pos := "law.go:155", after := #[], guard := none }) (v := ?vg1_10) rfl (by kernel_rfl) (by kernel_rfl) (by kernel_rfl) (by kernel_rfl) (fun _ _ _ h => h) (fun _ => hS7) (Or.inl ⟨by rfl, ?hg1_10⟩) ?_
    case hg1_10 => intro w _; go_simp; (try with_reducible rfl)
    try simp only [Act.put, List.setIfInBounds_toArray, List.set_cons_zero, List.set_cons_succ]
    refine wpAnyG_take0 (i := 11) (oi := { dst := some 81, op := Go.Op.indexAddr 39 (Go.Operand.tmp 79) (Go.Operand.tmp 80), type := 0, pos := "law.go:155", after := #[{ on := 9, ground := Go.Ground.data }, { on := 10, ground := Go.Ground.data }], guard := none }) (v := ?vg1_11) rfl (by kernel_rfl) (by kernel_rfl) (by kernel_rfl) (by kernel_rfl) (fun _ _ _ h => h) (fun _ => hS7) (Or.inl ⟨by rfl, ?hg1_11⟩) ?_
    case hg1_11 => intro w _; go_simp; (try with_reducible rfl)
    try simp only [Act.put, List.setIfInBounds_toArray, List.set_cons_zero, List.set_cons_succ]
    refine wpAnyG_take (i := 12) (oi := { dst := some 82, op := Go.Op.load 44 (Go.Operand.tmp 81), type := 44, pos := "law.go:155", after := #[{ on := 11, ground := Go.Ground.data }], guard := none }) (v := ?vg1_12) [12, 17, 18, 19] rfl (by kernel_rfl) (by kernel_rfl) (by kernel_rfl) (by kernel_rfl) (by kernel_rfl) (fun _ _ _ h => h) (fun _ => hS7) (Or.inl ⟨by rfl, ?hg1_12⟩) ?_
    case hg1_12 => intro w hSw; (try dsimp only at hSw); go_simp; (try with_reducible rfl)
    try simp only [Act.put, List.setIfInBounds_toArray, List.set_cons_zero, List.set_cons_succ]
    refine wpAnyG_take0 (i := 13) (oi := { dst := some 83, op := Go.Op.move (Go.Operand.tmp 0), type := 22, pos := "law.go:155", after := #[], guard := none }) (v := ?vg1_13) rfl (by kernel_rfl) (by kernel_rfl) (by kernel_rfl) (by kernel_rfl) (fun _ _ _ h => h) (fun _ => hS7) (Or.inl ⟨by rfl, ?hg1_13⟩) ?_
    case hg1_13 => intro w _; go_simp; (try with_reducible rfl)
    try simp only [Act.put, List.setIfInBounds_toArray, List.set_cons_zero, List.set_cons_succ]
    refine wpAnyG_take0 (i := 14) (oi := { dst := some 84, op := Go.Op.move (Go.Operand.tmp 2), type := 3, pos := "law.go:155", after := #[], guard := none }) (v := ?vg1_14) rfl (by kernel_rfl) (by kernel_rfl) (by kernel_rfl) (by kernel_rfl) (fun _ _ _ h => h) (fun _ => hS7) (Or.inl ⟨by rfl, ?hg1_14⟩) ?_
    case hg1_14 => intro w _; go_simp; (try with_reducible rfl)
    try simp only [Act.put, List.setIfInBounds_toArray, List.set_cons_zero, List.set_cons_succ]
    refine wpAnyG_take0 (i := 15) (oi := { dst := some 85, op := Go.Op.indexAddr 22 (Go.Operand.tmp 83) (Go.Operand.tmp 84), type := 0, pos := "law.go:155", after := #[{ on := 13, ground := Go.Ground.data }, { on := 14, ground := Go.Ground.data }], guard := none }) (v := ?vg1_15) rfl (by kernel_rfl) (by kernel_rfl) (by kernel_rfl) (by kernel_rfl) (fun _ _ _ h => h) (fun _ => hS7) (Or.inl ⟨by rfl, ?hg1_15⟩) ?_
    case hg1_15 => intro w _; go_simp; (try with_reducible rfl)
    try simp only [Act.put, List.setIfInBounds_toArray, List.set_cons_zero, List.set_cons_succ]
    refine wpAnyG_take (i := 16) (oi := { dst := some 86, op := Go.Op.load 3 (Go.Operand.tmp 85), type := 3, pos := "law.go:155", after := #[{ on := 15, ground := Go.Ground.data }], guard := none }) (v := ?vg1_16) [16, 17, 18, 19] rfl (by kernel_rfl) (by kernel_rfl) (by kernel_rfl) (by kernel_rfl) (by kernel_rfl) (fun _ _ _ h => h) (fun _ => hS7) (Or.inl ⟨by rfl, ?hg1_16⟩) ?_
    case hg1_16 => intro w hSw; (try dsimp only at hSw); go_simp; (try with_reducible rfl)
    try simp only [Act.put, List.setIfInBounds_toArray, List.set_cons_zero, List.set_cons_succ]
    refine wpAnyG_step (i := 8) (oi := { dst := some 78, op := Go.Op.call { callee := Go.Callee.value (Go.Operand.func 22), args := #[Go.Operand.tmp 73, Go.Operand.tmp 77], argTypes := #[44, 3] }, type := 42, pos := "law.go:155", after := #[{ on := 3, ground := Go.Ground.data }, { on := 7, ground := Go.Ground.data }], guard := none }) rfl (by kernel_rfl) (by rfl) (fun K hK => ?_)
    go_simp
    go_at_call 22
    refine (rbits_any cA x _ (by omega) (by omega)).mono ?_
    rintro e w4 ⟨AP, rfl, hownp, hk4⟩
    have Hk4 := Lib.hid (Keep.of_drew hk4)
    have HP := Lib.hid (And.intro hownp trivial)
    clear hk4 hownp
    refine hK _ _ ?_ (fun hSg1_8 => ?_)
    · intro _; exact HSS.out _ Hk4.out
    replace hSg1_8 := hSg1_8 (by kernel_rfl)
    clear hK
    try simp only [Act.put, List.setIfInBounds_toArray, List.set_cons_zero, List.set_cons_succ]
    refine wpAnyG_step (i := 17) (oi := { dst := some 87, op := Go.Op.call { callee := Go.Callee.value (Go.Operand.func 22), args := #[Go.Operand.tmp 82, Go.Operand.tmp 86], argTypes := #[44, 3] }, type := 42, pos := "law.go:155", after := #[{ on := 12, ground := Go.Ground.data }, { on := 16, ground := Go.Ground.data }, { on := 8, ground := Go.Ground.chain }], guard := none }) rfl (by kernel_rfl) (by rfl) (fun K hK => ?_)
    go_simp
    go_at_call 22
    refine (rbits_any cB y _ (by omega) (by omega)).mono ?_
    rintro e w5 ⟨AQ, rfl, hownq, hk5⟩
    have Hk5 := Lib.hid hk5
    have HQ := Lib.hid (And.intro hownq trivial)
    clear hk5 hownq
    refine hK _ _ ?_ (fun hSg1_17 => ?_)
    · intro _; exact HSS.out _ (Hk4.out.trans Hk5.out)
    replace hSg1_17 := hSg1_17 (by kernel_rfl)
    clear hK
    try simp only [Act.put, List.setIfInBounds_toArray, List.set_cons_zero, List.set_cons_succ]
    refine wpAnyG_take0 (i := 18) (oi := { dst := some 9, op := Go.Op.assign (Go.Operand.tmp 78), type := 42, pos := "law.go:155", after := #[{ on := 8, ground := Go.Ground.data }, { on := 17, ground := Go.Ground.chain }, { on := 0, ground := Go.Ground.phase }, { on := 1, ground := Go.Ground.phase }, { on := 2, ground := Go.Ground.phase }, { on := 3, ground := Go.Ground.phase }, { on := 4, ground := Go.Ground.phase }, { on := 5, ground := Go.Ground.phase }, { on := 6, ground := Go.Ground.phase }, { on := 7, ground := Go.Ground.phase }, { on := 8, ground := Go.Ground.phase }, { on := 9, ground := Go.Ground.textOnly Go.Departure.lateStores }, { on := 10, ground := Go.Ground.textOnly Go.Departure.lateStores }, { on := 11, ground := Go.Ground.textOnly Go.Departure.lateStores }, { on := 12, ground := Go.Ground.textOnly Go.Departure.lateStores }, { on := 13, ground := Go.Ground.textOnly Go.Departure.lateStores }, { on := 14, ground := Go.Ground.textOnly Go.Departure.lateStores }, { on := 15, ground := Go.Ground.textOnly Go.Departure.lateStores }, { on := 16, ground := Go.Ground.textOnly Go.Departure.lateStores }, { on := 17, ground := Go.Ground.textOnly Go.Departure.lateStoresUnsure }], guard := none }) (v := ?vg1_18) rfl (by kernel_rfl) (by kernel_rfl) (by kernel_rfl) (by kernel_rfl) (fun _ _ _ h => h) (fun _ => hSg1_17) (Or.inl ⟨by rfl, ?hg1_18⟩) ?_
    case hg1_18 => intro w _; go_simp; (try with_reducible rfl)
    try simp only [Act.put, List.setIfInBounds_toArray, List.set_cons_zero, List.set_cons_succ]
    refine wpAnyG_take0 (i := 19) (oi := { dst := some 10, op := Go.Op.assign (Go.Operand.tmp 87), type := 42, pos := "law.go:155", after := #[{ on := 17, ground := Go.Ground.data }, { on := 18, ground := Go.Ground.chain }, { on := 0, ground := Go.Ground.phase }, { on := 1, ground := Go.Ground.phase }, { on := 2, ground := Go.Ground.phase }, { on := 3, ground := Go.Ground.phase }, { on := 4, ground := Go.Ground.phase }, { on := 5, ground := Go.Ground.phase }, { on := 6, ground := Go.Ground.phase }, { on := 7, ground := Go.Ground.phase }, { on := 8, ground := Go.Ground.phase }, { on := 9, ground := Go.Ground.phase }, { on := 10, ground := Go.Ground.phase }, { on := 11, ground := Go.Ground.phase }, { on := 12, ground := Go.Ground.phase }, { on := 13, ground := Go.Ground.phase }, { on := 14, ground := Go.Ground.phase }, { on := 15, ground := Go.Ground.phase }, { on := 16, ground := Go.Ground.phase }, { on := 17, ground := Go.Ground.phase }, { on := 18, ground := Go.Ground.phase }], guard := none }) (v := ?vg1_19) rfl (by kernel_rfl) (by kernel_rfl) (by kernel_rfl) (by kernel_rfl) (fun _ _ _ h => h) (fun _ => hSg1_17) (Or.inl ⟨by rfl, ?hg1_19⟩) ?_
    case hg1_19 => intro w _; go_simp; (try with_reducible rfl)
    try simp only [Act.put, List.setIfInBounds_toArray, List.set_cons_zero, List.set_cons_succ]
    refine wpAnyG_done (by kernel_rfl) ?_ _
    have HO := Lib.hid (And.intro (ownsRow_keep HP.out.1 Hk5.out (by simp)) HQ.out.1)
    have HK : Hid (Keep [] w w5) := Lib.hid (Hkq.out.trans (Hk4.out.trans Hk5.out))
    clear HSS HP HQ Hk4 Hk5 hS7
    go_wp2_with fail
    go_loopw [11] (fun vi wr => ∃ k q : Nat, vi = .int .i64 k ∧ k ≤ x ∧ wr = w5.drewN q ∧ Hid (∀ i, i < k → bitAt cA x i = bitAt cB y i)) (fun vi _ => x - (intOf vi).toNat)
    case atStart => exact ⟨0, 0, rfl, by omega, rfl, Lib.hid (fun i hi => by omega)⟩
    case round =>
      obtain ⟨k, q, rfl, hk, rfl, hI⟩ := hrel
      rcases Nat.lt_or_ge k x with hkl | hkl
      · as_aux_lemma =>
          obtain ⟨gp, rfl, _, _⟩ := own_some HO.out.1 (by omega)
          obtain ⟨gq, rfl, _, _⟩ := own_some HO.out.2 (by omega)
          have d1 := (inL_cell HO.out.1 (i := k) (by rw [bitsK_len]; omega)).1
          have d2 := (inL_cell HO.out.2 (i := k) (by rw [bitsK_len]; omega)).1
          rw [show (bitsK cA x)[k]'(by rw [bitsK_len]; omega) = bitAt cA x k by simp [bitsK]] at d1
          rw [show (bitsK cB y)[k]'(by rw [bitsK_len]; omega) = bitAt cB y k by simp [bitsK]] at d2
          have hwk : IntKind.i64.wrap ((k : Int) + 1) = (k : Int) + 1 := by rw [IntKind.wrap_i64]; omega
          have hkx : (k : Int) < x := by omega
          have hky : (k : Int) < y := by omega
          have Hst : Hid (bitAt cA x k = bitAt cB y k → ∀ i, i < k + 1 → bitAt cA x i = bitAt cB y i) := Lib.hid (fun h i hi => by
            rcases Nat.lt_succ_iff_lt_or_eq.1 hi with h1 | rfl
            · exact hI.out i h1
            · exact h)
          generalize bitAt cA x k = p at *
          generalize bitAt cB y k = p2 at *
          clear hI
          cases p with
          | true =>
            cases p2 with
            | true =>
              have HN := Lib.hid (Hst.out rfl)
              clear Hst
              go_wp2_with fail
              go_quiet (fail)
              go_wp2_with fail
              exact ⟨⟨k + 1, _, by simp, by omega, rfl, HN⟩, by simp [intOf]; omega⟩
            | false =>
              clear Hst
              go_wp2_with fail
              go_quiet (fail)
              go_wp2_with (go_at_call 15; refine (alive_any _).mono ?_; rintro e w6 ⟨rfl, hk6⟩; have Hk6 := Lib.hid (HK.out.trans (Keep.of_drewN hk6)); clear hk6)
              go_ret
              exact ⟨rfl, Hk6.out⟩
          | false =>
            cases p2 with
            | true =>
              clear Hst
              go_wp2_with fail
              go_quiet (fail)
              go_wp2_with (go_at_call 15; refine (alive_any _).mono ?_; rintro e w6 ⟨rfl, hk6⟩; have Hk6 := Lib.hid (HK.out.trans (Keep.of_drewN hk6)); clear hk6)
              go_ret
              exact ⟨rfl, Hk6.out⟩
            | false =>
              have HN := Lib.hid (Hst.out rfl)
              clear Hst
              go_wp2_with fail
              go_quiet (fail)
              go_wp2_with fail
              exact ⟨⟨k + 1, _, by simp, by omega, rfl, HN⟩, by simp [intOf]; omega⟩
      · obtain rfl : k = x := by omega
        exact absurd hI.out (Hap.out (by omega) (by omega))
  · have Hcd : Hid (∀ A c w, ISrc w A l → Calls Try.prog 21 #[.slice A l.length c] w (fun e w' => e = .returned (.tuple #[.slice none 0 0, .int .i64 51]) ∧ Keep [] w w')) :=
      Lib.hid (fun A c w hs => codes_bad l A c w hs (by omega) hok)
    clear hok
    go_enter Try.func6, Try.ntmps6
    go_wp2_with (first
      | (go_at_call 11; refine Hf.out.mono ?_; rintro e w1 ⟨A, c, rfl, _, hs, rfl⟩; have Hs := Lib.hid hs; clear hs)
      | (go_at_call 21; refine (Hcd.out A c _ Hs.out).mono ?_; rintro e w1 ⟨rfl, hk1⟩; have Hk1 := Lib.hid hk1; clear hk1))
    go_wp2_with fail
    go_quiet (fail)
    go_wp2_with (go_at_call 15; refine (alive_any _).mono ?_; rintro e w4 ⟨rfl, hk4⟩; have Hk4 := Lib.hid (Hk1.out.trans (Keep.of_drewN hk4)); clear hk4)
    go_ret
    exact ⟨rfl, Hk4.out⟩
end Go.Proofs.Ytknjjodkpknglaa
