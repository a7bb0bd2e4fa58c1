/- cut. -/
import Derived.Test.YtopfbbnpbobhaaaDoorU8
set_option linter.unusedVariables false
set_option linter.unusedSimpArgs false
namespace Go.Proofs.YtopfbbnpbobhaaaDoor
open Go.RowKit Go.Sal

def cutD (d : Dd) : Dd := ⟨d.kind, d.a, d.path.take 300, d.bs.take 1500, d.frm, d.n, d.keep.take 100⟩
set_option maxRecDepth 200000 in
set_option maxHeartbeats 4000000 in
theorem cut_go (kd a : Int) (p q : List UInt8) (f n : Int) (Ab Ak : Option Addr) (n3 cb n6 ck m3 m6 : Nat) (w : World) (h3 : n3 ≤ cb) (hcm : cb ≤ maxLen) (h6 : n6 ≤ ck) (hkm : ck ≤ maxLen) (hpl : p.length ≤ 9223372036854775807)
    (hq : q = p.take 300) (hm3 : m3 = min n3 1500) (hm6 : m6 = min n6 100) :
    Calls Tryd.prog 29 #[.agg #[.int .i64 kd, .int .i64 a, .string ⟨p.toArray⟩, .slice Ab n3 cb, .int .i64 f, .int .i64 n, .slice Ak n6 ck]] w fun e w' => e = .returned (.agg #[.int .i64 kd, .int .i64 a, .string ⟨q.toArray⟩, .slice Ab m3 cb, .int .i64 f, .int .i64 n, .slice Ak m6 ck]) ∧ Below w.heap.size w w' := by
  obtain ⟨w1, hw1⟩ : ∃ w1, (w.alloc (.cells #[.int .i64 kd, .int .i64 a, .string ⟨p.toArray⟩, .slice Ab n3 cb, .int .i64 f, .int .i64 n, .slice Ak n6 ck] 72)).alloc (.cells #[.int .i64 0, .int .i64 0, .string ⟨#[]⟩, .slice none 0 0, .int .i64 0, .int .i64 0, .slice none 0 0] 72) = w1 := ⟨_, rfl⟩
  have hD : Blk w1 w.heap.size 72 #[.int .i64 kd, .int .i64 a, .string ⟨p.toArray⟩, .slice Ab n3 cb, .int .i64 f, .int .i64 n, .slice Ak n6 ck] := by rw [← hw1]; exact (Blk.new _ _ _).alloc _
  have hR : Blk w1 (w.heap.size + 1) 72 #[.int .i64 0, .int .i64 0, .string ⟨#[]⟩, .slice none 0 0, .int .i64 0, .int .i64 0, .slice none 0 0] := by
    rw [← hw1]
    have := Blk.new (w.alloc (.cells #[.int .i64 kd, .int .i64 a, .string ⟨p.toArray⟩, .slice Ab n3 cb, .int .i64 f, .int .i64 n, .slice Ak n6 ck] 72)) 72 #[.int .i64 0, .int .i64 0, .string ⟨#[]⟩, .slice none 0 0, .int .i64 0, .int .i64 0, .slice none 0 0]
    rw [World.size_alloc] at this
    exact this
  have hB1 : Below w.heap.size w w1 := by rw [← hw1]; exact ((Below.refl _ w).alloc (Nat.le_refl _) _).alloc (by simp) _
  have d0 : w1.cell? ⟨w.heap.size, 0, none⟩ = some (.int .i64 kd) := hD.cell 0
  have d1 : w1.cell? ⟨w.heap.size, 1, none⟩ = some (.int .i64 a) := hD.cell 1
  have d2 : w1.cell? ⟨w.heap.size, 2, none⟩ = some (.string ⟨p.toArray⟩) := hD.cell 2
  have d3 : w1.cell? ⟨w.heap.size, 3, none⟩ = some (.slice Ab n3 cb) := hD.cell 3
  have d4 : w1.cell? ⟨w.heap.size, 4, none⟩ = some (.int .i64 f) := hD.cell 4
  have d5 : w1.cell? ⟨w.heap.size, 5, none⟩ = some (.int .i64 n) := hD.cell 5
  have d6 : w1.cell? ⟨w.heap.size, 6, none⟩ = some (.slice Ak n6 ck) := hD.cell 6
  have df : ∀ i, w1.frozen? ⟨w.heap.size, i, none⟩ = false := hD.free
  have r0 : w1.cell? ⟨w.heap.size + 1, 0, none⟩ = some (.int .i64 0) := hR.cell 0
  have r1 : w1.cell? ⟨w.heap.size + 1, 1, none⟩ = some (.int .i64 0) := hR.cell 1
  have r2 : w1.cell? ⟨w.heap.size + 1, 2, none⟩ = some (.string ⟨#[]⟩) := hR.cell 2
  have r3 : w1.cell? ⟨w.heap.size + 1, 3, none⟩ = some (.slice none 0 0) := hR.cell 3
  have r4 : w1.cell? ⟨w.heap.size + 1, 4, none⟩ = some (.int .i64 0) := hR.cell 4
  have r5 : w1.cell? ⟨w.heap.size + 1, 5, none⟩ = some (.int .i64 0) := hR.cell 5
  have r6 : w1.cell? ⟨w.heap.size + 1, 6, none⟩ = some (.slice none 0 0) := hR.cell 6
  have rf : ∀ i, w1.frozen? ⟨w.heap.size + 1, i, none⟩ = false := hR.free
  have hc3 : ∀ W, Hid (Calls Tryd.prog 5 #[.slice Ab n3 cb] W fun e w' => e = .returned (.slice Ab m3 cb) ∧ W = w') := fun W => Lib.hid (by rw [hm3]; exact cutBytes_any Ab n3 cb W h3 hcm)
  have hc2 : ∀ W, Hid (Calls Tryd.prog 6 #[.string ⟨p.toArray⟩, .int .i64 300] W fun e w' => e = .returned (.string ⟨q.toArray⟩) ∧ W = w') := fun W => Lib.hid (by rw [hq]; exact cutText_any p 300 W hpl)
  have hne : ¬ w.heap.size = w.heap.size + 1 := by omega
  have HB1 := Lib.hid hB1
  have Hw1 := Lib.hid hw1
  clear hD hR hB1 hw1 hq hm3 hpl h3 hcm
  by_cases hkl : 100 < n6
  · have hsl : ∀ W, (Instr.slice 70 (.slice Ak n6 ck) none (some (.int .i64 100)) none).run Tryd.prog W = .ok (.slice Ak 100 ck) W := fun W => slice_head (P := Tryd.prog) 70 4 Tryd.underlying70 Ak n6 ck 100 (by omega) W 1 (by kernel_rfl)
    have hki : (100 : Int) < (n6 : Int) := by omega
    obtain rfl : m6 = 100 := by omega
    clear hm6 h6 hkm
    go_enter Tryd.func29, Tryd.ntmps29
    go_upto_region 1 with (fail)
    rw [Hw1.out]
    refine wp_region_G (fun W => W.cell? ⟨w.heap.size, 2, none⟩ = some (.string ⟨p.toArray⟩) ∧ W.cell? ⟨w.heap.size, 3, none⟩ = some (.slice Ab n3 cb)) [7, 9] #[false, false, false, false, false, false, false, false, false, false] 10 (by kernel_rfl) (by kernel_rfl) (by kernel_rfl) ?_
    refine wpAnyG_take0 (i := 0) (oi := { dst := some 3, op := Go.Op.fieldAddr 72 (Go.Operand.tmp 1) 3, type := 0, pos := "law.go:39", after := #[], guard := none }) (v := ?vg1_0) rfl (by kernel_rfl) (by kernel_rfl) (by kernel_rfl) (by kernel_rfl) (fun _ _ _ h => h) (fun _ => ⟨d2, d3⟩) (Or.inl ⟨by rfl, ?hg1_0⟩) ?_
    case hg1_0 => intro w _; go_simp; (try with_reducible rfl)
    try simp only [Act.put, List.setIfInBounds_toArray, List.set_cons_zero, List.set_cons_succ]
    refine wpAnyG_take (i := 1) (oi := { dst := some 4, op := Go.Op.load 22 (Go.Operand.tmp 3), type := 22, pos := "law.go:39", after := #[{ on := 0, ground := Go.Ground.data }], guard := none }) (v := ?vg1_1) [1, 2, 5, 6, 7, 8, 9] rfl (by kernel_rfl) (by kernel_rfl) (by kernel_rfl) (by kernel_rfl) (by kernel_rfl) (fun _ _ _ h => h) (fun _ => ⟨d2, d3⟩) (Or.inl ⟨by rfl, ?hg1_1⟩) ?_
    case hg1_1 => intro w hSw; (try dsimp only at hSw); go_simp; (try with_reducible rfl)
    try simp only [Act.put, List.setIfInBounds_toArray, List.set_cons_zero, List.set_cons_succ]
    refine wpAnyG_take0 (i := 3) (oi := { dst := some 6, op := Go.Op.fieldAddr 72 (Go.Operand.tmp 1) 2, type := 0, pos := "law.go:39", after := #[], guard := none }) (v := ?vg1_3) rfl (by kernel_rfl) (by kernel_rfl) (by kernel_rfl) (by kernel_rfl) (fun _ _ _ h => h) (fun _ => ⟨d2, d3⟩) (Or.inl ⟨by rfl, ?hg1_3⟩) ?_
    case hg1_3 => intro w _; go_simp; (try with_reducible rfl)
    try simp only [Act.put, List.setIfInBounds_toArray, List.set_cons_zero, List.set_cons_succ]
    refine wpAnyG_take (i := 4) (oi := { dst := some 7, op := Go.Op.load 9 (Go.Operand.tmp 6), type := 9, pos := "law.go:39", after := #[{ on := 3, ground := Go.Ground.data }], guard := none }) (v := ?vg1_4) [4, 5, 6, 7, 8, 9] rfl (by kernel_rfl) (by kernel_rfl) (by kernel_rfl) (by kernel_rfl) (by kernel_rfl) (fun _ _ _ h => h) (fun _ => ⟨d2, d3⟩) (Or.inl ⟨by rfl, ?hg1_4⟩) ?_
    case hg1_4 => intro w hSw; (try dsimp only at hSw); go_simp; (try with_reducible rfl)
    try simp only [Act.put, List.setIfInBounds_toArray, List.set_cons_zero, List.set_cons_succ]
    refine wpAnyG_step (i := 2) (oi := { dst := some 5, op := Go.Op.call { callee := Go.Callee.value (Go.Operand.func 5), args := #[Go.Operand.tmp 4], argTypes := #[22] }, type := 22, pos := "law.go:39", after := #[{ on := 1, ground := Go.Ground.data }], guard := none }) rfl (by kernel_rfl) (by rfl) (fun K hK => ?_)
    go_simp
    go_at_call 5
    refine (hc3 _).out.mono ?_
    rintro e w2 ⟨rfl, rfl⟩
    dsimp only
    refine hK _ _ ?_ (fun hSg1_2 => ?_)
    · intro _; exact ⟨d2, d3⟩
    replace hSg1_2 := hSg1_2 (by kernel_rfl)
    clear hK
    try simp only [Act.put, List.setIfInBounds_toArray, List.set_cons_zero, List.set_cons_succ]
    refine wpAnyG_take0 (i := 6) (oi := { dst := some 9, op := Go.Op.fieldAddr 72 (Go.Operand.tmp 1) 3, type := 0, pos := "law.go:39", after := #[{ on := 0, ground := Go.Ground.phase }, { on := 1, ground := Go.Ground.phase }, { on := 2, ground := Go.Ground.phase }, { on := 3, ground := Go.Ground.phase }, { on := 4, ground := Go.Ground.phase }, { on := 5, ground := Go.Ground.textOnly Go.Departure.lateStoresUnsure }], guard := none }) (v := ?vg1_6) rfl (by kernel_rfl) (by kernel_rfl) (by kernel_rfl) (by kernel_rfl) (fun _ _ _ h => h) (fun _ => hSg1_2) (Or.inl ⟨by rfl, ?hg1_6⟩) ?_
    case hg1_6 => intro w _; go_simp; (try with_reducible rfl)
    try simp only [Act.put, List.setIfInBounds_toArray, List.set_cons_zero, List.set_cons_succ]
    refine wpAnyG_step (i := 5) (oi := { dst := some 8, op := Go.Op.call { callee := Go.Callee.value (Go.Operand.func 6), args := #[Go.Operand.tmp 7, Go.Operand.const (Go.Value.int Go.IntKind.i64 300)], argTypes := #[9, 3] }, type := 9, pos := "law.go:39", after := #[{ on := 4, ground := Go.Ground.data }, { on := 2, ground := Go.Ground.chain }], guard := none }) rfl (by kernel_rfl) (by rfl) (fun K hK => ?_)
    go_simp
    go_at_call 6
    refine (hc2 _).out.mono ?_
    rintro e w2 ⟨rfl, rfl⟩
    dsimp only
    refine hK _ _ ?_ (fun hSg1_5 => ?_)
    · intro _; exact ⟨d2, d3⟩
    replace hSg1_5 := hSg1_5 (by kernel_rfl)
    clear hK
    try simp only [Act.put, List.setIfInBounds_toArray, List.set_cons_zero, List.set_cons_succ]
    refine wpAnyG_step (i := 7) (oi := { dst := none, op := Go.Op.store 22 (Go.Operand.tmp 9) (Go.Operand.tmp 5), type := 0, pos := "law.go:39", after := #[{ on := 6, ground := Go.Ground.data }, { on := 2, ground := Go.Ground.data }, { on := 5, ground := Go.Ground.chain }, { on := 0, ground := Go.Ground.phase }, { on := 1, ground := Go.Ground.phase }, { on := 2, ground := Go.Ground.phase }, { on := 3, ground := Go.Ground.phase }, { on := 4, ground := Go.Ground.phase }, { on := 5, ground := Go.Ground.textOnly Go.Departure.lateStoresUnsure }], guard := none }) rfl (by kernel_rfl) (by rfl) (fun K hK => ?_)
    go_simp
    refine hK _ _ (fun h => absurd h (Bool.eq_false_iff.1 (by kernel_rfl))) (fun _ => ?_)
    clear hK
    try simp only [Act.put, List.setIfInBounds_toArray, List.set_cons_zero, List.set_cons_succ]
    refine wpAnyG_take0 (i := 8) (oi := { dst := some 10, op := Go.Op.fieldAddr 72 (Go.Operand.tmp 1) 2, type := 0, pos := "law.go:39", after := #[{ on := 0, ground := Go.Ground.phase }, { on := 1, ground := Go.Ground.phase }, { on := 2, ground := Go.Ground.phase }, { on := 3, ground := Go.Ground.phase }, { on := 4, ground := Go.Ground.phase }, { on := 5, ground := Go.Ground.phase }, { on := 6, ground := Go.Ground.phase }, { on := 7, ground := Go.Ground.phase }], guard := none }) (v := ?vg1_8) rfl (by kernel_rfl) (by kernel_rfl) (by kernel_rfl) (by kernel_rfl) (fun _ _ _ h => h) (fun h => absurd h (Bool.eq_false_iff.1 (by kernel_rfl))) (Or.inl ⟨by rfl, ?hg1_8⟩) ?_
    case hg1_8 => intro w _; go_simp; (try with_reducible rfl)
    try simp only [Act.put, List.setIfInBounds_toArray, List.set_cons_zero, List.set_cons_succ]
    refine wpAnyG_step (i := 9) (oi := { dst := none, op := Go.Op.store 9 (Go.Operand.tmp 10) (Go.Operand.tmp 8), type := 0, pos := "law.go:39", after := #[{ on := 8, ground := Go.Ground.data }, { on := 5, ground := Go.Ground.data }, { on := 7, ground := Go.Ground.chain }, { on := 0, ground := Go.Ground.phase }, { on := 1, ground := Go.Ground.phase }, { on := 2, ground := Go.Ground.phase }, { on := 3, ground := Go.Ground.phase }, { on := 4, ground := Go.Ground.phase }, { on := 5, ground := Go.Ground.phase }, { on := 6, ground := Go.Ground.phase }, { on := 7, ground := Go.Ground.phase }], guard := none }) rfl (by kernel_rfl) (by rfl) (fun K hK => ?_)
    go_simp
    refine hK _ _ (fun h => absurd h (Bool.eq_false_iff.1 (by kernel_rfl))) (fun _ => ?_)
    clear hK
    try simp only [Act.put, List.setIfInBounds_toArray, List.set_cons_zero, List.set_cons_succ]
    refine wpAnyG_done (by kernel_rfl) ?_ _
    go_wp2
    refine bodyPost_ret (v := .agg #[.int .i64 kd, .int .i64 a, .string ⟨q.toArray⟩, .slice Ab m3 cb, .int .i64 f, .int .i64 n, .slice Ak 100 ck]) ?_ rfl ?_
    · simp [results, Tryd.results29, go_sem, r0, r1, r2, r3, r4, r5, r6, rf, d0, d1, d2, d3, d4, d5, d6, df, hne]
    · refine ⟨rfl, ?_⟩
      repeat (first | with_reducible exact HB1.out | with_reducible refine Below.drew ?_ | with_reducible refine below_set ?_ (by omega))
  · have hki : ¬ (100 : Int) < (n6 : Int) := by omega
    obtain rfl : m6 = n6 := by omega
    clear hm6 h6 hkm
    go_enter Tryd.func29, Tryd.ntmps29
    go_upto_region 1 with (fail)
    rw [Hw1.out]
    refine wp_region_G (fun W => W.cell? ⟨w.heap.size, 2, none⟩ = some (.string ⟨p.toArray⟩) ∧ W.cell? ⟨w.heap.size, 3, none⟩ = some (.slice Ab n3 cb)) [7, 9] #[false, false, false, false, false, false, false, false, false, false] 10 (by kernel_rfl) (by kernel_rfl) (by kernel_rfl) ?_
    refine wpAnyG_take0 (i := 0) (oi := { dst := some 3, op := Go.Op.fieldAddr 72 (Go.Operand.tmp 1) 3, type := 0, pos := "law.go:39", after := #[], guard := none }) (v := ?vg2_0) rfl (by kernel_rfl) (by kernel_rfl) (by kernel_rfl) (by kernel_rfl) (fun _ _ _ h => h) (fun _ => ⟨d2, d3⟩) (Or.inl ⟨by rfl, ?hg2_0⟩) ?_
    case hg2_0 => intro w _; go_simp; (try with_reducible rfl)
    try simp only [Act.put, List.setIfInBounds_toArray, List.set_cons_zero, List.set_cons_succ]
    refine wpAnyG_take (i := 1) (oi := { dst := some 4, op := Go.Op.load 22 (Go.Operand.tmp 3), type := 22, pos := "law.go:39", after := #[{ on := 0, ground := Go.Ground.data }], guard := none }) (v := ?vg2_1) [1, 2, 5, 6, 7, 8, 9] rfl (by kernel_rfl) (by kernel_rfl) (by kernel_rfl) (by kernel_rfl) (by kernel_rfl) (fun _ _ _ h => h) (fun _ => ⟨d2, d3⟩) (Or.inl ⟨by rfl, ?hg2_1⟩) ?_
    case hg2_1 => intro w hSw; (try dsimp only at hSw); go_simp; (try with_reducible rfl)
    try simp only [Act.put, List.setIfInBounds_toArray, List.set_cons_zero, List.set_cons_succ]
    refine wpAnyG_take0 (i := 3) (oi := { dst := some 6, op := Go.Op.fieldAddr 72 (Go.Operand.tmp 1) 2, type := 0, pos := "law.go:39", after := #[], guard := none }) (v := ?vg2_3) rfl (by kernel_rfl) (by kernel_rfl) (by kernel_rfl) (by kernel_rfl) (fun _ _ _ h => h) (fun _ => ⟨d2, d3⟩) (Or.inl ⟨by rfl, ?hg2_3⟩) ?_
    case hg2_3 => intro w _; go_simp; (try with_reducible rfl)
    try simp only [Act.put, List.setIfInBounds_toArray, List.set_cons_zero, List.set_cons_succ]
    refine wpAnyG_take (i := 4) (oi := { dst := some 7, op := Go.Op.load 9 (Go.Operand.tmp 6), type := 9, pos := "law.go:39", after := #[{ on := 3, ground := Go.Ground.data }], guard := none }) (v := ?vg2_4) [4, 5, 6, 7, 8, 9] rfl (by kernel_rfl) (by kernel_rfl) (by kernel_rfl) (by kernel_rfl) (by kernel_rfl) (fun _ _ _ h => h) (fun _ => ⟨d2, d3⟩) (Or.inl ⟨by rfl, ?hg2_4⟩) ?_
    case hg2_4 => intro w hSw; (try dsimp only at hSw); go_simp; (try with_reducible rfl)
    try simp only [Act.put, List.setIfInBounds_toArray, List.set_cons_zero, List.set_cons_succ]
    refine wpAnyG_step (i := 2) (oi := { dst := some 5, op := Go.Op.call { callee := Go.Callee.value (Go.Operand.func 5), args := #[Go.Operand.tmp 4], argTypes := #[22] }, type := 22, pos := "law.go:39", after := #[{ on := 1, ground := Go.Ground.data }], guard := none }) rfl (by kernel_rfl) (by rfl) (fun K hK => ?_)
    go_simp
    go_at_call 5
    refine (hc3 _).out.mono ?_
    rintro e w2 ⟨rfl, rfl⟩
    dsimp only
    refine hK _ _ ?_ (fun hSg2_2 => ?_)
    · intro _; exact ⟨d2, d3⟩
    replace hSg2_2 := hSg2_2 (by kernel_rfl)
    clear hK
    try simp only [Act.put, List.setIfInBounds_toArray, List.set_cons_zero, List.set_cons_succ]
    refine wpAnyG_take0 (i := 6) (oi := { dst := some 9, op := Go.Op.fieldAddr 72 (Go.Operand.tmp 1) 3, type := 0, pos := "law.go:39", after := #[{ on := 0, ground := Go.Ground.phase }, { on := 1, ground := Go.Ground.phase }, { on := 2, ground := Go.Ground.phase }, { on := 3, ground := Go.Ground.phase }, { on := 4, ground := Go.Ground.phase }, { on := 5, ground := Go.Ground.textOnly Go.Departure.lateStoresUnsure }], guard := none }) (v := ?vg2_6) rfl (by kernel_rfl) (by kernel_rfl) (by kernel_rfl) (by kernel_rfl) (fun _ _ _ h => h) (fun _ => hSg2_2) (Or.inl ⟨by rfl, ?hg2_6⟩) ?_
    case hg2_6 => intro w _; go_simp; (try with_reducible rfl)
    try simp only [Act.put, List.setIfInBounds_toArray, List.set_cons_zero, List.set_cons_succ]
    refine wpAnyG_step (i := 5) (oi := { dst := some 8, op := Go.Op.call { callee := Go.Callee.value (Go.Operand.func 6), args := #[Go.Operand.tmp 7, Go.Operand.const (Go.Value.int Go.IntKind.i64 300)], argTypes := #[9, 3] }, type := 9, pos := "law.go:39", after := #[{ on := 4, ground := Go.Ground.data }, { on := 2, ground := Go.Ground.chain }], guard := none }) rfl (by kernel_rfl) (by rfl) (fun K hK => ?_)
    go_simp
    go_at_call 6
    refine (hc2 _).out.mono ?_
    rintro e w2 ⟨rfl, rfl⟩
    dsimp only
    refine hK _ _ ?_ (fun hSg2_5 => ?_)
    · intro _; exact ⟨d2, d3⟩
    replace hSg2_5 := hSg2_5 (by kernel_rfl)
    clear hK
    try simp only [Act.put, List.setIfInBounds_toArray, List.set_cons_zero, List.set_cons_succ]
    refine wpAnyG_step (i := 7) (oi := { dst := none, op := Go.Op.store 22 (Go.Operand.tmp 9) (Go.Operand.tmp 5), type := 0, pos := "law.go:39", after := #[{ on := 6, ground := Go.Ground.data }, { on := 2, ground := Go.Ground.data }, { on := 5, ground := Go.Ground.chain }, { on := 0, ground := Go.Ground.phase }, { on := 1, ground := Go.Ground.phase }, { on := 2, ground := Go.Ground.phase }, { on := 3, ground := Go.Ground.phase }, { on := 4, ground := Go.Ground.phase }, { on := 5, ground := Go.Ground.textOnly Go.Departure.lateStoresUnsure }], guard := none }) rfl (by kernel_rfl) (by rfl) (fun K hK => ?_)
    go_simp
    refine hK _ _ (fun h => absurd h (Bool.eq_false_iff.1 (by kernel_rfl))) (fun _ => ?_)
    clear hK
    try simp only [Act.put, List.setIfInBounds_toArray, List.set_cons_zero, List.set_cons_succ]
    refine wpAnyG_take0 (i := 8) (oi := { dst := some 10, op := Go.Op.fieldAddr 72 (Go.Operand.tmp 1) 2, type := 0, pos := "law.go:39", after := #[{ on := 0, ground := Go.Ground.phase }, { on := 1, ground := Go.Ground.phase }, { on := 2, ground := Go.Ground.phase }, { on := 3, ground := Go.Ground.phase }, { on := 4, ground := Go.Ground.phase }, { on := 5, ground := Go.Ground.phase }, { on := 6, ground := Go.Ground.phase }, { on := 7, ground := Go.Ground.phase }], guard := none }) (v := ?vg2_8) rfl (by kernel_rfl) (by kernel_rfl) (by kernel_rfl) (by kernel_rfl) (fun _ _ _ h => h) (fun h => absurd h (Bool.eq_false_iff.1 (by kernel_rfl))) (Or.inl ⟨by rfl, ?hg2_8⟩) ?_
    case hg2_8 => intro w _; go_simp; (try with_reducible rfl)
    try simp only [Act.put, List.setIfInBounds_toArray, List.set_cons_zero, List.set_cons_succ]
    refine wpAnyG_step (i := 9) (oi := { dst := none, op := Go.Op.store 9 (Go.Operand.tmp 10) (Go.Operand.tmp 8), type := 0, pos := "law.go:39", after := #[{ on := 8, ground := Go.Ground.data }, { on := 5, ground := Go.Ground.data }, { on := 7, ground := Go.Ground.chain }, { on := 0, ground := Go.Ground.phase }, { on := 1, ground := Go.Ground.phase }, { on := 2, ground := Go.Ground.phase }, { on := 3, ground := Go.Ground.phase }, { on := 4, ground := Go.Ground.phase }, { on := 5, ground := Go.Ground.phase }, { on := 6, ground := Go.Ground.phase }, { on := 7, ground := Go.Ground.phase }], guard := none }) rfl (by kernel_rfl) (by rfl) (fun K hK => ?_)
    go_simp
    refine hK _ _ (fun h => absurd h (Bool.eq_false_iff.1 (by kernel_rfl))) (fun _ => ?_)
    clear hK
    try simp only [Act.put, List.setIfInBounds_toArray, List.set_cons_zero, List.set_cons_succ]
    refine wpAnyG_done (by kernel_rfl) ?_ _
    go_wp2
    refine bodyPost_ret (v := .agg #[.int .i64 kd, .int .i64 a, .string ⟨q.toArray⟩, .slice Ab m3 cb, .int .i64 f, .int .i64 n, .slice Ak m6 ck]) ?_ rfl ?_
    · simp [results, Tryd.results29, go_sem, r0, r1, r2, r3, r4, r5, r6, rf, d0, d1, d2, d3, d4, d5, d6, df, hne]
    · refine ⟨rfl, ?_⟩
      repeat (first | with_reducible exact HB1.out | with_reducible refine Below.drew ?_ | with_reducible refine below_set ?_ (by omega))
theorem cut_any (d : Dd) (Ab Ak : Option Addr) (cb ck : Nat) (w : World) (hcb : d.bs.length ≤ cb) (hcm : cb ≤ maxLen) (hck : d.keep.length ≤ ck) (hkm : ck ≤ maxLen) (hpl : d.path.length ≤ 9223372036854775807) :
    Calls Tryd.prog 29 #[.agg (DvA d (.slice Ab d.bs.length cb) (.slice Ak d.keep.length ck))] w fun e w' => e = .returned (.agg (DvA (cutD d) (.slice Ab (cutD d).bs.length cb) (.slice Ak (cutD d).keep.length ck))) ∧ Below w.heap.size w w' :=
  cut_go d.kind d.a d.path (d.path.take 300) d.frm d.n Ab Ak d.bs.length cb d.keep.length ck (d.bs.take 1500).length (d.keep.take 100).length w hcb hcm hck hkm hpl rfl (by rw [List.length_take, Nat.min_comm]) (by rw [List.length_take, Nat.min_comm])
end Go.Proofs.YtopfbbnpbobhaaaDoor
