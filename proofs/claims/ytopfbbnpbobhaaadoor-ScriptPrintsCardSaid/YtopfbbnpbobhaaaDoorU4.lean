/- The reference's shown. -/
import Derived.Test.YtopfbbnpbobhaaaDoorU3
set_option linter.unusedVariables false
set_option linter.unusedSimpArgs false
namespace Go.Proofs.YtopfbbnpbobhaaaDoor
open Go.RowKit Go.Sal

theorem far_cell {w : World} {p q i j : Nat} {v : Value} (h : ¬ p = q) : (w.setCell ⟨q, i, none⟩ v).cell? ⟨p, j, none⟩ = w.cell? ⟨p, j, none⟩ := World.cell?_of_block (Below.heap_setCell w ⟨q, i, none⟩ v p h)
theorem below_set {B q i : Nat} {a w : World} {u : Value} (h : Below B a w) (hq : B ≤ q) : Below B a (w.setCell ⟨q, i, none⟩ u) := h.setCell (p := ⟨q, i, none⟩) hq u
theorem fields_other (k : Int) (h : ¬ (k = 1 ∨ k = 2 ∨ k = 3 ∨ k = 9 ∨ k = 10 ∨ k = 11 ∨ k = 12 ∨ k = 13 ∨ k = 14 ∨ k = 15 ∨ k = 16)) : fieldsOf k = [97] := by
  unfold fieldsOf
  repeat rw [if_neg (by omega)]
set_option maxRecDepth 200000 in
set_option maxHeartbeats 8000000 in
theorem rshown_1 (a : Int) (p b : List UInt8) (f n : Int) (kp : List Bool) (Ab Ak : Option Addr) (cb ck : Nat) (w : World) :
    Calls Tryd.prog 51 #[.agg (DvA ⟨1, a, p, b, f, n, kp⟩ (.slice Ab b.length cb) (.slice Ak kp.length ck))] w fun e w' => e = .returned (.agg (shA ⟨1, a, p, b, f, n, kp⟩ (.slice Ab b.length cb) (.slice Ak kp.length ck) (fieldsOf 1))) ∧ Below w.heap.size w w' := by
  obtain ⟨w1, hw1⟩ : ∃ w1, ((w.alloc (.cells #[.int .i64 1, .int .i64 a, .string ⟨p.toArray⟩, .slice Ab b.length cb, .int .i64 f, .int .i64 n, .slice Ak kp.length ck] 72)).alloc (.cells #[.int .i64 0, .int .i64 0, .string ⟨#[]⟩, .slice none 0 0, .int .i64 0, .int .i64 0, .slice none 0 0] 72)).alloc (.cells #[.int .i64 1, .int .i64 a, .string ⟨#[]⟩, .slice none 0 0, .int .i64 0, .int .i64 0, .slice none 0 0] 72) = w1 := ⟨_, rfl⟩
  have hD : Blk w1 w.heap.size 72 #[.int .i64 1, .int .i64 a, .string ⟨p.toArray⟩, .slice Ab b.length cb, .int .i64 f, .int .i64 n, .slice Ak kp.length ck] := by rw [← hw1]; exact ((Blk.new _ _ _).alloc _).alloc _
  have hR : Blk w1 (w.heap.size + 1) 72 #[.int .i64 0, .int .i64 0, .string ⟨#[]⟩, .slice none 0 0, .int .i64 0, .int .i64 0, .slice none 0 0] := by
    rw [← hw1]
    have := (Blk.new (w.alloc (.cells #[.int .i64 1, .int .i64 a, .string ⟨p.toArray⟩, .slice Ab b.length cb, .int .i64 f, .int .i64 n, .slice Ak kp.length ck] 72)) 72 #[.int .i64 0, .int .i64 0, .string ⟨#[]⟩, .slice none 0 0, .int .i64 0, .int .i64 0, .slice none 0 0]).alloc (.cells #[.int .i64 1, .int .i64 a, .string ⟨#[]⟩, .slice none 0 0, .int .i64 0, .int .i64 0, .slice none 0 0] 72)
    rw [World.size_alloc] at this
    exact this
  have hP : Blk w1 (w.heap.size + 1 + 1) 72 #[.int .i64 1, .int .i64 a, .string ⟨#[]⟩, .slice none 0 0, .int .i64 0, .int .i64 0, .slice none 0 0] := by
    rw [← hw1]
    have := Blk.new ((w.alloc (.cells #[.int .i64 1, .int .i64 a, .string ⟨p.toArray⟩, .slice Ab b.length cb, .int .i64 f, .int .i64 n, .slice Ak kp.length ck] 72)).alloc (.cells #[.int .i64 0, .int .i64 0, .string ⟨#[]⟩, .slice none 0 0, .int .i64 0, .int .i64 0, .slice none 0 0] 72)) 72 #[.int .i64 1, .int .i64 a, .string ⟨#[]⟩, .slice none 0 0, .int .i64 0, .int .i64 0, .slice none 0 0]
    rw [World.size_alloc, World.size_alloc] at this
    exact this
  have hB1 : Below w.heap.size w w1 := by rw [← hw1]; exact (((Below.refl _ w).alloc (Nat.le_refl _) _).alloc (by simp) _).alloc (by simp; omega) _
  have d0 : w1.cell? ⟨w.heap.size, 0, none⟩ = some (.int .i64 1) := hD.cell 0
  have d1 : w1.cell? ⟨w.heap.size, 1, none⟩ = some (.int .i64 a) := hD.cell 1
  have d2 : w1.cell? ⟨w.heap.size, 2, none⟩ = some (.string ⟨p.toArray⟩) := hD.cell 2
  have d3 : w1.cell? ⟨w.heap.size, 3, none⟩ = some (.slice Ab b.length cb) := hD.cell 3
  have d4 : w1.cell? ⟨w.heap.size, 4, none⟩ = some (.int .i64 f) := hD.cell 4
  have d5 : w1.cell? ⟨w.heap.size, 5, none⟩ = some (.int .i64 n) := hD.cell 5
  have d6 : w1.cell? ⟨w.heap.size, 6, none⟩ = some (.slice Ak kp.length ck) := hD.cell 6
  have p0 : w1.cell? ⟨w.heap.size + 1 + 1, 0, none⟩ = some (.int .i64 1) := hP.cell 0
  have p1 : w1.cell? ⟨w.heap.size + 1 + 1, 1, none⟩ = some (.int .i64 a) := hP.cell 1
  have p2 : w1.cell? ⟨w.heap.size + 1 + 1, 2, none⟩ = some (.string ⟨#[]⟩) := hP.cell 2
  have p3 : w1.cell? ⟨w.heap.size + 1 + 1, 3, none⟩ = some (.slice none 0 0) := hP.cell 3
  have p4 : w1.cell? ⟨w.heap.size + 1 + 1, 4, none⟩ = some (.int .i64 0) := hP.cell 4
  have p5 : w1.cell? ⟨w.heap.size + 1 + 1, 5, none⟩ = some (.int .i64 0) := hP.cell 5
  have p6 : w1.cell? ⟨w.heap.size + 1 + 1, 6, none⟩ = some (.slice none 0 0) := hP.cell 6
  have pf : ∀ i, w1.frozen? ⟨w.heap.size + 1 + 1, i, none⟩ = false := hP.free
  have r0 : w1.cell? ⟨w.heap.size + 1, 0, none⟩ = some (.int .i64 0) := hR.cell 0
  have r1 : w1.cell? ⟨w.heap.size + 1, 1, none⟩ = some (.int .i64 0) := hR.cell 1
  have r2 : w1.cell? ⟨w.heap.size + 1, 2, none⟩ = some (.string ⟨#[]⟩) := hR.cell 2
  have r3 : w1.cell? ⟨w.heap.size + 1, 3, none⟩ = some (.slice none 0 0) := hR.cell 3
  have r4 : w1.cell? ⟨w.heap.size + 1, 4, none⟩ = some (.int .i64 0) := hR.cell 4
  have r5 : w1.cell? ⟨w.heap.size + 1, 5, none⟩ = some (.int .i64 0) := hR.cell 5
  have r6 : w1.cell? ⟨w.heap.size + 1, 6, none⟩ = some (.slice none 0 0) := hR.cell 6
  have rf : ∀ i, w1.frozen? ⟨w.heap.size + 1, i, none⟩ = false := hR.free
  have hne : ¬ w.heap.size = w.heap.size + 1 + 1 := by omega
  have hne2 : ¬ w.heap.size + 1 = w.heap.size + 1 + 1 := by omega
  have HB1 := Lib.hid hB1
  have Hw1 := Lib.hid hw1
  clear hD hR hP hB1 hw1
  unfold DvA
  go_enter Tryd.func51, Tryd.ntmps51
  go_upto_region 2 with (fail)
  rw [Hw1.out]
  go_upto_region 4 with (fail)
  refine wp_region_G (fun W => W.cell? ⟨w.heap.size, 2, none⟩ = some (.string ⟨p.toArray⟩) ∧ W.cell? ⟨w.heap.size, 3, none⟩ = some (.slice Ab b.length cb)) [] #[false, false, false, false, false, false, false, false] 8 (by kernel_rfl) (by kernel_rfl) (by kernel_rfl) ?_
  refine wpAnyG_take0 (i := 0) (oi := { dst := some 13, op := Go.Op.fieldAddr 72 (Go.Operand.tmp 1) 2, type := 0, pos := "ref.go:218", after := #[], guard := none }) (v := ?vg1_0) rfl (by kernel_rfl) (by kernel_rfl) (by kernel_rfl) (by kernel_rfl) (fun _ _ _ h => h) (fun _ => ⟨d2, d3⟩) (Or.inl ⟨by rfl, ?hg1_0⟩) ?_
  case hg1_0 => intro w _; go_simp; (try with_reducible rfl)
  try simp only [Act.put, List.setIfInBounds_toArray, List.set_cons_zero, List.set_cons_succ]
  refine wpAnyG_take (i := 1) (oi := { dst := some 14, op := Go.Op.load 9 (Go.Operand.tmp 13), type := 9, pos := "ref.go:218", after := #[{ on := 0, ground := Go.Ground.data }], guard := none }) (v := ?vg1_1) [1, 4, 5, 6, 7] rfl (by kernel_rfl) (by kernel_rfl) (by kernel_rfl) (by kernel_rfl) (by kernel_rfl) (fun _ _ _ h => h) (fun _ => ⟨d2, d3⟩) (Or.inl ⟨by rfl, ?hg1_1⟩) ?_
  case hg1_1 => intro w hSw; (try dsimp only at hSw); go_simp; (try with_reducible rfl)
  try simp only [Act.put, List.setIfInBounds_toArray, List.set_cons_zero, List.set_cons_succ]
  refine wpAnyG_take0 (i := 2) (oi := { dst := some 15, op := Go.Op.fieldAddr 72 (Go.Operand.tmp 1) 3, type := 0, pos := "ref.go:218", after := #[{ on := 5, ground := Go.Ground.gcOnly Go.Departure.lateStores }], guard := none }) (v := ?vg1_2) rfl (by kernel_rfl) (by kernel_rfl) (by kernel_rfl) (by kernel_rfl) (fun _ _ _ h => h) (fun _ => ⟨d2, d3⟩) (Or.inl ⟨by rfl, ?hg1_2⟩) ?_
  case hg1_2 => intro w _; go_simp; (try with_reducible rfl)
  try simp only [Act.put, List.setIfInBounds_toArray, List.set_cons_zero, List.set_cons_succ]
  refine wpAnyG_take (i := 3) (oi := { dst := some 16, op := Go.Op.load 22 (Go.Operand.tmp 15), type := 22, pos := "ref.go:218", after := #[{ on := 2, ground := Go.Ground.data }, { on := 5, ground := Go.Ground.gcOnly Go.Departure.lateStores }], guard := none }) (v := ?vg1_3) [3, 6, 7] rfl (by kernel_rfl) (by kernel_rfl) (by kernel_rfl) (by kernel_rfl) (by kernel_rfl) (fun _ _ _ h => h) (fun _ => ⟨d2, d3⟩) (Or.inl ⟨by rfl, ?hg1_3⟩) ?_
  case hg1_3 => intro w hSw; (try dsimp only at hSw); go_simp; (try with_reducible rfl)
  try simp only [Act.put, List.setIfInBounds_toArray, List.set_cons_zero, List.set_cons_succ]
  refine wpAnyG_take0 (i := 4) (oi := { dst := some 17, op := Go.Op.fieldAddr 72 (Go.Operand.tmp 3) 2, type := 0, pos := "ref.go:218", after := #[{ on := 0, ground := Go.Ground.phase }, { on := 1, ground := Go.Ground.phase }, { on := 2, ground := Go.Ground.textOnly Go.Departure.lateStores }, { on := 3, ground := Go.Ground.textOnly Go.Departure.lateStores }], guard := none }) (v := ?vg1_4) rfl (by kernel_rfl) (by kernel_rfl) (by kernel_rfl) (by kernel_rfl) (fun _ _ _ h => h) (fun _ => ⟨d2, d3⟩) (Or.inl ⟨by rfl, ?hg1_4⟩) ?_
  case hg1_4 => intro w _; go_simp; (try with_reducible rfl)
  try simp only [Act.put, List.setIfInBounds_toArray, List.set_cons_zero, List.set_cons_succ]
  refine wpAnyG_step (i := 5) (oi := { dst := none, op := Go.Op.store 9 (Go.Operand.tmp 17) (Go.Operand.tmp 14), type := 0, pos := "ref.go:218", after := #[{ on := 4, ground := Go.Ground.data }, { on := 1, ground := Go.Ground.data }, { on := 0, ground := Go.Ground.phase }, { on := 1, ground := Go.Ground.phase }, { on := 2, ground := Go.Ground.textOnly Go.Departure.lateStores }, { on := 3, ground := Go.Ground.textOnly Go.Departure.lateStores }], guard := none }) rfl (by kernel_rfl) (by rfl) (fun K hK => ?_)
  go_simp
  refine hK _ _ ?_ (fun hSg1_5 => ?_)
  · intro _; exact ⟨((far_cell hne).trans (d2)), ((far_cell hne).trans (d3))⟩
  replace hSg1_5 := hSg1_5 (by kernel_rfl)
  clear hK
  try simp only [Act.put, List.setIfInBounds_toArray, List.set_cons_zero, List.set_cons_succ]
  refine wpAnyG_take0 (i := 6) (oi := { dst := some 18, op := Go.Op.fieldAddr 72 (Go.Operand.tmp 3) 3, type := 0, pos := "ref.go:218", after := #[{ on := 0, ground := Go.Ground.phase }, { on := 1, ground := Go.Ground.phase }, { on := 2, ground := Go.Ground.phase }, { on := 3, ground := Go.Ground.phase }, { on := 4, ground := Go.Ground.phase }, { on := 5, ground := Go.Ground.phase }], guard := none }) (v := ?vg1_6) rfl (by kernel_rfl) (by kernel_rfl) (by kernel_rfl) (by kernel_rfl) (fun _ _ _ h => h) (fun _ => hSg1_5) (Or.inl ⟨by rfl, ?hg1_6⟩) ?_
  case hg1_6 => intro w _; go_simp; (try with_reducible rfl)
  try simp only [Act.put, List.setIfInBounds_toArray, List.set_cons_zero, List.set_cons_succ]
  refine wpAnyG_step (i := 7) (oi := { dst := none, op := Go.Op.store 22 (Go.Operand.tmp 18) (Go.Operand.tmp 16), type := 0, pos := "ref.go:218", after := #[{ on := 6, ground := Go.Ground.data }, { on := 3, ground := Go.Ground.data }, { on := 5, ground := Go.Ground.chain }, { on := 0, ground := Go.Ground.phase }, { on := 1, ground := Go.Ground.phase }, { on := 2, ground := Go.Ground.phase }, { on := 3, ground := Go.Ground.phase }, { on := 4, ground := Go.Ground.phase }, { on := 5, ground := Go.Ground.phase }], guard := none }) rfl (by kernel_rfl) (by rfl) (fun K hK => ?_)
  go_simp
  refine hK _ _ ?_ (fun hSg1_7 => ?_)
  · intro _; exact ⟨((far_cell hne).trans ((far_cell hne).trans (d2))), ((far_cell hne).trans ((far_cell hne).trans (d3)))⟩
  replace hSg1_7 := hSg1_7 (by kernel_rfl)
  clear hK
  try simp only [Act.put, List.setIfInBounds_toArray, List.set_cons_zero, List.set_cons_succ]
  refine wpAnyG_done (by kernel_rfl) ?_ _
  go_wp2
  refine bodyPost_ret (v := .agg #[.int .i64 1, .int .i64 a, .string ⟨p.toArray⟩, .slice Ab b.length cb, .int .i64 0, .int .i64 0, .slice none 0 0]) ?_ rfl ?_
  · simp [results, Tryd.results51, go_sem, r0, r1, r2, r3, r4, r5, r6, rf, p0, p1, p2, p3, p4, p5, p6]
  · refine ⟨by simp [shA, fieldsOf], ?_⟩
    repeat (first | with_reducible exact HB1.out | with_reducible refine Below.drew ?_ | with_reducible refine below_set ?_ (by omega))
set_option maxRecDepth 200000 in
set_option maxHeartbeats 8000000 in
theorem rshown_2 (a : Int) (p b : List UInt8) (f n : Int) (kp : List Bool) (Ab Ak : Option Addr) (cb ck : Nat) (w : World) :
    Calls Tryd.prog 51 #[.agg (DvA ⟨2, a, p, b, f, n, kp⟩ (.slice Ab b.length cb) (.slice Ak kp.length ck))] w fun e w' => e = .returned (.agg (shA ⟨2, a, p, b, f, n, kp⟩ (.slice Ab b.length cb) (.slice Ak kp.length ck) (fieldsOf 2))) ∧ Below w.heap.size w w' := by
  obtain ⟨w1, hw1⟩ : ∃ w1, ((w.alloc (.cells #[.int .i64 2, .int .i64 a, .string ⟨p.toArray⟩, .slice Ab b.length cb, .int .i64 f, .int .i64 n, .slice Ak kp.length ck] 72)).alloc (.cells #[.int .i64 0, .int .i64 0, .string ⟨#[]⟩, .slice none 0 0, .int .i64 0, .int .i64 0, .slice none 0 0] 72)).alloc (.cells #[.int .i64 2, .int .i64 a, .string ⟨#[]⟩, .slice none 0 0, .int .i64 0, .int .i64 0, .slice none 0 0] 72) = w1 := ⟨_, rfl⟩
  have hD : Blk w1 w.heap.size 72 #[.int .i64 2, .int .i64 a, .string ⟨p.toArray⟩, .slice Ab b.length cb, .int .i64 f, .int .i64 n, .slice Ak kp.length ck] := by rw [← hw1]; exact ((Blk.new _ _ _).alloc _).alloc _
  have hR : Blk w1 (w.heap.size + 1) 72 #[.int .i64 0, .int .i64 0, .string ⟨#[]⟩, .slice none 0 0, .int .i64 0, .int .i64 0, .slice none 0 0] := by
    rw [← hw1]
    have := (Blk.new (w.alloc (.cells #[.int .i64 2, .int .i64 a, .string ⟨p.toArray⟩, .slice Ab b.length cb, .int .i64 f, .int .i64 n, .slice Ak kp.length ck] 72)) 72 #[.int .i64 0, .int .i64 0, .string ⟨#[]⟩, .slice none 0 0, .int .i64 0, .int .i64 0, .slice none 0 0]).alloc (.cells #[.int .i64 2, .int .i64 a, .string ⟨#[]⟩, .slice none 0 0, .int .i64 0, .int .i64 0, .slice none 0 0] 72)
    rw [World.size_alloc] at this
    exact this
  have hP : Blk w1 (w.heap.size + 1 + 1) 72 #[.int .i64 2, .int .i64 a, .string ⟨#[]⟩, .slice none 0 0, .int .i64 0, .int .i64 0, .slice none 0 0] := by
    rw [← hw1]
    have := Blk.new ((w.alloc (.cells #[.int .i64 2, .int .i64 a, .string ⟨p.toArray⟩, .slice Ab b.length cb, .int .i64 f, .int .i64 n, .slice Ak kp.length ck] 72)).alloc (.cells #[.int .i64 0, .int .i64 0, .string ⟨#[]⟩, .slice none 0 0, .int .i64 0, .int .i64 0, .slice none 0 0] 72)) 72 #[.int .i64 2, .int .i64 a, .string ⟨#[]⟩, .slice none 0 0, .int .i64 0, .int .i64 0, .slice none 0 0]
    rw [World.size_alloc, World.size_alloc] at this
    exact this
  have hB1 : Below w.heap.size w w1 := by rw [← hw1]; exact (((Below.refl _ w).alloc (Nat.le_refl _) _).alloc (by simp) _).alloc (by simp; omega) _
  have d0 : w1.cell? ⟨w.heap.size, 0, none⟩ = some (.int .i64 2) := hD.cell 0
  have d1 : w1.cell? ⟨w.heap.size, 1, none⟩ = some (.int .i64 a) := hD.cell 1
  have d2 : w1.cell? ⟨w.heap.size, 2, none⟩ = some (.string ⟨p.toArray⟩) := hD.cell 2
  have d3 : w1.cell? ⟨w.heap.size, 3, none⟩ = some (.slice Ab b.length cb) := hD.cell 3
  have d4 : w1.cell? ⟨w.heap.size, 4, none⟩ = some (.int .i64 f) := hD.cell 4
  have d5 : w1.cell? ⟨w.heap.size, 5, none⟩ = some (.int .i64 n) := hD.cell 5
  have d6 : w1.cell? ⟨w.heap.size, 6, none⟩ = some (.slice Ak kp.length ck) := hD.cell 6
  have p0 : w1.cell? ⟨w.heap.size + 1 + 1, 0, none⟩ = some (.int .i64 2) := hP.cell 0
  have p1 : w1.cell? ⟨w.heap.size + 1 + 1, 1, none⟩ = some (.int .i64 a) := hP.cell 1
  have p2 : w1.cell? ⟨w.heap.size + 1 + 1, 2, none⟩ = some (.string ⟨#[]⟩) := hP.cell 2
  have p3 : w1.cell? ⟨w.heap.size + 1 + 1, 3, none⟩ = some (.slice none 0 0) := hP.cell 3
  have p4 : w1.cell? ⟨w.heap.size + 1 + 1, 4, none⟩ = some (.int .i64 0) := hP.cell 4
  have p5 : w1.cell? ⟨w.heap.size + 1 + 1, 5, none⟩ = some (.int .i64 0) := hP.cell 5
  have p6 : w1.cell? ⟨w.heap.size + 1 + 1, 6, none⟩ = some (.slice none 0 0) := hP.cell 6
  have pf : ∀ i, w1.frozen? ⟨w.heap.size + 1 + 1, i, none⟩ = false := hP.free
  have r0 : w1.cell? ⟨w.heap.size + 1, 0, none⟩ = some (.int .i64 0) := hR.cell 0
  have r1 : w1.cell? ⟨w.heap.size + 1, 1, none⟩ = some (.int .i64 0) := hR.cell 1
  have r2 : w1.cell? ⟨w.heap.size + 1, 2, none⟩ = some (.string ⟨#[]⟩) := hR.cell 2
  have r3 : w1.cell? ⟨w.heap.size + 1, 3, none⟩ = some (.slice none 0 0) := hR.cell 3
  have r4 : w1.cell? ⟨w.heap.size + 1, 4, none⟩ = some (.int .i64 0) := hR.cell 4
  have r5 : w1.cell? ⟨w.heap.size + 1, 5, none⟩ = some (.int .i64 0) := hR.cell 5
  have r6 : w1.cell? ⟨w.heap.size + 1, 6, none⟩ = some (.slice none 0 0) := hR.cell 6
  have rf : ∀ i, w1.frozen? ⟨w.heap.size + 1, i, none⟩ = false := hR.free
  have hne : ¬ w.heap.size = w.heap.size + 1 + 1 := by omega
  have hne2 : ¬ w.heap.size + 1 = w.heap.size + 1 + 1 := by omega
  have HB1 := Lib.hid hB1
  have Hw1 := Lib.hid hw1
  clear hD hR hP hB1 hw1
  unfold DvA
  go_enter Tryd.func51, Tryd.ntmps51
  go_upto_region 2 with (fail)
  rw [Hw1.out]
  go_wp2
  refine bodyPost_ret (v := .agg #[.int .i64 2, .int .i64 a, .string ⟨p.toArray⟩, .slice none 0 0, .int .i64 0, .int .i64 0, .slice none 0 0]) ?_ rfl ?_
  · simp [results, Tryd.results51, go_sem, r0, r1, r2, r3, r4, r5, r6, rf, p0, p1, p2, p3, p4, p5, p6]
  · refine ⟨by simp [shA, fieldsOf], ?_⟩
    repeat (first | with_reducible exact HB1.out | with_reducible refine Below.drew ?_ | with_reducible refine below_set ?_ (by omega))
set_option maxRecDepth 200000 in
set_option maxHeartbeats 8000000 in
theorem rshown_3 (a : Int) (p b : List UInt8) (f n : Int) (kp : List Bool) (Ab Ak : Option Addr) (cb ck : Nat) (w : World) :
    Calls Tryd.prog 51 #[.agg (DvA ⟨3, a, p, b, f, n, kp⟩ (.slice Ab b.length cb) (.slice Ak kp.length ck))] w fun e w' => e = .returned (.agg (shA ⟨3, a, p, b, f, n, kp⟩ (.slice Ab b.length cb) (.slice Ak kp.length ck) (fieldsOf 3))) ∧ Below w.heap.size w w' := by
  obtain ⟨w1, hw1⟩ : ∃ w1, ((w.alloc (.cells #[.int .i64 3, .int .i64 a, .string ⟨p.toArray⟩, .slice Ab b.length cb, .int .i64 f, .int .i64 n, .slice Ak kp.length ck] 72)).alloc (.cells #[.int .i64 0, .int .i64 0, .string ⟨#[]⟩, .slice none 0 0, .int .i64 0, .int .i64 0, .slice none 0 0] 72)).alloc (.cells #[.int .i64 3, .int .i64 a, .string ⟨#[]⟩, .slice none 0 0, .int .i64 0, .int .i64 0, .slice none 0 0] 72) = w1 := ⟨_, rfl⟩
  have hD : Blk w1 w.heap.size 72 #[.int .i64 3, .int .i64 a, .string ⟨p.toArray⟩, .slice Ab b.length cb, .int .i64 f, .int .i64 n, .slice Ak kp.length ck] := by rw [← hw1]; exact ((Blk.new _ _ _).alloc _).alloc _
  have hR : Blk w1 (w.heap.size + 1) 72 #[.int .i64 0, .int .i64 0, .string ⟨#[]⟩, .slice none 0 0, .int .i64 0, .int .i64 0, .slice none 0 0] := by
    rw [← hw1]
    have := (Blk.new (w.alloc (.cells #[.int .i64 3, .int .i64 a, .string ⟨p.toArray⟩, .slice Ab b.length cb, .int .i64 f, .int .i64 n, .slice Ak kp.length ck] 72)) 72 #[.int .i64 0, .int .i64 0, .string ⟨#[]⟩, .slice none 0 0, .int .i64 0, .int .i64 0, .slice none 0 0]).alloc (.cells #[.int .i64 3, .int .i64 a, .string ⟨#[]⟩, .slice none 0 0, .int .i64 0, .int .i64 0, .slice none 0 0] 72)
    rw [World.size_alloc] at this
    exact this
  have hP : Blk w1 (w.heap.size + 1 + 1) 72 #[.int .i64 3, .int .i64 a, .string ⟨#[]⟩, .slice none 0 0, .int .i64 0, .int .i64 0, .slice none 0 0] := by
    rw [← hw1]
    have := Blk.new ((w.alloc (.cells #[.int .i64 3, .int .i64 a, .string ⟨p.toArray⟩, .slice Ab b.length cb, .int .i64 f, .int .i64 n, .slice Ak kp.length ck] 72)).alloc (.cells #[.int .i64 0, .int .i64 0, .string ⟨#[]⟩, .slice none 0 0, .int .i64 0, .int .i64 0, .slice none 0 0] 72)) 72 #[.int .i64 3, .int .i64 a, .string ⟨#[]⟩, .slice none 0 0, .int .i64 0, .int .i64 0, .slice none 0 0]
    rw [World.size_alloc, World.size_alloc] at this
    exact this
  have hB1 : Below w.heap.size w w1 := by rw [← hw1]; exact (((Below.refl _ w).alloc (Nat.le_refl _) _).alloc (by simp) _).alloc (by simp; omega) _
  have d0 : w1.cell? ⟨w.heap.size, 0, none⟩ = some (.int .i64 3) := hD.cell 0
  have d1 : w1.cell? ⟨w.heap.size, 1, none⟩ = some (.int .i64 a) := hD.cell 1
  have d2 : w1.cell? ⟨w.heap.size, 2, none⟩ = some (.string ⟨p.toArray⟩) := hD.cell 2
  have d3 : w1.cell? ⟨w.heap.size, 3, none⟩ = some (.slice Ab b.length cb) := hD.cell 3
  have d4 : w1.cell? ⟨w.heap.size, 4, none⟩ = some (.int .i64 f) := hD.cell 4
  have d5 : w1.cell? ⟨w.heap.size, 5, none⟩ = some (.int .i64 n) := hD.cell 5
  have d6 : w1.cell? ⟨w.heap.size, 6, none⟩ = some (.slice Ak kp.length ck) := hD.cell 6
  have p0 : w1.cell? ⟨w.heap.size + 1 + 1, 0, none⟩ = some (.int .i64 3) := hP.cell 0
  have p1 : w1.cell? ⟨w.heap.size + 1 + 1, 1, none⟩ = some (.int .i64 a) := hP.cell 1
  have p2 : w1.cell? ⟨w.heap.size + 1 + 1, 2, none⟩ = some (.string ⟨#[]⟩) := hP.cell 2
  have p3 : w1.cell? ⟨w.heap.size + 1 + 1, 3, none⟩ = some (.slice none 0 0) := hP.cell 3
  have p4 : w1.cell? ⟨w.heap.size + 1 + 1, 4, none⟩ = some (.int .i64 0) := hP.cell 4
  have p5 : w1.cell? ⟨w.heap.size + 1 + 1, 5, none⟩ = some (.int .i64 0) := hP.cell 5
  have p6 : w1.cell? ⟨w.heap.size + 1 + 1, 6, none⟩ = some (.slice none 0 0) := hP.cell 6
  have pf : ∀ i, w1.frozen? ⟨w.heap.size + 1 + 1, i, none⟩ = false := hP.free
  have r0 : w1.cell? ⟨w.heap.size + 1, 0, none⟩ = some (.int .i64 0) := hR.cell 0
  have r1 : w1.cell? ⟨w.heap.size + 1, 1, none⟩ = some (.int .i64 0) := hR.cell 1
  have r2 : w1.cell? ⟨w.heap.size + 1, 2, none⟩ = some (.string ⟨#[]⟩) := hR.cell 2
  have r3 : w1.cell? ⟨w.heap.size + 1, 3, none⟩ = some (.slice none 0 0) := hR.cell 3
  have r4 : w1.cell? ⟨w.heap.size + 1, 4, none⟩ = some (.int .i64 0) := hR.cell 4
  have r5 : w1.cell? ⟨w.heap.size + 1, 5, none⟩ = some (.int .i64 0) := hR.cell 5
  have r6 : w1.cell? ⟨w.heap.size + 1, 6, none⟩ = some (.slice none 0 0) := hR.cell 6
  have rf : ∀ i, w1.frozen? ⟨w.heap.size + 1, i, none⟩ = false := hR.free
  have hne : ¬ w.heap.size = w.heap.size + 1 + 1 := by omega
  have hne2 : ¬ w.heap.size + 1 = w.heap.size + 1 + 1 := by omega
  have HB1 := Lib.hid hB1
  have Hw1 := Lib.hid hw1
  clear hD hR hP hB1 hw1
  unfold DvA
  go_enter Tryd.func51, Tryd.ntmps51
  go_upto_region 2 with (fail)
  rw [Hw1.out]
  go_upto_region 8 with (fail)
  refine wp_region_G (fun W => W.cell? ⟨w.heap.size, 2, none⟩ = some (.string ⟨p.toArray⟩) ∧ W.cell? ⟨w.heap.size, 4, none⟩ = some (.int .i64 f) ∧ W.cell? ⟨w.heap.size, 5, none⟩ = some (.int .i64 n)) [] #[false, false, false, false, false, false, false, false, false, false, false, false] 12 (by kernel_rfl) (by kernel_rfl) (by kernel_rfl) ?_
  refine wpAnyG_take0 (i := 0) (oi := { dst := some 26, op := Go.Op.fieldAddr 72 (Go.Operand.tmp 1) 2, type := 0, pos := "ref.go:222", after := #[], guard := none }) (v := ?vg2_0) rfl (by kernel_rfl) (by kernel_rfl) (by kernel_rfl) (by kernel_rfl) (fun _ _ _ h => h) (fun _ => ⟨d2, d4, d5⟩) (Or.inl ⟨by rfl, ?hg2_0⟩) ?_
  case hg2_0 => intro w _; go_simp; (try with_reducible rfl)
  try simp only [Act.put, List.setIfInBounds_toArray, List.set_cons_zero, List.set_cons_succ]
  refine wpAnyG_take (i := 1) (oi := { dst := some 27, op := Go.Op.load 9 (Go.Operand.tmp 26), type := 9, pos := "ref.go:222", after := #[{ on := 0, ground := Go.Ground.data }], guard := none }) (v := ?vg2_1) [1, 6, 7, 8, 9, 10, 11] rfl (by kernel_rfl) (by kernel_rfl) (by kernel_rfl) (by kernel_rfl) (by kernel_rfl) (fun _ _ _ h => h) (fun _ => ⟨d2, d4, d5⟩) (Or.inl ⟨by rfl, ?hg2_1⟩) ?_
  case hg2_1 => intro w hSw; (try dsimp only at hSw); go_simp; (try with_reducible rfl)
  try simp only [Act.put, List.setIfInBounds_toArray, List.set_cons_zero, List.set_cons_succ]
  refine wpAnyG_take0 (i := 2) (oi := { dst := some 28, op := Go.Op.fieldAddr 72 (Go.Operand.tmp 1) 4, type := 0, pos := "ref.go:222", after := #[{ on := 7, ground := Go.Ground.gcOnly Go.Departure.lateStores }], guard := none }) (v := ?vg2_2) rfl (by kernel_rfl) (by kernel_rfl) (by kernel_rfl) (by kernel_rfl) (fun _ _ _ h => h) (fun _ => ⟨d2, d4, d5⟩) (Or.inl ⟨by rfl, ?hg2_2⟩) ?_
  case hg2_2 => intro w _; go_simp; (try with_reducible rfl)
  try simp only [Act.put, List.setIfInBounds_toArray, List.set_cons_zero, List.set_cons_succ]
  refine wpAnyG_take (i := 3) (oi := { dst := some 29, op := Go.Op.load 3 (Go.Operand.tmp 28), type := 3, pos := "ref.go:222", after := #[{ on := 2, ground := Go.Ground.data }, { on := 7, ground := Go.Ground.gcOnly Go.Departure.lateStores }], guard := none }) (v := ?vg2_3) [3, 8, 9, 10, 11] rfl (by kernel_rfl) (by kernel_rfl) (by kernel_rfl) (by kernel_rfl) (by kernel_rfl) (fun _ _ _ h => h) (fun _ => ⟨d2, d4, d5⟩) (Or.inl ⟨by rfl, ?hg2_3⟩) ?_
  case hg2_3 => intro w hSw; (try dsimp only at hSw); go_simp; (try with_reducible rfl)
  try simp only [Act.put, List.setIfInBounds_toArray, List.set_cons_zero, List.set_cons_succ]
  refine wpAnyG_take0 (i := 4) (oi := { dst := some 30, op := Go.Op.fieldAddr 72 (Go.Operand.tmp 1) 5, type := 0, pos := "ref.go:222", after := #[{ on := 9, ground := Go.Ground.gcOnly Go.Departure.lateStores }], guard := none }) (v := ?vg2_4) rfl (by kernel_rfl) (by kernel_rfl) (by kernel_rfl) (by kernel_rfl) (fun _ _ _ h => h) (fun _ => ⟨d2, d4, d5⟩) (Or.inl ⟨by rfl, ?hg2_4⟩) ?_
  case hg2_4 => intro w _; go_simp; (try with_reducible rfl)
  try simp only [Act.put, List.setIfInBounds_toArray, List.set_cons_zero, List.set_cons_succ]
  refine wpAnyG_take (i := 5) (oi := { dst := some 31, op := Go.Op.load 3 (Go.Operand.tmp 30), type := 3, pos := "ref.go:222", after := #[{ on := 4, ground := Go.Ground.data }, { on := 9, ground := Go.Ground.gcOnly Go.Departure.lateStores }], guard := none }) (v := ?vg2_5) [5, 10, 11] rfl (by kernel_rfl) (by kernel_rfl) (by kernel_rfl) (by kernel_rfl) (by kernel_rfl) (fun _ _ _ h => h) (fun _ => ⟨d2, d4, d5⟩) (Or.inl ⟨by rfl, ?hg2_5⟩) ?_
  case hg2_5 => intro w hSw; (try dsimp only at hSw); go_simp; (try with_reducible rfl)
  try simp only [Act.put, List.setIfInBounds_toArray, List.set_cons_zero, List.set_cons_succ]
  refine wpAnyG_take0 (i := 6) (oi := { dst := some 32, op := Go.Op.fieldAddr 72 (Go.Operand.tmp 3) 2, type := 0, pos := "ref.go:222", after := #[{ on := 0, ground := Go.Ground.phase }, { on := 1, ground := Go.Ground.phase }, { on := 2, ground := Go.Ground.textOnly Go.Departure.lateStores }, { on := 3, ground := Go.Ground.textOnly Go.Departure.lateStores }, { on := 4, ground := Go.Ground.textOnly Go.Departure.lateStores }, { on := 5, ground := Go.Ground.textOnly Go.Departure.lateStores }], guard := none }) (v := ?vg2_6) rfl (by kernel_rfl) (by kernel_rfl) (by kernel_rfl) (by kernel_rfl) (fun _ _ _ h => h) (fun _ => ⟨d2, d4, d5⟩) (Or.inl ⟨by rfl, ?hg2_6⟩) ?_
  case hg2_6 => intro w _; go_simp; (try with_reducible rfl)
  try simp only [Act.put, List.setIfInBounds_toArray, List.set_cons_zero, List.set_cons_succ]
  refine wpAnyG_step (i := 7) (oi := { dst := none, op := Go.Op.store 9 (Go.Operand.tmp 32) (Go.Operand.tmp 27), type := 0, pos := "ref.go:222", after := #[{ on := 6, ground := Go.Ground.data }, { on := 1, ground := Go.Ground.data }, { on := 0, ground := Go.Ground.phase }, { on := 1, ground := Go.Ground.phase }, { on := 2, ground := Go.Ground.textOnly Go.Departure.lateStores }, { on := 3, ground := Go.Ground.textOnly Go.Departure.lateStores }, { on := 4, ground := Go.Ground.textOnly Go.Departure.lateStores }, { on := 5, ground := Go.Ground.textOnly Go.Departure.lateStores }], guard := none }) rfl (by kernel_rfl) (by rfl) (fun K hK => ?_)
  go_simp
  refine hK _ _ ?_ (fun hSg2_7 => ?_)
  · intro _; exact ⟨((far_cell hne).trans (d2)), ((far_cell hne).trans (d4)), ((far_cell hne).trans (d5))⟩
  replace hSg2_7 := hSg2_7 (by kernel_rfl)
  clear hK
  try simp only [Act.put, List.setIfInBounds_toArray, List.set_cons_zero, List.set_cons_succ]
  refine wpAnyG_take0 (i := 8) (oi := { dst := some 33, op := Go.Op.fieldAddr 72 (Go.Operand.tmp 3) 4, type := 0, pos := "ref.go:222", after := #[{ on := 0, ground := Go.Ground.phase }, { on := 1, ground := Go.Ground.phase }, { on := 2, ground := Go.Ground.phase }, { on := 3, ground := Go.Ground.phase }, { on := 4, ground := Go.Ground.textOnly Go.Departure.lateStores }, { on := 5, ground := Go.Ground.textOnly Go.Departure.lateStores }, { on := 6, ground := Go.Ground.phase }, { on := 7, ground := Go.Ground.phase }], guard := none }) (v := ?vg2_8) rfl (by kernel_rfl) (by kernel_rfl) (by kernel_rfl) (by kernel_rfl) (fun _ _ _ h => h) (fun _ => hSg2_7) (Or.inl ⟨by rfl, ?hg2_8⟩) ?_
  case hg2_8 => intro w _; go_simp; (try with_reducible rfl)
  try simp only [Act.put, List.setIfInBounds_toArray, List.set_cons_zero, List.set_cons_succ]
  refine wpAnyG_step (i := 9) (oi := { dst := none, op := Go.Op.store 3 (Go.Operand.tmp 33) (Go.Operand.tmp 29), type := 0, pos := "ref.go:222", after := #[{ on := 8, ground := Go.Ground.data }, { on := 3, ground := Go.Ground.data }, { on := 7, ground := Go.Ground.chain }, { on := 0, ground := Go.Ground.phase }, { on := 1, ground := Go.Ground.phase }, { on := 2, ground := Go.Ground.phase }, { on := 3, ground := Go.Ground.phase }, { on := 4, ground := Go.Ground.textOnly Go.Departure.lateStores }, { on := 5, ground := Go.Ground.textOnly Go.Departure.lateStores }, { on := 6, ground := Go.Ground.phase }, { on := 7, ground := Go.Ground.phase }], guard := none }) rfl (by kernel_rfl) (by rfl) (fun K hK => ?_)
  go_simp
  refine hK _ _ ?_ (fun hSg2_9 => ?_)
  · intro _; exact ⟨((far_cell hne).trans ((far_cell hne).trans (d2))), ((far_cell hne).trans ((far_cell hne).trans (d4))), ((far_cell hne).trans ((far_cell hne).trans (d5)))⟩
  replace hSg2_9 := hSg2_9 (by kernel_rfl)
  clear hK
  try simp only [Act.put, List.setIfInBounds_toArray, List.set_cons_zero, List.set_cons_succ]
  refine wpAnyG_take0 (i := 10) (oi := { dst := some 34, op := Go.Op.fieldAddr 72 (Go.Operand.tmp 3) 5, type := 0, pos := "ref.go:222", after := #[{ on := 0, ground := Go.Ground.phase }, { on := 1, ground := Go.Ground.phase }, { on := 2, ground := Go.Ground.phase }, { on := 3, ground := Go.Ground.phase }, { on := 4, ground := Go.Ground.phase }, { on := 5, ground := Go.Ground.phase }, { on := 6, ground := Go.Ground.phase }, { on := 7, ground := Go.Ground.phase }, { on := 8, ground := Go.Ground.phase }, { on := 9, ground := Go.Ground.phase }], guard := none }) (v := ?vg2_10) rfl (by kernel_rfl) (by kernel_rfl) (by kernel_rfl) (by kernel_rfl) (fun _ _ _ h => h) (fun _ => hSg2_9) (Or.inl ⟨by rfl, ?hg2_10⟩) ?_
  case hg2_10 => intro w _; go_simp; (try with_reducible rfl)
  try simp only [Act.put, List.setIfInBounds_toArray, List.set_cons_zero, List.set_cons_succ]
  refine wpAnyG_step (i := 11) (oi := { dst := none, op := Go.Op.store 3 (Go.Operand.tmp 34) (Go.Operand.tmp 31), type := 0, pos := "ref.go:222", after := #[{ on := 10, ground := Go.Ground.data }, { on := 5, ground := Go.Ground.data }, { on := 9, ground := Go.Ground.chain }, { on := 0, ground := Go.Ground.phase }, { on := 1, ground := Go.Ground.phase }, { on := 2, ground := Go.Ground.phase }, { on := 3, ground := Go.Ground.phase }, { on := 4, ground := Go.Ground.phase }, { on := 5, ground := Go.Ground.phase }, { on := 6, ground := Go.Ground.phase }, { on := 7, ground := Go.Ground.phase }, { on := 8, ground := Go.Ground.phase }, { on := 9, ground := Go.Ground.phase }], guard := none }) rfl (by kernel_rfl) (by rfl) (fun K hK => ?_)
  go_simp
  refine hK _ _ ?_ (fun hSg2_11 => ?_)
  · intro _; exact ⟨((far_cell hne).trans ((far_cell hne).trans ((far_cell hne).trans (d2)))), ((far_cell hne).trans ((far_cell hne).trans ((far_cell hne).trans (d4)))), ((far_cell hne).trans ((far_cell hne).trans ((far_cell hne).trans (d5))))⟩
  replace hSg2_11 := hSg2_11 (by kernel_rfl)
  clear hK
  try simp only [Act.put, List.setIfInBounds_toArray, List.set_cons_zero, List.set_cons_succ]
  refine wpAnyG_done (by kernel_rfl) ?_ _
  go_wp2
  refine bodyPost_ret (v := .agg #[.int .i64 3, .int .i64 a, .string ⟨p.toArray⟩, .slice none 0 0, .int .i64 f, .int .i64 n, .slice none 0 0]) ?_ rfl ?_
  · simp [results, Tryd.results51, go_sem, r0, r1, r2, r3, r4, r5, r6, rf, p0, p1, p2, p3, p4, p5, p6]
  · refine ⟨by simp [shA, fieldsOf], ?_⟩
    repeat (first | with_reducible exact HB1.out | with_reducible refine Below.drew ?_ | with_reducible refine below_set ?_ (by omega))
set_option maxRecDepth 200000 in
set_option maxHeartbeats 8000000 in
theorem rshown_9 (a : Int) (p b : List UInt8) (f n : Int) (kp : List Bool) (Ab Ak : Option Addr) (cb ck : Nat) (w : World) :
    Calls Tryd.prog 51 #[.agg (DvA ⟨9, a, p, b, f, n, kp⟩ (.slice Ab b.length cb) (.slice Ak kp.length ck))] w fun e w' => e = .returned (.agg (shA ⟨9, a, p, b, f, n, kp⟩ (.slice Ab b.length cb) (.slice Ak kp.length ck) (fieldsOf 9))) ∧ Below w.heap.size w w' := by
  obtain ⟨w1, hw1⟩ : ∃ w1, ((w.alloc (.cells #[.int .i64 9, .int .i64 a, .string ⟨p.toArray⟩, .slice Ab b.length cb, .int .i64 f, .int .i64 n, .slice Ak kp.length ck] 72)).alloc (.cells #[.int .i64 0, .int .i64 0, .string ⟨#[]⟩, .slice none 0 0, .int .i64 0, .int .i64 0, .slice none 0 0] 72)).alloc (.cells #[.int .i64 9, .int .i64 a, .string ⟨#[]⟩, .slice none 0 0, .int .i64 0, .int .i64 0, .slice none 0 0] 72) = w1 := ⟨_, rfl⟩
  have hD : Blk w1 w.heap.size 72 #[.int .i64 9, .int .i64 a, .string ⟨p.toArray⟩, .slice Ab b.length cb, .int .i64 f, .int .i64 n, .slice Ak kp.length ck] := by rw [← hw1]; exact ((Blk.new _ _ _).alloc _).alloc _
  have hR : Blk w1 (w.heap.size + 1) 72 #[.int .i64 0, .int .i64 0, .string ⟨#[]⟩, .slice none 0 0, .int .i64 0, .int .i64 0, .slice none 0 0] := by
    rw [← hw1]
    have := (Blk.new (w.alloc (.cells #[.int .i64 9, .int .i64 a, .string ⟨p.toArray⟩, .slice Ab b.length cb, .int .i64 f, .int .i64 n, .slice Ak kp.length ck] 72)) 72 #[.int .i64 0, .int .i64 0, .string ⟨#[]⟩, .slice none 0 0, .int .i64 0, .int .i64 0, .slice none 0 0]).alloc (.cells #[.int .i64 9, .int .i64 a, .string ⟨#[]⟩, .slice none 0 0, .int .i64 0, .int .i64 0, .slice none 0 0] 72)
    rw [World.size_alloc] at this
    exact this
  have hP : Blk w1 (w.heap.size + 1 + 1) 72 #[.int .i64 9, .int .i64 a, .string ⟨#[]⟩, .slice none 0 0, .int .i64 0, .int .i64 0, .slice none 0 0] := by
    rw [← hw1]
    have := Blk.new ((w.alloc (.cells #[.int .i64 9, .int .i64 a, .string ⟨p.toArray⟩, .slice Ab b.length cb, .int .i64 f, .int .i64 n, .slice Ak kp.length ck] 72)).alloc (.cells #[.int .i64 0, .int .i64 0, .string ⟨#[]⟩, .slice none 0 0, .int .i64 0, .int .i64 0, .slice none 0 0] 72)) 72 #[.int .i64 9, .int .i64 a, .string ⟨#[]⟩, .slice none 0 0, .int .i64 0, .int .i64 0, .slice none 0 0]
    rw [World.size_alloc, World.size_alloc] at this
    exact this
  have hB1 : Below w.heap.size w w1 := by rw [← hw1]; exact (((Below.refl _ w).alloc (Nat.le_refl _) _).alloc (by simp) _).alloc (by simp; omega) _
  have d0 : w1.cell? ⟨w.heap.size, 0, none⟩ = some (.int .i64 9) := hD.cell 0
  have d1 : w1.cell? ⟨w.heap.size, 1, none⟩ = some (.int .i64 a) := hD.cell 1
  have d2 : w1.cell? ⟨w.heap.size, 2, none⟩ = some (.string ⟨p.toArray⟩) := hD.cell 2
  have d3 : w1.cell? ⟨w.heap.size, 3, none⟩ = some (.slice Ab b.length cb) := hD.cell 3
  have d4 : w1.cell? ⟨w.heap.size, 4, none⟩ = some (.int .i64 f) := hD.cell 4
  have d5 : w1.cell? ⟨w.heap.size, 5, none⟩ = some (.int .i64 n) := hD.cell 5
  have d6 : w1.cell? ⟨w.heap.size, 6, none⟩ = some (.slice Ak kp.length ck) := hD.cell 6
  have p0 : w1.cell? ⟨w.heap.size + 1 + 1, 0, none⟩ = some (.int .i64 9) := hP.cell 0
  have p1 : w1.cell? ⟨w.heap.size + 1 + 1, 1, none⟩ = some (.int .i64 a) := hP.cell 1
  have p2 : w1.cell? ⟨w.heap.size + 1 + 1, 2, none⟩ = some (.string ⟨#[]⟩) := hP.cell 2
  have p3 : w1.cell? ⟨w.heap.size + 1 + 1, 3, none⟩ = some (.slice none 0 0) := hP.cell 3
  have p4 : w1.cell? ⟨w.heap.size + 1 + 1, 4, none⟩ = some (.int .i64 0) := hP.cell 4
  have p5 : w1.cell? ⟨w.heap.size + 1 + 1, 5, none⟩ = some (.int .i64 0) := hP.cell 5
  have p6 : w1.cell? ⟨w.heap.size + 1 + 1, 6, none⟩ = some (.slice none 0 0) := hP.cell 6
  have pf : ∀ i, w1.frozen? ⟨w.heap.size + 1 + 1, i, none⟩ = false := hP.free
  have r0 : w1.cell? ⟨w.heap.size + 1, 0, none⟩ = some (.int .i64 0) := hR.cell 0
  have r1 : w1.cell? ⟨w.heap.size + 1, 1, none⟩ = some (.int .i64 0) := hR.cell 1
  have r2 : w1.cell? ⟨w.heap.size + 1, 2, none⟩ = some (.string ⟨#[]⟩) := hR.cell 2
  have r3 : w1.cell? ⟨w.heap.size + 1, 3, none⟩ = some (.slice none 0 0) := hR.cell 3
  have r4 : w1.cell? ⟨w.heap.size + 1, 4, none⟩ = some (.int .i64 0) := hR.cell 4
  have r5 : w1.cell? ⟨w.heap.size + 1, 5, none⟩ = some (.int .i64 0) := hR.cell 5
  have r6 : w1.cell? ⟨w.heap.size + 1, 6, none⟩ = some (.slice none 0 0) := hR.cell 6
  have rf : ∀ i, w1.frozen? ⟨w.heap.size + 1, i, none⟩ = false := hR.free
  have hne : ¬ w.heap.size = w.heap.size + 1 + 1 := by omega
  have hne2 : ¬ w.heap.size + 1 = w.heap.size + 1 + 1 := by omega
  have HB1 := Lib.hid hB1
  have Hw1 := Lib.hid hw1
  clear hD hR hP hB1 hw1
  unfold DvA
  go_enter Tryd.func51, Tryd.ntmps51
  go_upto_region 2 with (fail)
  rw [Hw1.out]
  go_upto_region 12 with (fail)
  refine wp_region_G (fun W => W.cell? ⟨w.heap.size, 5, none⟩ = some (.int .i64 n)) [] #[false, false, false, false, false, false] 6 (by kernel_rfl) (by kernel_rfl) (by kernel_rfl) ?_
  refine wpAnyG_take0 (i := 0) (oi := { dst := some 39, op := Go.Op.fieldAddr 72 (Go.Operand.tmp 1) 5, type := 0, pos := "ref.go:224", after := #[{ on := 3, ground := Go.Ground.gcOnly Go.Departure.lateStores }], guard := none }) (v := ?vg3_0) rfl (by kernel_rfl) (by kernel_rfl) (by kernel_rfl) (by kernel_rfl) (fun _ _ _ h => h) (fun _ => d5) (Or.inl ⟨by rfl, ?hg3_0⟩) ?_
  case hg3_0 => intro w _; go_simp; (try with_reducible rfl)
  try simp only [Act.put, List.setIfInBounds_toArray, List.set_cons_zero, List.set_cons_succ]
  refine wpAnyG_take (i := 1) (oi := { dst := some 40, op := Go.Op.load 3 (Go.Operand.tmp 39), type := 3, pos := "ref.go:224", after := #[{ on := 0, ground := Go.Ground.data }, { on := 3, ground := Go.Ground.gcOnly Go.Departure.lateStores }], guard := none }) (v := ?vg3_1) [1, 4, 5] rfl (by kernel_rfl) (by kernel_rfl) (by kernel_rfl) (by kernel_rfl) (by kernel_rfl) (fun _ _ _ h => h) (fun _ => d5) (Or.inl ⟨by rfl, ?hg3_1⟩) ?_
  case hg3_1 => intro w hSw; (try dsimp only at hSw); go_simp; (try with_reducible rfl)
  try simp only [Act.put, List.setIfInBounds_toArray, List.set_cons_zero, List.set_cons_succ]
  refine wpAnyG_take0 (i := 2) (oi := { dst := some 41, op := Go.Op.fieldAddr 72 (Go.Operand.tmp 3) 1, type := 0, pos := "ref.go:224", after := #[{ on := 0, ground := Go.Ground.textOnly Go.Departure.lateStores }, { on := 1, ground := Go.Ground.textOnly Go.Departure.lateStores }], guard := none }) (v := ?vg3_2) rfl (by kernel_rfl) (by kernel_rfl) (by kernel_rfl) (by kernel_rfl) (fun _ _ _ h => h) (fun _ => d5) (Or.inl ⟨by rfl, ?hg3_2⟩) ?_
  case hg3_2 => intro w _; go_simp; (try with_reducible rfl)
  try simp only [Act.put, List.setIfInBounds_toArray, List.set_cons_zero, List.set_cons_succ]
  refine wpAnyG_step (i := 3) (oi := { dst := none, op := Go.Op.store 3 (Go.Operand.tmp 41) (Go.Operand.const (Go.Value.int Go.IntKind.i64 0)), type := 0, pos := "ref.go:224", after := #[{ on := 2, ground := Go.Ground.data }, { on := 0, ground := Go.Ground.textOnly Go.Departure.lateStores }, { on := 1, ground := Go.Ground.textOnly Go.Departure.lateStores }], guard := none }) rfl (by kernel_rfl) (by rfl) (fun K hK => ?_)
  go_simp
  refine hK _ _ ?_ (fun hSg3_3 => ?_)
  · intro _; exact ((far_cell hne).trans (d5))
  replace hSg3_3 := hSg3_3 (by kernel_rfl)
  clear hK
  try simp only [Act.put, List.setIfInBounds_toArray, List.set_cons_zero, List.set_cons_succ]
  refine wpAnyG_take0 (i := 4) (oi := { dst := some 42, op := Go.Op.fieldAddr 72 (Go.Operand.tmp 3) 5, type := 0, pos := "ref.go:224", after := #[{ on := 0, ground := Go.Ground.phase }, { on := 1, ground := Go.Ground.phase }, { on := 2, ground := Go.Ground.phase }, { on := 3, ground := Go.Ground.phase }], guard := none }) (v := ?vg3_4) rfl (by kernel_rfl) (by kernel_rfl) (by kernel_rfl) (by kernel_rfl) (fun _ _ _ h => h) (fun _ => hSg3_3) (Or.inl ⟨by rfl, ?hg3_4⟩) ?_
  case hg3_4 => intro w _; go_simp; (try with_reducible rfl)
  try simp only [Act.put, List.setIfInBounds_toArray, List.set_cons_zero, List.set_cons_succ]
  refine wpAnyG_step (i := 5) (oi := { dst := none, op := Go.Op.store 3 (Go.Operand.tmp 42) (Go.Operand.tmp 40), type := 0, pos := "ref.go:224", after := #[{ on := 4, ground := Go.Ground.data }, { on := 1, ground := Go.Ground.data }, { on := 3, ground := Go.Ground.chain }, { on := 0, ground := Go.Ground.phase }, { on := 1, ground := Go.Ground.phase }, { on := 2, ground := Go.Ground.phase }, { on := 3, ground := Go.Ground.phase }], guard := none }) rfl (by kernel_rfl) (by rfl) (fun K hK => ?_)
  go_simp
  refine hK _ _ ?_ (fun hSg3_5 => ?_)
  · intro _; exact ((far_cell hne).trans ((far_cell hne).trans (d5)))
  replace hSg3_5 := hSg3_5 (by kernel_rfl)
  clear hK
  try simp only [Act.put, List.setIfInBounds_toArray, List.set_cons_zero, List.set_cons_succ]
  refine wpAnyG_done (by kernel_rfl) ?_ _
  go_wp2
  refine bodyPost_ret (v := .agg #[.int .i64 9, .int .i64 0, .string ⟨#[]⟩, .slice none 0 0, .int .i64 0, .int .i64 n, .slice none 0 0]) ?_ rfl ?_
  · simp [results, Tryd.results51, go_sem, r0, r1, r2, r3, r4, r5, r6, rf, p0, p1, p2, p3, p4, p5, p6]
  · refine ⟨by simp [shA, fieldsOf], ?_⟩
    repeat (first | with_reducible exact HB1.out | with_reducible refine Below.drew ?_ | with_reducible refine below_set ?_ (by omega))
set_option maxRecDepth 200000 in
set_option maxHeartbeats 8000000 in
theorem rshown_10 (a : Int) (p b : List UInt8) (f n : Int) (kp : List Bool) (Ab Ak : Option Addr) (cb ck : Nat) (w : World) :
    Calls Tryd.prog 51 #[.agg (DvA ⟨10, a, p, b, f, n, kp⟩ (.slice Ab b.length cb) (.slice Ak kp.length ck))] w fun e w' => e = .returned (.agg (shA ⟨10, a, p, b, f, n, kp⟩ (.slice Ab b.length cb) (.slice Ak kp.length ck) (fieldsOf 10))) ∧ Below w.heap.size w w' := by
  obtain ⟨w1, hw1⟩ : ∃ w1, ((w.alloc (.cells #[.int .i64 10, .int .i64 a, .string ⟨p.toArray⟩, .slice Ab b.length cb, .int .i64 f, .int .i64 n, .slice Ak kp.length ck] 72)).alloc (.cells #[.int .i64 0, .int .i64 0, .string ⟨#[]⟩, .slice none 0 0, .int .i64 0, .int .i64 0, .slice none 0 0] 72)).alloc (.cells #[.int .i64 10, .int .i64 a, .string ⟨#[]⟩, .slice none 0 0, .int .i64 0, .int .i64 0, .slice none 0 0] 72) = w1 := ⟨_, rfl⟩
  have hD : Blk w1 w.heap.size 72 #[.int .i64 10, .int .i64 a, .string ⟨p.toArray⟩, .slice Ab b.length cb, .int .i64 f, .int .i64 n, .slice Ak kp.length ck] := by rw [← hw1]; exact ((Blk.new _ _ _).alloc _).alloc _
  have hR : Blk w1 (w.heap.size + 1) 72 #[.int .i64 0, .int .i64 0, .string ⟨#[]⟩, .slice none 0 0, .int .i64 0, .int .i64 0, .slice none 0 0] := by
    rw [← hw1]
    have := (Blk.new (w.alloc (.cells #[.int .i64 10, .int .i64 a, .string ⟨p.toArray⟩, .slice Ab b.length cb, .int .i64 f, .int .i64 n, .slice Ak kp.length ck] 72)) 72 #[.int .i64 0, .int .i64 0, .string ⟨#[]⟩, .slice none 0 0, .int .i64 0, .int .i64 0, .slice none 0 0]).alloc (.cells #[.int .i64 10, .int .i64 a, .string ⟨#[]⟩, .slice none 0 0, .int .i64 0, .int .i64 0, .slice none 0 0] 72)
    rw [World.size_alloc] at this
    exact this
  have hP : Blk w1 (w.heap.size + 1 + 1) 72 #[.int .i64 10, .int .i64 a, .string ⟨#[]⟩, .slice none 0 0, .int .i64 0, .int .i64 0, .slice none 0 0] := by
    rw [← hw1]
    have := Blk.new ((w.alloc (.cells #[.int .i64 10, .int .i64 a, .string ⟨p.toArray⟩, .slice Ab b.length cb, .int .i64 f, .int .i64 n, .slice Ak kp.length ck] 72)).alloc (.cells #[.int .i64 0, .int .i64 0, .string ⟨#[]⟩, .slice none 0 0, .int .i64 0, .int .i64 0, .slice none 0 0] 72)) 72 #[.int .i64 10, .int .i64 a, .string ⟨#[]⟩, .slice none 0 0, .int .i64 0, .int .i64 0, .slice none 0 0]
    rw [World.size_alloc, World.size_alloc] at this
    exact this
  have hB1 : Below w.heap.size w w1 := by rw [← hw1]; exact (((Below.refl _ w).alloc (Nat.le_refl _) _).alloc (by simp) _).alloc (by simp; omega) _
  have d0 : w1.cell? ⟨w.heap.size, 0, none⟩ = some (.int .i64 10) := hD.cell 0
  have d1 : w1.cell? ⟨w.heap.size, 1, none⟩ = some (.int .i64 a) := hD.cell 1
  have d2 : w1.cell? ⟨w.heap.size, 2, none⟩ = some (.string ⟨p.toArray⟩) := hD.cell 2
  have d3 : w1.cell? ⟨w.heap.size, 3, none⟩ = some (.slice Ab b.length cb) := hD.cell 3
  have d4 : w1.cell? ⟨w.heap.size, 4, none⟩ = some (.int .i64 f) := hD.cell 4
  have d5 : w1.cell? ⟨w.heap.size, 5, none⟩ = some (.int .i64 n) := hD.cell 5
  have d6 : w1.cell? ⟨w.heap.size, 6, none⟩ = some (.slice Ak kp.length ck) := hD.cell 6
  have p0 : w1.cell? ⟨w.heap.size + 1 + 1, 0, none⟩ = some (.int .i64 10) := hP.cell 0
  have p1 : w1.cell? ⟨w.heap.size + 1 + 1, 1, none⟩ = some (.int .i64 a) := hP.cell 1
  have p2 : w1.cell? ⟨w.heap.size + 1 + 1, 2, none⟩ = some (.string ⟨#[]⟩) := hP.cell 2
  have p3 : w1.cell? ⟨w.heap.size + 1 + 1, 3, none⟩ = some (.slice none 0 0) := hP.cell 3
  have p4 : w1.cell? ⟨w.heap.size + 1 + 1, 4, none⟩ = some (.int .i64 0) := hP.cell 4
  have p5 : w1.cell? ⟨w.heap.size + 1 + 1, 5, none⟩ = some (.int .i64 0) := hP.cell 5
  have p6 : w1.cell? ⟨w.heap.size + 1 + 1, 6, none⟩ = some (.slice none 0 0) := hP.cell 6
  have pf : ∀ i, w1.frozen? ⟨w.heap.size + 1 + 1, i, none⟩ = false := hP.free
  have r0 : w1.cell? ⟨w.heap.size + 1, 0, none⟩ = some (.int .i64 0) := hR.cell 0
  have r1 : w1.cell? ⟨w.heap.size + 1, 1, none⟩ = some (.int .i64 0) := hR.cell 1
  have r2 : w1.cell? ⟨w.heap.size + 1, 2, none⟩ = some (.string ⟨#[]⟩) := hR.cell 2
  have r3 : w1.cell? ⟨w.heap.size + 1, 3, none⟩ = some (.slice none 0 0) := hR.cell 3
  have r4 : w1.cell? ⟨w.heap.size + 1, 4, none⟩ = some (.int .i64 0) := hR.cell 4
  have r5 : w1.cell? ⟨w.heap.size + 1, 5, none⟩ = some (.int .i64 0) := hR.cell 5
  have r6 : w1.cell? ⟨w.heap.size + 1, 6, none⟩ = some (.slice none 0 0) := hR.cell 6
  have rf : ∀ i, w1.frozen? ⟨w.heap.size + 1, i, none⟩ = false := hR.free
  have hne : ¬ w.heap.size = w.heap.size + 1 + 1 := by omega
  have hne2 : ¬ w.heap.size + 1 = w.heap.size + 1 + 1 := by omega
  have HB1 := Lib.hid hB1
  have Hw1 := Lib.hid hw1
  clear hD hR hP hB1 hw1
  unfold DvA
  go_enter Tryd.func51, Tryd.ntmps51
  go_upto_region 2 with (fail)
  rw [Hw1.out]
  go_upto_region 12 with (fail)
  refine wp_region_G (fun W => W.cell? ⟨w.heap.size, 5, none⟩ = some (.int .i64 n)) [] #[false, false, false, false, false, false] 6 (by kernel_rfl) (by kernel_rfl) (by kernel_rfl) ?_
  refine wpAnyG_take0 (i := 0) (oi := { dst := some 39, op := Go.Op.fieldAddr 72 (Go.Operand.tmp 1) 5, type := 0, pos := "ref.go:224", after := #[{ on := 3, ground := Go.Ground.gcOnly Go.Departure.lateStores }], guard := none }) (v := ?vg4_0) rfl (by kernel_rfl) (by kernel_rfl) (by kernel_rfl) (by kernel_rfl) (fun _ _ _ h => h) (fun _ => d5) (Or.inl ⟨by rfl, ?hg4_0⟩) ?_
  case hg4_0 => intro w _; go_simp; (try with_reducible rfl)
  try simp only [Act.put, List.setIfInBounds_toArray, List.set_cons_zero, List.set_cons_succ]
  refine wpAnyG_take (i := 1) (oi := { dst := some 40, op := Go.Op.load 3 (Go.Operand.tmp 39), type := 3, pos := "ref.go:224", after := #[{ on := 0, ground := Go.Ground.data }, { on := 3, ground := Go.Ground.gcOnly Go.Departure.lateStores }], guard := none }) (v := ?vg4_1) [1, 4, 5] rfl (by kernel_rfl) (by kernel_rfl) (by kernel_rfl) (by kernel_rfl) (by kernel_rfl) (fun _ _ _ h => h) (fun _ => d5) (Or.inl ⟨by rfl, ?hg4_1⟩) ?_
  case hg4_1 => intro w hSw; (try dsimp only at hSw); go_simp; (try with_reducible rfl)
  try simp only [Act.put, List.setIfInBounds_toArray, List.set_cons_zero, List.set_cons_succ]
  refine wpAnyG_take0 (i := 2) (oi := { dst := some 41, op := Go.Op.fieldAddr 72 (Go.Operand.tmp 3) 1, type := 0, pos := "ref.go:224", after := #[{ on := 0, ground := Go.Ground.textOnly Go.Departure.lateStores }, { on := 1, ground := Go.Ground.textOnly Go.Departure.lateStores }], guard := none }) (v := ?vg4_2) rfl (by kernel_rfl) (by kernel_rfl) (by kernel_rfl) (by kernel_rfl) (fun _ _ _ h => h) (fun _ => d5) (Or.inl ⟨by rfl, ?hg4_2⟩) ?_
  case hg4_2 => intro w _; go_simp; (try with_reducible rfl)
  try simp only [Act.put, List.setIfInBounds_toArray, List.set_cons_zero, List.set_cons_succ]
  refine wpAnyG_step (i := 3) (oi := { dst := none, op := Go.Op.store 3 (Go.Operand.tmp 41) (Go.Operand.const (Go.Value.int Go.IntKind.i64 0)), type := 0, pos := "ref.go:224", after := #[{ on := 2, ground := Go.Ground.data }, { on := 0, ground := Go.Ground.textOnly Go.Departure.lateStores }, { on := 1, ground := Go.Ground.textOnly Go.Departure.lateStores }], guard := none }) rfl (by kernel_rfl) (by rfl) (fun K hK => ?_)
  go_simp
  refine hK _ _ ?_ (fun hSg4_3 => ?_)
  · intro _; exact ((far_cell hne).trans (d5))
  replace hSg4_3 := hSg4_3 (by kernel_rfl)
  clear hK
  try simp only [Act.put, List.setIfInBounds_toArray, List.set_cons_zero, List.set_cons_succ]
  refine wpAnyG_take0 (i := 4) (oi := { dst := some 42, op := Go.Op.fieldAddr 72 (Go.Operand.tmp 3) 5, type := 0, pos := "ref.go:224", after := #[{ on := 0, ground := Go.Ground.phase }, { on := 1, ground := Go.Ground.phase }, { on := 2, ground := Go.Ground.phase }, { on := 3, ground := Go.Ground.phase }], guard := none }) (v := ?vg4_4) rfl (by kernel_rfl) (by kernel_rfl) (by kernel_rfl) (by kernel_rfl) (fun _ _ _ h => h) (fun _ => hSg4_3) (Or.inl ⟨by rfl, ?hg4_4⟩) ?_
  case hg4_4 => intro w _; go_simp; (try with_reducible rfl)
  try simp only [Act.put, List.setIfInBounds_toArray, List.set_cons_zero, List.set_cons_succ]
  refine wpAnyG_step (i := 5) (oi := { dst := none, op := Go.Op.store 3 (Go.Operand.tmp 42) (Go.Operand.tmp 40), type := 0, pos := "ref.go:224", after := #[{ on := 4, ground := Go.Ground.data }, { on := 1, ground := Go.Ground.data }, { on := 3, ground := Go.Ground.chain }, { on := 0, ground := Go.Ground.phase }, { on := 1, ground := Go.Ground.phase }, { on := 2, ground := Go.Ground.phase }, { on := 3, ground := Go.Ground.phase }], guard := none }) rfl (by kernel_rfl) (by rfl) (fun K hK => ?_)
  go_simp
  refine hK _ _ ?_ (fun hSg4_5 => ?_)
  · intro _; exact ((far_cell hne).trans ((far_cell hne).trans (d5)))
  replace hSg4_5 := hSg4_5 (by kernel_rfl)
  clear hK
  try simp only [Act.put, List.setIfInBounds_toArray, List.set_cons_zero, List.set_cons_succ]
  refine wpAnyG_done (by kernel_rfl) ?_ _
  go_wp2
  refine bodyPost_ret (v := .agg #[.int .i64 10, .int .i64 0, .string ⟨#[]⟩, .slice none 0 0, .int .i64 0, .int .i64 n, .slice none 0 0]) ?_ rfl ?_
  · simp [results, Tryd.results51, go_sem, r0, r1, r2, r3, r4, r5, r6, rf, p0, p1, p2, p3, p4, p5, p6]
  · refine ⟨by simp [shA, fieldsOf], ?_⟩
    repeat (first | with_reducible exact HB1.out | with_reducible refine Below.drew ?_ | with_reducible refine below_set ?_ (by omega))
set_option maxRecDepth 200000 in
set_option maxHeartbeats 8000000 in
theorem rshown_11 (a : Int) (p b : List UInt8) (f n : Int) (kp : List Bool) (Ab Ak : Option Addr) (cb ck : Nat) (w : World) :
    Calls Tryd.prog 51 #[.agg (DvA ⟨11, a, p, b, f, n, kp⟩ (.slice Ab b.length cb) (.slice Ak kp.length ck))] w fun e w' => e = .returned (.agg (shA ⟨11, a, p, b, f, n, kp⟩ (.slice Ab b.length cb) (.slice Ak kp.length ck) (fieldsOf 11))) ∧ Below w.heap.size w w' := by
  obtain ⟨w1, hw1⟩ : ∃ w1, ((w.alloc (.cells #[.int .i64 11, .int .i64 a, .string ⟨p.toArray⟩, .slice Ab b.length cb, .int .i64 f, .int .i64 n, .slice Ak kp.length ck] 72)).alloc (.cells #[.int .i64 0, .int .i64 0, .string ⟨#[]⟩, .slice none 0 0, .int .i64 0, .int .i64 0, .slice none 0 0] 72)).alloc (.cells #[.int .i64 11, .int .i64 a, .string ⟨#[]⟩, .slice none 0 0, .int .i64 0, .int .i64 0, .slice none 0 0] 72) = w1 := ⟨_, rfl⟩
  have hD : Blk w1 w.heap.size 72 #[.int .i64 11, .int .i64 a, .string ⟨p.toArray⟩, .slice Ab b.length cb, .int .i64 f, .int .i64 n, .slice Ak kp.length ck] := by rw [← hw1]; exact ((Blk.new _ _ _).alloc _).alloc _
  have hR : Blk w1 (w.heap.size + 1) 72 #[.int .i64 0, .int .i64 0, .string ⟨#[]⟩, .slice none 0 0, .int .i64 0, .int .i64 0, .slice none 0 0] := by
    rw [← hw1]
    have := (Blk.new (w.alloc (.cells #[.int .i64 11, .int .i64 a, .string ⟨p.toArray⟩, .slice Ab b.length cb, .int .i64 f, .int .i64 n, .slice Ak kp.length ck] 72)) 72 #[.int .i64 0, .int .i64 0, .string ⟨#[]⟩, .slice none 0 0, .int .i64 0, .int .i64 0, .slice none 0 0]).alloc (.cells #[.int .i64 11, .int .i64 a, .string ⟨#[]⟩, .slice none 0 0, .int .i64 0, .int .i64 0, .slice none 0 0] 72)
    rw [World.size_alloc] at this
    exact this
  have hP : Blk w1 (w.heap.size + 1 + 1) 72 #[.int .i64 11, .int .i64 a, .string ⟨#[]⟩, .slice none 0 0, .int .i64 0, .int .i64 0, .slice none 0 0] := by
    rw [← hw1]
    have := Blk.new ((w.alloc (.cells #[.int .i64 11, .int .i64 a, .string ⟨p.toArray⟩, .slice Ab b.length cb, .int .i64 f, .int .i64 n, .slice Ak kp.length ck] 72)).alloc (.cells #[.int .i64 0, .int .i64 0, .string ⟨#[]⟩, .slice none 0 0, .int .i64 0, .int .i64 0, .slice none 0 0] 72)) 72 #[.int .i64 11, .int .i64 a, .string ⟨#[]⟩, .slice none 0 0, .int .i64 0, .int .i64 0, .slice none 0 0]
    rw [World.size_alloc, World.size_alloc] at this
    exact this
  have hB1 : Below w.heap.size w w1 := by rw [← hw1]; exact (((Below.refl _ w).alloc (Nat.le_refl _) _).alloc (by simp) _).alloc (by simp; omega) _
  have d0 : w1.cell? ⟨w.heap.size, 0, none⟩ = some (.int .i64 11) := hD.cell 0
  have d1 : w1.cell? ⟨w.heap.size, 1, none⟩ = some (.int .i64 a) := hD.cell 1
  have d2 : w1.cell? ⟨w.heap.size, 2, none⟩ = some (.string ⟨p.toArray⟩) := hD.cell 2
  have d3 : w1.cell? ⟨w.heap.size, 3, none⟩ = some (.slice Ab b.length cb) := hD.cell 3
  have d4 : w1.cell? ⟨w.heap.size, 4, none⟩ = some (.int .i64 f) := hD.cell 4
  have d5 : w1.cell? ⟨w.heap.size, 5, none⟩ = some (.int .i64 n) := hD.cell 5
  have d6 : w1.cell? ⟨w.heap.size, 6, none⟩ = some (.slice Ak kp.length ck) := hD.cell 6
  have p0 : w1.cell? ⟨w.heap.size + 1 + 1, 0, none⟩ = some (.int .i64 11) := hP.cell 0
  have p1 : w1.cell? ⟨w.heap.size + 1 + 1, 1, none⟩ = some (.int .i64 a) := hP.cell 1
  have p2 : w1.cell? ⟨w.heap.size + 1 + 1, 2, none⟩ = some (.string ⟨#[]⟩) := hP.cell 2
  have p3 : w1.cell? ⟨w.heap.size + 1 + 1, 3, none⟩ = some (.slice none 0 0) := hP.cell 3
  have p4 : w1.cell? ⟨w.heap.size + 1 + 1, 4, none⟩ = some (.int .i64 0) := hP.cell 4
  have p5 : w1.cell? ⟨w.heap.size + 1 + 1, 5, none⟩ = some (.int .i64 0) := hP.cell 5
  have p6 : w1.cell? ⟨w.heap.size + 1 + 1, 6, none⟩ = some (.slice none 0 0) := hP.cell 6
  have pf : ∀ i, w1.frozen? ⟨w.heap.size + 1 + 1, i, none⟩ = false := hP.free
  have r0 : w1.cell? ⟨w.heap.size + 1, 0, none⟩ = some (.int .i64 0) := hR.cell 0
  have r1 : w1.cell? ⟨w.heap.size + 1, 1, none⟩ = some (.int .i64 0) := hR.cell 1
  have r2 : w1.cell? ⟨w.heap.size + 1, 2, none⟩ = some (.string ⟨#[]⟩) := hR.cell 2
  have r3 : w1.cell? ⟨w.heap.size + 1, 3, none⟩ = some (.slice none 0 0) := hR.cell 3
  have r4 : w1.cell? ⟨w.heap.size + 1, 4, none⟩ = some (.int .i64 0) := hR.cell 4
  have r5 : w1.cell? ⟨w.heap.size + 1, 5, none⟩ = some (.int .i64 0) := hR.cell 5
  have r6 : w1.cell? ⟨w.heap.size + 1, 6, none⟩ = some (.slice none 0 0) := hR.cell 6
  have rf : ∀ i, w1.frozen? ⟨w.heap.size + 1, i, none⟩ = false := hR.free
  have hne : ¬ w.heap.size = w.heap.size + 1 + 1 := by omega
  have hne2 : ¬ w.heap.size + 1 = w.heap.size + 1 + 1 := by omega
  have HB1 := Lib.hid hB1
  have Hw1 := Lib.hid hw1
  clear hD hR hP hB1 hw1
  unfold DvA
  go_enter Tryd.func51, Tryd.ntmps51
  go_upto_region 2 with (fail)
  rw [Hw1.out]
  go_upto_region 12 with (fail)
  refine wp_region_G (fun W => W.cell? ⟨w.heap.size, 5, none⟩ = some (.int .i64 n)) [] #[false, false, false, false, false, false] 6 (by kernel_rfl) (by kernel_rfl) (by kernel_rfl) ?_
  refine wpAnyG_take0 (i := 0) (oi := { dst := some 39, op := Go.Op.fieldAddr 72 (Go.Operand.tmp 1) 5, type := 0, pos := "ref.go:224", after := #[{ on := 3, ground := Go.Ground.gcOnly Go.Departure.lateStores }], guard := none }) (v := ?vg5_0) rfl (by kernel_rfl) (by kernel_rfl) (by kernel_rfl) (by kernel_rfl) (fun _ _ _ h => h) (fun _ => d5) (Or.inl ⟨by rfl, ?hg5_0⟩) ?_
  case hg5_0 => intro w _; go_simp; (try with_reducible rfl)
  try simp only [Act.put, List.setIfInBounds_toArray, List.set_cons_zero, List.set_cons_succ]
  refine wpAnyG_take (i := 1) (oi := { dst := some 40, op := Go.Op.load 3 (Go.Operand.tmp 39), type := 3, pos := "ref.go:224", after := #[{ on := 0, ground := Go.Ground.data }, { on := 3, ground := Go.Ground.gcOnly Go.Departure.lateStores }], guard := none }) (v := ?vg5_1) [1, 4, 5] rfl (by kernel_rfl) (by kernel_rfl) (by kernel_rfl) (by kernel_rfl) (by kernel_rfl) (fun _ _ _ h => h) (fun _ => d5) (Or.inl ⟨by rfl, ?hg5_1⟩) ?_
  case hg5_1 => intro w hSw; (try dsimp only at hSw); go_simp; (try with_reducible rfl)
  try simp only [Act.put, List.setIfInBounds_toArray, List.set_cons_zero, List.set_cons_succ]
  refine wpAnyG_take0 (i := 2) (oi := { dst := some 41, op := Go.Op.fieldAddr 72 (Go.Operand.tmp 3) 1, type := 0, pos := "ref.go:224", after := #[{ on := 0, ground := Go.Ground.textOnly Go.Departure.lateStores }, { on := 1, ground := Go.Ground.textOnly Go.Departure.lateStores }], guard := none }) (v := ?vg5_2) rfl (by kernel_rfl) (by kernel_rfl) (by kernel_rfl) (by kernel_rfl) (fun _ _ _ h => h) (fun _ => d5) (Or.inl ⟨by rfl, ?hg5_2⟩) ?_
  case hg5_2 => intro w _; go_simp; (try with_reducible rfl)
  try simp only [Act.put, List.setIfInBounds_toArray, List.set_cons_zero, List.set_cons_succ]
  refine wpAnyG_step (i := 3) (oi := { dst := none, op := Go.Op.store 3 (Go.Operand.tmp 41) (Go.Operand.const (Go.Value.int Go.IntKind.i64 0)), type := 0, pos := "ref.go:224", after := #[{ on := 2, ground := Go.Ground.data }, { on := 0, ground := Go.Ground.textOnly Go.Departure.lateStores }, { on := 1, ground := Go.Ground.textOnly Go.Departure.lateStores }], guard := none }) rfl (by kernel_rfl) (by rfl) (fun K hK => ?_)
  go_simp
  refine hK _ _ ?_ (fun hSg5_3 => ?_)
  · intro _; exact ((far_cell hne).trans (d5))
  replace hSg5_3 := hSg5_3 (by kernel_rfl)
  clear hK
  try simp only [Act.put, List.setIfInBounds_toArray, List.set_cons_zero, List.set_cons_succ]
  refine wpAnyG_take0 (i := 4) (oi := { dst := some 42, op := Go.Op.fieldAddr 72 (Go.Operand.tmp 3) 5, type := 0, pos := "ref.go:224", after := #[{ on := 0, ground := Go.Ground.phase }, { on := 1, ground := Go.Ground.phase }, { on := 2, ground := Go.Ground.phase }, { on := 3, ground := Go.Ground.phase }], guard := none }) (v := ?vg5_4) rfl (by kernel_rfl) (by kernel_rfl) (by kernel_rfl) (by kernel_rfl) (fun _ _ _ h => h) (fun _ => hSg5_3) (Or.inl ⟨by rfl, ?hg5_4⟩) ?_
  case hg5_4 => intro w _; go_simp; (try with_reducible rfl)
  try simp only [Act.put, List.setIfInBounds_toArray, List.set_cons_zero, List.set_cons_succ]
  refine wpAnyG_step (i := 5) (oi := { dst := none, op := Go.Op.store 3 (Go.Operand.tmp 42) (Go.Operand.tmp 40), type := 0, pos := "ref.go:224", after := #[{ on := 4, ground := Go.Ground.data }, { on := 1, ground := Go.Ground.data }, { on := 3, ground := Go.Ground.chain }, { on := 0, ground := Go.Ground.phase }, { on := 1, ground := Go.Ground.phase }, { on := 2, ground := Go.Ground.phase }, { on := 3, ground := Go.Ground.phase }], guard := none }) rfl (by kernel_rfl) (by rfl) (fun K hK => ?_)
  go_simp
  refine hK _ _ ?_ (fun hSg5_5 => ?_)
  · intro _; exact ((far_cell hne).trans ((far_cell hne).trans (d5)))
  replace hSg5_5 := hSg5_5 (by kernel_rfl)
  clear hK
  try simp only [Act.put, List.setIfInBounds_toArray, List.set_cons_zero, List.set_cons_succ]
  refine wpAnyG_done (by kernel_rfl) ?_ _
  go_wp2
  refine bodyPost_ret (v := .agg #[.int .i64 11, .int .i64 0, .string ⟨#[]⟩, .slice none 0 0, .int .i64 0, .int .i64 n, .slice none 0 0]) ?_ rfl ?_
  · simp [results, Tryd.results51, go_sem, r0, r1, r2, r3, r4, r5, r6, rf, p0, p1, p2, p3, p4, p5, p6]
  · refine ⟨by simp [shA, fieldsOf], ?_⟩
    repeat (first | with_reducible exact HB1.out | with_reducible refine Below.drew ?_ | with_reducible refine below_set ?_ (by omega))
set_option maxRecDepth 200000 in
set_option maxHeartbeats 8000000 in
theorem rshown_12 (a : Int) (p b : List UInt8) (f n : Int) (kp : List Bool) (Ab Ak : Option Addr) (cb ck : Nat) (w : World) :
    Calls Tryd.prog 51 #[.agg (DvA ⟨12, a, p, b, f, n, kp⟩ (.slice Ab b.length cb) (.slice Ak kp.length ck))] w fun e w' => e = .returned (.agg (shA ⟨12, a, p, b, f, n, kp⟩ (.slice Ab b.length cb) (.slice Ak kp.length ck) (fieldsOf 12))) ∧ Below w.heap.size w w' := by
  obtain ⟨w1, hw1⟩ : ∃ w1, ((w.alloc (.cells #[.int .i64 12, .int .i64 a, .string ⟨p.toArray⟩, .slice Ab b.length cb, .int .i64 f, .int .i64 n, .slice Ak kp.length ck] 72)).alloc (.cells #[.int .i64 0, .int .i64 0, .string ⟨#[]⟩, .slice none 0 0, .int .i64 0, .int .i64 0, .slice none 0 0] 72)).alloc (.cells #[.int .i64 12, .int .i64 a, .string ⟨#[]⟩, .slice none 0 0, .int .i64 0, .int .i64 0, .slice none 0 0] 72) = w1 := ⟨_, rfl⟩
  have hD : Blk w1 w.heap.size 72 #[.int .i64 12, .int .i64 a, .string ⟨p.toArray⟩, .slice Ab b.length cb, .int .i64 f, .int .i64 n, .slice Ak kp.length ck] := by rw [← hw1]; exact ((Blk.new _ _ _).alloc _).alloc _
  have hR : Blk w1 (w.heap.size + 1) 72 #[.int .i64 0, .int .i64 0, .string ⟨#[]⟩, .slice none 0 0, .int .i64 0, .int .i64 0, .slice none 0 0] := by
    rw [← hw1]
    have := (Blk.new (w.alloc (.cells #[.int .i64 12, .int .i64 a, .string ⟨p.toArray⟩, .slice Ab b.length cb, .int .i64 f, .int .i64 n, .slice Ak kp.length ck] 72)) 72 #[.int .i64 0, .int .i64 0, .string ⟨#[]⟩, .slice none 0 0, .int .i64 0, .int .i64 0, .slice none 0 0]).alloc (.cells #[.int .i64 12, .int .i64 a, .string ⟨#[]⟩, .slice none 0 0, .int .i64 0, .int .i64 0, .slice none 0 0] 72)
    rw [World.size_alloc] at this
    exact this
  have hP : Blk w1 (w.heap.size + 1 + 1) 72 #[.int .i64 12, .int .i64 a, .string ⟨#[]⟩, .slice none 0 0, .int .i64 0, .int .i64 0, .slice none 0 0] := by
    rw [← hw1]
    have := Blk.new ((w.alloc (.cells #[.int .i64 12, .int .i64 a, .string ⟨p.toArray⟩, .slice Ab b.length cb, .int .i64 f, .int .i64 n, .slice Ak kp.length ck] 72)).alloc (.cells #[.int .i64 0, .int .i64 0, .string ⟨#[]⟩, .slice none 0 0, .int .i64 0, .int .i64 0, .slice none 0 0] 72)) 72 #[.int .i64 12, .int .i64 a, .string ⟨#[]⟩, .slice none 0 0, .int .i64 0, .int .i64 0, .slice none 0 0]
    rw [World.size_alloc, World.size_alloc] at this
    exact this
  have hB1 : Below w.heap.size w w1 := by rw [← hw1]; exact (((Below.refl _ w).alloc (Nat.le_refl _) _).alloc (by simp) _).alloc (by simp; omega) _
  have d0 : w1.cell? ⟨w.heap.size, 0, none⟩ = some (.int .i64 12) := hD.cell 0
  have d1 : w1.cell? ⟨w.heap.size, 1, none⟩ = some (.int .i64 a) := hD.cell 1
  have d2 : w1.cell? ⟨w.heap.size, 2, none⟩ = some (.string ⟨p.toArray⟩) := hD.cell 2
  have d3 : w1.cell? ⟨w.heap.size, 3, none⟩ = some (.slice Ab b.length cb) := hD.cell 3
  have d4 : w1.cell? ⟨w.heap.size, 4, none⟩ = some (.int .i64 f) := hD.cell 4
  have d5 : w1.cell? ⟨w.heap.size, 5, none⟩ = some (.int .i64 n) := hD.cell 5
  have d6 : w1.cell? ⟨w.heap.size, 6, none⟩ = some (.slice Ak kp.length ck) := hD.cell 6
  have p0 : w1.cell? ⟨w.heap.size + 1 + 1, 0, none⟩ = some (.int .i64 12) := hP.cell 0
  have p1 : w1.cell? ⟨w.heap.size + 1 + 1, 1, none⟩ = some (.int .i64 a) := hP.cell 1
  have p2 : w1.cell? ⟨w.heap.size + 1 + 1, 2, none⟩ = some (.string ⟨#[]⟩) := hP.cell 2
  have p3 : w1.cell? ⟨w.heap.size + 1 + 1, 3, none⟩ = some (.slice none 0 0) := hP.cell 3
  have p4 : w1.cell? ⟨w.heap.size + 1 + 1, 4, none⟩ = some (.int .i64 0) := hP.cell 4
  have p5 : w1.cell? ⟨w.heap.size + 1 + 1, 5, none⟩ = some (.int .i64 0) := hP.cell 5
  have p6 : w1.cell? ⟨w.heap.size + 1 + 1, 6, none⟩ = some (.slice none 0 0) := hP.cell 6
  have pf : ∀ i, w1.frozen? ⟨w.heap.size + 1 + 1, i, none⟩ = false := hP.free
  have r0 : w1.cell? ⟨w.heap.size + 1, 0, none⟩ = some (.int .i64 0) := hR.cell 0
  have r1 : w1.cell? ⟨w.heap.size + 1, 1, none⟩ = some (.int .i64 0) := hR.cell 1
  have r2 : w1.cell? ⟨w.heap.size + 1, 2, none⟩ = some (.string ⟨#[]⟩) := hR.cell 2
  have r3 : w1.cell? ⟨w.heap.size + 1, 3, none⟩ = some (.slice none 0 0) := hR.cell 3
  have r4 : w1.cell? ⟨w.heap.size + 1, 4, none⟩ = some (.int .i64 0) := hR.cell 4
  have r5 : w1.cell? ⟨w.heap.size + 1, 5, none⟩ = some (.int .i64 0) := hR.cell 5
  have r6 : w1.cell? ⟨w.heap.size + 1, 6, none⟩ = some (.slice none 0 0) := hR.cell 6
  have rf : ∀ i, w1.frozen? ⟨w.heap.size + 1, i, none⟩ = false := hR.free
  have hne : ¬ w.heap.size = w.heap.size + 1 + 1 := by omega
  have hne2 : ¬ w.heap.size + 1 = w.heap.size + 1 + 1 := by omega
  have HB1 := Lib.hid hB1
  have Hw1 := Lib.hid hw1
  clear hD hR hP hB1 hw1
  unfold DvA
  go_enter Tryd.func51, Tryd.ntmps51
  go_upto_region 2 with (fail)
  rw [Hw1.out]
  go_wp2
  refine bodyPost_ret (v := .agg #[.int .i64 12, .int .i64 a, .string ⟨#[]⟩, .slice Ab b.length cb, .int .i64 0, .int .i64 0, .slice none 0 0]) ?_ rfl ?_
  · simp [results, Tryd.results51, go_sem, r0, r1, r2, r3, r4, r5, r6, rf, p0, p1, p2, p3, p4, p5, p6]
  · refine ⟨by simp [shA, fieldsOf], ?_⟩
    repeat (first | with_reducible exact HB1.out | with_reducible refine Below.drew ?_ | with_reducible refine below_set ?_ (by omega))
set_option maxRecDepth 200000 in
set_option maxHeartbeats 8000000 in
theorem rshown_13 (a : Int) (p b : List UInt8) (f n : Int) (kp : List Bool) (Ab Ak : Option Addr) (cb ck : Nat) (w : World) :
    Calls Tryd.prog 51 #[.agg (DvA ⟨13, a, p, b, f, n, kp⟩ (.slice Ab b.length cb) (.slice Ak kp.length ck))] w fun e w' => e = .returned (.agg (shA ⟨13, a, p, b, f, n, kp⟩ (.slice Ab b.length cb) (.slice Ak kp.length ck) (fieldsOf 13))) ∧ Below w.heap.size w w' := by
  obtain ⟨w1, hw1⟩ : ∃ w1, ((w.alloc (.cells #[.int .i64 13, .int .i64 a, .string ⟨p.toArray⟩, .slice Ab b.length cb, .int .i64 f, .int .i64 n, .slice Ak kp.length ck] 72)).alloc (.cells #[.int .i64 0, .int .i64 0, .string ⟨#[]⟩, .slice none 0 0, .int .i64 0, .int .i64 0, .slice none 0 0] 72)).alloc (.cells #[.int .i64 13, .int .i64 a, .string ⟨#[]⟩, .slice none 0 0, .int .i64 0, .int .i64 0, .slice none 0 0] 72) = w1 := ⟨_, rfl⟩
  have hD : Blk w1 w.heap.size 72 #[.int .i64 13, .int .i64 a, .string ⟨p.toArray⟩, .slice Ab b.length cb, .int .i64 f, .int .i64 n, .slice Ak kp.length ck] := by rw [← hw1]; exact ((Blk.new _ _ _).alloc _).alloc _
  have hR : Blk w1 (w.heap.size + 1) 72 #[.int .i64 0, .int .i64 0, .string ⟨#[]⟩, .slice none 0 0, .int .i64 0, .int .i64 0, .slice none 0 0] := by
    rw [← hw1]
    have := (Blk.new (w.alloc (.cells #[.int .i64 13, .int .i64 a, .string ⟨p.toArray⟩, .slice Ab b.length cb, .int .i64 f, .int .i64 n, .slice Ak kp.length ck] 72)) 72 #[.int .i64 0, .int .i64 0, .string ⟨#[]⟩, .slice none 0 0, .int .i64 0, .int .i64 0, .slice none 0 0]).alloc (.cells #[.int .i64 13, .int .i64 a, .string ⟨#[]⟩, .slice none 0 0, .int .i64 0, .int .i64 0, .slice none 0 0] 72)
    rw [World.size_alloc] at this
    exact this
  have hP : Blk w1 (w.heap.size + 1 + 1) 72 #[.int .i64 13, .int .i64 a, .string ⟨#[]⟩, .slice none 0 0, .int .i64 0, .int .i64 0, .slice none 0 0] := by
    rw [← hw1]
    have := Blk.new ((w.alloc (.cells #[.int .i64 13, .int .i64 a, .string ⟨p.toArray⟩, .slice Ab b.length cb, .int .i64 f, .int .i64 n, .slice Ak kp.length ck] 72)).alloc (.cells #[.int .i64 0, .int .i64 0, .string ⟨#[]⟩, .slice none 0 0, .int .i64 0, .int .i64 0, .slice none 0 0] 72)) 72 #[.int .i64 13, .int .i64 a, .string ⟨#[]⟩, .slice none 0 0, .int .i64 0, .int .i64 0, .slice none 0 0]
    rw [World.size_alloc, World.size_alloc] at this
    exact this
  have hB1 : Below w.heap.size w w1 := by rw [← hw1]; exact (((Below.refl _ w).alloc (Nat.le_refl _) _).alloc (by simp) _).alloc (by simp; omega) _
  have d0 : w1.cell? ⟨w.heap.size, 0, none⟩ = some (.int .i64 13) := hD.cell 0
  have d1 : w1.cell? ⟨w.heap.size, 1, none⟩ = some (.int .i64 a) := hD.cell 1
  have d2 : w1.cell? ⟨w.heap.size, 2, none⟩ = some (.string ⟨p.toArray⟩) := hD.cell 2
  have d3 : w1.cell? ⟨w.heap.size, 3, none⟩ = some (.slice Ab b.length cb) := hD.cell 3
  have d4 : w1.cell? ⟨w.heap.size, 4, none⟩ = some (.int .i64 f) := hD.cell 4
  have d5 : w1.cell? ⟨w.heap.size, 5, none⟩ = some (.int .i64 n) := hD.cell 5
  have d6 : w1.cell? ⟨w.heap.size, 6, none⟩ = some (.slice Ak kp.length ck) := hD.cell 6
  have p0 : w1.cell? ⟨w.heap.size + 1 + 1, 0, none⟩ = some (.int .i64 13) := hP.cell 0
  have p1 : w1.cell? ⟨w.heap.size + 1 + 1, 1, none⟩ = some (.int .i64 a) := hP.cell 1
  have p2 : w1.cell? ⟨w.heap.size + 1 + 1, 2, none⟩ = some (.string ⟨#[]⟩) := hP.cell 2
  have p3 : w1.cell? ⟨w.heap.size + 1 + 1, 3, none⟩ = some (.slice none 0 0) := hP.cell 3
  have p4 : w1.cell? ⟨w.heap.size + 1 + 1, 4, none⟩ = some (.int .i64 0) := hP.cell 4
  have p5 : w1.cell? ⟨w.heap.size + 1 + 1, 5, none⟩ = some (.int .i64 0) := hP.cell 5
  have p6 : w1.cell? ⟨w.heap.size + 1 + 1, 6, none⟩ = some (.slice none 0 0) := hP.cell 6
  have pf : ∀ i, w1.frozen? ⟨w.heap.size + 1 + 1, i, none⟩ = false := hP.free
  have r0 : w1.cell? ⟨w.heap.size + 1, 0, none⟩ = some (.int .i64 0) := hR.cell 0
  have r1 : w1.cell? ⟨w.heap.size + 1, 1, none⟩ = some (.int .i64 0) := hR.cell 1
  have r2 : w1.cell? ⟨w.heap.size + 1, 2, none⟩ = some (.string ⟨#[]⟩) := hR.cell 2
  have r3 : w1.cell? ⟨w.heap.size + 1, 3, none⟩ = some (.slice none 0 0) := hR.cell 3
  have r4 : w1.cell? ⟨w.heap.size + 1, 4, none⟩ = some (.int .i64 0) := hR.cell 4
  have r5 : w1.cell? ⟨w.heap.size + 1, 5, none⟩ = some (.int .i64 0) := hR.cell 5
  have r6 : w1.cell? ⟨w.heap.size + 1, 6, none⟩ = some (.slice none 0 0) := hR.cell 6
  have rf : ∀ i, w1.frozen? ⟨w.heap.size + 1, i, none⟩ = false := hR.free
  have hne : ¬ w.heap.size = w.heap.size + 1 + 1 := by omega
  have hne2 : ¬ w.heap.size + 1 = w.heap.size + 1 + 1 := by omega
  have HB1 := Lib.hid hB1
  have Hw1 := Lib.hid hw1
  clear hD hR hP hB1 hw1
  unfold DvA
  go_enter Tryd.func51, Tryd.ntmps51
  go_upto_region 2 with (fail)
  rw [Hw1.out]
  go_wp2
  refine bodyPost_ret (v := .agg #[.int .i64 13, .int .i64 a, .string ⟨#[]⟩, .slice none 0 0, .int .i64 0, .int .i64 n, .slice none 0 0]) ?_ rfl ?_
  · simp [results, Tryd.results51, go_sem, r0, r1, r2, r3, r4, r5, r6, rf, p0, p1, p2, p3, p4, p5, p6]
  · refine ⟨by simp [shA, fieldsOf], ?_⟩
    repeat (first | with_reducible exact HB1.out | with_reducible refine Below.drew ?_ | with_reducible refine below_set ?_ (by omega))
set_option maxRecDepth 200000 in
set_option maxHeartbeats 8000000 in
theorem rshown_16 (a : Int) (p b : List UInt8) (f n : Int) (kp : List Bool) (Ab Ak : Option Addr) (cb ck : Nat) (w : World) :
    Calls Tryd.prog 51 #[.agg (DvA ⟨16, a, p, b, f, n, kp⟩ (.slice Ab b.length cb) (.slice Ak kp.length ck))] w fun e w' => e = .returned (.agg (shA ⟨16, a, p, b, f, n, kp⟩ (.slice Ab b.length cb) (.slice Ak kp.length ck) (fieldsOf 16))) ∧ Below w.heap.size w w' := by
  obtain ⟨w1, hw1⟩ : ∃ w1, ((w.alloc (.cells #[.int .i64 16, .int .i64 a, .string ⟨p.toArray⟩, .slice Ab b.length cb, .int .i64 f, .int .i64 n, .slice Ak kp.length ck] 72)).alloc (.cells #[.int .i64 0, .int .i64 0, .string ⟨#[]⟩, .slice none 0 0, .int .i64 0, .int .i64 0, .slice none 0 0] 72)).alloc (.cells #[.int .i64 16, .int .i64 a, .string ⟨#[]⟩, .slice none 0 0, .int .i64 0, .int .i64 0, .slice none 0 0] 72) = w1 := ⟨_, rfl⟩
  have hD : Blk w1 w.heap.size 72 #[.int .i64 16, .int .i64 a, .string ⟨p.toArray⟩, .slice Ab b.length cb, .int .i64 f, .int .i64 n, .slice Ak kp.length ck] := by rw [← hw1]; exact ((Blk.new _ _ _).alloc _).alloc _
  have hR : Blk w1 (w.heap.size + 1) 72 #[.int .i64 0, .int .i64 0, .string ⟨#[]⟩, .slice none 0 0, .int .i64 0, .int .i64 0, .slice none 0 0] := by
    rw [← hw1]
    have := (Blk.new (w.alloc (.cells #[.int .i64 16, .int .i64 a, .string ⟨p.toArray⟩, .slice Ab b.length cb, .int .i64 f, .int .i64 n, .slice Ak kp.length ck] 72)) 72 #[.int .i64 0, .int .i64 0, .string ⟨#[]⟩, .slice none 0 0, .int .i64 0, .int .i64 0, .slice none 0 0]).alloc (.cells #[.int .i64 16, .int .i64 a, .string ⟨#[]⟩, .slice none 0 0, .int .i64 0, .int .i64 0, .slice none 0 0] 72)
    rw [World.size_alloc] at this
    exact this
  have hP : Blk w1 (w.heap.size + 1 + 1) 72 #[.int .i64 16, .int .i64 a, .string ⟨#[]⟩, .slice none 0 0, .int .i64 0, .int .i64 0, .slice none 0 0] := by
    rw [← hw1]
    have := Blk.new ((w.alloc (.cells #[.int .i64 16, .int .i64 a, .string ⟨p.toArray⟩, .slice Ab b.length cb, .int .i64 f, .int .i64 n, .slice Ak kp.length ck] 72)).alloc (.cells #[.int .i64 0, .int .i64 0, .string ⟨#[]⟩, .slice none 0 0, .int .i64 0, .int .i64 0, .slice none 0 0] 72)) 72 #[.int .i64 16, .int .i64 a, .string ⟨#[]⟩, .slice none 0 0, .int .i64 0, .int .i64 0, .slice none 0 0]
    rw [World.size_alloc, World.size_alloc] at this
    exact this
  have hB1 : Below w.heap.size w w1 := by rw [← hw1]; exact (((Below.refl _ w).alloc (Nat.le_refl _) _).alloc (by simp) _).alloc (by simp; omega) _
  have d0 : w1.cell? ⟨w.heap.size, 0, none⟩ = some (.int .i64 16) := hD.cell 0
  have d1 : w1.cell? ⟨w.heap.size, 1, none⟩ = some (.int .i64 a) := hD.cell 1
  have d2 : w1.cell? ⟨w.heap.size, 2, none⟩ = some (.string ⟨p.toArray⟩) := hD.cell 2
  have d3 : w1.cell? ⟨w.heap.size, 3, none⟩ = some (.slice Ab b.length cb) := hD.cell 3
  have d4 : w1.cell? ⟨w.heap.size, 4, none⟩ = some (.int .i64 f) := hD.cell 4
  have d5 : w1.cell? ⟨w.heap.size, 5, none⟩ = some (.int .i64 n) := hD.cell 5
  have d6 : w1.cell? ⟨w.heap.size, 6, none⟩ = some (.slice Ak kp.length ck) := hD.cell 6
  have p0 : w1.cell? ⟨w.heap.size + 1 + 1, 0, none⟩ = some (.int .i64 16) := hP.cell 0
  have p1 : w1.cell? ⟨w.heap.size + 1 + 1, 1, none⟩ = some (.int .i64 a) := hP.cell 1
  have p2 : w1.cell? ⟨w.heap.size + 1 + 1, 2, none⟩ = some (.string ⟨#[]⟩) := hP.cell 2
  have p3 : w1.cell? ⟨w.heap.size + 1 + 1, 3, none⟩ = some (.slice none 0 0) := hP.cell 3
  have p4 : w1.cell? ⟨w.heap.size + 1 + 1, 4, none⟩ = some (.int .i64 0) := hP.cell 4
  have p5 : w1.cell? ⟨w.heap.size + 1 + 1, 5, none⟩ = some (.int .i64 0) := hP.cell 5
  have p6 : w1.cell? ⟨w.heap.size + 1 + 1, 6, none⟩ = some (.slice none 0 0) := hP.cell 6
  have pf : ∀ i, w1.frozen? ⟨w.heap.size + 1 + 1, i, none⟩ = false := hP.free
  have r0 : w1.cell? ⟨w.heap.size + 1, 0, none⟩ = some (.int .i64 0) := hR.cell 0
  have r1 : w1.cell? ⟨w.heap.size + 1, 1, none⟩ = some (.int .i64 0) := hR.cell 1
  have r2 : w1.cell? ⟨w.heap.size + 1, 2, none⟩ = some (.string ⟨#[]⟩) := hR.cell 2
  have r3 : w1.cell? ⟨w.heap.size + 1, 3, none⟩ = some (.slice none 0 0) := hR.cell 3
  have r4 : w1.cell? ⟨w.heap.size + 1, 4, none⟩ = some (.int .i64 0) := hR.cell 4
  have r5 : w1.cell? ⟨w.heap.size + 1, 5, none⟩ = some (.int .i64 0) := hR.cell 5
  have r6 : w1.cell? ⟨w.heap.size + 1, 6, none⟩ = some (.slice none 0 0) := hR.cell 6
  have rf : ∀ i, w1.frozen? ⟨w.heap.size + 1, i, none⟩ = false := hR.free
  have hne : ¬ w.heap.size = w.heap.size + 1 + 1 := by omega
  have hne2 : ¬ w.heap.size + 1 = w.heap.size + 1 + 1 := by omega
  have HB1 := Lib.hid hB1
  have Hw1 := Lib.hid hw1
  clear hD hR hP hB1 hw1
  unfold DvA
  go_enter Tryd.func51, Tryd.ntmps51
  go_upto_region 2 with (fail)
  rw [Hw1.out]
  go_wp2
  refine bodyPost_ret (v := .agg #[.int .i64 16, .int .i64 a, .string ⟨#[]⟩, .slice none 0 0, .int .i64 0, .int .i64 n, .slice none 0 0]) ?_ rfl ?_
  · simp [results, Tryd.results51, go_sem, r0, r1, r2, r3, r4, r5, r6, rf, p0, p1, p2, p3, p4, p5, p6]
  · refine ⟨by simp [shA, fieldsOf], ?_⟩
    repeat (first | with_reducible exact HB1.out | with_reducible refine Below.drew ?_ | with_reducible refine below_set ?_ (by omega))
set_option maxRecDepth 200000 in
set_option maxHeartbeats 8000000 in
theorem rshown_14 (a : Int) (p b : List UInt8) (f n : Int) (kp : List Bool) (Ab Ak : Option Addr) (cb ck : Nat) (w : World) :
    Calls Tryd.prog 51 #[.agg (DvA ⟨14, a, p, b, f, n, kp⟩ (.slice Ab b.length cb) (.slice Ak kp.length ck))] w fun e w' => e = .returned (.agg (shA ⟨14, a, p, b, f, n, kp⟩ (.slice Ab b.length cb) (.slice Ak kp.length ck) (fieldsOf 14))) ∧ Below w.heap.size w w' := by
  obtain ⟨w1, hw1⟩ : ∃ w1, ((w.alloc (.cells #[.int .i64 14, .int .i64 a, .string ⟨p.toArray⟩, .slice Ab b.length cb, .int .i64 f, .int .i64 n, .slice Ak kp.length ck] 72)).alloc (.cells #[.int .i64 0, .int .i64 0, .string ⟨#[]⟩, .slice none 0 0, .int .i64 0, .int .i64 0, .slice none 0 0] 72)).alloc (.cells #[.int .i64 14, .int .i64 a, .string ⟨#[]⟩, .slice none 0 0, .int .i64 0, .int .i64 0, .slice none 0 0] 72) = w1 := ⟨_, rfl⟩
  have hD : Blk w1 w.heap.size 72 #[.int .i64 14, .int .i64 a, .string ⟨p.toArray⟩, .slice Ab b.length cb, .int .i64 f, .int .i64 n, .slice Ak kp.length ck] := by rw [← hw1]; exact ((Blk.new _ _ _).alloc _).alloc _
  have hR : Blk w1 (w.heap.size + 1) 72 #[.int .i64 0, .int .i64 0, .string ⟨#[]⟩, .slice none 0 0, .int .i64 0, .int .i64 0, .slice none 0 0] := by
    rw [← hw1]
    have := (Blk.new (w.alloc (.cells #[.int .i64 14, .int .i64 a, .string ⟨p.toArray⟩, .slice Ab b.length cb, .int .i64 f, .int .i64 n, .slice Ak kp.length ck] 72)) 72 #[.int .i64 0, .int .i64 0, .string ⟨#[]⟩, .slice none 0 0, .int .i64 0, .int .i64 0, .slice none 0 0]).alloc (.cells #[.int .i64 14, .int .i64 a, .string ⟨#[]⟩, .slice none 0 0, .int .i64 0, .int .i64 0, .slice none 0 0] 72)
    rw [World.size_alloc] at this
    exact this
  have hP : Blk w1 (w.heap.size + 1 + 1) 72 #[.int .i64 14, .int .i64 a, .string ⟨#[]⟩, .slice none 0 0, .int .i64 0, .int .i64 0, .slice none 0 0] := by
    rw [← hw1]
    have := Blk.new ((w.alloc (.cells #[.int .i64 14, .int .i64 a, .string ⟨p.toArray⟩, .slice Ab b.length cb, .int .i64 f, .int .i64 n, .slice Ak kp.length ck] 72)).alloc (.cells #[.int .i64 0, .int .i64 0, .string ⟨#[]⟩, .slice none 0 0, .int .i64 0, .int .i64 0, .slice none 0 0] 72)) 72 #[.int .i64 14, .int .i64 a, .string ⟨#[]⟩, .slice none 0 0, .int .i64 0, .int .i64 0, .slice none 0 0]
    rw [World.size_alloc, World.size_alloc] at this
    exact this
  have hB1 : Below w.heap.size w w1 := by rw [← hw1]; exact (((Below.refl _ w).alloc (Nat.le_refl _) _).alloc (by simp) _).alloc (by simp; omega) _
  have d0 : w1.cell? ⟨w.heap.size, 0, none⟩ = some (.int .i64 14) := hD.cell 0
  have d1 : w1.cell? ⟨w.heap.size, 1, none⟩ = some (.int .i64 a) := hD.cell 1
  have d2 : w1.cell? ⟨w.heap.size, 2, none⟩ = some (.string ⟨p.toArray⟩) := hD.cell 2
  have d3 : w1.cell? ⟨w.heap.size, 3, none⟩ = some (.slice Ab b.length cb) := hD.cell 3
  have d4 : w1.cell? ⟨w.heap.size, 4, none⟩ = some (.int .i64 f) := hD.cell 4
  have d5 : w1.cell? ⟨w.heap.size, 5, none⟩ = some (.int .i64 n) := hD.cell 5
  have d6 : w1.cell? ⟨w.heap.size, 6, none⟩ = some (.slice Ak kp.length ck) := hD.cell 6
  have p0 : w1.cell? ⟨w.heap.size + 1 + 1, 0, none⟩ = some (.int .i64 14) := hP.cell 0
  have p1 : w1.cell? ⟨w.heap.size + 1 + 1, 1, none⟩ = some (.int .i64 a) := hP.cell 1
  have p2 : w1.cell? ⟨w.heap.size + 1 + 1, 2, none⟩ = some (.string ⟨#[]⟩) := hP.cell 2
  have p3 : w1.cell? ⟨w.heap.size + 1 + 1, 3, none⟩ = some (.slice none 0 0) := hP.cell 3
  have p4 : w1.cell? ⟨w.heap.size + 1 + 1, 4, none⟩ = some (.int .i64 0) := hP.cell 4
  have p5 : w1.cell? ⟨w.heap.size + 1 + 1, 5, none⟩ = some (.int .i64 0) := hP.cell 5
  have p6 : w1.cell? ⟨w.heap.size + 1 + 1, 6, none⟩ = some (.slice none 0 0) := hP.cell 6
  have pf : ∀ i, w1.frozen? ⟨w.heap.size + 1 + 1, i, none⟩ = false := hP.free
  have r0 : w1.cell? ⟨w.heap.size + 1, 0, none⟩ = some (.int .i64 0) := hR.cell 0
  have r1 : w1.cell? ⟨w.heap.size + 1, 1, none⟩ = some (.int .i64 0) := hR.cell 1
  have r2 : w1.cell? ⟨w.heap.size + 1, 2, none⟩ = some (.string ⟨#[]⟩) := hR.cell 2
  have r3 : w1.cell? ⟨w.heap.size + 1, 3, none⟩ = some (.slice none 0 0) := hR.cell 3
  have r4 : w1.cell? ⟨w.heap.size + 1, 4, none⟩ = some (.int .i64 0) := hR.cell 4
  have r5 : w1.cell? ⟨w.heap.size + 1, 5, none⟩ = some (.int .i64 0) := hR.cell 5
  have r6 : w1.cell? ⟨w.heap.size + 1, 6, none⟩ = some (.slice none 0 0) := hR.cell 6
  have rf : ∀ i, w1.frozen? ⟨w.heap.size + 1, i, none⟩ = false := hR.free
  have hne : ¬ w.heap.size = w.heap.size + 1 + 1 := by omega
  have hne2 : ¬ w.heap.size + 1 = w.heap.size + 1 + 1 := by omega
  have HB1 := Lib.hid hB1
  have Hw1 := Lib.hid hw1
  clear hD hR hP hB1 hw1
  unfold DvA
  go_enter Tryd.func51, Tryd.ntmps51
  go_upto_region 2 with (fail)
  rw [Hw1.out]
  go_upto_region 19 with (fail)
  refine wp_region_G (fun W => W.cell? ⟨w.heap.size, 4, none⟩ = some (.int .i64 f) ∧ W.cell? ⟨w.heap.size, 5, none⟩ = some (.int .i64 n) ∧ W.cell? ⟨w.heap.size, 6, none⟩ = some (.slice Ak kp.length ck)) [] #[false, false, false, false, false, false, false, false, false, false, false, false] 12 (by kernel_rfl) (by kernel_rfl) (by kernel_rfl) ?_
  refine wpAnyG_take0 (i := 0) (oi := { dst := some 56, op := Go.Op.fieldAddr 72 (Go.Operand.tmp 1) 4, type := 0, pos := "ref.go:230", after := #[], guard := none }) (v := ?vg6_0) rfl (by kernel_rfl) (by kernel_rfl) (by kernel_rfl) (by kernel_rfl) (fun _ _ _ h => h) (fun _ => ⟨d4, d5, d6⟩) (Or.inl ⟨by rfl, ?hg6_0⟩) ?_
  case hg6_0 => intro w _; go_simp; (try with_reducible rfl)
  try simp only [Act.put, List.setIfInBounds_toArray, List.set_cons_zero, List.set_cons_succ]
  refine wpAnyG_take (i := 1) (oi := { dst := some 57, op := Go.Op.load 3 (Go.Operand.tmp 56), type := 3, pos := "ref.go:230", after := #[{ on := 0, ground := Go.Ground.data }], guard := none }) (v := ?vg6_1) [1, 6, 7, 8, 9, 10, 11] rfl (by kernel_rfl) (by kernel_rfl) (by kernel_rfl) (by kernel_rfl) (by kernel_rfl) (fun _ _ _ h => h) (fun _ => ⟨d4, d5, d6⟩) (Or.inl ⟨by rfl, ?hg6_1⟩) ?_
  case hg6_1 => intro w hSw; (try dsimp only at hSw); go_simp; (try with_reducible rfl)
  try simp only [Act.put, List.setIfInBounds_toArray, List.set_cons_zero, List.set_cons_succ]
  refine wpAnyG_take0 (i := 2) (oi := { dst := some 58, op := Go.Op.fieldAddr 72 (Go.Operand.tmp 1) 5, type := 0, pos := "ref.go:230", after := #[{ on := 7, ground := Go.Ground.gcOnly Go.Departure.lateStores }], guard := none }) (v := ?vg6_2) rfl (by kernel_rfl) (by kernel_rfl) (by kernel_rfl) (by kernel_rfl) (fun _ _ _ h => h) (fun _ => ⟨d4, d5, d6⟩) (Or.inl ⟨by rfl, ?hg6_2⟩) ?_
  case hg6_2 => intro w _; go_simp; (try with_reducible rfl)
  try simp only [Act.put, List.setIfInBounds_toArray, List.set_cons_zero, List.set_cons_succ]
  refine wpAnyG_take (i := 3) (oi := { dst := some 59, op := Go.Op.load 3 (Go.Operand.tmp 58), type := 3, pos := "ref.go:230", after := #[{ on := 2, ground := Go.Ground.data }, { on := 7, ground := Go.Ground.gcOnly Go.Departure.lateStores }], guard := none }) (v := ?vg6_3) [3, 8, 9, 10, 11] rfl (by kernel_rfl) (by kernel_rfl) (by kernel_rfl) (by kernel_rfl) (by kernel_rfl) (fun _ _ _ h => h) (fun _ => ⟨d4, d5, d6⟩) (Or.inl ⟨by rfl, ?hg6_3⟩) ?_
  case hg6_3 => intro w hSw; (try dsimp only at hSw); go_simp; (try with_reducible rfl)
  try simp only [Act.put, List.setIfInBounds_toArray, List.set_cons_zero, List.set_cons_succ]
  refine wpAnyG_take0 (i := 4) (oi := { dst := some 60, op := Go.Op.fieldAddr 72 (Go.Operand.tmp 1) 6, type := 0, pos := "ref.go:230", after := #[{ on := 9, ground := Go.Ground.gcOnly Go.Departure.lateStores }], guard := none }) (v := ?vg6_4) rfl (by kernel_rfl) (by kernel_rfl) (by kernel_rfl) (by kernel_rfl) (fun _ _ _ h => h) (fun _ => ⟨d4, d5, d6⟩) (Or.inl ⟨by rfl, ?hg6_4⟩) ?_
  case hg6_4 => intro w _; go_simp; (try with_reducible rfl)
  try simp only [Act.put, List.setIfInBounds_toArray, List.set_cons_zero, List.set_cons_succ]
  refine wpAnyG_take (i := 5) (oi := { dst := some 61, op := Go.Op.load 70 (Go.Operand.tmp 60), type := 70, pos := "ref.go:230", after := #[{ on := 4, ground := Go.Ground.data }, { on := 9, ground := Go.Ground.gcOnly Go.Departure.lateStores }], guard := none }) (v := ?vg6_5) [5, 10, 11] rfl (by kernel_rfl) (by kernel_rfl) (by kernel_rfl) (by kernel_rfl) (by kernel_rfl) (fun _ _ _ h => h) (fun _ => ⟨d4, d5, d6⟩) (Or.inl ⟨by rfl, ?hg6_5⟩) ?_
  case hg6_5 => intro w hSw; (try dsimp only at hSw); go_simp; (try with_reducible rfl)
  try simp only [Act.put, List.setIfInBounds_toArray, List.set_cons_zero, List.set_cons_succ]
  refine wpAnyG_take0 (i := 6) (oi := { dst := some 62, op := Go.Op.fieldAddr 72 (Go.Operand.tmp 3) 4, type := 0, pos := "ref.go:230", after := #[{ on := 0, ground := Go.Ground.phase }, { on := 1, ground := Go.Ground.phase }, { on := 2, ground := Go.Ground.textOnly Go.Departure.lateStores }, { on := 3, ground := Go.Ground.textOnly Go.Departure.lateStores }, { on := 4, ground := Go.Ground.textOnly Go.Departure.lateStores }, { on := 5, ground := Go.Ground.textOnly Go.Departure.lateStores }], guard := none }) (v := ?vg6_6) rfl (by kernel_rfl) (by kernel_rfl) (by kernel_rfl) (by kernel_rfl) (fun _ _ _ h => h) (fun _ => ⟨d4, d5, d6⟩) (Or.inl ⟨by rfl, ?hg6_6⟩) ?_
  case hg6_6 => intro w _; go_simp; (try with_reducible rfl)
  try simp only [Act.put, List.setIfInBounds_toArray, List.set_cons_zero, List.set_cons_succ]
  refine wpAnyG_step (i := 7) (oi := { dst := none, op := Go.Op.store 3 (Go.Operand.tmp 62) (Go.Operand.tmp 57), type := 0, pos := "ref.go:230", after := #[{ on := 6, ground := Go.Ground.data }, { on := 1, ground := Go.Ground.data }, { on := 0, ground := Go.Ground.phase }, { on := 1, ground := Go.Ground.phase }, { on := 2, ground := Go.Ground.textOnly Go.Departure.lateStores }, { on := 3, ground := Go.Ground.textOnly Go.Departure.lateStores }, { on := 4, ground := Go.Ground.textOnly Go.Departure.lateStores }, { on := 5, ground := Go.Ground.textOnly Go.Departure.lateStores }], guard := none }) rfl (by kernel_rfl) (by rfl) (fun K hK => ?_)
  go_simp
  refine hK _ _ ?_ (fun hSg6_7 => ?_)
  · intro _; exact ⟨((far_cell hne).trans (d4)), ((far_cell hne).trans (d5)), ((far_cell hne).trans (d6))⟩
  replace hSg6_7 := hSg6_7 (by kernel_rfl)
  clear hK
  try simp only [Act.put, List.setIfInBounds_toArray, List.set_cons_zero, List.set_cons_succ]
  refine wpAnyG_take0 (i := 8) (oi := { dst := some 63, op := Go.Op.fieldAddr 72 (Go.Operand.tmp 3) 5, type := 0, pos := "ref.go:230", after := #[{ on := 0, ground := Go.Ground.phase }, { on := 1, ground := Go.Ground.phase }, { on := 2, ground := Go.Ground.phase }, { on := 3, ground := Go.Ground.phase }, { on := 4, ground := Go.Ground.textOnly Go.Departure.lateStores }, { on := 5, ground := Go.Ground.textOnly Go.Departure.lateStores }, { on := 6, ground := Go.Ground.phase }, { on := 7, ground := Go.Ground.phase }], guard := none }) (v := ?vg6_8) rfl (by kernel_rfl) (by kernel_rfl) (by kernel_rfl) (by kernel_rfl) (fun _ _ _ h => h) (fun _ => hSg6_7) (Or.inl ⟨by rfl, ?hg6_8⟩) ?_
  case hg6_8 => intro w _; go_simp; (try with_reducible rfl)
  try simp only [Act.put, List.setIfInBounds_toArray, List.set_cons_zero, List.set_cons_succ]
  refine wpAnyG_step (i := 9) (oi := { dst := none, op := Go.Op.store 3 (Go.Operand.tmp 63) (Go.Operand.tmp 59), type := 0, pos := "ref.go:230", after := #[{ on := 8, ground := Go.Ground.data }, { on := 3, ground := Go.Ground.data }, { on := 7, ground := Go.Ground.chain }, { on := 0, ground := Go.Ground.phase }, { on := 1, ground := Go.Ground.phase }, { on := 2, ground := Go.Ground.phase }, { on := 3, ground := Go.Ground.phase }, { on := 4, ground := Go.Ground.textOnly Go.Departure.lateStores }, { on := 5, ground := Go.Ground.textOnly Go.Departure.lateStores }, { on := 6, ground := Go.Ground.phase }, { on := 7, ground := Go.Ground.phase }], guard := none }) rfl (by kernel_rfl) (by rfl) (fun K hK => ?_)
  go_simp
  refine hK _ _ ?_ (fun hSg6_9 => ?_)
  · intro _; exact ⟨((far_cell hne).trans ((far_cell hne).trans (d4))), ((far_cell hne).trans ((far_cell hne).trans (d5))), ((far_cell hne).trans ((far_cell hne).trans (d6)))⟩
  replace hSg6_9 := hSg6_9 (by kernel_rfl)
  clear hK
  try simp only [Act.put, List.setIfInBounds_toArray, List.set_cons_zero, List.set_cons_succ]
  refine wpAnyG_take0 (i := 10) (oi := { dst := some 64, op := Go.Op.fieldAddr 72 (Go.Operand.tmp 3) 6, type := 0, pos := "ref.go:230", after := #[{ on := 0, ground := Go.Ground.phase }, { on := 1, ground := Go.Ground.phase }, { on := 2, ground := Go.Ground.phase }, { on := 3, ground := Go.Ground.phase }, { on := 4, ground := Go.Ground.phase }, { on := 5, ground := Go.Ground.phase }, { on := 6, ground := Go.Ground.phase }, { on := 7, ground := Go.Ground.phase }, { on := 8, ground := Go.Ground.phase }, { on := 9, ground := Go.Ground.phase }], guard := none }) (v := ?vg6_10) rfl (by kernel_rfl) (by kernel_rfl) (by kernel_rfl) (by kernel_rfl) (fun _ _ _ h => h) (fun _ => hSg6_9) (Or.inl ⟨by rfl, ?hg6_10⟩) ?_
  case hg6_10 => intro w _; go_simp; (try with_reducible rfl)
  try simp only [Act.put, List.setIfInBounds_toArray, List.set_cons_zero, List.set_cons_succ]
  refine wpAnyG_step (i := 11) (oi := { dst := none, op := Go.Op.store 70 (Go.Operand.tmp 64) (Go.Operand.tmp 61), type := 0, pos := "ref.go:230", after := #[{ on := 10, ground := Go.Ground.data }, { on := 5, ground := Go.Ground.data }, { on := 9, ground := Go.Ground.chain }, { on := 0, ground := Go.Ground.phase }, { on := 1, ground := Go.Ground.phase }, { on := 2, ground := Go.Ground.phase }, { on := 3, ground := Go.Ground.phase }, { on := 4, ground := Go.Ground.phase }, { on := 5, ground := Go.Ground.phase }, { on := 6, ground := Go.Ground.phase }, { on := 7, ground := Go.Ground.phase }, { on := 8, ground := Go.Ground.phase }, { on := 9, ground := Go.Ground.phase }], guard := none }) rfl (by kernel_rfl) (by rfl) (fun K hK => ?_)
  go_simp
  refine hK _ _ ?_ (fun hSg6_11 => ?_)
  · intro _; exact ⟨((far_cell hne).trans ((far_cell hne).trans ((far_cell hne).trans (d4)))), ((far_cell hne).trans ((far_cell hne).trans ((far_cell hne).trans (d5)))), ((far_cell hne).trans ((far_cell hne).trans ((far_cell hne).trans (d6))))⟩
  replace hSg6_11 := hSg6_11 (by kernel_rfl)
  clear hK
  try simp only [Act.put, List.setIfInBounds_toArray, List.set_cons_zero, List.set_cons_succ]
  refine wpAnyG_done (by kernel_rfl) ?_ _
  go_wp2
  refine bodyPost_ret (v := .agg #[.int .i64 14, .int .i64 a, .string ⟨#[]⟩, .slice none 0 0, .int .i64 f, .int .i64 n, .slice Ak kp.length ck]) ?_ rfl ?_
  · simp [results, Tryd.results51, go_sem, r0, r1, r2, r3, r4, r5, r6, rf, p0, p1, p2, p3, p4, p5, p6]
  · refine ⟨by simp [shA, fieldsOf], ?_⟩
    repeat (first | with_reducible exact HB1.out | with_reducible refine Below.drew ?_ | with_reducible refine below_set ?_ (by omega))
set_option maxRecDepth 200000 in
set_option maxHeartbeats 8000000 in
theorem rshown_15 (a : Int) (p b : List UInt8) (f n : Int) (kp : List Bool) (Ab Ak : Option Addr) (cb ck : Nat) (w : World) :
    Calls Tryd.prog 51 #[.agg (DvA ⟨15, a, p, b, f, n, kp⟩ (.slice Ab b.length cb) (.slice Ak kp.length ck))] w fun e w' => e = .returned (.agg (shA ⟨15, a, p, b, f, n, kp⟩ (.slice Ab b.length cb) (.slice Ak kp.length ck) (fieldsOf 15))) ∧ Below w.heap.size w w' := by
  obtain ⟨w1, hw1⟩ : ∃ w1, ((w.alloc (.cells #[.int .i64 15, .int .i64 a, .string ⟨p.toArray⟩, .slice Ab b.length cb, .int .i64 f, .int .i64 n, .slice Ak kp.length ck] 72)).alloc (.cells #[.int .i64 0, .int .i64 0, .string ⟨#[]⟩, .slice none 0 0, .int .i64 0, .int .i64 0, .slice none 0 0] 72)).alloc (.cells #[.int .i64 15, .int .i64 a, .string ⟨#[]⟩, .slice none 0 0, .int .i64 0, .int .i64 0, .slice none 0 0] 72) = w1 := ⟨_, rfl⟩
  have hD : Blk w1 w.heap.size 72 #[.int .i64 15, .int .i64 a, .string ⟨p.toArray⟩, .slice Ab b.length cb, .int .i64 f, .int .i64 n, .slice Ak kp.length ck] := by rw [← hw1]; exact ((Blk.new _ _ _).alloc _).alloc _
  have hR : Blk w1 (w.heap.size + 1) 72 #[.int .i64 0, .int .i64 0, .string ⟨#[]⟩, .slice none 0 0, .int .i64 0, .int .i64 0, .slice none 0 0] := by
    rw [← hw1]
    have := (Blk.new (w.alloc (.cells #[.int .i64 15, .int .i64 a, .string ⟨p.toArray⟩, .slice Ab b.length cb, .int .i64 f, .int .i64 n, .slice Ak kp.length ck] 72)) 72 #[.int .i64 0, .int .i64 0, .string ⟨#[]⟩, .slice none 0 0, .int .i64 0, .int .i64 0, .slice none 0 0]).alloc (.cells #[.int .i64 15, .int .i64 a, .string ⟨#[]⟩, .slice none 0 0, .int .i64 0, .int .i64 0, .slice none 0 0] 72)
    rw [World.size_alloc] at this
    exact this
  have hP : Blk w1 (w.heap.size + 1 + 1) 72 #[.int .i64 15, .int .i64 a, .string ⟨#[]⟩, .slice none 0 0, .int .i64 0, .int .i64 0, .slice none 0 0] := by
    rw [← hw1]
    have := Blk.new ((w.alloc (.cells #[.int .i64 15, .int .i64 a, .string ⟨p.toArray⟩, .slice Ab b.length cb, .int .i64 f, .int .i64 n, .slice Ak kp.length ck] 72)).alloc (.cells #[.int .i64 0, .int .i64 0, .string ⟨#[]⟩, .slice none 0 0, .int .i64 0, .int .i64 0, .slice none 0 0] 72)) 72 #[.int .i64 15, .int .i64 a, .string ⟨#[]⟩, .slice none 0 0, .int .i64 0, .int .i64 0, .slice none 0 0]
    rw [World.size_alloc, World.size_alloc] at this
    exact this
  have hB1 : Below w.heap.size w w1 := by rw [← hw1]; exact (((Below.refl _ w).alloc (Nat.le_refl _) _).alloc (by simp) _).alloc (by simp; omega) _
  have d0 : w1.cell? ⟨w.heap.size, 0, none⟩ = some (.int .i64 15) := hD.cell 0
  have d1 : w1.cell? ⟨w.heap.size, 1, none⟩ = some (.int .i64 a) := hD.cell 1
  have d2 : w1.cell? ⟨w.heap.size, 2, none⟩ = some (.string ⟨p.toArray⟩) := hD.cell 2
  have d3 : w1.cell? ⟨w.heap.size, 3, none⟩ = some (.slice Ab b.length cb) := hD.cell 3
  have d4 : w1.cell? ⟨w.heap.size, 4, none⟩ = some (.int .i64 f) := hD.cell 4
  have d5 : w1.cell? ⟨w.heap.size, 5, none⟩ = some (.int .i64 n) := hD.cell 5
  have d6 : w1.cell? ⟨w.heap.size, 6, none⟩ = some (.slice Ak kp.length ck) := hD.cell 6
  have p0 : w1.cell? ⟨w.heap.size + 1 + 1, 0, none⟩ = some (.int .i64 15) := hP.cell 0
  have p1 : w1.cell? ⟨w.heap.size + 1 + 1, 1, none⟩ = some (.int .i64 a) := hP.cell 1
  have p2 : w1.cell? ⟨w.heap.size + 1 + 1, 2, none⟩ = some (.string ⟨#[]⟩) := hP.cell 2
  have p3 : w1.cell? ⟨w.heap.size + 1 + 1, 3, none⟩ = some (.slice none 0 0) := hP.cell 3
  have p4 : w1.cell? ⟨w.heap.size + 1 + 1, 4, none⟩ = some (.int .i64 0) := hP.cell 4
  have p5 : w1.cell? ⟨w.heap.size + 1 + 1, 5, none⟩ = some (.int .i64 0) := hP.cell 5
  have p6 : w1.cell? ⟨w.heap.size + 1 + 1, 6, none⟩ = some (.slice none 0 0) := hP.cell 6
  have pf : ∀ i, w1.frozen? ⟨w.heap.size + 1 + 1, i, none⟩ = false := hP.free
  have r0 : w1.cell? ⟨w.heap.size + 1, 0, none⟩ = some (.int .i64 0) := hR.cell 0
  have r1 : w1.cell? ⟨w.heap.size + 1, 1, none⟩ = some (.int .i64 0) := hR.cell 1
  have r2 : w1.cell? ⟨w.heap.size + 1, 2, none⟩ = some (.string ⟨#[]⟩) := hR.cell 2
  have r3 : w1.cell? ⟨w.heap.size + 1, 3, none⟩ = some (.slice none 0 0) := hR.cell 3
  have r4 : w1.cell? ⟨w.heap.size + 1, 4, none⟩ = some (.int .i64 0) := hR.cell 4
  have r5 : w1.cell? ⟨w.heap.size + 1, 5, none⟩ = some (.int .i64 0) := hR.cell 5
  have r6 : w1.cell? ⟨w.heap.size + 1, 6, none⟩ = some (.slice none 0 0) := hR.cell 6
  have rf : ∀ i, w1.frozen? ⟨w.heap.size + 1, i, none⟩ = false := hR.free
  have hne : ¬ w.heap.size = w.heap.size + 1 + 1 := by omega
  have hne2 : ¬ w.heap.size + 1 = w.heap.size + 1 + 1 := by omega
  have HB1 := Lib.hid hB1
  have Hw1 := Lib.hid hw1
  clear hD hR hP hB1 hw1
  unfold DvA
  go_enter Tryd.func51, Tryd.ntmps51
  go_upto_region 2 with (fail)
  rw [Hw1.out]
  go_upto_region 21 with (fail)
  refine wp_region_G (fun W => W.cell? ⟨w.heap.size, 4, none⟩ = some (.int .i64 f) ∧ W.cell? ⟨w.heap.size, 5, none⟩ = some (.int .i64 n) ∧ W.cell? ⟨w.heap.size, 3, none⟩ = some (.slice Ab b.length cb)) [] #[false, false, false, false, false, false, false, false, false, false, false, false] 12 (by kernel_rfl) (by kernel_rfl) (by kernel_rfl) ?_
  refine wpAnyG_take0 (i := 0) (oi := { dst := some 67, op := Go.Op.fieldAddr 72 (Go.Operand.tmp 1) 4, type := 0, pos := "ref.go:232", after := #[], guard := none }) (v := ?vg7_0) rfl (by kernel_rfl) (by kernel_rfl) (by kernel_rfl) (by kernel_rfl) (fun _ _ _ h => h) (fun _ => ⟨d4, d5, d3⟩) (Or.inl ⟨by rfl, ?hg7_0⟩) ?_
  case hg7_0 => intro w _; go_simp; (try with_reducible rfl)
  try simp only [Act.put, List.setIfInBounds_toArray, List.set_cons_zero, List.set_cons_succ]
  refine wpAnyG_take (i := 1) (oi := { dst := some 68, op := Go.Op.load 3 (Go.Operand.tmp 67), type := 3, pos := "ref.go:232", after := #[{ on := 0, ground := Go.Ground.data }], guard := none }) (v := ?vg7_1) [1, 6, 7, 8, 9, 10, 11] rfl (by kernel_rfl) (by kernel_rfl) (by kernel_rfl) (by kernel_rfl) (by kernel_rfl) (fun _ _ _ h => h) (fun _ => ⟨d4, d5, d3⟩) (Or.inl ⟨by rfl, ?hg7_1⟩) ?_
  case hg7_1 => intro w hSw; (try dsimp only at hSw); go_simp; (try with_reducible rfl)
  try simp only [Act.put, List.setIfInBounds_toArray, List.set_cons_zero, List.set_cons_succ]
  refine wpAnyG_take0 (i := 2) (oi := { dst := some 69, op := Go.Op.fieldAddr 72 (Go.Operand.tmp 1) 5, type := 0, pos := "ref.go:232", after := #[{ on := 7, ground := Go.Ground.gcOnly Go.Departure.lateStores }], guard := none }) (v := ?vg7_2) rfl (by kernel_rfl) (by kernel_rfl) (by kernel_rfl) (by kernel_rfl) (fun _ _ _ h => h) (fun _ => ⟨d4, d5, d3⟩) (Or.inl ⟨by rfl, ?hg7_2⟩) ?_
  case hg7_2 => intro w _; go_simp; (try with_reducible rfl)
  try simp only [Act.put, List.setIfInBounds_toArray, List.set_cons_zero, List.set_cons_succ]
  refine wpAnyG_take (i := 3) (oi := { dst := some 70, op := Go.Op.load 3 (Go.Operand.tmp 69), type := 3, pos := "ref.go:232", after := #[{ on := 2, ground := Go.Ground.data }, { on := 7, ground := Go.Ground.gcOnly Go.Departure.lateStores }], guard := none }) (v := ?vg7_3) [3, 8, 9, 10, 11] rfl (by kernel_rfl) (by kernel_rfl) (by kernel_rfl) (by kernel_rfl) (by kernel_rfl) (fun _ _ _ h => h) (fun _ => ⟨d4, d5, d3⟩) (Or.inl ⟨by rfl, ?hg7_3⟩) ?_
  case hg7_3 => intro w hSw; (try dsimp only at hSw); go_simp; (try with_reducible rfl)
  try simp only [Act.put, List.setIfInBounds_toArray, List.set_cons_zero, List.set_cons_succ]
  refine wpAnyG_take0 (i := 4) (oi := { dst := some 71, op := Go.Op.fieldAddr 72 (Go.Operand.tmp 1) 3, type := 0, pos := "ref.go:232", after := #[{ on := 9, ground := Go.Ground.gcOnly Go.Departure.lateStores }], guard := none }) (v := ?vg7_4) rfl (by kernel_rfl) (by kernel_rfl) (by kernel_rfl) (by kernel_rfl) (fun _ _ _ h => h) (fun _ => ⟨d4, d5, d3⟩) (Or.inl ⟨by rfl, ?hg7_4⟩) ?_
  case hg7_4 => intro w _; go_simp; (try with_reducible rfl)
  try simp only [Act.put, List.setIfInBounds_toArray, List.set_cons_zero, List.set_cons_succ]
  refine wpAnyG_take (i := 5) (oi := { dst := some 72, op := Go.Op.load 22 (Go.Operand.tmp 71), type := 22, pos := "ref.go:232", after := #[{ on := 4, ground := Go.Ground.data }, { on := 9, ground := Go.Ground.gcOnly Go.Departure.lateStores }], guard := none }) (v := ?vg7_5) [5, 10, 11] rfl (by kernel_rfl) (by kernel_rfl) (by kernel_rfl) (by kernel_rfl) (by kernel_rfl) (fun _ _ _ h => h) (fun _ => ⟨d4, d5, d3⟩) (Or.inl ⟨by rfl, ?hg7_5⟩) ?_
  case hg7_5 => intro w hSw; (try dsimp only at hSw); go_simp; (try with_reducible rfl)
  try simp only [Act.put, List.setIfInBounds_toArray, List.set_cons_zero, List.set_cons_succ]
  refine wpAnyG_take0 (i := 6) (oi := { dst := some 73, op := Go.Op.fieldAddr 72 (Go.Operand.tmp 3) 4, type := 0, pos := "ref.go:232", after := #[{ on := 0, ground := Go.Ground.phase }, { on := 1, ground := Go.Ground.phase }, { on := 2, ground := Go.Ground.textOnly Go.Departure.lateStores }, { on := 3, ground := Go.Ground.textOnly Go.Departure.lateStores }, { on := 4, ground := Go.Ground.textOnly Go.Departure.lateStores }, { on := 5, ground := Go.Ground.textOnly Go.Departure.lateStores }], guard := none }) (v := ?vg7_6) rfl (by kernel_rfl) (by kernel_rfl) (by kernel_rfl) (by kernel_rfl) (fun _ _ _ h => h) (fun _ => ⟨d4, d5, d3⟩) (Or.inl ⟨by rfl, ?hg7_6⟩) ?_
  case hg7_6 => intro w _; go_simp; (try with_reducible rfl)
  try simp only [Act.put, List.setIfInBounds_toArray, List.set_cons_zero, List.set_cons_succ]
  refine wpAnyG_step (i := 7) (oi := { dst := none, op := Go.Op.store 3 (Go.Operand.tmp 73) (Go.Operand.tmp 68), type := 0, pos := "ref.go:232", after := #[{ on := 6, ground := Go.Ground.data }, { on := 1, ground := Go.Ground.data }, { on := 0, ground := Go.Ground.phase }, { on := 1, ground := Go.Ground.phase }, { on := 2, ground := Go.Ground.textOnly Go.Departure.lateStores }, { on := 3, ground := Go.Ground.textOnly Go.Departure.lateStores }, { on := 4, ground := Go.Ground.textOnly Go.Departure.lateStores }, { on := 5, ground := Go.Ground.textOnly Go.Departure.lateStores }], guard := none }) rfl (by kernel_rfl) (by rfl) (fun K hK => ?_)
  go_simp
  refine hK _ _ ?_ (fun hSg7_7 => ?_)
  · intro _; exact ⟨((far_cell hne).trans (d4)), ((far_cell hne).trans (d5)), ((far_cell hne).trans (d3))⟩
  replace hSg7_7 := hSg7_7 (by kernel_rfl)
  clear hK
  try simp only [Act.put, List.setIfInBounds_toArray, List.set_cons_zero, List.set_cons_succ]
  refine wpAnyG_take0 (i := 8) (oi := { dst := some 74, op := Go.Op.fieldAddr 72 (Go.Operand.tmp 3) 5, type := 0, pos := "ref.go:232", after := #[{ on := 0, ground := Go.Ground.phase }, { on := 1, ground := Go.Ground.phase }, { on := 2, ground := Go.Ground.phase }, { on := 3, ground := Go.Ground.phase }, { on := 4, ground := Go.Ground.textOnly Go.Departure.lateStores }, { on := 5, ground := Go.Ground.textOnly Go.Departure.lateStores }, { on := 6, ground := Go.Ground.phase }, { on := 7, ground := Go.Ground.phase }], guard := none }) (v := ?vg7_8) rfl (by kernel_rfl) (by kernel_rfl) (by kernel_rfl) (by kernel_rfl) (fun _ _ _ h => h) (fun _ => hSg7_7) (Or.inl ⟨by rfl, ?hg7_8⟩) ?_
  case hg7_8 => intro w _; go_simp; (try with_reducible rfl)
  try simp only [Act.put, List.setIfInBounds_toArray, List.set_cons_zero, List.set_cons_succ]
  refine wpAnyG_step (i := 9) (oi := { dst := none, op := Go.Op.store 3 (Go.Operand.tmp 74) (Go.Operand.tmp 70), type := 0, pos := "ref.go:232", after := #[{ on := 8, ground := Go.Ground.data }, { on := 3, ground := Go.Ground.data }, { on := 7, ground := Go.Ground.chain }, { on := 0, ground := Go.Ground.phase }, { on := 1, ground := Go.Ground.phase }, { on := 2, ground := Go.Ground.phase }, { on := 3, ground := Go.Ground.phase }, { on := 4, ground := Go.Ground.textOnly Go.Departure.lateStores }, { on := 5, ground := Go.Ground.textOnly Go.Departure.lateStores }, { on := 6, ground := Go.Ground.phase }, { on := 7, ground := Go.Ground.phase }], guard := none }) rfl (by kernel_rfl) (by rfl) (fun K hK => ?_)
  go_simp
  refine hK _ _ ?_ (fun hSg7_9 => ?_)
  · intro _; exact ⟨((far_cell hne).trans ((far_cell hne).trans (d4))), ((far_cell hne).trans ((far_cell hne).trans (d5))), ((far_cell hne).trans ((far_cell hne).trans (d3)))⟩
  replace hSg7_9 := hSg7_9 (by kernel_rfl)
  clear hK
  try simp only [Act.put, List.setIfInBounds_toArray, List.set_cons_zero, List.set_cons_succ]
  refine wpAnyG_take0 (i := 10) (oi := { dst := some 75, op := Go.Op.fieldAddr 72 (Go.Operand.tmp 3) 3, type := 0, pos := "ref.go:232", after := #[{ on := 0, ground := Go.Ground.phase }, { on := 1, ground := Go.Ground.phase }, { on := 2, ground := Go.Ground.phase }, { on := 3, ground := Go.Ground.phase }, { on := 4, ground := Go.Ground.phase }, { on := 5, ground := Go.Ground.phase }, { on := 6, ground := Go.Ground.phase }, { on := 7, ground := Go.Ground.phase }, { on := 8, ground := Go.Ground.phase }, { on := 9, ground := Go.Ground.phase }], guard := none }) (v := ?vg7_10) rfl (by kernel_rfl) (by kernel_rfl) (by kernel_rfl) (by kernel_rfl) (fun _ _ _ h => h) (fun _ => hSg7_9) (Or.inl ⟨by rfl, ?hg7_10⟩) ?_
  case hg7_10 => intro w _; go_simp; (try with_reducible rfl)
  try simp only [Act.put, List.setIfInBounds_toArray, List.set_cons_zero, List.set_cons_succ]
  refine wpAnyG_step (i := 11) (oi := { dst := none, op := Go.Op.store 22 (Go.Operand.tmp 75) (Go.Operand.tmp 72), type := 0, pos := "ref.go:232", after := #[{ on := 10, ground := Go.Ground.data }, { on := 5, ground := Go.Ground.data }, { on := 9, ground := Go.Ground.chain }, { on := 0, ground := Go.Ground.phase }, { on := 1, ground := Go.Ground.phase }, { on := 2, ground := Go.Ground.phase }, { on := 3, ground := Go.Ground.phase }, { on := 4, ground := Go.Ground.phase }, { on := 5, ground := Go.Ground.phase }, { on := 6, ground := Go.Ground.phase }, { on := 7, ground := Go.Ground.phase }, { on := 8, ground := Go.Ground.phase }, { on := 9, ground := Go.Ground.phase }], guard := none }) rfl (by kernel_rfl) (by rfl) (fun K hK => ?_)
  go_simp
  refine hK _ _ ?_ (fun hSg7_11 => ?_)
  · intro _; exact ⟨((far_cell hne).trans ((far_cell hne).trans ((far_cell hne).trans (d4)))), ((far_cell hne).trans ((far_cell hne).trans ((far_cell hne).trans (d5)))), ((far_cell hne).trans ((far_cell hne).trans ((far_cell hne).trans (d3))))⟩
  replace hSg7_11 := hSg7_11 (by kernel_rfl)
  clear hK
  try simp only [Act.put, List.setIfInBounds_toArray, List.set_cons_zero, List.set_cons_succ]
  refine wpAnyG_done (by kernel_rfl) ?_ _
  go_wp2
  refine bodyPost_ret (v := .agg #[.int .i64 15, .int .i64 a, .string ⟨#[]⟩, .slice Ab b.length cb, .int .i64 f, .int .i64 n, .slice none 0 0]) ?_ rfl ?_
  · simp [results, Tryd.results51, go_sem, r0, r1, r2, r3, r4, r5, r6, rf, p0, p1, p2, p3, p4, p5, p6]
  · refine ⟨by simp [shA, fieldsOf], ?_⟩
    repeat (first | with_reducible exact HB1.out | with_reducible refine Below.drew ?_ | with_reducible refine below_set ?_ (by omega))
set_option maxRecDepth 200000 in
set_option maxHeartbeats 8000000 in
theorem rshown_other (kd a : Int) (p b : List UInt8) (f n : Int) (kp : List Bool) (Ab Ak : Option Addr) (cb ck : Nat) (w : World) (hk : ¬ (kd = 1 ∨ kd = 2 ∨ kd = 3 ∨ kd = 9 ∨ kd = 10 ∨ kd = 11 ∨ kd = 12 ∨ kd = 13 ∨ kd = 14 ∨ kd = 15 ∨ kd = 16)) :
    Calls Tryd.prog 51 #[.agg (DvA ⟨kd, a, p, b, f, n, kp⟩ (.slice Ab b.length cb) (.slice Ak kp.length ck))] w fun e w' => e = .returned (.agg (shA ⟨kd, a, p, b, f, n, kp⟩ (.slice Ab b.length cb) (.slice Ak kp.length ck) (fieldsOf kd))) ∧ Below w.heap.size w w' := by
  have hfo := fields_other kd hk
  have n1 : (kd == 1) = false := by rw [beq_eq_false_iff_ne]; omega
  have n2 : (kd == 2) = false := by rw [beq_eq_false_iff_ne]; omega
  have n3 : (kd == 3) = false := by rw [beq_eq_false_iff_ne]; omega
  have n9 : (kd == 9) = false := by rw [beq_eq_false_iff_ne]; omega
  have n10 : (kd == 10) = false := by rw [beq_eq_false_iff_ne]; omega
  have n11 : (kd == 11) = false := by rw [beq_eq_false_iff_ne]; omega
  have n12 : (kd == 12) = false := by rw [beq_eq_false_iff_ne]; omega
  have n13 : (kd == 13) = false := by rw [beq_eq_false_iff_ne]; omega
  have n14 : (kd == 14) = false := by rw [beq_eq_false_iff_ne]; omega
  have n15 : (kd == 15) = false := by rw [beq_eq_false_iff_ne]; omega
  have n16 : (kd == 16) = false := by rw [beq_eq_false_iff_ne]; omega
  have Hfo := Lib.hid hfo
  clear hfo hk
  obtain ⟨w1, hw1⟩ : ∃ w1, ((w.alloc (.cells #[.int .i64 kd, .int .i64 a, .string ⟨p.toArray⟩, .slice Ab b.length cb, .int .i64 f, .int .i64 n, .slice Ak kp.length ck] 72)).alloc (.cells #[.int .i64 0, .int .i64 0, .string ⟨#[]⟩, .slice none 0 0, .int .i64 0, .int .i64 0, .slice none 0 0] 72)).alloc (.cells #[.int .i64 kd, .int .i64 a, .string ⟨#[]⟩, .slice none 0 0, .int .i64 0, .int .i64 0, .slice none 0 0] 72) = w1 := ⟨_, rfl⟩
  have hD : Blk w1 w.heap.size 72 #[.int .i64 kd, .int .i64 a, .string ⟨p.toArray⟩, .slice Ab b.length cb, .int .i64 f, .int .i64 n, .slice Ak kp.length ck] := by rw [← hw1]; exact ((Blk.new _ _ _).alloc _).alloc _
  have hR : Blk w1 (w.heap.size + 1) 72 #[.int .i64 0, .int .i64 0, .string ⟨#[]⟩, .slice none 0 0, .int .i64 0, .int .i64 0, .slice none 0 0] := by
    rw [← hw1]
    have := (Blk.new (w.alloc (.cells #[.int .i64 kd, .int .i64 a, .string ⟨p.toArray⟩, .slice Ab b.length cb, .int .i64 f, .int .i64 n, .slice Ak kp.length ck] 72)) 72 #[.int .i64 0, .int .i64 0, .string ⟨#[]⟩, .slice none 0 0, .int .i64 0, .int .i64 0, .slice none 0 0]).alloc (.cells #[.int .i64 kd, .int .i64 a, .string ⟨#[]⟩, .slice none 0 0, .int .i64 0, .int .i64 0, .slice none 0 0] 72)
    rw [World.size_alloc] at this
    exact this
  have hP : Blk w1 (w.heap.size + 1 + 1) 72 #[.int .i64 kd, .int .i64 a, .string ⟨#[]⟩, .slice none 0 0, .int .i64 0, .int .i64 0, .slice none 0 0] := by
    rw [← hw1]
    have := Blk.new ((w.alloc (.cells #[.int .i64 kd, .int .i64 a, .string ⟨p.toArray⟩, .slice Ab b.length cb, .int .i64 f, .int .i64 n, .slice Ak kp.length ck] 72)).alloc (.cells #[.int .i64 0, .int .i64 0, .string ⟨#[]⟩, .slice none 0 0, .int .i64 0, .int .i64 0, .slice none 0 0] 72)) 72 #[.int .i64 kd, .int .i64 a, .string ⟨#[]⟩, .slice none 0 0, .int .i64 0, .int .i64 0, .slice none 0 0]
    rw [World.size_alloc, World.size_alloc] at this
    exact this
  have hB1 : Below w.heap.size w w1 := by rw [← hw1]; exact (((Below.refl _ w).alloc (Nat.le_refl _) _).alloc (by simp) _).alloc (by simp; omega) _
  have d0 : w1.cell? ⟨w.heap.size, 0, none⟩ = some (.int .i64 kd) := hD.cell 0
  have d1 : w1.cell? ⟨w.heap.size, 1, none⟩ = some (.int .i64 a) := hD.cell 1
  have d2 : w1.cell? ⟨w.heap.size, 2, none⟩ = some (.string ⟨p.toArray⟩) := hD.cell 2
  have d3 : w1.cell? ⟨w.heap.size, 3, none⟩ = some (.slice Ab b.length cb) := hD.cell 3
  have d4 : w1.cell? ⟨w.heap.size, 4, none⟩ = some (.int .i64 f) := hD.cell 4
  have d5 : w1.cell? ⟨w.heap.size, 5, none⟩ = some (.int .i64 n) := hD.cell 5
  have d6 : w1.cell? ⟨w.heap.size, 6, none⟩ = some (.slice Ak kp.length ck) := hD.cell 6
  have p0 : w1.cell? ⟨w.heap.size + 1 + 1, 0, none⟩ = some (.int .i64 kd) := hP.cell 0
  have p1 : w1.cell? ⟨w.heap.size + 1 + 1, 1, none⟩ = some (.int .i64 a) := hP.cell 1
  have p2 : w1.cell? ⟨w.heap.size + 1 + 1, 2, none⟩ = some (.string ⟨#[]⟩) := hP.cell 2
  have p3 : w1.cell? ⟨w.heap.size + 1 + 1, 3, none⟩ = some (.slice none 0 0) := hP.cell 3
  have p4 : w1.cell? ⟨w.heap.size + 1 + 1, 4, none⟩ = some (.int .i64 0) := hP.cell 4
  have p5 : w1.cell? ⟨w.heap.size + 1 + 1, 5, none⟩ = some (.int .i64 0) := hP.cell 5
  have p6 : w1.cell? ⟨w.heap.size + 1 + 1, 6, none⟩ = some (.slice none 0 0) := hP.cell 6
  have pf : ∀ i, w1.frozen? ⟨w.heap.size + 1 + 1, i, none⟩ = false := hP.free
  have r0 : w1.cell? ⟨w.heap.size + 1, 0, none⟩ = some (.int .i64 0) := hR.cell 0
  have r1 : w1.cell? ⟨w.heap.size + 1, 1, none⟩ = some (.int .i64 0) := hR.cell 1
  have r2 : w1.cell? ⟨w.heap.size + 1, 2, none⟩ = some (.string ⟨#[]⟩) := hR.cell 2
  have r3 : w1.cell? ⟨w.heap.size + 1, 3, none⟩ = some (.slice none 0 0) := hR.cell 3
  have r4 : w1.cell? ⟨w.heap.size + 1, 4, none⟩ = some (.int .i64 0) := hR.cell 4
  have r5 : w1.cell? ⟨w.heap.size + 1, 5, none⟩ = some (.int .i64 0) := hR.cell 5
  have r6 : w1.cell? ⟨w.heap.size + 1, 6, none⟩ = some (.slice none 0 0) := hR.cell 6
  have rf : ∀ i, w1.frozen? ⟨w.heap.size + 1, i, none⟩ = false := hR.free
  have hne : ¬ w.heap.size = w.heap.size + 1 + 1 := by omega
  have hne2 : ¬ w.heap.size + 1 = w.heap.size + 1 + 1 := by omega
  have HB1 := Lib.hid hB1
  have Hw1 := Lib.hid hw1
  clear hD hR hP hB1 hw1
  unfold DvA
  go_enter Tryd.func51, Tryd.ntmps51
  go_upto_region 2 with (fail)
  rw [Hw1.out]
  go_wp2
  refine bodyPost_ret (v := .agg #[.int .i64 kd, .int .i64 a, .string ⟨#[]⟩, .slice none 0 0, .int .i64 0, .int .i64 0, .slice none 0 0]) ?_ rfl ?_
  · simp [results, Tryd.results51, go_sem, r0, r1, r2, r3, r4, r5, r6, rf, p0, p1, p2, p3, p4, p5, p6]
  · refine ⟨by simp [shA, Hfo.out], ?_⟩
    repeat (first | with_reducible exact HB1.out | with_reducible refine Below.drew ?_ | with_reducible refine below_set ?_ (by omega))
theorem rshown_any (d : Dd) (Ab Ak : Option Addr) (cb ck : Nat) (w : World) :
    Calls Tryd.prog 51 #[.agg (DvA d (.slice Ab d.bs.length cb) (.slice Ak d.keep.length ck))] w fun e w' => e = .returned (.agg (shA d (.slice Ab d.bs.length cb) (.slice Ak d.keep.length ck) (fieldsOf d.kind))) ∧ Below w.heap.size w w' := by
  obtain ⟨kd, a, p, b, f, n, kp⟩ := d
  by_cases hk : kd = 1 ∨ kd = 2 ∨ kd = 3 ∨ kd = 9 ∨ kd = 10 ∨ kd = 11 ∨ kd = 12 ∨ kd = 13 ∨ kd = 14 ∨ kd = 15 ∨ kd = 16
  · rcases hk with rfl | rfl | rfl | rfl | rfl | rfl | rfl | rfl | rfl | rfl | rfl
    · exact rshown_1 a p b f n kp Ab Ak cb ck w
    · exact rshown_2 a p b f n kp Ab Ak cb ck w
    · exact rshown_3 a p b f n kp Ab Ak cb ck w
    · exact rshown_9 a p b f n kp Ab Ak cb ck w
    · exact rshown_10 a p b f n kp Ab Ak cb ck w
    · exact rshown_11 a p b f n kp Ab Ak cb ck w
    · exact rshown_12 a p b f n kp Ab Ak cb ck w
    · exact rshown_13 a p b f n kp Ab Ak cb ck w
    · exact rshown_14 a p b f n kp Ab Ak cb ck w
    · exact rshown_15 a p b f n kp Ab Ak cb ck w
    · exact rshown_16 a p b f n kp Ab Ak cb ck w
  · exact rshown_other kd a p b f n kp Ab Ak cb ck w hk
end Go.Proofs.YtopfbbnpbobhaaaDoor
