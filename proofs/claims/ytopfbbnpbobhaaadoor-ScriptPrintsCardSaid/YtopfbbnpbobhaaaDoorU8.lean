/- numbers, first. -/
import Derived.Test.YtopfbbnpbobhaaaDoorU7
set_option linter.unusedVariables false
set_option linter.unusedSimpArgs false
namespace Go.Proofs.YtopfbbnpbobhaaaDoor
open Go.RowKit Go.Sal

/-- where a conf's numbers lie in its block -/
def ptrs (g : Nat) : Array Value := #[.pointer (some ⟨g, 0, none⟩), .pointer (some ⟨g, 1, none⟩), .pointer (some ⟨g, 3, none⟩), .pointer (some ⟨g, 4, none⟩), .pointer (some ⟨g, 5, none⟩), .pointer (some ⟨g, 6, none⟩), .pointer (some ⟨g, 7, none⟩), .pointer (some ⟨g, 8, none⟩)]
set_option maxRecDepth 200000 in
set_option maxHeartbeats 4000000 in
theorem numbers_any (g : Nat) (w : World) :
    Calls Tryd.prog 48 #[.pointer (some ⟨g, 0, none⟩)] w fun e w' => e = .returned (.slice (some ⟨w.heap.size, 0, none⟩) 8 8) ∧ Keep [] w w' ∧ Blk w' w.heap.size 94 (ptrs g) := by
  go_enter Tryd.func48, Tryd.ntmps48
  go_upto_region 2 with (fail)
  refine wp_region_G (fun W => Keep [] w W) [31] #[false, false, false, false, false, false, false, false, false, false, false, false, false, false, false, false, false, false, false, false, false, false, false, false, false, false, false, false, false, false, false, false, false] 33 (by kernel_rfl) (by kernel_rfl) (by kernel_rfl) ?_
  refine wpAnyG_take0 (i := 0) (oi := { dst := some 7, op := Go.Op.move (Go.Operand.tmp 0), type := 93, pos := "script.go:307", after := #[], guard := none }) (v := ?vg1_0) rfl (by kernel_rfl) (by kernel_rfl) (by kernel_rfl) (by kernel_rfl) (fun _ _ _ h => h) (fun _ => ((Keep.refl [] w).drew)) (Or.inl ⟨by rfl, ?hg1_0⟩) ?_
  case hg1_0 => intro w _; go_simp; (try with_reducible rfl)
  try simp only [Act.put, List.setIfInBounds_toArray, List.set_cons_zero, List.set_cons_succ]
  refine wpAnyG_take0 (i := 1) (oi := { dst := some 8, op := Go.Op.nilCheck (Go.Operand.tmp 7), type := 0, pos := "script.go:307", after := #[{ on := 0, ground := Go.Ground.data }], guard := none }) (v := ?vg1_1) rfl (by kernel_rfl) (by kernel_rfl) (by kernel_rfl) (by kernel_rfl) (fun _ _ _ h => h) (fun _ => ((Keep.refl [] w).drew)) (Or.inl ⟨by rfl, ?hg1_1⟩) ?_
  case hg1_1 => intro w _; go_simp; (try with_reducible rfl)
  try simp only [Act.put, List.setIfInBounds_toArray, List.set_cons_zero, List.set_cons_succ]
  refine wpAnyG_take0 (i := 2) (oi := { dst := some 9, op := Go.Op.fieldAddr 40 (Go.Operand.tmp 8) 0, type := 0, pos := "script.go:307", after := #[{ on := 1, ground := Go.Ground.data }], guard := none }) (v := ?vg1_2) rfl (by kernel_rfl) (by kernel_rfl) (by kernel_rfl) (by kernel_rfl) (fun _ _ _ h => h) (fun _ => ((Keep.refl [] w).drew)) (Or.inl ⟨by rfl, ?hg1_2⟩) ?_
  case hg1_2 => intro w _; go_simp; (try with_reducible rfl)
  try simp only [Act.put, List.setIfInBounds_toArray, List.set_cons_zero, List.set_cons_succ]
  refine wpAnyG_take0 (i := 3) (oi := { dst := some 10, op := Go.Op.move (Go.Operand.tmp 3), type := 113, pos := "script.go:307", after := #[], guard := none }) (v := ?vg1_3) rfl (by kernel_rfl) (by kernel_rfl) (by kernel_rfl) (by kernel_rfl) (fun _ _ _ h => h) (fun _ => ((Keep.refl [] w).drew)) (Or.inl ⟨by rfl, ?hg1_3⟩) ?_
  case hg1_3 => intro w _; go_simp; (try with_reducible rfl)
  try simp only [Act.put, List.setIfInBounds_toArray, List.set_cons_zero, List.set_cons_succ]
  refine wpAnyG_take0 (i := 4) (oi := { dst := some 11, op := Go.Op.nilCheck (Go.Operand.tmp 10), type := 0, pos := "script.go:307", after := #[{ on := 3, ground := Go.Ground.data }], guard := none }) (v := ?vg1_4) rfl (by kernel_rfl) (by kernel_rfl) (by kernel_rfl) (by kernel_rfl) (fun _ _ _ h => h) (fun _ => ((Keep.refl [] w).drew)) (Or.inl ⟨by rfl, ?hg1_4⟩) ?_
  case hg1_4 => intro w _; go_simp; (try with_reducible rfl)
  try simp only [Act.put, List.setIfInBounds_toArray, List.set_cons_zero, List.set_cons_succ]
  refine wpAnyG_take0 (i := 5) (oi := { dst := some 12, op := Go.Op.fieldAddr 38 (Go.Operand.tmp 11) 0, type := 0, pos := "script.go:307", after := #[{ on := 4, ground := Go.Ground.data }], guard := none }) (v := ?vg1_5) rfl (by kernel_rfl) (by kernel_rfl) (by kernel_rfl) (by kernel_rfl) (fun _ _ _ h => h) (fun _ => ((Keep.refl [] w).drew)) (Or.inl ⟨by rfl, ?hg1_5⟩) ?_
  case hg1_5 => intro w _; go_simp; (try with_reducible rfl)
  try simp only [Act.put, List.setIfInBounds_toArray, List.set_cons_zero, List.set_cons_succ]
  refine wpAnyG_take0 (i := 6) (oi := { dst := some 13, op := Go.Op.move (Go.Operand.tmp 3), type := 113, pos := "script.go:307", after := #[], guard := none }) (v := ?vg1_6) rfl (by kernel_rfl) (by kernel_rfl) (by kernel_rfl) (by kernel_rfl) (fun _ _ _ h => h) (fun _ => ((Keep.refl [] w).drew)) (Or.inl ⟨by rfl, ?hg1_6⟩) ?_
  case hg1_6 => intro w _; go_simp; (try with_reducible rfl)
  try simp only [Act.put, List.setIfInBounds_toArray, List.set_cons_zero, List.set_cons_succ]
  refine wpAnyG_take0 (i := 7) (oi := { dst := some 14, op := Go.Op.nilCheck (Go.Operand.tmp 13), type := 0, pos := "script.go:307", after := #[{ on := 6, ground := Go.Ground.data }], guard := none }) (v := ?vg1_7) rfl (by kernel_rfl) (by kernel_rfl) (by kernel_rfl) (by kernel_rfl) (fun _ _ _ h => h) (fun _ => ((Keep.refl [] w).drew)) (Or.inl ⟨by rfl, ?hg1_7⟩) ?_
  case hg1_7 => intro w _; go_simp; (try with_reducible rfl)
  try simp only [Act.put, List.setIfInBounds_toArray, List.set_cons_zero, List.set_cons_succ]
  refine wpAnyG_take0 (i := 8) (oi := { dst := some 15, op := Go.Op.fieldAddr 38 (Go.Operand.tmp 14) 2, type := 0, pos := "script.go:307", after := #[{ on := 7, ground := Go.Ground.data }], guard := none }) (v := ?vg1_8) rfl (by kernel_rfl) (by kernel_rfl) (by kernel_rfl) (by kernel_rfl) (fun _ _ _ h => h) (fun _ => ((Keep.refl [] w).drew)) (Or.inl ⟨by rfl, ?hg1_8⟩) ?_
  case hg1_8 => intro w _; go_simp; (try with_reducible rfl)
  try simp only [Act.put, List.setIfInBounds_toArray, List.set_cons_zero, List.set_cons_succ]
  refine wpAnyG_take0 (i := 9) (oi := { dst := some 16, op := Go.Op.fieldAddr 36 (Go.Operand.tmp 15) 0, type := 0, pos := "script.go:307", after := #[{ on := 8, ground := Go.Ground.data }], guard := none }) (v := ?vg1_9) rfl (by kernel_rfl) (by kernel_rfl) (by kernel_rfl) (by kernel_rfl) (fun _ _ _ h => h) (fun _ => ((Keep.refl [] w).drew)) (Or.inl ⟨by rfl, ?hg1_9⟩) ?_
  case hg1_9 => intro w _; go_simp; (try with_reducible rfl)
  try simp only [Act.put, List.setIfInBounds_toArray, List.set_cons_zero, List.set_cons_succ]
  refine wpAnyG_take0 (i := 10) (oi := { dst := some 17, op := Go.Op.move (Go.Operand.tmp 3), type := 113, pos := "script.go:307", after := #[], guard := none }) (v := ?vg1_10) rfl (by kernel_rfl) (by kernel_rfl) (by kernel_rfl) (by kernel_rfl) (fun _ _ _ h => h) (fun _ => ((Keep.refl [] w).drew)) (Or.inl ⟨by rfl, ?hg1_10⟩) ?_
  case hg1_10 => intro w _; go_simp; (try with_reducible rfl)
  try simp only [Act.put, List.setIfInBounds_toArray, List.set_cons_zero, List.set_cons_succ]
  refine wpAnyG_take0 (i := 11) (oi := { dst := some 18, op := Go.Op.nilCheck (Go.Operand.tmp 17), type := 0, pos := "script.go:307", after := #[{ on := 10, ground := Go.Ground.data }], guard := none }) (v := ?vg1_11) rfl (by kernel_rfl) (by kernel_rfl) (by kernel_rfl) (by kernel_rfl) (fun _ _ _ h => h) (fun _ => ((Keep.refl [] w).drew)) (Or.inl ⟨by rfl, ?hg1_11⟩) ?_
  case hg1_11 => intro w _; go_simp; (try with_reducible rfl)
  try simp only [Act.put, List.setIfInBounds_toArray, List.set_cons_zero, List.set_cons_succ]
  refine wpAnyG_take0 (i := 12) (oi := { dst := some 19, op := Go.Op.fieldAddr 38 (Go.Operand.tmp 18) 2, type := 0, pos := "script.go:307", after := #[{ on := 11, ground := Go.Ground.data }], guard := none }) (v := ?vg1_12) rfl (by kernel_rfl) (by kernel_rfl) (by kernel_rfl) (by kernel_rfl) (fun _ _ _ h => h) (fun _ => ((Keep.refl [] w).drew)) (Or.inl ⟨by rfl, ?hg1_12⟩) ?_
  case hg1_12 => intro w _; go_simp; (try with_reducible rfl)
  try simp only [Act.put, List.setIfInBounds_toArray, List.set_cons_zero, List.set_cons_succ]
  refine wpAnyG_take0 (i := 13) (oi := { dst := some 20, op := Go.Op.fieldAddr 36 (Go.Operand.tmp 19) 1, type := 0, pos := "script.go:307", after := #[{ on := 12, ground := Go.Ground.data }], guard := none }) (v := ?vg1_13) rfl (by kernel_rfl) (by kernel_rfl) (by kernel_rfl) (by kernel_rfl) (fun _ _ _ h => h) (fun _ => ((Keep.refl [] w).drew)) (Or.inl ⟨by rfl, ?hg1_13⟩) ?_
  case hg1_13 => intro w _; go_simp; (try with_reducible rfl)
  try simp only [Act.put, List.setIfInBounds_toArray, List.set_cons_zero, List.set_cons_succ]
  refine wpAnyG_take0 (i := 14) (oi := { dst := some 21, op := Go.Op.fieldAddr 34 (Go.Operand.tmp 20) 0, type := 0, pos := "script.go:307", after := #[{ on := 13, ground := Go.Ground.data }], guard := none }) (v := ?vg1_14) rfl (by kernel_rfl) (by kernel_rfl) (by kernel_rfl) (by kernel_rfl) (fun _ _ _ h => h) (fun _ => ((Keep.refl [] w).drew)) (Or.inl ⟨by rfl, ?hg1_14⟩) ?_
  case hg1_14 => intro w _; go_simp; (try with_reducible rfl)
  try simp only [Act.put, List.setIfInBounds_toArray, List.set_cons_zero, List.set_cons_succ]
  refine wpAnyG_take0 (i := 15) (oi := { dst := some 22, op := Go.Op.move (Go.Operand.tmp 3), type := 113, pos := "script.go:307", after := #[], guard := none }) (v := ?vg1_15) rfl (by kernel_rfl) (by kernel_rfl) (by kernel_rfl) (by kernel_rfl) (fun _ _ _ h => h) (fun _ => ((Keep.refl [] w).drew)) (Or.inl ⟨by rfl, ?hg1_15⟩) ?_
  case hg1_15 => intro w _; go_simp; (try with_reducible rfl)
  try simp only [Act.put, List.setIfInBounds_toArray, List.set_cons_zero, List.set_cons_succ]
  refine wpAnyG_take0 (i := 16) (oi := { dst := some 23, op := Go.Op.nilCheck (Go.Operand.tmp 22), type := 0, pos := "script.go:307", after := #[{ on := 15, ground := Go.Ground.data }], guard := none }) (v := ?vg1_16) rfl (by kernel_rfl) (by kernel_rfl) (by kernel_rfl) (by kernel_rfl) (fun _ _ _ h => h) (fun _ => ((Keep.refl [] w).drew)) (Or.inl ⟨by rfl, ?hg1_16⟩) ?_
  case hg1_16 => intro w _; go_simp; (try with_reducible rfl)
  try simp only [Act.put, List.setIfInBounds_toArray, List.set_cons_zero, List.set_cons_succ]
  refine wpAnyG_take0 (i := 17) (oi := { dst := some 24, op := Go.Op.fieldAddr 38 (Go.Operand.tmp 23) 2, type := 0, pos := "script.go:307", after := #[{ on := 16, ground := Go.Ground.data }], guard := none }) (v := ?vg1_17) rfl (by kernel_rfl) (by kernel_rfl) (by kernel_rfl) (by kernel_rfl) (fun _ _ _ h => h) (fun _ => ((Keep.refl [] w).drew)) (Or.inl ⟨by rfl, ?hg1_17⟩) ?_
  case hg1_17 => intro w _; go_simp; (try with_reducible rfl)
  try simp only [Act.put, List.setIfInBounds_toArray, List.set_cons_zero, List.set_cons_succ]
  refine wpAnyG_take0 (i := 18) (oi := { dst := some 25, op := Go.Op.fieldAddr 36 (Go.Operand.tmp 24) 1, type := 0, pos := "script.go:307", after := #[{ on := 17, ground := Go.Ground.data }], guard := none }) (v := ?vg1_18) rfl (by kernel_rfl) (by kernel_rfl) (by kernel_rfl) (by kernel_rfl) (fun _ _ _ h => h) (fun _ => ((Keep.refl [] w).drew)) (Or.inl ⟨by rfl, ?hg1_18⟩) ?_
  case hg1_18 => intro w _; go_simp; (try with_reducible rfl)
  try simp only [Act.put, List.setIfInBounds_toArray, List.set_cons_zero, List.set_cons_succ]
  refine wpAnyG_take0 (i := 19) (oi := { dst := some 26, op := Go.Op.fieldAddr 34 (Go.Operand.tmp 25) 1, type := 0, pos := "script.go:307", after := #[{ on := 18, ground := Go.Ground.data }], guard := none }) (v := ?vg1_19) rfl (by kernel_rfl) (by kernel_rfl) (by kernel_rfl) (by kernel_rfl) (fun _ _ _ h => h) (fun _ => ((Keep.refl [] w).drew)) (Or.inl ⟨by rfl, ?hg1_19⟩) ?_
  case hg1_19 => intro w _; go_simp; (try with_reducible rfl)
  try simp only [Act.put, List.setIfInBounds_toArray, List.set_cons_zero, List.set_cons_succ]
  refine wpAnyG_take0 (i := 20) (oi := { dst := some 27, op := Go.Op.move (Go.Operand.tmp 3), type := 113, pos := "script.go:307", after := #[], guard := none }) (v := ?vg1_20) rfl (by kernel_rfl) (by kernel_rfl) (by kernel_rfl) (by kernel_rfl) (fun _ _ _ h => h) (fun _ => ((Keep.refl [] w).drew)) (Or.inl ⟨by rfl, ?hg1_20⟩) ?_
  case hg1_20 => intro w _; go_simp; (try with_reducible rfl)
  try simp only [Act.put, List.setIfInBounds_toArray, List.set_cons_zero, List.set_cons_succ]
  refine wpAnyG_take0 (i := 21) (oi := { dst := some 28, op := Go.Op.nilCheck (Go.Operand.tmp 27), type := 0, pos := "script.go:307", after := #[{ on := 20, ground := Go.Ground.data }], guard := none }) (v := ?vg1_21) rfl (by kernel_rfl) (by kernel_rfl) (by kernel_rfl) (by kernel_rfl) (fun _ _ _ h => h) (fun _ => ((Keep.refl [] w).drew)) (Or.inl ⟨by rfl, ?hg1_21⟩) ?_
  case hg1_21 => intro w _; go_simp; (try with_reducible rfl)
  try simp only [Act.put, List.setIfInBounds_toArray, List.set_cons_zero, List.set_cons_succ]
  refine wpAnyG_take0 (i := 22) (oi := { dst := some 29, op := Go.Op.fieldAddr 38 (Go.Operand.tmp 28) 2, type := 0, pos := "script.go:307", after := #[{ on := 21, ground := Go.Ground.data }], guard := none }) (v := ?vg1_22) rfl (by kernel_rfl) (by kernel_rfl) (by kernel_rfl) (by kernel_rfl) (fun _ _ _ h => h) (fun _ => ((Keep.refl [] w).drew)) (Or.inl ⟨by rfl, ?hg1_22⟩) ?_
  case hg1_22 => intro w _; go_simp; (try with_reducible rfl)
  try simp only [Act.put, List.setIfInBounds_toArray, List.set_cons_zero, List.set_cons_succ]
  refine wpAnyG_take0 (i := 23) (oi := { dst := some 30, op := Go.Op.fieldAddr 36 (Go.Operand.tmp 29) 1, type := 0, pos := "script.go:307", after := #[{ on := 22, ground := Go.Ground.data }], guard := none }) (v := ?vg1_23) rfl (by kernel_rfl) (by kernel_rfl) (by kernel_rfl) (by kernel_rfl) (fun _ _ _ h => h) (fun _ => ((Keep.refl [] w).drew)) (Or.inl ⟨by rfl, ?hg1_23⟩) ?_
  case hg1_23 => intro w _; go_simp; (try with_reducible rfl)
  try simp only [Act.put, List.setIfInBounds_toArray, List.set_cons_zero, List.set_cons_succ]
  refine wpAnyG_take0 (i := 24) (oi := { dst := some 31, op := Go.Op.fieldAddr 34 (Go.Operand.tmp 30) 2, type := 0, pos := "script.go:307", after := #[{ on := 23, ground := Go.Ground.data }], guard := none }) (v := ?vg1_24) rfl (by kernel_rfl) (by kernel_rfl) (by kernel_rfl) (by kernel_rfl) (fun _ _ _ h => h) (fun _ => ((Keep.refl [] w).drew)) (Or.inl ⟨by rfl, ?hg1_24⟩) ?_
  case hg1_24 => intro w _; go_simp; (try with_reducible rfl)
  try simp only [Act.put, List.setIfInBounds_toArray, List.set_cons_zero, List.set_cons_succ]
  refine wpAnyG_take0 (i := 25) (oi := { dst := some 32, op := Go.Op.move (Go.Operand.tmp 3), type := 113, pos := "script.go:307", after := #[], guard := none }) (v := ?vg1_25) rfl (by kernel_rfl) (by kernel_rfl) (by kernel_rfl) (by kernel_rfl) (fun _ _ _ h => h) (fun _ => ((Keep.refl [] w).drew)) (Or.inl ⟨by rfl, ?hg1_25⟩) ?_
  case hg1_25 => intro w _; go_simp; (try with_reducible rfl)
  try simp only [Act.put, List.setIfInBounds_toArray, List.set_cons_zero, List.set_cons_succ]
  refine wpAnyG_take0 (i := 26) (oi := { dst := some 33, op := Go.Op.nilCheck (Go.Operand.tmp 32), type := 0, pos := "script.go:307", after := #[{ on := 25, ground := Go.Ground.data }], guard := none }) (v := ?vg1_26) rfl (by kernel_rfl) (by kernel_rfl) (by kernel_rfl) (by kernel_rfl) (fun _ _ _ h => h) (fun _ => ((Keep.refl [] w).drew)) (Or.inl ⟨by rfl, ?hg1_26⟩) ?_
  case hg1_26 => intro w _; go_simp; (try with_reducible rfl)
  try simp only [Act.put, List.setIfInBounds_toArray, List.set_cons_zero, List.set_cons_succ]
  refine wpAnyG_take0 (i := 27) (oi := { dst := some 34, op := Go.Op.fieldAddr 38 (Go.Operand.tmp 33) 3, type := 0, pos := "script.go:307", after := #[{ on := 26, ground := Go.Ground.data }], guard := none }) (v := ?vg1_27) rfl (by kernel_rfl) (by kernel_rfl) (by kernel_rfl) (by kernel_rfl) (fun _ _ _ h => h) (fun _ => ((Keep.refl [] w).drew)) (Or.inl ⟨by rfl, ?hg1_27⟩) ?_
  case hg1_27 => intro w _; go_simp; (try with_reducible rfl)
  try simp only [Act.put, List.setIfInBounds_toArray, List.set_cons_zero, List.set_cons_succ]
  refine wpAnyG_take0 (i := 28) (oi := { dst := some 35, op := Go.Op.move (Go.Operand.tmp 3), type := 113, pos := "script.go:307", after := #[], guard := none }) (v := ?vg1_28) rfl (by kernel_rfl) (by kernel_rfl) (by kernel_rfl) (by kernel_rfl) (fun _ _ _ h => h) (fun _ => ((Keep.refl [] w).drew)) (Or.inl ⟨by rfl, ?hg1_28⟩) ?_
  case hg1_28 => intro w _; go_simp; (try with_reducible rfl)
  try simp only [Act.put, List.setIfInBounds_toArray, List.set_cons_zero, List.set_cons_succ]
  refine wpAnyG_take0 (i := 29) (oi := { dst := some 36, op := Go.Op.nilCheck (Go.Operand.tmp 35), type := 0, pos := "script.go:307", after := #[{ on := 28, ground := Go.Ground.data }], guard := none }) (v := ?vg1_29) rfl (by kernel_rfl) (by kernel_rfl) (by kernel_rfl) (by kernel_rfl) (fun _ _ _ h => h) (fun _ => ((Keep.refl [] w).drew)) (Or.inl ⟨by rfl, ?hg1_29⟩) ?_
  case hg1_29 => intro w _; go_simp; (try with_reducible rfl)
  try simp only [Act.put, List.setIfInBounds_toArray, List.set_cons_zero, List.set_cons_succ]
  refine wpAnyG_take0 (i := 30) (oi := { dst := some 37, op := Go.Op.fieldAddr 38 (Go.Operand.tmp 36) 4, type := 0, pos := "script.go:307", after := #[{ on := 29, ground := Go.Ground.data }], guard := none }) (v := ?vg1_30) rfl (by kernel_rfl) (by kernel_rfl) (by kernel_rfl) (by kernel_rfl) (fun _ _ _ h => h) (fun _ => ((Keep.refl [] w).drew)) (Or.inl ⟨by rfl, ?hg1_30⟩) ?_
  case hg1_30 => intro w _; go_simp; (try with_reducible rfl)
  try simp only [Act.put, List.setIfInBounds_toArray, List.set_cons_zero, List.set_cons_succ]
  refine wpAnyG_step (i := 31) (oi := { dst := some 38, op := Go.Op.buildSlice 91 8 #[(0, Go.Operand.tmp 9), (1, Go.Operand.tmp 12), (2, Go.Operand.tmp 16), (3, Go.Operand.tmp 21), (4, Go.Operand.tmp 26), (5, Go.Operand.tmp 31), (6, Go.Operand.tmp 34), (7, Go.Operand.tmp 37)], type := 91, pos := "script.go:307", after := #[{ on := 2, ground := Go.Ground.data }, { on := 5, ground := Go.Ground.data }, { on := 9, ground := Go.Ground.data }, { on := 14, ground := Go.Ground.data }, { on := 19, ground := Go.Ground.data }, { on := 24, ground := Go.Ground.data }, { on := 27, ground := Go.Ground.data }, { on := 30, ground := Go.Ground.data }], guard := none }) rfl (by kernel_rfl) (by rfl) (fun K hK => ?_)
  go_simp
  refine hK _ _ (fun h => absurd h (Bool.eq_false_iff.1 (by kernel_rfl))) (fun _ => ?_)
  clear hK
  try simp only [Act.put, List.setIfInBounds_toArray, List.set_cons_zero, List.set_cons_succ]
  refine wpAnyG_take0 (i := 32) (oi := { dst := some 2, op := Go.Op.assign (Go.Operand.tmp 38), type := 91, pos := "script.go:307", after := #[{ on := 31, ground := Go.Ground.data }, { on := 0, ground := Go.Ground.phase }, { on := 1, ground := Go.Ground.phase }, { on := 2, ground := Go.Ground.phase }, { on := 3, ground := Go.Ground.phase }, { on := 4, ground := Go.Ground.phase }, { on := 5, ground := Go.Ground.phase }, { on := 6, ground := Go.Ground.phase }, { on := 7, ground := Go.Ground.phase }, { on := 8, ground := Go.Ground.phase }, { on := 9, ground := Go.Ground.phase }, { on := 10, ground := Go.Ground.phase }, { on := 11, ground := Go.Ground.phase }, { on := 12, ground := Go.Ground.phase }, { on := 13, ground := Go.Ground.phase }, { on := 14, ground := Go.Ground.phase }, { on := 15, ground := Go.Ground.phase }, { on := 16, ground := Go.Ground.phase }, { on := 17, ground := Go.Ground.phase }, { on := 18, ground := Go.Ground.phase }, { on := 19, ground := Go.Ground.phase }, { on := 20, ground := Go.Ground.phase }, { on := 21, ground := Go.Ground.phase }, { on := 22, ground := Go.Ground.phase }, { on := 23, ground := Go.Ground.phase }, { on := 24, ground := Go.Ground.phase }, { on := 25, ground := Go.Ground.phase }, { on := 26, ground := Go.Ground.phase }, { on := 27, ground := Go.Ground.phase }, { on := 28, ground := Go.Ground.phase }, { on := 29, ground := Go.Ground.phase }, { on := 30, ground := Go.Ground.phase }, { on := 31, ground := Go.Ground.phase }], guard := none }) (v := ?vg1_32) rfl (by kernel_rfl) (by kernel_rfl) (by kernel_rfl) (by kernel_rfl) (fun _ _ _ h => h) (fun h => absurd h (Bool.eq_false_iff.1 (by kernel_rfl))) (Or.inl ⟨by rfl, ?hg1_32⟩) ?_
  case hg1_32 => intro w _; go_simp; (try with_reducible rfl)
  try simp only [Act.put, List.setIfInBounds_toArray, List.set_cons_zero, List.set_cons_succ]
  refine wpAnyG_done (by kernel_rfl) ?_ _
  go_wp2
  go_ret
  exact ⟨rfl, ((Keep.refl [] w).drew).alloc _, Blk.new _ _ _⟩
theorem ownWord {base : Nat} {A : Option Addr} {c : Nat} {l : List (List UInt8)} {w : World} (ho : w.ownsRow base 9 1 (.slice A l.length c) l.length (strRow l)) (hB : base ≤ w.heap.size) (s : List UInt8) (hl : l.length ≤ 1000) :
    ∃ A' c' w7, (Builtin.append_ #[90, 90] 90 #[.slice A l.length c, .slice (some ⟨w.heap.size, 0, none⟩) 1 1]).run Tryd.prog (w.alloc (.cells #[.string ⟨s.toArray⟩] 9)) = .ok (.slice A' (l.length + 1) c') w7 ∧
      Hid (w7.ownsRow base 9 1 (.slice A' (l ++ [s]).length c') (l ++ [s]).length (strRow (l ++ [s])) ∧ Below base w w7 ∧ (∀ (g : Nat) (t : TypeId) (cs : Array Value) (ff : Nat × Nat), w.heap[g]? = some (Obj.cells cs t ff) → t ≠ 9 → w7.heap[g]? = some (Obj.cells cs t ff))) := by
  obtain ⟨v', w7, hrun, hown, hgr, hor⟩ := run_append_src (P := Tryd.prog) (w.alloc (.cells #[.string ⟨s.toArray⟩] 9)) 90 90 9 (.string ⟨#[]⟩) 1 16 base Tryd.underlying90 info9 rfl (by decide) (.slice A l.length c) l.length (strRow l) (ho.alloc _) (some ⟨w.heap.size, 0, none⟩) 1 1 (strRow [s]) (src_new w 9 1 [.string ⟨s.toArray⟩] rfl) (by intro u hu; simp [strRow] at hu; subst hu; rfl) (by unfold maxLen; omega) (by omega) (by simp; omega)
  obtain ⟨A', c', rfl⟩ : ∃ A' c', v' = .slice A' (l.length + 1) c' := by
    rcases hown.2 with ⟨rfl, h1⟩ | ⟨g, cap, cur, rfl, _⟩
    · omega
    · exact ⟨_, _, rfl⟩
  refine ⟨A', c', w7, hrun, Lib.hid ⟨?_, ?_, fun g t cs ff hg ht2 => ?_⟩⟩
  · rw [List.length_append]
    have e : strRow (l ++ [s]) = strRow l ++ strRow [s] := by simp [strRow]
    rw [e]
    exact hown
  · exact ((Below.refl base w).alloc hB _).grown hgr (by simp; omega) (fun g hg => (ho.lt g hg).1)
  · have hlt := lt_of_some hg
    have n2 : some g ≠ (Value.slice A l.length c).ownBlock := fun e => by
      rcases ho.2 with ⟨h1, _⟩ | ⟨g', cap', cur, h1, _, hh, _⟩
      · rw [h1] at e; cases e
      · rw [h1] at e
        cases e
        rw [hh] at hg
        injection hg with hg
        injection hg with _ hg _
        exact ht2 hg.symm
    rw [hgr.block g (by simp; omega) n2, Below.heap_alloc _ _ _ hlt]
    exact hg
/-- the head's words up to the i-th number -/
def firstTo (xs : List Int) (i : Nat) : List (List UInt8) := wordS :: (xs.take i).map Lib.itoa
theorem firstTo_len (xs : List Int) (i : Nat) (h : i ≤ xs.length) : (firstTo xs i).length = i + 1 := by simp [firstTo]; omega
theorem firstTo_succ (xs : List Int) (i : Nat) (h : i < xs.length) : firstTo xs (i + 1) = firstTo xs i ++ [Lib.itoa xs[i]] := by
  unfold firstTo
  rw [List.map_take, List.map_take, List.take_add_one]
  simp [h]
theorem firstTo_end (c : Cf) : headOf c = Lib.join (firstTo (nums c) 8 ++ [hexS c.key]) [32] := by
  unfold headOf firstTo headW
  rw [List.take_of_length_le (by simp [nums])]
  rfl
structure FI (B : Nat) (w : World) (cf : Cf) (A : Option Addr) (c : Nat) (pn : Nat) (l : List (List UInt8)) (wr : World) : Prop where
  box : Blk wr B 40 (cfA cf)
  row : Blk wr pn 94 (ptrs B)
  own : wr.ownsRow B 9 1 (.slice A l.length c) l.length (strRow l)
  below : Below B w wr
theorem FI.keep {B : Nat} {w : World} {cf : Cf} {A : Option Addr} {c pn : Nat} {l : List (List UInt8)} {wr w' : World} (h : FI B w cf A c pn l wr) (k : Keep [] wr w') (hB : B ≤ w.heap.size) : FI B w cf A c pn l w' :=
  ⟨h.box.keep k List.not_mem_nil, h.row.keep k List.not_mem_nil, ownsRow_keep h.own k (by simp), h.below.trans (k.belowB (Nat.le_trans hB h.below.size) (by simp))⟩
theorem FI.ptr {B : Nat} {w : World} {cf : Cf} {A : Option Addr} {c pn : Nat} {l : List (List UInt8)} {wr : World} (h : FI B w cf A c pn l wr) (i : Nat) (hi : i < 8) (hx : i < (nums cf).length) :
    ∃ k, wr.cell? ⟨pn, i, none⟩ = some (.pointer (some ⟨B, k, none⟩)) ∧ wr.cell? ⟨B, k, none⟩ = some (.int .i64 (nums cf)[i]) := by
  match i, hi with
  | 0, _ => exact ⟨0, h.row.cell 0, h.box.cell 0⟩
  | 1, _ => exact ⟨1, h.row.cell 1, h.box.cell 1⟩
  | 2, _ => exact ⟨3, h.row.cell 2, h.box.cell 3⟩
  | 3, _ => exact ⟨4, h.row.cell 3, h.box.cell 4⟩
  | 4, _ => exact ⟨5, h.row.cell 4, h.box.cell 5⟩
  | 5, _ => exact ⟨6, h.row.cell 5, h.box.cell 6⟩
  | 6, _ => exact ⟨7, h.row.cell 6, h.box.cell 7⟩
  | 7, _ => exact ⟨8, h.row.cell 7, h.box.cell 8⟩
set_option maxRecDepth 200000 in
set_option maxHeartbeats 4000000 in
theorem first_any (cf : Cf) (w : World) (hx : ∀ x ∈ nums cf, -9223372036854775808 ≤ x ∧ x ≤ 9223372036854775807) (hkl : cf.key.length ≤ 3000) (htab : Lib.TabIs Tryd.prog w "internal/strconv.uint64pow10" .u64 Lib.pow10Tab) :
    Calls Tryd.prog 32 #[.agg (cfA cf)] w fun e w' => e = .returned (.string ⟨(headOf cf).toArray⟩) ∧ Below w.heap.size w w' := by
  have HT := Lib.hid (Lib.tabBelow_of_tabIs htab)
  have HE := Lib.hid (firstTo_end cf)
  have hl8 : (nums cf).length = 8 := rfl
  have HX : Hid (∀ i (h : i < (nums cf).length), -9223372036854775808 ≤ (nums cf)[i] ∧ (nums cf)[i] ≤ 9223372036854775807) := Lib.hid (fun i h => hx _ (List.getElem_mem _))
  have Hkl := Lib.hid hkl
  obtain ⟨w1, hw1⟩ : ∃ w1, (w.alloc (.cells (cfA cf) 40)).alloc (.cells #[.string ⟨#[115, 97, 108, 116, 101, 114, 110]⟩] 9) = w1 := ⟨_, rfl⟩
  have hD : Hid (Blk w1 w.heap.size 40 (cfA cf)) := Lib.hid (by rw [← hw1]; exact (Blk.new _ _ _).alloc _)
  have hz1 : Hid (w1.heap.size = w.heap.size + 1 + 1) := Lib.hid (by rw [← hw1]; simp)
  have hW : Hid (Blk w1 (w.heap.size + 1) 9 #[.string ⟨wordS.toArray⟩]) := Lib.hid (by
    rw [← hw1]
    have := Blk.new (w.alloc (.cells (cfA cf) 40)) 9 #[.string ⟨#[115, 97, 108, 116, 101, 114, 110]⟩]
    rw [World.size_alloc] at this
    exact this)
  have HB1 : Hid (Below w.heap.size w w1) := Lib.hid (by rw [← hw1]; exact ((Below.refl _ w).alloc (Nat.le_refl _) _).alloc (by simp) _)
  have Hw1 := Lib.hid hw1
  clear htab hx hkl hw1
  unfold cfA at Hw1 ⊢
  go_enter Tryd.func32, Tryd.ntmps32
  go_upto_region 2 with (fail)
  rw [Hw1.out]
  go_wp2_with (go_at_call 48; refine (numbers_any w.heap.size w1).mono ?_; rintro e w2 ⟨rfl, hk2, hp2⟩; have HI2 : Hid (FI w.heap.size w cf (some ⟨w.heap.size + 1, 0, none⟩) 1 w1.heap.size (firstTo (nums cf) 0) w2) := Lib.hid ⟨hD.out.keep hk2 List.not_mem_nil, hp2, ⟨rfl, .inr ⟨w.heap.size + 1, 1, _, rfl, Nat.le_succ _, hW.out.keep hk2 List.not_mem_nil, Nat.le_refl _, by simp [maxLen], rfl, rfl⟩⟩, HB1.out.trans (hk2.belowB (by have := hz1.out; omega) (by simp))⟩; clear hk2 hp2)
  go_loopw [3, 9] (fun s o wr => ∃ (i : Nat) (A : Option Addr) (c : Nat), s = .slice A (i + 1) c ∧ o = .int .i64 i ∧ i ≤ 8 ∧ Hid (FI w.heap.size w cf A c w1.heap.size (firstTo (nums cf) i) wr)) (fun s o _ => 8 - (intOf o).toNat)
  case atStart => exact ⟨0, _, _, rfl, rfl, by omega, HI2⟩
  case round =>
    obtain ⟨i, A, c, rfl, rfl, hi, hI⟩ := hrel
    rcases Nat.lt_or_ge i 8 with hlt | hge
    · have hil : (i : Int) < 8 := by omega
      obtain ⟨k, hp, hv⟩ := hI.out.ptr i hlt hlt
      have hIt := Lib.hid (Tryd.strconv_Itoa ((nums cf)[i]'(by rw [hl8]; exact hlt)) (HX.out i hlt).1 (HX.out i hlt).2 wr (HT.out _ hI.out.below))
      have hwi : IntKind.i64.wrap ((i : Int) + 1) = (i : Int) + 1 := by rw [IntKind.wrap_i64]; omega
      have Hi1 : Hid (i + 1 ≤ 8) := Lib.hid (by omega)
      have Hi2 : Hid (i ≤ 7) := Lib.hid (by omega)
      have Hfl : Hid ((firstTo (nums cf) i).length = i + 1) := Lib.hid (firstTo_len _ _ (by omega))
      have Hfs : Hid (firstTo (nums cf) (i + 1) = firstTo (nums cf) i ++ [Lib.itoa ((nums cf)[i]'(by rw [hl8]; exact hlt))]) := Lib.hid (firstTo_succ _ _ (by omega))
      generalize hgx : (nums cf)[i]'(by rw [hl8]; exact hlt) = x at *
      clear hgx
      clear hlt hi
      go_wp2_with (fail)
      refine hIt.out.mono ?_
      rintro e w5 ⟨rfl, k5, os5, hk5⟩
      have HI5 := Lib.hid (hI.out.keep (keep_grow hk5) (Nat.le_refl _))
      have hap := ownWord HI5.out.own HI5.out.below.size (Lib.itoa x) (by have := Hfl.out; have := Hi2.out; omega)
      rw [Hfl.out] at hap
      obtain ⟨A', c', w7, hrun, hX⟩ := hap
      have HI7 : Hid (FI w.heap.size w cf A' c' w1.heap.size (firstTo (nums cf) (i + 1)) w7) := Lib.hid (by
        obtain ⟨h1, h2, h3⟩ := hX.out
        rw [Hfs.out]
        exact ⟨h3 _ _ _ _ HI5.out.box (by decide), h3 _ _ _ _ HI5.out.row (by decide), h1, HI5.out.below.trans h2⟩)
      clear hk5 hX HI5 hIt hI
      go_wp2_with (at_builtin; refine wpList_append2 (v1 := .slice A (i + 1) c) (v2 := .slice (some ⟨w5.heap.size, 0, none⟩) 1 1) rfl (.tmp 13) (.tmp 18) rfl rfl rfl hrun ?_)
      go_roundw
      case rel => exact ⟨i + 1, A', c', rfl, by simp, Hi1.out, HI7⟩
      case measure => have := Hi2.out; simp [intOf]; omega
    · obtain rfl : i = 8 := by omega
      have hfl8 : (firstTo (nums cf) 8).length = 9 := rfl
      obtain ⟨ky, hky⟩ : ∃ ky, cf.key = ky := ⟨_, rfl⟩
      have e2 : wr.cell? ⟨w.heap.size, 2, none⟩ = some (.string ⟨ky.toArray⟩) := by rw [← hky]; exact hI.out.box.cell 2
      have Hky := Lib.hid hky
      clear hky hge hi hfl8
      obtain ⟨cap, w4, fa, hcv, hcap, hF⟩ := conv_bytes ky wr
      have HI4 := Lib.hid (hI.out.keep hF.out.2.2 (Nat.le_refl _))
      have HH := Lib.hid (hexg_any ky (some ⟨wr.heap.size, 0, none⟩) cap w4 (fun _ => ⟨_, _, rfl, lt_of_some hF.out.1, fun j hj => by rw [cell_of_row _ _ _ _ _ _ hF.out.1, Nat.zero_add]; exact hF.out.2.1 j hj⟩) hcap (by rw [← Hky.out]; exact Hkl.out) (HT.out _ HI4.out.below))
      clear hF
      go_wp2_with (fail)
      refine HH.out.mono ?_
      rintro e w5 ⟨rfl, hb5⟩
      have HI5 := Lib.hid (HI4.out.keep (Keep.of_below hb5) (Nat.le_refl _))
      have hap := ownWord HI5.out.own HI5.out.below.size (hexS ky) (by rw [show (firstTo (nums cf) 8).length = 9 from rfl]; omega)
      rw [show (firstTo (nums cf) 8).length = 9 from rfl] at hap
      obtain ⟨A', c', w7, hrun, hX⟩ := hap
      have hj := Lib.hid (join_any (bw := 0) hX.out.1 (by simp) (by rw [List.length_append, show (firstTo (nums cf) 8).length = 9 from rfl]; simp) (by
        have := join_len (firstTo (nums cf) 8 ++ [hexS ky]) 72001 (fun x hxm => by
          rcases List.mem_append.1 hxm with h | h
          · rcases List.mem_cons.1 h with rfl | h
            · decide
            · obtain ⟨z, hz, rfl⟩ := List.mem_map.1 h
              obtain ⟨j, hj, rfl⟩ := List.getElem_of_mem hz
              rw [List.getElem_take]
              have := itoa_len _ (HX.out j (by simp at hj; omega))
              omega
          · simp only [List.mem_cons, List.not_mem_nil, or_false] at h
            subst h
            have h1 := Hkl.out
            rw [Hky.out] at h1
            have := hexS_len ky (by omega)
            omega)
        have h2 : (firstTo (nums cf) 8 ++ [hexS ky]).length = 10 := rfl
        rw [h2] at this
        omega))
      rw [show (firstTo (nums cf) 8 ++ [hexS ky]).length = 10 from rfl] at hj
      have HE2 : Hid (headOf cf = Lib.join (firstTo (nums cf) 8 ++ [hexS ky]) [32]) := Lib.hid (by rw [HE.out, Hky.out])
      have HB7 := Lib.hid (HI5.out.below.trans hX.out.2.1)
      clear hb5 hX HI5 HI4 HH hI HE
      generalize Lib.join (firstTo (nums cf) 8 ++ [hexS ky]) [32] = res at *
      go_wp2_with (first | (at_builtin; refine wpList_append2 (v1 := .slice A 9 c) (v2 := .slice (some ⟨w5.heap.size, 0, none⟩) 1 1) rfl (.tmp 21) (.tmp 27) rfl rfl rfl hrun ?_) | (go_at_call 49; refine hj.out.mono ?_; rintro e w8 ⟨rfl, hb8⟩))
      go_ret
      rw [HE2.out]
      exact ⟨rfl, HB7.out.trans (hb8.mono HB7.out.size)⟩
end Go.Proofs.YtopfbbnpbobhaaaDoor
