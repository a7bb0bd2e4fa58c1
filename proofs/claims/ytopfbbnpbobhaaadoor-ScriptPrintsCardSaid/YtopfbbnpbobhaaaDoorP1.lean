/- pair, may, plain: small functions. -/
import Derived.Test.YtopfbbnpbobhaaaDoorProg
import Derived.Test.YtopfbbnpbobhaaaDoorBase3
import Derived.Test.YtopfbbnpbobhaaaDoorReg2
import Derived.Test.YtopfbbnpbobhaaaDoorUx
import Derived.Laws.IdiomStrings
set_option linter.unusedVariables false
set_option linter.unusedSimpArgs false
namespace Go.Proofs.YtopfbbnpbobhaaaDoor
open Go.RowKit Go.Sal

theorem hx_at : ∀ i : Fin 16, ([48, 49, 50, 51, 52, 53, 54, 55, 56, 57, 97, 98, 99, 100, 101, 102] : List UInt8)[i.val]? = some (hx i.val) := by decide
theorem and15_fin : ∀ i : Fin 256, bits .and .u8 (i.val : Int) 15 = (i.val : Int) % 16 := by decide +kernel
theorem and15 (c : UInt8) : bits .and .u8 (c.toNat : Int) 15 = (c.toNat : Int) % 16 := and15_fin ⟨c.toNat, c.toNat_lt⟩
theorem digits_at (i : Nat) (hi : i < 16) (W : World) : (Instr.index 9 (.string { data := #[48, 49, 50, 51, 52, 53, 54, 55, 56, 57, 97, 98, 99, 100, 101, 102] }) (.int .u8 (i : Int))).run Tryd.prog W = .ok (.int .u8 ((hx i).toNat : Int)) W := by
  have h : i = 0 ∨ i = 1 ∨ i = 2 ∨ i = 3 ∨ i = 4 ∨ i = 5 ∨ i = 6 ∨ i = 7 ∨ i = 8 ∨ i = 9 ∨ i = 10 ∨ i = 11 ∨ i = 12 ∨ i = 13 ∨ i = 14 ∨ i = 15 := by omega
  rcases h with rfl | rfl | rfl | rfl | rfl | rfl | rfl | rfl | rfl | rfl | rfl | rfl | rfl | rfl | rfl | rfl <;> (rw [run_index_string _ _ _ _ _ Tryd.underlying9]; rfl)
theorem conv2 (a b : UInt8) (w : World) : (convert 22 9 (.slice (some ⟨w.heap.size, 0, none⟩) 2 2)).run Tryd.prog (w.alloc (.cells #[.int .u8 (a.toNat : Int), .int .u8 (b.toNat : Int)] 5)).drew
    = .ok (.string ⟨[a, b].toArray⟩) (w.alloc (.cells #[.int .u8 (a.toNat : Int), .int .u8 (b.toNat : Int)] 5)).drew :=
  run_convert_bytes_back (P := Tryd.prog) _ 22 9 5 ⟨w.heap.size, 0, none⟩ 2 [a, b] Tryd.underlying22 Tryd.underlying5 Tryd.underlying9 (by
    intro j hj
    match j, hj with
    | 0, _ => simp [Addr.add]
    | 1, _ => simp [Addr.add])
set_option maxRecDepth 20000 in
set_option maxHeartbeats 2000000 in
theorem pair_any (c : UInt8) (w : World) : Calls Tryd.prog 23 #[.int .u8 (c.toNat : Int)] w fun e w' => e = .returned (.string ⟨(pr c).toArray⟩) ∧ Keep [] w w' := by
  have hc : c.toNat < 256 := c.toNat_lt
  have hix1 : ∀ W, (Instr.index 9 (.string { data := #[48, 49, 50, 51, 52, 53, 54, 55, 56, 57, 97, 98, 99, 100, 101, 102] }) (.int .u8 ((c.toNat : Int) / 16))).run Tryd.prog W = .ok (.int .u8 ((hx (c.toNat / 16)).toNat : Int)) W := fun W => digits_at (c.toNat / 16) (by omega) W
  have hix2 : ∀ W, (Instr.index 9 (.string { data := #[48, 49, 50, 51, 52, 53, 54, 55, 56, 57, 97, 98, 99, 100, 101, 102] }) (.int .u8 ((c.toNat : Int) % 16))).run Tryd.prog W = .ok (.int .u8 ((hx (c.toNat % 16)).toNat : Int)) W := fun W => digits_at (c.toNat % 16) (by omega) W
  have hand := and15 c
  go_enter Tryd.func23, Tryd.ntmps23
  go_wp2
  refine wp_region_G (fun W => Keep [] w W) [6] #[false, false, false, false, false, false, false, false, false] 9 (by kernel_rfl) (by kernel_rfl) (by kernel_rfl) ?_
  refine wpAnyG_take0 (i := 0) (oi := { dst := some 3, op := Go.Op.move (Go.Operand.tmp 0), type := 5, pos := "script.go:36", after := #[], guard := none }) (v := ?vg1_0) rfl (by kernel_rfl) (by kernel_rfl) (by kernel_rfl) (by kernel_rfl) (fun _ _ _ h => h) (fun _ => ((Keep.refl [] w).drew)) (Or.inl ⟨by rfl, ?hg1_0⟩) ?_
  case hg1_0 => intro w _; go_simp; (try with_reducible rfl)
  try simp only [Act.put, List.setIfInBounds_toArray, List.set_cons_zero, List.set_cons_succ]
  refine wpAnyG_take0 (i := 1) (oi := { dst := some 4, op := Go.Op.binOp Go.BinOp.shr 5 (Go.Operand.tmp 3) (Go.Operand.const (Go.Value.int Go.IntKind.u64 4)) 78, type := 5, pos := "script.go:36", after := #[{ on := 0, ground := Go.Ground.data }], guard := none }) (v := ?vg1_1) rfl (by kernel_rfl) (by kernel_rfl) (by kernel_rfl) (by kernel_rfl) (fun _ _ _ h => h) (fun _ => ((Keep.refl [] w).drew)) (Or.inl ⟨by rfl, ?hg1_1⟩) ?_
  case hg1_1 => intro w _; go_simp; (try with_reducible rfl)
  try simp only [Act.put, List.setIfInBounds_toArray, List.set_cons_zero, List.set_cons_succ]
  refine wpAnyG_take0 (i := 2) (oi := { dst := some 5, op := Go.Op.index 9 (Go.Operand.const (Go.Value.string { data := #[48, 49, 50, 51, 52, 53, 54, 55, 56, 57, 97, 98, 99, 100, 101, 102] })) (Go.Operand.tmp 4), type := 5, pos := "script.go:36", after := #[{ on := 1, ground := Go.Ground.data }], guard := none }) (v := ?vg1_2) rfl (by kernel_rfl) (by kernel_rfl) (by kernel_rfl) (by kernel_rfl) (fun _ _ _ h => h) (fun _ => ((Keep.refl [] w).drew)) (Or.inl ⟨by rfl, ?hg1_2⟩) ?_
  case hg1_2 => intro w _; go_simp; (try with_reducible rfl)
  try simp only [Act.put, List.setIfInBounds_toArray, List.set_cons_zero, List.set_cons_succ]
  refine wpAnyG_take0 (i := 3) (oi := { dst := some 6, op := Go.Op.move (Go.Operand.tmp 0), type := 5, pos := "script.go:36", after := #[], guard := none }) (v := ?vg1_3) rfl (by kernel_rfl) (by kernel_rfl) (by kernel_rfl) (by kernel_rfl) (fun _ _ _ h => h) (fun _ => ((Keep.refl [] w).drew)) (Or.inl ⟨by rfl, ?hg1_3⟩) ?_
  case hg1_3 => intro w _; go_simp; (try with_reducible rfl)
  try simp only [Act.put, List.setIfInBounds_toArray, List.set_cons_zero, List.set_cons_succ]
  refine wpAnyG_take0 (i := 4) (oi := { dst := some 7, op := Go.Op.binOp Go.BinOp.and 5 (Go.Operand.tmp 6) (Go.Operand.const (Go.Value.int Go.IntKind.u8 15)) 5, type := 5, pos := "script.go:36", after := #[{ on := 3, ground := Go.Ground.data }], guard := none }) (v := ?vg1_4) rfl (by kernel_rfl) (by kernel_rfl) (by kernel_rfl) (by kernel_rfl) (fun _ _ _ h => h) (fun _ => ((Keep.refl [] w).drew)) (Or.inl ⟨by rfl, ?hg1_4⟩) ?_
  case hg1_4 => intro w _; go_simp; (try with_reducible rfl)
  try simp only [Act.put, List.setIfInBounds_toArray, List.set_cons_zero, List.set_cons_succ]
  refine wpAnyG_take0 (i := 5) (oi := { dst := some 8, op := Go.Op.index 9 (Go.Operand.const (Go.Value.string { data := #[48, 49, 50, 51, 52, 53, 54, 55, 56, 57, 97, 98, 99, 100, 101, 102] })) (Go.Operand.tmp 7), type := 5, pos := "script.go:36", after := #[{ on := 4, ground := Go.Ground.data }], guard := none }) (v := ?vg1_5) rfl (by kernel_rfl) (by kernel_rfl) (by kernel_rfl) (by kernel_rfl) (fun _ _ _ h => h) (fun _ => ((Keep.refl [] w).drew)) (Or.inl ⟨by rfl, ?hg1_5⟩) ?_
  case hg1_5 => intro w _; go_simp; (try with_reducible rfl)
  try simp only [Act.put, List.setIfInBounds_toArray, List.set_cons_zero, List.set_cons_succ]
  refine wpAnyG_step (i := 6) (oi := { dst := some 9, op := Go.Op.buildSlice 22 2 #[(0, Go.Operand.tmp 5), (1, Go.Operand.tmp 8)], type := 22, pos := "script.go:36", after := #[{ on := 2, ground := Go.Ground.data }, { on := 5, ground := Go.Ground.data }], guard := none }) rfl (by kernel_rfl) (by rfl) (fun K hK => ?_)
  go_simp
  refine hK _ _ (fun h => absurd h (Bool.eq_false_iff.1 (by kernel_rfl))) (fun _ => ?_)
  clear hK
  try simp only [Act.put, List.setIfInBounds_toArray, List.set_cons_zero, List.set_cons_succ]
  refine wpAnyG_step (i := 7) (oi := { dst := some 10, op := Go.Op.convert 22 9 (Go.Operand.tmp 9), type := 9, pos := "script.go:36", after := #[{ on := 6, ground := Go.Ground.data }], guard := none }) rfl (by kernel_rfl) (by rfl) (fun K hK => ?_)
  go_simp
  rw [conv2]
  go_simp
  refine hK _ _ (fun h => absurd h (Bool.eq_false_iff.1 (by kernel_rfl))) (fun _ => ?_)
  clear hK
  try simp only [Act.put, List.setIfInBounds_toArray, List.set_cons_zero, List.set_cons_succ]
  refine wpAnyG_take0 (i := 8) (oi := { dst := some 2, op := Go.Op.assign (Go.Operand.tmp 10), type := 9, pos := "script.go:36", after := #[{ on := 7, ground := Go.Ground.data }, { on := 0, ground := Go.Ground.phase }, { on := 1, ground := Go.Ground.phase }, { on := 2, ground := Go.Ground.phase }, { on := 3, ground := Go.Ground.phase }, { on := 4, ground := Go.Ground.phase }, { on := 5, ground := Go.Ground.phase }, { on := 6, ground := Go.Ground.phase }, { on := 7, ground := Go.Ground.phase }], guard := none }) (v := ?vg1_8) rfl (by kernel_rfl) (by kernel_rfl) (by kernel_rfl) (by kernel_rfl) (fun _ _ _ h => h) (fun h => absurd h (Bool.eq_false_iff.1 (by kernel_rfl))) (Or.inl ⟨by rfl, ?hg1_8⟩) ?_
  case hg1_8 => intro w _; go_simp; (try with_reducible rfl)
  try simp only [Act.put, List.setIfInBounds_toArray, List.set_cons_zero, List.set_cons_succ]
  refine wpAnyG_done (by kernel_rfl) ?_ _
  go_wp2
  go_ret
  refine ⟨rfl, ?_⟩
  exact (((Keep.refl [] w).alloc _).drew)
theorem may_any (n left : Nat) (hn : n ≤ 100000000) (hl : left ≤ 100000000) (w : World) : Calls Tryd.prog 38 #[.int .i64 n, .int .i64 left] w fun e w' => e = .returned (.bool (mayS n left)) ∧ w = w' := by
  have hw : IntKind.i64.wrap (10 * (n : Int)) = 10 * (n : Int) := by rw [IntKind.wrap_i64]; omega
  go_enter Tryd.func38, Tryd.ntmps38
  by_cases h4 : n ≤ 4
  · have h4' : (n : Int) ≤ 4 := by omega
    by_cases h0 : 0 < n
    · have h0' : (0 : Int) < n := by omega
      by_cases hm : 10 * n ≤ left
      · have hm' : 10 * (n : Int) ≤ left := by omega
        go_wp2
        go_ret
        exact ⟨by simp [mayS, h4, h0, hm], rfl⟩
      · have hm' : ¬ 10 * (n : Int) ≤ left := by omega
        go_wp2
        go_ret
        exact ⟨by simp [mayS, h4, h0, hm], rfl⟩
    · have h0' : ¬ (0 : Int) < n := by omega
      go_wp2
      go_ret
      exact ⟨by simp [mayS, h4, h0], rfl⟩
  · have h4' : ¬ (n : Int) ≤ 4 := by omega
    by_cases hm : n ≤ left
    · have hm' : (n : Int) ≤ left := by omega
      go_wp2
      go_ret
      exact ⟨by simp [mayS, h4, hm], rfl⟩
    · have hm' : ¬ (n : Int) ≤ left := by omega
      go_wp2
      go_ret
      exact ⟨by simp [mayS, h4, hm], rfl⟩
end Go.Proofs.YtopfbbnpbobhaaaDoor
