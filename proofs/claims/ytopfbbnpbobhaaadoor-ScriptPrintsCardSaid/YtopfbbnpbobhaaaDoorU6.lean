/- The reference's Text. -/
import Derived.Test.YtopfbbnpbobhaaaDoorU5
set_option linter.unusedVariables false
set_option linter.unusedSimpArgs false
namespace Go.Proofs.YtopfbbnpbobhaaaDoor
open Go.RowKit Go.Sal

theorem sameB_comm (d x : Dd) : sameB d x = sameB x d := by
  unfold sameB
  exact decide_eq_decide.2 ⟨fun ⟨h1, h2, h3, h4, h5, h6, h7⟩ => ⟨h1.symm, h2.symm, h3.symm, h4.symm, h5.symm, h6.symm, h7.symm⟩, fun ⟨h1, h2, h3, h4, h5, h6, h7⟩ => ⟨h1.symm, h2.symm, h3.symm, h4.symm, h5.symm, h6.symm, h7.symm⟩⟩
theorem rline_nil (d : Dd) : rlineOf d = [] ↔ nameOf d.kind = [] := by
  unfold rlineOf lineOf
  by_cases h : nameOf d.kind = []
  · simp [h]
  · rw [if_neg h, Lib.join_cons]
    simp [h]
theorem txV_eq (d : Dd) : txV d = if sameB (shownOf d) d = true ∧ rlineOf d ≠ [] then .tuple #[.string ⟨(rlineOf d).toArray⟩, .int .i64 0] else .tuple #[.string ⟨#[]⟩, .int .i64 251] := by
  unfold txV
  rw [sameB_comm]
  by_cases h : nameOf d.kind = []
  · rw [if_neg (fun e => e.1 h), if_neg (fun e => e.2 ((rline_nil d).2 h))]
  · have e : rlineOf d = lineOf d := by unfold rlineOf; rw [if_neg h]
    have e2 : lineOf d ≠ [] := by rw [← e]; exact fun h2 => h ((rline_nil d).1 h2)
    rw [e]
    by_cases h3 : sameB (shownOf d) d = true
    · rw [if_pos ⟨h, h3⟩, if_pos ⟨h3, e2⟩]
    · rw [if_neg (fun e => h3 e.2), if_neg (fun e => h3 e.1)]
set_option maxRecDepth 200000 in
set_option maxHeartbeats 8000000 in
theorem rtext_any (d : Dd) (Ab Ak : Option Addr) (cb ck : Nat) (w : World) (hb : RD encB w Ab d.bs) (hk : RD encT w Ak d.keep) (hcb : d.bs.length ≤ cb) (hlb : d.bs.length ≤ 3000) (hlp : d.path.length ≤ 3000) (hlk : d.keep.length ≤ 4000000)
    (ha : -9223372036854775808 ≤ d.a ∧ d.a ≤ 9223372036854775807) (hf : -9223372036854775808 ≤ d.frm ∧ d.frm ≤ 9223372036854775807) (hn : -9223372036854775808 ≤ d.n ∧ d.n ≤ 9223372036854775807) :
    Calls Tryd.prog 33 #[.agg (DvA d (.slice Ab d.bs.length cb) (.slice Ak d.keep.length ck))] w fun e w' => e = .returned (txV d) ∧ Below w.heap.size w w' := by
  obtain ⟨A3, c3, A6, c6, h3, r3, r6, l3, l6⟩ := sh_dv d Ab Ak cb ck w hb hk
  have HSH : ∀ W, Hid (Calls Tryd.prog 51 #[.agg (DvA d (.slice Ab d.bs.length cb) (.slice Ak d.keep.length ck))] W fun e w' => e = .returned (.agg (DvA (shownOf d) (.slice A3 (shownOf d).bs.length c3) (.slice A6 (shownOf d).keep.length c6))) ∧ Below W.heap.size W w') := fun W => Lib.hid (by
    have := rshown_any d Ab Ak cb ck W
    rw [h3] at this
    exact this)
  have HSM : ∀ W, Below w.heap.size w W → Hid (Calls Tryd.prog 50 #[.agg (DvA (shownOf d) (.slice A3 (shownOf d).bs.length c3) (.slice A6 (shownOf d).keep.length c6)), .agg (DvA d (.slice Ab d.bs.length cb) (.slice Ak d.keep.length ck))] W fun e w' => e = .returned (.bool (sameB (shownOf d) d)) ∧ Below W.heap.size W w') := fun W hW => Lib.hid
    (rsame_any (shownOf d) d A3 A6 Ab Ak c3 c6 cb ck W (RD.below r3 hW) (RD.below r6 hW) (RD.below hb hW) (RD.below hk hW) (by omega) (by omega))
  have HLI : ∀ W, Below w.heap.size w W → Hid (Calls Tryd.prog 52 #[.agg (DvA d (.slice Ab d.bs.length cb) (.slice Ak d.keep.length ck))] W fun e w' => e = .returned (.string ⟨(rlineOf d).toArray⟩) ∧ Below W.heap.size W w') := fun W hW => Lib.hid
    (rline_any d Ab Ak cb ck W (RD.below hb hW) (RD.below hk hW) hcb hlb hlp hlk ha hf hn)
  have HTX := Lib.hid (txV_eq d)
  obtain ⟨kd, a, p, b, f, n, kp⟩ := d
  dsimp only at hlp hlb
  have hpi : decide ((1048576 : Int) < (p.length : Int)) = false := decide_eq_false (by omega)
  have hpj : decide (1048576 < p.length) = false := decide_eq_false (by omega)
  have hbi : decide ((1048576 : Int) < (b.length : Int)) = false := decide_eq_false (by omega)
  have hbj : decide (1048576 < b.length) = false := decide_eq_false (by omega)
  obtain ⟨w1, hw1⟩ : ∃ w1, w.alloc (.cells #[.int .i64 kd, .int .i64 a, .string ⟨p.toArray⟩, .slice Ab b.length cb, .int .i64 f, .int .i64 n, .slice Ak kp.length ck] 72) = w1 := ⟨_, rfl⟩
  have HD1 : Hid (Blk w1 w.heap.size 72 #[.int .i64 kd, .int .i64 a, .string ⟨p.toArray⟩, .slice Ab b.length cb, .int .i64 f, .int .i64 n, .slice Ak kp.length ck]) := Lib.hid (by rw [← hw1]; exact Blk.new _ _ _)
  have HB1 : Hid (Below w.heap.size w w1) := Lib.hid (by rw [← hw1]; exact (Below.refl _ w).alloc (Nat.le_refl _) _)
  have Hw1 := Lib.hid hw1
  generalize rlineOf _ = rl at *
  generalize shownOf _ = x at *
  generalize sameB x _ = sb at *
  generalize hxa : DvA x _ _ = xa at *
  clear hxa h3 r3 r6 l3 l6 hb hk hcb hlb hlp hlk ha hf hn hw1
  unfold DvA at *
  dsimp only at *
  go_enter Tryd.func33, Tryd.ntmps33
  go_upto_region 1 with (fail)
  rw [Hw1.out]
  refine wp_region_G (fun W => Below w.heap.size w W ∧ Blk W w.heap.size 72 #[.int .i64 kd, .int .i64 a, .string ⟨p.toArray⟩, .slice Ab b.length cb, .int .i64 f, .int .i64 n, .slice Ak kp.length ck]) [] #[false, false, false, false, false, false, false, false, false, false, false, false, false, false, false, false, false] 17 (by kernel_rfl) (by kernel_rfl) (by kernel_rfl) ?_
  refine wpAnyG_take0 (i := 0) (oi := { dst := some 5, op := Go.Op.fieldAddr 72 (Go.Operand.tmp 1) 2, type := 0, pos := "ref.go:252", after := #[], guard := none }) (v := ?vg1_0) rfl (by kernel_rfl) (by kernel_rfl) (by kernel_rfl) (by kernel_rfl) (fun _ _ _ h => h) (fun _ => ⟨HB1.out.drew, HD1.out.drew⟩) (Or.inl ⟨by rfl, ?hg1_0⟩) ?_
  case hg1_0 => intro w _; go_simp; (try with_reducible rfl)
  try simp only [Act.put, List.setIfInBounds_toArray, List.set_cons_zero, List.set_cons_succ]
  refine wpAnyG_take (i := 1) (oi := { dst := some 6, op := Go.Op.load 9 (Go.Operand.tmp 5), type := 9, pos := "ref.go:252", after := #[{ on := 0, ground := Go.Ground.data }], guard := none }) (v := ?vg1_1) [1, 2, 3, 4, 5, 6, 7, 8, 9, 10, 11, 12, 13, 14, 15, 16] rfl (by kernel_rfl) (by kernel_rfl) (by kernel_rfl) (by kernel_rfl) (by kernel_rfl) (fun _ _ _ h => h) (fun _ => ⟨HB1.out.drew, HD1.out.drew⟩) (Or.inl ⟨by rfl, ?hg1_1⟩) ?_
  case hg1_1 => intro w hSw; (try dsimp only at hSw); have c2 : _ = some (Value.string ⟨p.toArray⟩) := hSw.2.cell 2; go_simp; (try with_reducible rfl)
  try simp only [Act.put, List.setIfInBounds_toArray, List.set_cons_zero, List.set_cons_succ]
  refine wpAnyG_take (i := 2) (oi := { dst := some 7, op := Go.Op.call { callee := Go.Callee.builtin Go.Builtin.len, args := #[Go.Operand.tmp 6], argTypes := #[9] }, type := 3, pos := "ref.go:252", after := #[{ on := 1, ground := Go.Ground.data }], guard := none }) (v := ?vg1_2) [2, 3, 4, 5, 6, 7, 8, 9, 10, 11, 12, 13, 14, 15, 16] rfl (by kernel_rfl) (by kernel_rfl) (by kernel_rfl) (by kernel_rfl) (by kernel_rfl) (fun _ _ _ h => h) (fun _ => ⟨HB1.out.drew, HD1.out.drew⟩) (Or.inl ⟨by rfl, ?hg1_2⟩) ?_
  case hg1_2 => intro w hSw; (try dsimp only at hSw); go_simp; (try with_reducible rfl)
  try simp only [Act.put, List.setIfInBounds_toArray, List.set_cons_zero, List.set_cons_succ]
  refine wpAnyG_take0 (i := 3) (oi := { dst := some 8, op := Go.Op.binOp Go.BinOp.gtr 3 (Go.Operand.tmp 7) (Go.Operand.const (Go.Value.int Go.IntKind.i64 1048576)) 3, type := 4, pos := "ref.go:252", after := #[{ on := 2, ground := Go.Ground.data }], guard := none }) (v := Value.bool false) rfl (by kernel_rfl) (by kernel_rfl) (by kernel_rfl) (by kernel_rfl) (fun _ _ _ h => h) (fun _ => ⟨HB1.out.drew, HD1.out.drew⟩) (Or.inl ⟨by rfl, ?hg1_3⟩) ?_
  case hg1_3 => intro w _; go_simp; (try with_reducible rfl)
  try simp only [Act.put, List.setIfInBounds_toArray, List.set_cons_zero, List.set_cons_succ]
  refine wpAnyG_take0 (i := 4) (oi := { dst := some 9, op := Go.Op.move (Go.Operand.tmp 8), type := 4, pos := "ref.go:252", after := #[{ on := 3, ground := Go.Ground.data }], guard := none }) (v := Value.bool false) rfl (by kernel_rfl) (by kernel_rfl) (by kernel_rfl) (by kernel_rfl) (fun _ _ _ h => h) (fun _ => ⟨HB1.out.drew, HD1.out.drew⟩) (Or.inl ⟨by rfl, ?hg1_4⟩) ?_
  case hg1_4 => intro w _; go_simp; (try with_reducible rfl)
  try simp only [Act.put, List.setIfInBounds_toArray, List.set_cons_zero, List.set_cons_succ]
  refine wpAnyG_take0 (i := 5) (oi := { dst := some 10, op := Go.Op.fieldAddr 72 (Go.Operand.tmp 1) 3, type := 0, pos := "ref.go:252", after := #[{ on := 4, ground := Go.Ground.guard }], guard := some (4, false) }) (v := ?vg1_5) rfl (by kernel_rfl) (by kernel_rfl) (by kernel_rfl) (by kernel_rfl) (fun _ _ _ h => h) (fun _ => ⟨HB1.out.drew, HD1.out.drew⟩) (Or.inl ⟨by rfl, ?hg1_5⟩) ?_
  case hg1_5 => intro w _; go_simp; (try with_reducible rfl)
  try simp only [Act.put, List.setIfInBounds_toArray, List.set_cons_zero, List.set_cons_succ]
  refine wpAnyG_take (i := 6) (oi := { dst := some 11, op := Go.Op.load 22 (Go.Operand.tmp 10), type := 22, pos := "ref.go:252", after := #[{ on := 5, ground := Go.Ground.data }, { on := 4, ground := Go.Ground.guard }], guard := some (4, false) }) (v := ?vg1_6) [6, 7, 8, 9, 10, 11, 12, 13, 14, 15, 16] rfl (by kernel_rfl) (by kernel_rfl) (by kernel_rfl) (by kernel_rfl) (by kernel_rfl) (fun _ _ _ h => h) (fun _ => ⟨HB1.out.drew, HD1.out.drew⟩) (Or.inl ⟨by rfl, ?hg1_6⟩) ?_
  case hg1_6 => intro w hSw; (try dsimp only at hSw); have c3 : _ = some (Value.slice Ab b.length cb) := hSw.2.cell 3; go_simp; (try with_reducible rfl)
  try simp only [Act.put, List.setIfInBounds_toArray, List.set_cons_zero, List.set_cons_succ]
  refine wpAnyG_take (i := 7) (oi := { dst := some 12, op := Go.Op.call { callee := Go.Callee.builtin Go.Builtin.len, args := #[Go.Operand.tmp 11], argTypes := #[22] }, type := 3, pos := "ref.go:252", after := #[{ on := 6, ground := Go.Ground.data }, { on := 4, ground := Go.Ground.guard }], guard := some (4, false) }) (v := ?vg1_7) [7, 8, 9, 10, 11, 12, 13, 14, 15, 16] rfl (by kernel_rfl) (by kernel_rfl) (by kernel_rfl) (by kernel_rfl) (by kernel_rfl) (fun _ _ _ h => h) (fun _ => ⟨HB1.out.drew, HD1.out.drew⟩) (Or.inl ⟨by rfl, ?hg1_7⟩) ?_
  case hg1_7 => intro w hSw; (try dsimp only at hSw); go_simp; (try with_reducible rfl)
  try simp only [Act.put, List.setIfInBounds_toArray, List.set_cons_zero, List.set_cons_succ]
  refine wpAnyG_take0 (i := 8) (oi := { dst := some 13, op := Go.Op.binOp Go.BinOp.gtr 3 (Go.Operand.tmp 12) (Go.Operand.const (Go.Value.int Go.IntKind.i64 1048576)) 3, type := 4, pos := "ref.go:252", after := #[{ on := 7, ground := Go.Ground.data }, { on := 4, ground := Go.Ground.guard }], guard := some (4, false) }) (v := Value.bool false) rfl (by kernel_rfl) (by kernel_rfl) (by kernel_rfl) (by kernel_rfl) (fun _ _ _ h => h) (fun _ => ⟨HB1.out.drew, HD1.out.drew⟩) (Or.inl ⟨by rfl, ?hg1_8⟩) ?_
  case hg1_8 => intro w _; go_simp; (try with_reducible rfl)
  try simp only [Act.put, List.setIfInBounds_toArray, List.set_cons_zero, List.set_cons_succ]
  refine wpAnyG_take0 (i := 9) (oi := { dst := some 14, op := Go.Op.pick (Go.Operand.tmp 9) (Go.Operand.const (Go.Value.bool true)) (Go.Operand.tmp 13), type := 4, pos := "ref.go:252", after := #[{ on := 4, ground := Go.Ground.data }, { on := 8, ground := Go.Ground.data }], guard := none }) (v := Value.bool false) rfl (by kernel_rfl) (by kernel_rfl) (by kernel_rfl) (by kernel_rfl) (fun _ _ _ h => h) (fun _ => ⟨HB1.out.drew, HD1.out.drew⟩) (Or.inl ⟨by rfl, ?hg1_9⟩) ?_
  case hg1_9 => intro w _; go_simp; (try with_reducible rfl)
  try simp only [Act.put, List.setIfInBounds_toArray, List.set_cons_zero, List.set_cons_succ]
  refine wpAnyG_take0 (i := 10) (oi := { dst := some 15, op := Go.Op.move (Go.Operand.tmp 14), type := 4, pos := "ref.go:252", after := #[{ on := 9, ground := Go.Ground.data }, { on := 4, ground := Go.Ground.chain }], guard := none }) (v := Value.bool false) rfl (by kernel_rfl) (by kernel_rfl) (by kernel_rfl) (by kernel_rfl) (fun _ _ _ h => h) (fun _ => ⟨HB1.out.drew, HD1.out.drew⟩) (Or.inl ⟨by rfl, ?hg1_10⟩) ?_
  case hg1_10 => intro w _; go_simp; (try with_reducible rfl)
  try simp only [Act.put, List.setIfInBounds_toArray, List.set_cons_zero, List.set_cons_succ]
  refine wpAnyG_take (i := 11) (oi := { dst := some 16, op := Go.Op.load 72 (Go.Operand.tmp 1), type := 72, pos := "ref.go:252", after := #[{ on := 10, ground := Go.Ground.guard }], guard := some (10, false) }) (v := ?vg1_11) [11, 12, 14, 15, 16] rfl (by kernel_rfl) (by kernel_rfl) (by kernel_rfl) (by kernel_rfl) (by kernel_rfl) (fun _ _ _ h => h) (fun _ => ⟨HB1.out.drew, HD1.out.drew⟩) (Or.inl ⟨by rfl, ?hg1_11⟩) ?_
  case hg1_11 => intro w hSw; (try dsimp only at hSw); have c0 : _ = some (Value.int .i64 kd) := hSw.2.cell 0; have c1 : _ = some (Value.int .i64 a) := hSw.2.cell 1; have c2 : _ = some (Value.string ⟨p.toArray⟩) := hSw.2.cell 2; have c3 : _ = some (Value.slice Ab b.length cb) := hSw.2.cell 3; have c4 : _ = some (Value.int .i64 f) := hSw.2.cell 4; have c5 : _ = some (Value.int .i64 n) := hSw.2.cell 5; have c6 : _ = some (Value.slice Ak kp.length ck) := hSw.2.cell 6; go_simp; (try with_reducible rfl)
  try simp only [Act.put, List.setIfInBounds_toArray, List.set_cons_zero, List.set_cons_succ]
  refine wpAnyG_take (i := 13) (oi := { dst := some 18, op := Go.Op.load 72 (Go.Operand.tmp 1), type := 72, pos := "ref.go:252", after := #[{ on := 10, ground := Go.Ground.guard }], guard := some (10, false) }) (v := ?vg1_13) [13, 14, 15, 16] rfl (by kernel_rfl) (by kernel_rfl) (by kernel_rfl) (by kernel_rfl) (by kernel_rfl) (fun _ _ _ h => h) (fun _ => ⟨HB1.out.drew, HD1.out.drew⟩) (Or.inl ⟨by rfl, ?hg1_13⟩) ?_
  case hg1_13 => intro w hSw; (try dsimp only at hSw); have c0 : _ = some (Value.int .i64 kd) := hSw.2.cell 0; have c1 : _ = some (Value.int .i64 a) := hSw.2.cell 1; have c2 : _ = some (Value.string ⟨p.toArray⟩) := hSw.2.cell 2; have c3 : _ = some (Value.slice Ab b.length cb) := hSw.2.cell 3; have c4 : _ = some (Value.int .i64 f) := hSw.2.cell 4; have c5 : _ = some (Value.int .i64 n) := hSw.2.cell 5; have c6 : _ = some (Value.slice Ak kp.length ck) := hSw.2.cell 6; go_simp; (try with_reducible rfl)
  try simp only [Act.put, List.setIfInBounds_toArray, List.set_cons_zero, List.set_cons_succ]
  refine wpAnyG_step (i := 12) (oi := { dst := some 17, op := Go.Op.call { callee := Go.Callee.value (Go.Operand.func 51), args := #[Go.Operand.tmp 16], argTypes := #[72] }, type := 72, pos := "ref.go:252", after := #[{ on := 11, ground := Go.Ground.data }, { on := 10, ground := Go.Ground.chain }, { on := 10, ground := Go.Ground.guard }], guard := some (10, false) }) rfl (by kernel_rfl) (by rfl) (fun K hK => ?_)
  go_simp
  go_at_call 51
  refine (HSH _).out.mono ?_
  rintro e w2 ⟨rfl, hk2⟩
  have HS2 := Lib.hid (And.intro ((And.intro HB1.out.drew HD1.out.drew).1.trans (hk2.mono (And.intro HB1.out.drew HD1.out.drew).1.size)) ((And.intro HB1.out.drew HD1.out.drew).2.keep (Keep.of_below (F := []) hk2) List.not_mem_nil))
  clear hk2
  dsimp only
  refine hK _ _ ?_ (fun hSg1_12 => ?_)
  · intro _; exact HS2.out
  replace hSg1_12 := hSg1_12 (by kernel_rfl)
  clear hK
  try simp only [Act.put, List.setIfInBounds_toArray, List.set_cons_zero, List.set_cons_succ]
  refine wpAnyG_step (i := 14) (oi := { dst := some 19, op := Go.Op.call { callee := Go.Callee.value (Go.Operand.func 50), args := #[Go.Operand.tmp 17, Go.Operand.tmp 18], argTypes := #[72, 72] }, type := 4, pos := "ref.go:252", after := #[{ on := 12, ground := Go.Ground.data }, { on := 13, ground := Go.Ground.data }, { on := 12, ground := Go.Ground.chain }, { on := 10, ground := Go.Ground.guard }], guard := some (10, false) }) rfl (by kernel_rfl) (by rfl) (fun K hK => ?_)
  go_simp
  go_at_call 50
  refine (HSM _ HS2.out.1).out.mono ?_
  rintro e w3 ⟨rfl, hk3⟩
  have HS3 := Lib.hid (And.intro (HS2.out.1.trans (hk3.mono HS2.out.1.size)) (HS2.out.2.keep (Keep.of_below (F := []) hk3) List.not_mem_nil))
  clear hk3
  dsimp only
  refine hK _ _ ?_ (fun hSg1_14 => ?_)
  · intro _; exact HS3.out
  replace hSg1_14 := hSg1_14 (by kernel_rfl)
  clear hK
  try simp only [Act.put, List.setIfInBounds_toArray, List.set_cons_zero, List.set_cons_succ]
  refine wpAnyG_take0 (i := 15) (oi := { dst := some 20, op := Go.Op.unOp Go.UnOp.not 4 (Go.Operand.tmp 19), type := 4, pos := "ref.go:252", after := #[{ on := 14, ground := Go.Ground.data }, { on := 10, ground := Go.Ground.guard }], guard := some (10, false) }) (v := ?vg1_15) rfl (by kernel_rfl) (by kernel_rfl) (by kernel_rfl) (by kernel_rfl) (fun _ _ _ h => h) (fun _ => hSg1_14) (Or.inl ⟨by rfl, ?hg1_15⟩) ?_
  case hg1_15 => intro w _; go_simp; (try with_reducible rfl)
  try simp only [Act.put, List.setIfInBounds_toArray, List.set_cons_zero, List.set_cons_succ]
  refine wpAnyG_take0 (i := 16) (oi := { dst := some 21, op := Go.Op.pick (Go.Operand.tmp 15) (Go.Operand.const (Go.Value.bool true)) (Go.Operand.tmp 20), type := 4, pos := "ref.go:252", after := #[{ on := 10, ground := Go.Ground.data }, { on := 15, ground := Go.Ground.data }], guard := none }) (v := ?vg1_16) rfl (by kernel_rfl) (by kernel_rfl) (by kernel_rfl) (by kernel_rfl) (fun _ _ _ h => h) (fun _ => hSg1_14) (Or.inl ⟨by rfl, ?hg1_16⟩) ?_
  case hg1_16 => intro w _; go_simp; (try with_reducible rfl)
  try simp only [Act.put, List.setIfInBounds_toArray, List.set_cons_zero, List.set_cons_succ]
  refine wpAnyG_done (by kernel_rfl) ?_ _
  have c0 : _ = some (Value.int .i64 kd) := HS3.out.2.cell 0
  have c1 : _ = some (Value.int .i64 a) := HS3.out.2.cell 1
  have c2 : _ = some (Value.string ⟨p.toArray⟩) := HS3.out.2.cell 2
  have c3 : _ = some (Value.slice Ab b.length cb) := HS3.out.2.cell 3
  have c4 : _ = some (Value.int .i64 f) := HS3.out.2.cell 4
  have c5 : _ = some (Value.int .i64 n) := HS3.out.2.cell 5
  have c6 : _ = some (Value.slice Ak kp.length ck) := HS3.out.2.cell 6
  cases sb
  · go_wp2
    go_ret2
    refine ⟨?_, HS3.out.1⟩
    rw [HTX.out]
    simp
  · by_cases hrl : rl = []
    · have hr2 : rl.isEmpty = true := by simp [hrl]
      subst hrl
      go_wp2_with (go_at_call 52; refine (HLI _ HS3.out.1).out.mono ?_; rintro e w4 ⟨rfl, hk4⟩)
      go_ret2
      refine ⟨?_, HS3.out.1.trans (hk4.mono HS3.out.1.size)⟩
      rw [HTX.out]
      simp
    · have hr2 : rl.isEmpty = false := by simpa using hrl
      have hr3 : (rl == []) = false := by simpa using hrl
      have Hr := Lib.hid hrl
      clear hrl
      go_wp2_with (go_at_call 52; refine (HLI _ HS3.out.1).out.mono ?_; rintro e w4 ⟨rfl, hk4⟩)
      go_ret2
      refine ⟨?_, HS3.out.1.trans (hk4.mono HS3.out.1.size)⟩
      rw [HTX.out]; simp [Hr.out]
end Go.Proofs.YtopfbbnpbobhaaaDoor
