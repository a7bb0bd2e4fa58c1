/- The reference's line. -/
import Derived.Test.YtopfbbnpbobhaaaDoorU4
set_option linter.unusedVariables false
set_option linter.unusedSimpArgs false
namespace Go.Proofs.YtopfbbnpbobhaaaDoor
open Go.RowKit Go.Sal

def rlineOf (d : Dd) : List UInt8 := if nameOf d.kind = [] then [] else lineOf d
theorem nameOf_other (k : Int) (h : ¬ (k = 1 ∨ k = 2 ∨ k = 3 ∨ k = 4 ∨ k = 5 ∨ k = 6 ∨ k = 7 ∨ k = 8 ∨ k = 9 ∨ k = 10 ∨ k = 11 ∨ k = 12 ∨ k = 13 ∨ k = 14 ∨ k = 15 ∨ k = 16)) : nameOf k = [] := by
  unfold nameOf
  iterate 16 (refine (if_neg (by omega)).trans ?_)
  rfl
set_option maxRecDepth 200000 in
set_option maxHeartbeats 8000000 in
theorem rline_1 (a : Int) (p b : List UInt8) (f n : Int) (kp : List Bool) (Ab Ak : Option Addr) (cb ck : Nat) (w : World) (hb : RD encB w Ab b) (hk : RD encT w Ak kp) (hcb : b.length ≤ cb) (hlb : b.length ≤ 3000) (hlp : p.length ≤ 3000) (hlk : kp.length ≤ 4000000)
    (ha : -9223372036854775808 ≤ a ∧ a ≤ 9223372036854775807) (hf : -9223372036854775808 ≤ f ∧ f ≤ 9223372036854775807) (hn : -9223372036854775808 ≤ n ∧ n ≤ 9223372036854775807) :
    Calls Tryd.prog 52 #[.agg (DvA ⟨1, a, p, b, f, n, kp⟩ (.slice Ab b.length cb) (.slice Ak kp.length ck))] w fun e w' => e = .returned (.string ⟨(rlineOf ⟨1, a, p, b, f, n, kp⟩).toArray⟩) ∧ Below w.heap.size w w' := by
  obtain ⟨w1, hw1⟩ : ∃ w1, w.alloc (.cells #[.int .i64 1, .int .i64 a, .string ⟨p.toArray⟩, .slice Ab b.length cb, .int .i64 f, .int .i64 n, .slice Ak kp.length ck] 72) = w1 := ⟨_, rfl⟩
  have HD1 : Hid (Blk w1 w.heap.size 72 #[.int .i64 1, .int .i64 a, .string ⟨p.toArray⟩, .slice Ab b.length cb, .int .i64 f, .int .i64 n, .slice Ak kp.length ck]) := Lib.hid (by rw [← hw1]; exact Blk.new _ _ _)
  have HB1 : Hid (Below w.heap.size w w1) := Lib.hid (by rw [← hw1]; exact (Below.refl _ w).alloc (Nat.le_refl _) _)
  have HA : ∀ W, Hid (Calls Tryd.prog 53 #[.int .i64 a] W fun e w' => e = .returned (.string ⟨(Lib.itoa a).toArray⟩) ∧ Keep [] W w') := fun W => Lib.hid (decimal_any a ha W)
  have HN : ∀ W, Hid (Calls Tryd.prog 53 #[.int .i64 n] W fun e w' => e = .returned (.string ⟨(Lib.itoa n).toArray⟩) ∧ Keep [] W w') := fun W => Lib.hid (decimal_any n hn W)
  have HF : ∀ W, Hid (Calls Tryd.prog 53 #[.int .i64 f] W fun e w' => e = .returned (.string ⟨(Lib.itoa f).toArray⟩) ∧ Keep [] W w') := fun W => Lib.hid (decimal_any f hf W)
  have HP : ∀ W, Hid (Calls Tryd.prog 65 #[.agg #[.int .i64 1, .int .i64 a, .string ⟨p.toArray⟩, .slice Ab b.length cb, .int .i64 f, .int .i64 n, .slice Ak kp.length ck]] W fun e w' => e = .returned (.string ⟨(32 :: hexS p).toArray⟩) ∧ Below W.heap.size W w') := fun W => Lib.hid (rpath_any ⟨1, a, p, b, f, n, kp⟩ _ _ Ab Ak _ cb _ ck W hlp rfl rfl)
  have HX : ∀ W, Below w.heap.size w W → Hid (Calls Tryd.prog 10 #[.slice Ab b.length cb] W fun e w' => e = .returned (.string ⟨(hexS b).toArray⟩) ∧ Below W.heap.size W w') := fun W hW => Lib.hid (rhexg_any b Ab cb W (RD.below hb hW) hcb hlb)
  have HT : ∀ W, Below w.heap.size w W → Hid (Calls Tryd.prog 66 #[.slice Ak kp.length ck] W fun e w' => e = .returned (.string ⟨(truS kp).toArray⟩) ∧ Below W.heap.size W w') := fun W hW => Lib.hid (rtruths_any kp Ak ck W (RD.below hk hW) hlk)
  have HL : Hid (rlineOf ⟨1, a, p, b, f, n, kp⟩ = [112, 117, 116] ++ ([32] ++ Lib.itoa a) ++ (32 :: hexS p) ++ [32] ++ hexS b) := Lib.hid (by simp [rlineOf, lineOf, nameOf, fieldsOf, wordOf, Lib.join_cons, Lib.join_one, Lib.joinTail])
  have lia := itoa_len a ha
  have lin := itoa_len n hn
  have lif := itoa_len f hf
  have lhp := hexS_len p (by omega)
  have lhb : (hexS b).length ≤ 72001 := by have := hexS_len b (by omega); omega
  have ltk : (truS kp).length ≤ 4000001 := by have := truS_len kp; omega
  have lpa : (32 :: hexS p).length ≤ 72002 := by simp; omega
  generalize Lib.itoa a = ia at *
  generalize Lib.itoa n = in_ at *
  generalize Lib.itoa f = if_ at *
  generalize 32 :: hexS p = pa at *
  generalize hexS b = hb_ at *
  generalize truS kp = tk at *
  obtain ⟨sa, hsa⟩ : ∃ x, x = [32] ++ ia := ⟨_, rfl⟩
  obtain ⟨sn, hsn⟩ : ∃ x, x = [32] ++ in_ := ⟨_, rfl⟩
  have lsa : sa.length ≤ 22 := by rw [hsa]; simp; omega
  have lsn : sn.length ≤ 22 := by rw [hsn]; simp; omega
  have qa : ∀ W : World, (Op.stringOp .add ⟨#[32]⟩ ⟨ia.toArray⟩).run Tryd.prog W = .ok (.string ⟨sa.toArray⟩) W := add_lists (a := [32]) hsa (by omega)
  have qn : ∀ W : World, (Op.stringOp .add ⟨#[32]⟩ ⟨in_.toArray⟩).run Tryd.prog W = .ok (.string ⟨sn.toArray⟩) W := add_lists (a := [32]) hsn (by omega)
  obtain ⟨x0, hx0⟩ : ∃ x, x = [112, 117, 116] ++ sa := ⟨_, rfl⟩
  obtain ⟨x1, hx1⟩ : ∃ x, x = x0 ++ pa := ⟨_, rfl⟩
  obtain ⟨x2, hx2⟩ : ∃ x, x = x1 ++ [32] := ⟨_, rfl⟩
  obtain ⟨x3, hx3⟩ : ∃ x, x = x2 ++ hb_ := ⟨_, rfl⟩
  have lx0 : x0.length ≤ 25 := by rw [hx0, List.length_append]; (try simp only [List.length_cons, List.length_nil]); omega
  have qx0 : ∀ W : World, (Op.stringOp .add ⟨#[112, 117, 116]⟩ ⟨sa.toArray⟩).run Tryd.prog W = .ok (.string ⟨x0.toArray⟩) W := add_lists (a := [112, 117, 116]) (b := sa) hx0 (by omega)
  have lx1 : x1.length ≤ 72027 := by rw [hx1, List.length_append]; (try simp only [List.length_cons, List.length_nil]); omega
  have qx1 : ∀ W : World, (Op.stringOp .add ⟨x0.toArray⟩ ⟨pa.toArray⟩).run Tryd.prog W = .ok (.string ⟨x1.toArray⟩) W := add_lists (a := x0) (b := pa) hx1 (by omega)
  have lx2 : x2.length ≤ 72028 := by rw [hx2, List.length_append]; (try simp only [List.length_cons, List.length_nil]); omega
  have qx2 : ∀ W : World, (Op.stringOp .add ⟨x1.toArray⟩ ⟨#[32]⟩).run Tryd.prog W = .ok (.string ⟨x2.toArray⟩) W := add_lists (a := x1) (b := [32]) hx2 (by omega)
  have lx3 : x3.length ≤ 144029 := by rw [hx3, List.length_append]; (try simp only [List.length_cons, List.length_nil]); omega
  have qx3 : ∀ W : World, (Op.stringOp .add ⟨x2.toArray⟩ ⟨hb_.toArray⟩).run Tryd.prog W = .ok (.string ⟨x3.toArray⟩) W := add_lists (a := x2) (b := hb_) hx3 (by omega)
  have HL2 : Hid (rlineOf ⟨1, a, p, b, f, n, kp⟩ = x3) := Lib.hid (by rw [HL.out]; simp only [hx0, hx1, hx2, hx3, hsa, hsn, List.append_assoc])
  clear HL hx0 lx0 hx1 lx1 hx2 lx2 hx3 lx3
  have Hw1 := Lib.hid hw1
  clear lia lin lif lhp lhb ltk lpa lsa lsn hsa hsn hw1 hb hk ha hf hn hlp hlb hlk hcb
  unfold DvA
  go_enter Tryd.func52, Tryd.ntmps52
  go_upto_region 1 with (fail)
  rw [Hw1.out]
  refine wp_region_G (fun W => Below w.heap.size w W ∧ Blk W w.heap.size 72 #[.int .i64 1, .int .i64 a, .string ⟨p.toArray⟩, .slice Ab b.length cb, .int .i64 f, .int .i64 n, .slice Ak kp.length ck]) [] #[false, false, false, false, false, false, false, false, false, false] 10 (by kernel_rfl) (by kernel_rfl) (by kernel_rfl) ?_
  refine wpAnyG_take0 (i := 0) (oi := { dst := some 5, op := Go.Op.fieldAddr 72 (Go.Operand.tmp 1) 1, type := 0, pos := "ref.go:175", after := #[], guard := none }) (v := ?vg1_0) rfl (by kernel_rfl) (by kernel_rfl) (by kernel_rfl) (by kernel_rfl) (fun _ _ _ h => h) (fun _ => ⟨HB1.out.drew, HD1.out.drew⟩) (Or.inl ⟨by rfl, ?hg1_0⟩) ?_
  case hg1_0 => intro w _; go_simp; (try with_reducible rfl)
  try simp only [Act.put, List.setIfInBounds_toArray, List.set_cons_zero, List.set_cons_succ]
  refine wpAnyG_take (i := 1) (oi := { dst := some 6, op := Go.Op.load 3 (Go.Operand.tmp 5), type := 3, pos := "ref.go:175", after := #[{ on := 0, ground := Go.Ground.data }], guard := none }) (v := ?vg1_1) [1, 2, 3, 6, 7, 8, 9] rfl (by kernel_rfl) (by kernel_rfl) (by kernel_rfl) (by kernel_rfl) (by kernel_rfl) (fun _ _ _ h => h) (fun _ => ⟨HB1.out.drew, HD1.out.drew⟩) (Or.inl ⟨by rfl, ?hg1_1⟩) ?_
  case hg1_1 => intro w hSw; (try dsimp only at hSw); have c1 : _ = some (Value.int .i64 a) := hSw.2.cell 1; go_simp; (try with_reducible rfl)
  try simp only [Act.put, List.setIfInBounds_toArray, List.set_cons_zero, List.set_cons_succ]
  refine wpAnyG_take0 (i := 4) (oi := { dst := some 9, op := Go.Op.fieldAddr 72 (Go.Operand.tmp 1) 5, type := 0, pos := "ref.go:175", after := #[], guard := none }) (v := ?vg1_4) rfl (by kernel_rfl) (by kernel_rfl) (by kernel_rfl) (by kernel_rfl) (fun _ _ _ h => h) (fun _ => ⟨HB1.out.drew, HD1.out.drew⟩) (Or.inl ⟨by rfl, ?hg1_4⟩) ?_
  case hg1_4 => intro w _; go_simp; (try with_reducible rfl)
  try simp only [Act.put, List.setIfInBounds_toArray, List.set_cons_zero, List.set_cons_succ]
  refine wpAnyG_take (i := 5) (oi := { dst := some 10, op := Go.Op.load 3 (Go.Operand.tmp 9), type := 3, pos := "ref.go:175", after := #[{ on := 4, ground := Go.Ground.data }], guard := none }) (v := ?vg1_5) [5, 6, 7, 8, 9] rfl (by kernel_rfl) (by kernel_rfl) (by kernel_rfl) (by kernel_rfl) (by kernel_rfl) (fun _ _ _ h => h) (fun _ => ⟨HB1.out.drew, HD1.out.drew⟩) (Or.inl ⟨by rfl, ?hg1_5⟩) ?_
  case hg1_5 => intro w hSw; (try dsimp only at hSw); have c5 : _ = some (Value.int .i64 n) := hSw.2.cell 5; go_simp; (try with_reducible rfl)
  try simp only [Act.put, List.setIfInBounds_toArray, List.set_cons_zero, List.set_cons_succ]
  refine wpAnyG_step (i := 2) (oi := { dst := some 7, op := Go.Op.call { callee := Go.Callee.value (Go.Operand.func 53), args := #[Go.Operand.tmp 6], argTypes := #[3] }, type := 9, pos := "ref.go:175", after := #[{ on := 1, ground := Go.Ground.data }], guard := none }) rfl (by kernel_rfl) (by rfl) (fun K hK => ?_)
  go_simp
  go_at_call 53
  refine (HA _).out.mono ?_
  rintro e w2 ⟨rfl, hk2⟩
  have HS2 := Lib.hid (And.intro ((And.intro HB1.out.drew HD1.out.drew).1.trans (hk2.below.mono (And.intro HB1.out.drew HD1.out.drew).1.size)) ((And.intro HB1.out.drew HD1.out.drew).2.keep hk2 List.not_mem_nil))
  clear hk2
  dsimp only
  refine hK _ _ ?_ (fun hSg1_2 => ?_)
  · intro _; exact HS2.out
  replace hSg1_2 := hSg1_2 (by kernel_rfl)
  clear hK
  try simp only [Act.put, List.setIfInBounds_toArray, List.set_cons_zero, List.set_cons_succ]
  refine wpAnyG_take0 (i := 3) (oi := { dst := some 8, op := Go.Op.binOp Go.BinOp.add 9 (Go.Operand.const (Go.Value.string { data := #[32] })) (Go.Operand.tmp 7) 9, type := 9, pos := "ref.go:175", after := #[{ on := 2, ground := Go.Ground.data }], guard := none }) (v := ?vg1_3) rfl (by kernel_rfl) (by kernel_rfl) (by kernel_rfl) (by kernel_rfl) (fun _ _ _ h => h) (fun _ => hSg1_2) (Or.inl ⟨by rfl, ?hg1_3⟩) ?_
  case hg1_3 => intro w _; go_simp; (try with_reducible rfl)
  try simp only [Act.put, List.setIfInBounds_toArray, List.set_cons_zero, List.set_cons_succ]
  refine wpAnyG_step (i := 6) (oi := { dst := some 11, op := Go.Op.call { callee := Go.Callee.value (Go.Operand.func 53), args := #[Go.Operand.tmp 10], argTypes := #[3] }, type := 9, pos := "ref.go:175", after := #[{ on := 5, ground := Go.Ground.data }, { on := 2, ground := Go.Ground.chain }], guard := none }) rfl (by kernel_rfl) (by rfl) (fun K hK => ?_)
  go_simp
  go_at_call 53
  refine (HN _).out.mono ?_
  rintro e w3 ⟨rfl, hk3⟩
  have HS3 := Lib.hid (And.intro (HS2.out.1.trans (hk3.below.mono HS2.out.1.size)) (HS2.out.2.keep hk3 List.not_mem_nil))
  clear hk3
  dsimp only
  refine hK _ _ ?_ (fun hSg1_6 => ?_)
  · intro _; exact HS3.out
  replace hSg1_6 := hSg1_6 (by kernel_rfl)
  clear hK
  try simp only [Act.put, List.setIfInBounds_toArray, List.set_cons_zero, List.set_cons_succ]
  refine wpAnyG_take0 (i := 7) (oi := { dst := some 12, op := Go.Op.binOp Go.BinOp.add 9 (Go.Operand.const (Go.Value.string { data := #[32] })) (Go.Operand.tmp 11) 9, type := 9, pos := "ref.go:175", after := #[{ on := 6, ground := Go.Ground.data }, { on := 8, ground := Go.Ground.gcOnly Go.Departure.lateStores }], guard := none }) (v := ?vg1_7) rfl (by kernel_rfl) (by kernel_rfl) (by kernel_rfl) (by kernel_rfl) (fun _ _ _ h => h) (fun _ => hSg1_6) (Or.inl ⟨by rfl, ?hg1_7⟩) ?_
  case hg1_7 => intro w _; go_simp; (try with_reducible rfl)
  try simp only [Act.put, List.setIfInBounds_toArray, List.set_cons_zero, List.set_cons_succ]
  refine wpAnyG_take0 (i := 8) (oi := { dst := some 3, op := Go.Op.assign (Go.Operand.tmp 8), type := 9, pos := "ref.go:175", after := #[{ on := 3, ground := Go.Ground.data }, { on := 6, ground := Go.Ground.chain }, { on := 0, ground := Go.Ground.phase }, { on := 1, ground := Go.Ground.phase }, { on := 2, ground := Go.Ground.phase }, { on := 3, ground := Go.Ground.phase }, { on := 4, ground := Go.Ground.textOnly Go.Departure.lateStores }, { on := 5, ground := Go.Ground.textOnly Go.Departure.lateStores }, { on := 6, ground := Go.Ground.textOnly Go.Departure.lateStoresUnsure }, { on := 7, ground := Go.Ground.textOnly Go.Departure.lateStores }], guard := none }) (v := ?vg1_8) rfl (by kernel_rfl) (by kernel_rfl) (by kernel_rfl) (by kernel_rfl) (fun _ _ _ h => h) (fun _ => hSg1_6) (Or.inl ⟨by rfl, ?hg1_8⟩) ?_
  case hg1_8 => intro w _; go_simp; (try with_reducible rfl)
  try simp only [Act.put, List.setIfInBounds_toArray, List.set_cons_zero, List.set_cons_succ]
  refine wpAnyG_take0 (i := 9) (oi := { dst := some 4, op := Go.Op.assign (Go.Operand.tmp 12), type := 9, pos := "ref.go:175", after := #[{ on := 7, ground := Go.Ground.data }, { on := 8, ground := Go.Ground.chain }, { on := 0, ground := Go.Ground.phase }, { on := 1, ground := Go.Ground.phase }, { on := 2, ground := Go.Ground.phase }, { on := 3, ground := Go.Ground.phase }, { on := 4, ground := Go.Ground.phase }, { on := 5, ground := Go.Ground.phase }, { on := 6, ground := Go.Ground.phase }, { on := 7, ground := Go.Ground.phase }, { on := 8, ground := Go.Ground.phase }], guard := none }) (v := ?vg1_9) rfl (by kernel_rfl) (by kernel_rfl) (by kernel_rfl) (by kernel_rfl) (fun _ _ _ h => h) (fun _ => hSg1_6) (Or.inl ⟨by rfl, ?hg1_9⟩) ?_
  case hg1_9 => intro w _; go_simp; (try with_reducible rfl)
  try simp only [Act.put, List.setIfInBounds_toArray, List.set_cons_zero, List.set_cons_succ]
  refine wpAnyG_done (by kernel_rfl) ?_ _
  have c0 : _ = some (Value.int .i64 1) := HS3.out.2.cell 0
  have c1 : _ = some (Value.int .i64 a) := HS3.out.2.cell 1
  have c2 : _ = some (Value.string ⟨p.toArray⟩) := HS3.out.2.cell 2
  have c3 : _ = some (Value.slice Ab b.length cb) := HS3.out.2.cell 3
  have c4 : _ = some (Value.int .i64 f) := HS3.out.2.cell 4
  have c5 : _ = some (Value.int .i64 n) := HS3.out.2.cell 5
  have c6 : _ = some (Value.slice Ak kp.length ck) := HS3.out.2.cell 6
  go_upto_region 4 with (fail)
  clear c0 c1 c2 c3 c4 c5 c6
  refine wp_region_G (fun W => Below w.heap.size w W ∧ Blk W w.heap.size 72 #[.int .i64 1, .int .i64 a, .string ⟨p.toArray⟩, .slice Ab b.length cb, .int .i64 f, .int .i64 n, .slice Ak kp.length ck]) [] #[false, false, false, false, false, false, false, false, false, false, false] 11 (by kernel_rfl) (by kernel_rfl) (by kernel_rfl) ?_
  refine wpAnyG_take0 (i := 0) (oi := { dst := some 17, op := Go.Op.move (Go.Operand.tmp 3), type := 9, pos := "ref.go:178", after := #[], guard := none }) (v := ?vg2_0) rfl (by kernel_rfl) (by kernel_rfl) (by kernel_rfl) (by kernel_rfl) (fun _ _ _ h => h) (fun _ => ⟨HS3.out.1.drew, HS3.out.2.drew⟩) (Or.inl ⟨by rfl, ?hg2_0⟩) ?_
  case hg2_0 => intro w _; go_simp; (try with_reducible rfl)
  try simp only [Act.put, List.setIfInBounds_toArray, List.set_cons_zero, List.set_cons_succ]
  refine wpAnyG_take0 (i := 1) (oi := { dst := some 18, op := Go.Op.binOp Go.BinOp.add 9 (Go.Operand.const (Go.Value.string { data := #[112, 117, 116] })) (Go.Operand.tmp 17) 9, type := 9, pos := "ref.go:178", after := #[{ on := 0, ground := Go.Ground.data }], guard := none }) (v := ?vg2_1) rfl (by kernel_rfl) (by kernel_rfl) (by kernel_rfl) (by kernel_rfl) (fun _ _ _ h => h) (fun _ => ⟨HS3.out.1.drew, HS3.out.2.drew⟩) (Or.inl ⟨by rfl, ?hg2_1⟩) ?_
  case hg2_1 => intro w _; go_simp; (try with_reducible rfl)
  try simp only [Act.put, List.setIfInBounds_toArray, List.set_cons_zero, List.set_cons_succ]
  refine wpAnyG_take (i := 2) (oi := { dst := some 19, op := Go.Op.load 72 (Go.Operand.tmp 1), type := 72, pos := "ref.go:178", after := #[], guard := none }) (v := ?vg2_2) [2, 3, 4, 5, 8, 9, 10] rfl (by kernel_rfl) (by kernel_rfl) (by kernel_rfl) (by kernel_rfl) (by kernel_rfl) (fun _ _ _ h => h) (fun _ => ⟨HS3.out.1.drew, HS3.out.2.drew⟩) (Or.inl ⟨by rfl, ?hg2_2⟩) ?_
  case hg2_2 => intro w hSw; (try dsimp only at hSw); have c0 : _ = some (Value.int .i64 1) := hSw.2.cell 0; have c1 : _ = some (Value.int .i64 a) := hSw.2.cell 1; have c2 : _ = some (Value.string ⟨p.toArray⟩) := hSw.2.cell 2; have c3 : _ = some (Value.slice Ab b.length cb) := hSw.2.cell 3; have c4 : _ = some (Value.int .i64 f) := hSw.2.cell 4; have c5 : _ = some (Value.int .i64 n) := hSw.2.cell 5; have c6 : _ = some (Value.slice Ak kp.length ck) := hSw.2.cell 6; go_simp; (try with_reducible rfl)
  try simp only [Act.put, List.setIfInBounds_toArray, List.set_cons_zero, List.set_cons_succ]
  refine wpAnyG_take0 (i := 6) (oi := { dst := some 23, op := Go.Op.fieldAddr 72 (Go.Operand.tmp 1) 3, type := 0, pos := "ref.go:178", after := #[], guard := none }) (v := ?vg2_6) rfl (by kernel_rfl) (by kernel_rfl) (by kernel_rfl) (by kernel_rfl) (fun _ _ _ h => h) (fun _ => ⟨HS3.out.1.drew, HS3.out.2.drew⟩) (Or.inl ⟨by rfl, ?hg2_6⟩) ?_
  case hg2_6 => intro w _; go_simp; (try with_reducible rfl)
  try simp only [Act.put, List.setIfInBounds_toArray, List.set_cons_zero, List.set_cons_succ]
  refine wpAnyG_take (i := 7) (oi := { dst := some 24, op := Go.Op.load 22 (Go.Operand.tmp 23), type := 22, pos := "ref.go:178", after := #[{ on := 6, ground := Go.Ground.data }], guard := none }) (v := ?vg2_7) [7, 8, 9, 10] rfl (by kernel_rfl) (by kernel_rfl) (by kernel_rfl) (by kernel_rfl) (by kernel_rfl) (fun _ _ _ h => h) (fun _ => ⟨HS3.out.1.drew, HS3.out.2.drew⟩) (Or.inl ⟨by rfl, ?hg2_7⟩) ?_
  case hg2_7 => intro w hSw; (try dsimp only at hSw); have c3 : _ = some (Value.slice Ab b.length cb) := hSw.2.cell 3; go_simp; (try with_reducible rfl)
  try simp only [Act.put, List.setIfInBounds_toArray, List.set_cons_zero, List.set_cons_succ]
  refine wpAnyG_step (i := 3) (oi := { dst := some 20, op := Go.Op.call { callee := Go.Callee.value (Go.Operand.func 65), args := #[Go.Operand.tmp 19], argTypes := #[72] }, type := 9, pos := "ref.go:178", after := #[{ on := 2, ground := Go.Ground.data }], guard := none }) rfl (by kernel_rfl) (by rfl) (fun K hK => ?_)
  go_simp
  go_at_call 65
  refine (HP _).out.mono ?_
  rintro e w4 ⟨rfl, hk4⟩
  have HS4 := Lib.hid (And.intro ((And.intro HS3.out.1.drew HS3.out.2.drew).1.trans (hk4.mono (And.intro HS3.out.1.drew HS3.out.2.drew).1.size)) ((And.intro HS3.out.1.drew HS3.out.2.drew).2.keep (Keep.of_below (F := []) hk4) List.not_mem_nil))
  clear hk4
  dsimp only
  refine hK _ _ ?_ (fun hSg2_3 => ?_)
  · intro _; exact HS4.out
  replace hSg2_3 := hSg2_3 (by kernel_rfl)
  clear hK
  try simp only [Act.put, List.setIfInBounds_toArray, List.set_cons_zero, List.set_cons_succ]
  refine wpAnyG_take0 (i := 4) (oi := { dst := some 21, op := Go.Op.binOp Go.BinOp.add 9 (Go.Operand.tmp 18) (Go.Operand.tmp 20) 9, type := 9, pos := "ref.go:178", after := #[{ on := 1, ground := Go.Ground.data }, { on := 3, ground := Go.Ground.data }], guard := none }) (v := ?vg2_4) rfl (by kernel_rfl) (by kernel_rfl) (by kernel_rfl) (by kernel_rfl) (fun _ _ _ h => h) (fun _ => hSg2_3) (Or.inl ⟨by rfl, ?hg2_4⟩) ?_
  case hg2_4 => intro w _; go_simp; (try with_reducible rfl)
  try simp only [Act.put, List.setIfInBounds_toArray, List.set_cons_zero, List.set_cons_succ]
  refine wpAnyG_take0 (i := 5) (oi := { dst := some 22, op := Go.Op.binOp Go.BinOp.add 9 (Go.Operand.tmp 21) (Go.Operand.const (Go.Value.string { data := #[32] })) 9, type := 9, pos := "ref.go:178", after := #[{ on := 4, ground := Go.Ground.data }], guard := none }) (v := ?vg2_5) rfl (by kernel_rfl) (by kernel_rfl) (by kernel_rfl) (by kernel_rfl) (fun _ _ _ h => h) (fun _ => hSg2_3) (Or.inl ⟨by rfl, ?hg2_5⟩) ?_
  case hg2_5 => intro w _; go_simp; (try with_reducible rfl)
  try simp only [Act.put, List.setIfInBounds_toArray, List.set_cons_zero, List.set_cons_succ]
  refine wpAnyG_step (i := 8) (oi := { dst := some 25, op := Go.Op.call { callee := Go.Callee.value (Go.Operand.func 10), args := #[Go.Operand.tmp 24], argTypes := #[22] }, type := 9, pos := "ref.go:178", after := #[{ on := 7, ground := Go.Ground.data }, { on := 3, ground := Go.Ground.chain }], guard := none }) rfl (by kernel_rfl) (by rfl) (fun K hK => ?_)
  go_simp
  go_at_call 10
  refine (HX _ HS4.out.1).out.mono ?_
  rintro e w5 ⟨rfl, hk5⟩
  have HS5 := Lib.hid (And.intro (HS4.out.1.trans (hk5.mono HS4.out.1.size)) (HS4.out.2.keep (Keep.of_below (F := []) hk5) List.not_mem_nil))
  clear hk5
  dsimp only
  refine hK _ _ ?_ (fun hSg2_8 => ?_)
  · intro _; exact HS5.out
  replace hSg2_8 := hSg2_8 (by kernel_rfl)
  clear hK
  try simp only [Act.put, List.setIfInBounds_toArray, List.set_cons_zero, List.set_cons_succ]
  refine wpAnyG_take0 (i := 9) (oi := { dst := some 26, op := Go.Op.binOp Go.BinOp.add 9 (Go.Operand.tmp 22) (Go.Operand.tmp 25) 9, type := 9, pos := "ref.go:178", after := #[{ on := 5, ground := Go.Ground.data }, { on := 8, ground := Go.Ground.data }], guard := none }) (v := ?vg2_9) rfl (by kernel_rfl) (by kernel_rfl) (by kernel_rfl) (by kernel_rfl) (fun _ _ _ h => h) (fun _ => hSg2_8) (Or.inl ⟨by rfl, ?hg2_9⟩) ?_
  case hg2_9 => intro w _; go_simp; (try with_reducible rfl)
  try simp only [Act.put, List.setIfInBounds_toArray, List.set_cons_zero, List.set_cons_succ]
  refine wpAnyG_take0 (i := 10) (oi := { dst := some 2, op := Go.Op.assign (Go.Operand.tmp 26), type := 9, pos := "ref.go:178", after := #[{ on := 9, ground := Go.Ground.data }, { on := 8, ground := Go.Ground.chain }, { on := 0, ground := Go.Ground.phase }, { on := 1, ground := Go.Ground.phase }, { on := 2, ground := Go.Ground.phase }, { on := 3, ground := Go.Ground.phase }, { on := 4, ground := Go.Ground.phase }, { on := 5, ground := Go.Ground.phase }, { on := 6, ground := Go.Ground.phase }, { on := 7, ground := Go.Ground.phase }, { on := 8, ground := Go.Ground.phase }, { on := 9, ground := Go.Ground.phase }], guard := none }) (v := ?vg2_10) rfl (by kernel_rfl) (by kernel_rfl) (by kernel_rfl) (by kernel_rfl) (fun _ _ _ h => h) (fun _ => hSg2_8) (Or.inl ⟨by rfl, ?hg2_10⟩) ?_
  case hg2_10 => intro w _; go_simp; (try with_reducible rfl)
  try simp only [Act.put, List.setIfInBounds_toArray, List.set_cons_zero, List.set_cons_succ]
  refine wpAnyG_done (by kernel_rfl) ?_ _
  go_wp2
  go_ret
  rw [HL2.out]
  exact ⟨rfl, HS5.out.1⟩
set_option maxRecDepth 200000 in
set_option maxHeartbeats 8000000 in
theorem rline_2 (a : Int) (p b : List UInt8) (f n : Int) (kp : List Bool) (Ab Ak : Option Addr) (cb ck : Nat) (w : World) (hb : RD encB w Ab b) (hk : RD encT w Ak kp) (hcb : b.length ≤ cb) (hlb : b.length ≤ 3000) (hlp : p.length ≤ 3000) (hlk : kp.length ≤ 4000000)
    (ha : -9223372036854775808 ≤ a ∧ a ≤ 9223372036854775807) (hf : -9223372036854775808 ≤ f ∧ f ≤ 9223372036854775807) (hn : -9223372036854775808 ≤ n ∧ n ≤ 9223372036854775807) :
    Calls Tryd.prog 52 #[.agg (DvA ⟨2, a, p, b, f, n, kp⟩ (.slice Ab b.length cb) (.slice Ak kp.length ck))] w fun e w' => e = .returned (.string ⟨(rlineOf ⟨2, a, p, b, f, n, kp⟩).toArray⟩) ∧ Below w.heap.size w w' := by
  obtain ⟨w1, hw1⟩ : ∃ w1, w.alloc (.cells #[.int .i64 2, .int .i64 a, .string ⟨p.toArray⟩, .slice Ab b.length cb, .int .i64 f, .int .i64 n, .slice Ak kp.length ck] 72) = w1 := ⟨_, rfl⟩
  have HD1 : Hid (Blk w1 w.heap.size 72 #[.int .i64 2, .int .i64 a, .string ⟨p.toArray⟩, .slice Ab b.length cb, .int .i64 f, .int .i64 n, .slice Ak kp.length ck]) := Lib.hid (by rw [← hw1]; exact Blk.new _ _ _)
  have HB1 : Hid (Below w.heap.size w w1) := Lib.hid (by rw [← hw1]; exact (Below.refl _ w).alloc (Nat.le_refl _) _)
  have HA : ∀ W, Hid (Calls Tryd.prog 53 #[.int .i64 a] W fun e w' => e = .returned (.string ⟨(Lib.itoa a).toArray⟩) ∧ Keep [] W w') := fun W => Lib.hid (decimal_any a ha W)
  have HN : ∀ W, Hid (Calls Tryd.prog 53 #[.int .i64 n] W fun e w' => e = .returned (.string ⟨(Lib.itoa n).toArray⟩) ∧ Keep [] W w') := fun W => Lib.hid (decimal_any n hn W)
  have HF : ∀ W, Hid (Calls Tryd.prog 53 #[.int .i64 f] W fun e w' => e = .returned (.string ⟨(Lib.itoa f).toArray⟩) ∧ Keep [] W w') := fun W => Lib.hid (decimal_any f hf W)
  have HP : ∀ W, Hid (Calls Tryd.prog 65 #[.agg #[.int .i64 2, .int .i64 a, .string ⟨p.toArray⟩, .slice Ab b.length cb, .int .i64 f, .int .i64 n, .slice Ak kp.length ck]] W fun e w' => e = .returned (.string ⟨(32 :: hexS p).toArray⟩) ∧ Below W.heap.size W w') := fun W => Lib.hid (rpath_any ⟨2, a, p, b, f, n, kp⟩ _ _ Ab Ak _ cb _ ck W hlp rfl rfl)
  have HX : ∀ W, Below w.heap.size w W → Hid (Calls Tryd.prog 10 #[.slice Ab b.length cb] W fun e w' => e = .returned (.string ⟨(hexS b).toArray⟩) ∧ Below W.heap.size W w') := fun W hW => Lib.hid (rhexg_any b Ab cb W (RD.below hb hW) hcb hlb)
  have HT : ∀ W, Below w.heap.size w W → Hid (Calls Tryd.prog 66 #[.slice Ak kp.length ck] W fun e w' => e = .returned (.string ⟨(truS kp).toArray⟩) ∧ Below W.heap.size W w') := fun W hW => Lib.hid (rtruths_any kp Ak ck W (RD.below hk hW) hlk)
  have HL : Hid (rlineOf ⟨2, a, p, b, f, n, kp⟩ = [100, 101, 108, 101, 116, 101] ++ ([32] ++ Lib.itoa a) ++ (32 :: hexS p)) := Lib.hid (by simp [rlineOf, lineOf, nameOf, fieldsOf, wordOf, Lib.join_cons, Lib.join_one, Lib.joinTail])
  have lia := itoa_len a ha
  have lin := itoa_len n hn
  have lif := itoa_len f hf
  have lhp := hexS_len p (by omega)
  have lhb : (hexS b).length ≤ 72001 := by have := hexS_len b (by omega); omega
  have ltk : (truS kp).length ≤ 4000001 := by have := truS_len kp; omega
  have lpa : (32 :: hexS p).length ≤ 72002 := by simp; omega
  generalize Lib.itoa a = ia at *
  generalize Lib.itoa n = in_ at *
  generalize Lib.itoa f = if_ at *
  generalize 32 :: hexS p = pa at *
  generalize hexS b = hb_ at *
  generalize truS kp = tk at *
  obtain ⟨sa, hsa⟩ : ∃ x, x = [32] ++ ia := ⟨_, rfl⟩
  obtain ⟨sn, hsn⟩ : ∃ x, x = [32] ++ in_ := ⟨_, rfl⟩
  have lsa : sa.length ≤ 22 := by rw [hsa]; simp; omega
  have lsn : sn.length ≤ 22 := by rw [hsn]; simp; omega
  have qa : ∀ W : World, (Op.stringOp .add ⟨#[32]⟩ ⟨ia.toArray⟩).run Tryd.prog W = .ok (.string ⟨sa.toArray⟩) W := add_lists (a := [32]) hsa (by omega)
  have qn : ∀ W : World, (Op.stringOp .add ⟨#[32]⟩ ⟨in_.toArray⟩).run Tryd.prog W = .ok (.string ⟨sn.toArray⟩) W := add_lists (a := [32]) hsn (by omega)
  obtain ⟨x0, hx0⟩ : ∃ x, x = [100, 101, 108, 101, 116, 101] ++ sa := ⟨_, rfl⟩
  obtain ⟨x1, hx1⟩ : ∃ x, x = x0 ++ pa := ⟨_, rfl⟩
  have lx0 : x0.length ≤ 28 := by rw [hx0, List.length_append]; (try simp only [List.length_cons, List.length_nil]); omega
  have qx0 : ∀ W : World, (Op.stringOp .add ⟨#[100, 101, 108, 101, 116, 101]⟩ ⟨sa.toArray⟩).run Tryd.prog W = .ok (.string ⟨x0.toArray⟩) W := add_lists (a := [100, 101, 108, 101, 116, 101]) (b := sa) hx0 (by omega)
  have lx1 : x1.length ≤ 72030 := by rw [hx1, List.length_append]; (try simp only [List.length_cons, List.length_nil]); omega
  have qx1 : ∀ W : World, (Op.stringOp .add ⟨x0.toArray⟩ ⟨pa.toArray⟩).run Tryd.prog W = .ok (.string ⟨x1.toArray⟩) W := add_lists (a := x0) (b := pa) hx1 (by omega)
  have HL2 : Hid (rlineOf ⟨2, a, p, b, f, n, kp⟩ = x1) := Lib.hid (by rw [HL.out]; simp only [hx0, hx1, hsa, hsn, List.append_assoc])
  clear HL hx0 lx0 hx1 lx1
  have Hw1 := Lib.hid hw1
  clear lia lin lif lhp lhb ltk lpa lsa lsn hsa hsn hw1 hb hk ha hf hn hlp hlb hlk hcb
  unfold DvA
  go_enter Tryd.func52, Tryd.ntmps52
  go_upto_region 1 with (fail)
  rw [Hw1.out]
  refine wp_region_G (fun W => Below w.heap.size w W ∧ Blk W w.heap.size 72 #[.int .i64 2, .int .i64 a, .string ⟨p.toArray⟩, .slice Ab b.length cb, .int .i64 f, .int .i64 n, .slice Ak kp.length ck]) [] #[false, false, false, false, false, false, false, false, false, false] 10 (by kernel_rfl) (by kernel_rfl) (by kernel_rfl) ?_
  refine wpAnyG_take0 (i := 0) (oi := { dst := some 5, op := Go.Op.fieldAddr 72 (Go.Operand.tmp 1) 1, type := 0, pos := "ref.go:175", after := #[], guard := none }) (v := ?vg3_0) rfl (by kernel_rfl) (by kernel_rfl) (by kernel_rfl) (by kernel_rfl) (fun _ _ _ h => h) (fun _ => ⟨HB1.out.drew, HD1.out.drew⟩) (Or.inl ⟨by rfl, ?hg3_0⟩) ?_
  case hg3_0 => intro w _; go_simp; (try with_reducible rfl)
  try simp only [Act.put, List.setIfInBounds_toArray, List.set_cons_zero, List.set_cons_succ]
  refine wpAnyG_take (i := 1) (oi := { dst := some 6, op := Go.Op.load 3 (Go.Operand.tmp 5), type := 3, pos := "ref.go:175", after := #[{ on := 0, ground := Go.Ground.data }], guard := none }) (v := ?vg3_1) [1, 2, 3, 6, 7, 8, 9] rfl (by kernel_rfl) (by kernel_rfl) (by kernel_rfl) (by kernel_rfl) (by kernel_rfl) (fun _ _ _ h => h) (fun _ => ⟨HB1.out.drew, HD1.out.drew⟩) (Or.inl ⟨by rfl, ?hg3_1⟩) ?_
  case hg3_1 => intro w hSw; (try dsimp only at hSw); have c1 : _ = some (Value.int .i64 a) := hSw.2.cell 1; go_simp; (try with_reducible rfl)
  try simp only [Act.put, List.setIfInBounds_toArray, List.set_cons_zero, List.set_cons_succ]
  refine wpAnyG_take0 (i := 4) (oi := { dst := some 9, op := Go.Op.fieldAddr 72 (Go.Operand.tmp 1) 5, type := 0, pos := "ref.go:175", after := #[], guard := none }) (v := ?vg3_4) rfl (by kernel_rfl) (by kernel_rfl) (by kernel_rfl) (by kernel_rfl) (fun _ _ _ h => h) (fun _ => ⟨HB1.out.drew, HD1.out.drew⟩) (Or.inl ⟨by rfl, ?hg3_4⟩) ?_
  case hg3_4 => intro w _; go_simp; (try with_reducible rfl)
  try simp only [Act.put, List.setIfInBounds_toArray, List.set_cons_zero, List.set_cons_succ]
  refine wpAnyG_take (i := 5) (oi := { dst := some 10, op := Go.Op.load 3 (Go.Operand.tmp 9), type := 3, pos := "ref.go:175", after := #[{ on := 4, ground := Go.Ground.data }], guard := none }) (v := ?vg3_5) [5, 6, 7, 8, 9] rfl (by kernel_rfl) (by kernel_rfl) (by kernel_rfl) (by kernel_rfl) (by kernel_rfl) (fun _ _ _ h => h) (fun _ => ⟨HB1.out.drew, HD1.out.drew⟩) (Or.inl ⟨by rfl, ?hg3_5⟩) ?_
  case hg3_5 => intro w hSw; (try dsimp only at hSw); have c5 : _ = some (Value.int .i64 n) := hSw.2.cell 5; go_simp; (try with_reducible rfl)
  try simp only [Act.put, List.setIfInBounds_toArray, List.set_cons_zero, List.set_cons_succ]
  refine wpAnyG_step (i := 2) (oi := { dst := some 7, op := Go.Op.call { callee := Go.Callee.value (Go.Operand.func 53), args := #[Go.Operand.tmp 6], argTypes := #[3] }, type := 9, pos := "ref.go:175", after := #[{ on := 1, ground := Go.Ground.data }], guard := none }) rfl (by kernel_rfl) (by rfl) (fun K hK => ?_)
  go_simp
  go_at_call 53
  refine (HA _).out.mono ?_
  rintro e w2 ⟨rfl, hk2⟩
  have HS2 := Lib.hid (And.intro ((And.intro HB1.out.drew HD1.out.drew).1.trans (hk2.below.mono (And.intro HB1.out.drew HD1.out.drew).1.size)) ((And.intro HB1.out.drew HD1.out.drew).2.keep hk2 List.not_mem_nil))
  clear hk2
  dsimp only
  refine hK _ _ ?_ (fun hSg3_2 => ?_)
  · intro _; exact HS2.out
  replace hSg3_2 := hSg3_2 (by kernel_rfl)
  clear hK
  try simp only [Act.put, List.setIfInBounds_toArray, List.set_cons_zero, List.set_cons_succ]
  refine wpAnyG_take0 (i := 3) (oi := { dst := some 8, op := Go.Op.binOp Go.BinOp.add 9 (Go.Operand.const (Go.Value.string { data := #[32] })) (Go.Operand.tmp 7) 9, type := 9, pos := "ref.go:175", after := #[{ on := 2, ground := Go.Ground.data }], guard := none }) (v := ?vg3_3) rfl (by kernel_rfl) (by kernel_rfl) (by kernel_rfl) (by kernel_rfl) (fun _ _ _ h => h) (fun _ => hSg3_2) (Or.inl ⟨by rfl, ?hg3_3⟩) ?_
  case hg3_3 => intro w _; go_simp; (try with_reducible rfl)
  try simp only [Act.put, List.setIfInBounds_toArray, List.set_cons_zero, List.set_cons_succ]
  refine wpAnyG_step (i := 6) (oi := { dst := some 11, op := Go.Op.call { callee := Go.Callee.value (Go.Operand.func 53), args := #[Go.Operand.tmp 10], argTypes := #[3] }, type := 9, pos := "ref.go:175", after := #[{ on := 5, ground := Go.Ground.data }, { on := 2, ground := Go.Ground.chain }], guard := none }) rfl (by kernel_rfl) (by rfl) (fun K hK => ?_)
  go_simp
  go_at_call 53
  refine (HN _).out.mono ?_
  rintro e w3 ⟨rfl, hk3⟩
  have HS3 := Lib.hid (And.intro (HS2.out.1.trans (hk3.below.mono HS2.out.1.size)) (HS2.out.2.keep hk3 List.not_mem_nil))
  clear hk3
  dsimp only
  refine hK _ _ ?_ (fun hSg3_6 => ?_)
  · intro _; exact HS3.out
  replace hSg3_6 := hSg3_6 (by kernel_rfl)
  clear hK
  try simp only [Act.put, List.setIfInBounds_toArray, List.set_cons_zero, List.set_cons_succ]
  refine wpAnyG_take0 (i := 7) (oi := { dst := some 12, op := Go.Op.binOp Go.BinOp.add 9 (Go.Operand.const (Go.Value.string { data := #[32] })) (Go.Operand.tmp 11) 9, type := 9, pos := "ref.go:175", after := #[{ on := 6, ground := Go.Ground.data }, { on := 8, ground := Go.Ground.gcOnly Go.Departure.lateStores }], guard := none }) (v := ?vg3_7) rfl (by kernel_rfl) (by kernel_rfl) (by kernel_rfl) (by kernel_rfl) (fun _ _ _ h => h) (fun _ => hSg3_6) (Or.inl ⟨by rfl, ?hg3_7⟩) ?_
  case hg3_7 => intro w _; go_simp; (try with_reducible rfl)
  try simp only [Act.put, List.setIfInBounds_toArray, List.set_cons_zero, List.set_cons_succ]
  refine wpAnyG_take0 (i := 8) (oi := { dst := some 3, op := Go.Op.assign (Go.Operand.tmp 8), type := 9, pos := "ref.go:175", after := #[{ on := 3, ground := Go.Ground.data }, { on := 6, ground := Go.Ground.chain }, { on := 0, ground := Go.Ground.phase }, { on := 1, ground := Go.Ground.phase }, { on := 2, ground := Go.Ground.phase }, { on := 3, ground := Go.Ground.phase }, { on := 4, ground := Go.Ground.textOnly Go.Departure.lateStores }, { on := 5, ground := Go.Ground.textOnly Go.Departure.lateStores }, { on := 6, ground := Go.Ground.textOnly Go.Departure.lateStoresUnsure }, { on := 7, ground := Go.Ground.textOnly Go.Departure.lateStores }], guard := none }) (v := ?vg3_8) rfl (by kernel_rfl) (by kernel_rfl) (by kernel_rfl) (by kernel_rfl) (fun _ _ _ h => h) (fun _ => hSg3_6) (Or.inl ⟨by rfl, ?hg3_8⟩) ?_
  case hg3_8 => intro w _; go_simp; (try with_reducible rfl)
  try simp only [Act.put, List.setIfInBounds_toArray, List.set_cons_zero, List.set_cons_succ]
  refine wpAnyG_take0 (i := 9) (oi := { dst := some 4, op := Go.Op.assign (Go.Operand.tmp 12), type := 9, pos := "ref.go:175", after := #[{ on := 7, ground := Go.Ground.data }, { on := 8, ground := Go.Ground.chain }, { on := 0, ground := Go.Ground.phase }, { on := 1, ground := Go.Ground.phase }, { on := 2, ground := Go.Ground.phase }, { on := 3, ground := Go.Ground.phase }, { on := 4, ground := Go.Ground.phase }, { on := 5, ground := Go.Ground.phase }, { on := 6, ground := Go.Ground.phase }, { on := 7, ground := Go.Ground.phase }, { on := 8, ground := Go.Ground.phase }], guard := none }) (v := ?vg3_9) rfl (by kernel_rfl) (by kernel_rfl) (by kernel_rfl) (by kernel_rfl) (fun _ _ _ h => h) (fun _ => hSg3_6) (Or.inl ⟨by rfl, ?hg3_9⟩) ?_
  case hg3_9 => intro w _; go_simp; (try with_reducible rfl)
  try simp only [Act.put, List.setIfInBounds_toArray, List.set_cons_zero, List.set_cons_succ]
  refine wpAnyG_done (by kernel_rfl) ?_ _
  have c0 : _ = some (Value.int .i64 2) := HS3.out.2.cell 0
  have c1 : _ = some (Value.int .i64 a) := HS3.out.2.cell 1
  have c2 : _ = some (Value.string ⟨p.toArray⟩) := HS3.out.2.cell 2
  have c3 : _ = some (Value.slice Ab b.length cb) := HS3.out.2.cell 3
  have c4 : _ = some (Value.int .i64 f) := HS3.out.2.cell 4
  have c5 : _ = some (Value.int .i64 n) := HS3.out.2.cell 5
  have c6 : _ = some (Value.slice Ak kp.length ck) := HS3.out.2.cell 6
  go_wp2_with (go_at_call 65; refine (HP _).out.mono ?_; rintro e w4 ⟨rfl, hk4⟩)
  go_ret
  rw [HL2.out]
  exact ⟨rfl, HS3.out.1.trans (hk4.mono HS3.out.1.size)⟩
set_option maxRecDepth 200000 in
set_option maxHeartbeats 8000000 in
theorem rline_3 (a : Int) (p b : List UInt8) (f n : Int) (kp : List Bool) (Ab Ak : Option Addr) (cb ck : Nat) (w : World) (hb : RD encB w Ab b) (hk : RD encT w Ak kp) (hcb : b.length ≤ cb) (hlb : b.length ≤ 3000) (hlp : p.length ≤ 3000) (hlk : kp.length ≤ 4000000)
    (ha : -9223372036854775808 ≤ a ∧ a ≤ 9223372036854775807) (hf : -9223372036854775808 ≤ f ∧ f ≤ 9223372036854775807) (hn : -9223372036854775808 ≤ n ∧ n ≤ 9223372036854775807) :
    Calls Tryd.prog 52 #[.agg (DvA ⟨3, a, p, b, f, n, kp⟩ (.slice Ab b.length cb) (.slice Ak kp.length ck))] w fun e w' => e = .returned (.string ⟨(rlineOf ⟨3, a, p, b, f, n, kp⟩).toArray⟩) ∧ Below w.heap.size w w' := by
  obtain ⟨w1, hw1⟩ : ∃ w1, w.alloc (.cells #[.int .i64 3, .int .i64 a, .string ⟨p.toArray⟩, .slice Ab b.length cb, .int .i64 f, .int .i64 n, .slice Ak kp.length ck] 72) = w1 := ⟨_, rfl⟩
  have HD1 : Hid (Blk w1 w.heap.size 72 #[.int .i64 3, .int .i64 a, .string ⟨p.toArray⟩, .slice Ab b.length cb, .int .i64 f, .int .i64 n, .slice Ak kp.length ck]) := Lib.hid (by rw [← hw1]; exact Blk.new _ _ _)
  have HB1 : Hid (Below w.heap.size w w1) := Lib.hid (by rw [← hw1]; exact (Below.refl _ w).alloc (Nat.le_refl _) _)
  have HA : ∀ W, Hid (Calls Tryd.prog 53 #[.int .i64 a] W fun e w' => e = .returned (.string ⟨(Lib.itoa a).toArray⟩) ∧ Keep [] W w') := fun W => Lib.hid (decimal_any a ha W)
  have HN : ∀ W, Hid (Calls Tryd.prog 53 #[.int .i64 n] W fun e w' => e = .returned (.string ⟨(Lib.itoa n).toArray⟩) ∧ Keep [] W w') := fun W => Lib.hid (decimal_any n hn W)
  have HF : ∀ W, Hid (Calls Tryd.prog 53 #[.int .i64 f] W fun e w' => e = .returned (.string ⟨(Lib.itoa f).toArray⟩) ∧ Keep [] W w') := fun W => Lib.hid (decimal_any f hf W)
  have HP : ∀ W, Hid (Calls Tryd.prog 65 #[.agg #[.int .i64 3, .int .i64 a, .string ⟨p.toArray⟩, .slice Ab b.length cb, .int .i64 f, .int .i64 n, .slice Ak kp.length ck]] W fun e w' => e = .returned (.string ⟨(32 :: hexS p).toArray⟩) ∧ Below W.heap.size W w') := fun W => Lib.hid (rpath_any ⟨3, a, p, b, f, n, kp⟩ _ _ Ab Ak _ cb _ ck W hlp rfl rfl)
  have HX : ∀ W, Below w.heap.size w W → Hid (Calls Tryd.prog 10 #[.slice Ab b.length cb] W fun e w' => e = .returned (.string ⟨(hexS b).toArray⟩) ∧ Below W.heap.size W w') := fun W hW => Lib.hid (rhexg_any b Ab cb W (RD.below hb hW) hcb hlb)
  have HT : ∀ W, Below w.heap.size w W → Hid (Calls Tryd.prog 66 #[.slice Ak kp.length ck] W fun e w' => e = .returned (.string ⟨(truS kp).toArray⟩) ∧ Below W.heap.size W w') := fun W hW => Lib.hid (rtruths_any kp Ak ck W (RD.below hk hW) hlk)
  have HL : Hid (rlineOf ⟨3, a, p, b, f, n, kp⟩ = [103, 101, 116] ++ ([32] ++ Lib.itoa a) ++ (32 :: hexS p) ++ [32] ++ Lib.itoa f ++ ([32] ++ Lib.itoa n)) := Lib.hid (by simp [rlineOf, lineOf, nameOf, fieldsOf, wordOf, Lib.join_cons, Lib.join_one, Lib.joinTail])
  have lia := itoa_len a ha
  have lin := itoa_len n hn
  have lif := itoa_len f hf
  have lhp := hexS_len p (by omega)
  have lhb : (hexS b).length ≤ 72001 := by have := hexS_len b (by omega); omega
  have ltk : (truS kp).length ≤ 4000001 := by have := truS_len kp; omega
  have lpa : (32 :: hexS p).length ≤ 72002 := by simp; omega
  generalize Lib.itoa a = ia at *
  generalize Lib.itoa n = in_ at *
  generalize Lib.itoa f = if_ at *
  generalize 32 :: hexS p = pa at *
  generalize hexS b = hb_ at *
  generalize truS kp = tk at *
  obtain ⟨sa, hsa⟩ : ∃ x, x = [32] ++ ia := ⟨_, rfl⟩
  obtain ⟨sn, hsn⟩ : ∃ x, x = [32] ++ in_ := ⟨_, rfl⟩
  have lsa : sa.length ≤ 22 := by rw [hsa]; simp; omega
  have lsn : sn.length ≤ 22 := by rw [hsn]; simp; omega
  have qa : ∀ W : World, (Op.stringOp .add ⟨#[32]⟩ ⟨ia.toArray⟩).run Tryd.prog W = .ok (.string ⟨sa.toArray⟩) W := add_lists (a := [32]) hsa (by omega)
  have qn : ∀ W : World, (Op.stringOp .add ⟨#[32]⟩ ⟨in_.toArray⟩).run Tryd.prog W = .ok (.string ⟨sn.toArray⟩) W := add_lists (a := [32]) hsn (by omega)
  obtain ⟨x0, hx0⟩ : ∃ x, x = [103, 101, 116] ++ sa := ⟨_, rfl⟩
  obtain ⟨x1, hx1⟩ : ∃ x, x = x0 ++ pa := ⟨_, rfl⟩
  obtain ⟨x2, hx2⟩ : ∃ x, x = x1 ++ [32] := ⟨_, rfl⟩
  obtain ⟨x3, hx3⟩ : ∃ x, x = x2 ++ if_ := ⟨_, rfl⟩
  obtain ⟨x4, hx4⟩ : ∃ x, x = x3 ++ sn := ⟨_, rfl⟩
  have lx0 : x0.length ≤ 25 := by rw [hx0, List.length_append]; (try simp only [List.length_cons, List.length_nil]); omega
  have qx0 : ∀ W : World, (Op.stringOp .add ⟨#[103, 101, 116]⟩ ⟨sa.toArray⟩).run Tryd.prog W = .ok (.string ⟨x0.toArray⟩) W := add_lists (a := [103, 101, 116]) (b := sa) hx0 (by omega)
  have lx1 : x1.length ≤ 72027 := by rw [hx1, List.length_append]; (try simp only [List.length_cons, List.length_nil]); omega
  have qx1 : ∀ W : World, (Op.stringOp .add ⟨x0.toArray⟩ ⟨pa.toArray⟩).run Tryd.prog W = .ok (.string ⟨x1.toArray⟩) W := add_lists (a := x0) (b := pa) hx1 (by omega)
  have lx2 : x2.length ≤ 72028 := by rw [hx2, List.length_append]; (try simp only [List.length_cons, List.length_nil]); omega
  have qx2 : ∀ W : World, (Op.stringOp .add ⟨x1.toArray⟩ ⟨#[32]⟩).run Tryd.prog W = .ok (.string ⟨x2.toArray⟩) W := add_lists (a := x1) (b := [32]) hx2 (by omega)
  have lx3 : x3.length ≤ 72049 := by rw [hx3, List.length_append]; (try simp only [List.length_cons, List.length_nil]); omega
  have qx3 : ∀ W : World, (Op.stringOp .add ⟨x2.toArray⟩ ⟨if_.toArray⟩).run Tryd.prog W = .ok (.string ⟨x3.toArray⟩) W := add_lists (a := x2) (b := if_) hx3 (by omega)
  have lx4 : x4.length ≤ 72071 := by rw [hx4, List.length_append]; (try simp only [List.length_cons, List.length_nil]); omega
  have qx4 : ∀ W : World, (Op.stringOp .add ⟨x3.toArray⟩ ⟨sn.toArray⟩).run Tryd.prog W = .ok (.string ⟨x4.toArray⟩) W := add_lists (a := x3) (b := sn) hx4 (by omega)
  have HL2 : Hid (rlineOf ⟨3, a, p, b, f, n, kp⟩ = x4) := Lib.hid (by rw [HL.out]; simp only [hx0, hx1, hx2, hx3, hx4, hsa, hsn, List.append_assoc])
  clear HL hx0 lx0 hx1 lx1 hx2 lx2 hx3 lx3 hx4 lx4
  have Hw1 := Lib.hid hw1
  clear lia lin lif lhp lhb ltk lpa lsa lsn hsa hsn hw1 hb hk ha hf hn hlp hlb hlk hcb
  unfold DvA
  go_enter Tryd.func52, Tryd.ntmps52
  go_upto_region 1 with (fail)
  rw [Hw1.out]
  refine wp_region_G (fun W => Below w.heap.size w W ∧ Blk W w.heap.size 72 #[.int .i64 3, .int .i64 a, .string ⟨p.toArray⟩, .slice Ab b.length cb, .int .i64 f, .int .i64 n, .slice Ak kp.length ck]) [] #[false, false, false, false, false, false, false, false, false, false] 10 (by kernel_rfl) (by kernel_rfl) (by kernel_rfl) ?_
  refine wpAnyG_take0 (i := 0) (oi := { dst := some 5, op := Go.Op.fieldAddr 72 (Go.Operand.tmp 1) 1, type := 0, pos := "ref.go:175", after := #[], guard := none }) (v := ?vg4_0) rfl (by kernel_rfl) (by kernel_rfl) (by kernel_rfl) (by kernel_rfl) (fun _ _ _ h => h) (fun _ => ⟨HB1.out.drew, HD1.out.drew⟩) (Or.inl ⟨by rfl, ?hg4_0⟩) ?_
  case hg4_0 => intro w _; go_simp; (try with_reducible rfl)
  try simp only [Act.put, List.setIfInBounds_toArray, List.set_cons_zero, List.set_cons_succ]
  refine wpAnyG_take (i := 1) (oi := { dst := some 6, op := Go.Op.load 3 (Go.Operand.tmp 5), type := 3, pos := "ref.go:175", after := #[{ on := 0, ground := Go.Ground.data }], guard := none }) (v := ?vg4_1) [1, 2, 3, 6, 7, 8, 9] rfl (by kernel_rfl) (by kernel_rfl) (by kernel_rfl) (by kernel_rfl) (by kernel_rfl) (fun _ _ _ h => h) (fun _ => ⟨HB1.out.drew, HD1.out.drew⟩) (Or.inl ⟨by rfl, ?hg4_1⟩) ?_
  case hg4_1 => intro w hSw; (try dsimp only at hSw); have c1 : _ = some (Value.int .i64 a) := hSw.2.cell 1; go_simp; (try with_reducible rfl)
  try simp only [Act.put, List.setIfInBounds_toArray, List.set_cons_zero, List.set_cons_succ]
  refine wpAnyG_take0 (i := 4) (oi := { dst := some 9, op := Go.Op.fieldAddr 72 (Go.Operand.tmp 1) 5, type := 0, pos := "ref.go:175", after := #[], guard := none }) (v := ?vg4_4) rfl (by kernel_rfl) (by kernel_rfl) (by kernel_rfl) (by kernel_rfl) (fun _ _ _ h => h) (fun _ => ⟨HB1.out.drew, HD1.out.drew⟩) (Or.inl ⟨by rfl, ?hg4_4⟩) ?_
  case hg4_4 => intro w _; go_simp; (try with_reducible rfl)
  try simp only [Act.put, List.setIfInBounds_toArray, List.set_cons_zero, List.set_cons_succ]
  refine wpAnyG_take (i := 5) (oi := { dst := some 10, op := Go.Op.load 3 (Go.Operand.tmp 9), type := 3, pos := "ref.go:175", after := #[{ on := 4, ground := Go.Ground.data }], guard := none }) (v := ?vg4_5) [5, 6, 7, 8, 9] rfl (by kernel_rfl) (by kernel_rfl) (by kernel_rfl) (by kernel_rfl) (by kernel_rfl) (fun _ _ _ h => h) (fun _ => ⟨HB1.out.drew, HD1.out.drew⟩) (Or.inl ⟨by rfl, ?hg4_5⟩) ?_
  case hg4_5 => intro w hSw; (try dsimp only at hSw); have c5 : _ = some (Value.int .i64 n) := hSw.2.cell 5; go_simp; (try with_reducible rfl)
  try simp only [Act.put, List.setIfInBounds_toArray, List.set_cons_zero, List.set_cons_succ]
  refine wpAnyG_step (i := 2) (oi := { dst := some 7, op := Go.Op.call { callee := Go.Callee.value (Go.Operand.func 53), args := #[Go.Operand.tmp 6], argTypes := #[3] }, type := 9, pos := "ref.go:175", after := #[{ on := 1, ground := Go.Ground.data }], guard := none }) rfl (by kernel_rfl) (by rfl) (fun K hK => ?_)
  go_simp
  go_at_call 53
  refine (HA _).out.mono ?_
  rintro e w2 ⟨rfl, hk2⟩
  have HS2 := Lib.hid (And.intro ((And.intro HB1.out.drew HD1.out.drew).1.trans (hk2.below.mono (And.intro HB1.out.drew HD1.out.drew).1.size)) ((And.intro HB1.out.drew HD1.out.drew).2.keep hk2 List.not_mem_nil))
  clear hk2
  dsimp only
  refine hK _ _ ?_ (fun hSg4_2 => ?_)
  · intro _; exact HS2.out
  replace hSg4_2 := hSg4_2 (by kernel_rfl)
  clear hK
  try simp only [Act.put, List.setIfInBounds_toArray, List.set_cons_zero, List.set_cons_succ]
  refine wpAnyG_take0 (i := 3) (oi := { dst := some 8, op := Go.Op.binOp Go.BinOp.add 9 (Go.Operand.const (Go.Value.string { data := #[32] })) (Go.Operand.tmp 7) 9, type := 9, pos := "ref.go:175", after := #[{ on := 2, ground := Go.Ground.data }], guard := none }) (v := ?vg4_3) rfl (by kernel_rfl) (by kernel_rfl) (by kernel_rfl) (by kernel_rfl) (fun _ _ _ h => h) (fun _ => hSg4_2) (Or.inl ⟨by rfl, ?hg4_3⟩) ?_
  case hg4_3 => intro w _; go_simp; (try with_reducible rfl)
  try simp only [Act.put, List.setIfInBounds_toArray, List.set_cons_zero, List.set_cons_succ]
  refine wpAnyG_step (i := 6) (oi := { dst := some 11, op := Go.Op.call { callee := Go.Callee.value (Go.Operand.func 53), args := #[Go.Operand.tmp 10], argTypes := #[3] }, type := 9, pos := "ref.go:175", after := #[{ on := 5, ground := Go.Ground.data }, { on := 2, ground := Go.Ground.chain }], guard := none }) rfl (by kernel_rfl) (by rfl) (fun K hK => ?_)
  go_simp
  go_at_call 53
  refine (HN _).out.mono ?_
  rintro e w3 ⟨rfl, hk3⟩
  have HS3 := Lib.hid (And.intro (HS2.out.1.trans (hk3.below.mono HS2.out.1.size)) (HS2.out.2.keep hk3 List.not_mem_nil))
  clear hk3
  dsimp only
  refine hK _ _ ?_ (fun hSg4_6 => ?_)
  · intro _; exact HS3.out
  replace hSg4_6 := hSg4_6 (by kernel_rfl)
  clear hK
  try simp only [Act.put, List.setIfInBounds_toArray, List.set_cons_zero, List.set_cons_succ]
  refine wpAnyG_take0 (i := 7) (oi := { dst := some 12, op := Go.Op.binOp Go.BinOp.add 9 (Go.Operand.const (Go.Value.string { data := #[32] })) (Go.Operand.tmp 11) 9, type := 9, pos := "ref.go:175", after := #[{ on := 6, ground := Go.Ground.data }, { on := 8, ground := Go.Ground.gcOnly Go.Departure.lateStores }], guard := none }) (v := ?vg4_7) rfl (by kernel_rfl) (by kernel_rfl) (by kernel_rfl) (by kernel_rfl) (fun _ _ _ h => h) (fun _ => hSg4_6) (Or.inl ⟨by rfl, ?hg4_7⟩) ?_
  case hg4_7 => intro w _; go_simp; (try with_reducible rfl)
  try simp only [Act.put, List.setIfInBounds_toArray, List.set_cons_zero, List.set_cons_succ]
  refine wpAnyG_take0 (i := 8) (oi := { dst := some 3, op := Go.Op.assign (Go.Operand.tmp 8), type := 9, pos := "ref.go:175", after := #[{ on := 3, ground := Go.Ground.data }, { on := 6, ground := Go.Ground.chain }, { on := 0, ground := Go.Ground.phase }, { on := 1, ground := Go.Ground.phase }, { on := 2, ground := Go.Ground.phase }, { on := 3, ground := Go.Ground.phase }, { on := 4, ground := Go.Ground.textOnly Go.Departure.lateStores }, { on := 5, ground := Go.Ground.textOnly Go.Departure.lateStores }, { on := 6, ground := Go.Ground.textOnly Go.Departure.lateStoresUnsure }, { on := 7, ground := Go.Ground.textOnly Go.Departure.lateStores }], guard := none }) (v := ?vg4_8) rfl (by kernel_rfl) (by kernel_rfl) (by kernel_rfl) (by kernel_rfl) (fun _ _ _ h => h) (fun _ => hSg4_6) (Or.inl ⟨by rfl, ?hg4_8⟩) ?_
  case hg4_8 => intro w _; go_simp; (try with_reducible rfl)
  try simp only [Act.put, List.setIfInBounds_toArray, List.set_cons_zero, List.set_cons_succ]
  refine wpAnyG_take0 (i := 9) (oi := { dst := some 4, op := Go.Op.assign (Go.Operand.tmp 12), type := 9, pos := "ref.go:175", after := #[{ on := 7, ground := Go.Ground.data }, { on := 8, ground := Go.Ground.chain }, { on := 0, ground := Go.Ground.phase }, { on := 1, ground := Go.Ground.phase }, { on := 2, ground := Go.Ground.phase }, { on := 3, ground := Go.Ground.phase }, { on := 4, ground := Go.Ground.phase }, { on := 5, ground := Go.Ground.phase }, { on := 6, ground := Go.Ground.phase }, { on := 7, ground := Go.Ground.phase }, { on := 8, ground := Go.Ground.phase }], guard := none }) (v := ?vg4_9) rfl (by kernel_rfl) (by kernel_rfl) (by kernel_rfl) (by kernel_rfl) (fun _ _ _ h => h) (fun _ => hSg4_6) (Or.inl ⟨by rfl, ?hg4_9⟩) ?_
  case hg4_9 => intro w _; go_simp; (try with_reducible rfl)
  try simp only [Act.put, List.setIfInBounds_toArray, List.set_cons_zero, List.set_cons_succ]
  refine wpAnyG_done (by kernel_rfl) ?_ _
  have c0 : _ = some (Value.int .i64 3) := HS3.out.2.cell 0
  have c1 : _ = some (Value.int .i64 a) := HS3.out.2.cell 1
  have c2 : _ = some (Value.string ⟨p.toArray⟩) := HS3.out.2.cell 2
  have c3 : _ = some (Value.slice Ab b.length cb) := HS3.out.2.cell 3
  have c4 : _ = some (Value.int .i64 f) := HS3.out.2.cell 4
  have c5 : _ = some (Value.int .i64 n) := HS3.out.2.cell 5
  have c6 : _ = some (Value.slice Ak kp.length ck) := HS3.out.2.cell 6
  go_upto_region 8 with (fail)
  clear c0 c1 c2 c3 c4 c5 c6
  refine wp_region_G (fun W => Below w.heap.size w W ∧ Blk W w.heap.size 72 #[.int .i64 3, .int .i64 a, .string ⟨p.toArray⟩, .slice Ab b.length cb, .int .i64 f, .int .i64 n, .slice Ak kp.length ck]) [] #[false, false, false, false, false, false, false, false, false, false, false, false, false] 13 (by kernel_rfl) (by kernel_rfl) (by kernel_rfl) ?_
  refine wpAnyG_take0 (i := 0) (oi := { dst := some 36, op := Go.Op.move (Go.Operand.tmp 3), type := 9, pos := "ref.go:182", after := #[], guard := none }) (v := ?vg5_0) rfl (by kernel_rfl) (by kernel_rfl) (by kernel_rfl) (by kernel_rfl) (fun _ _ _ h => h) (fun _ => ⟨HS3.out.1.drew, HS3.out.2.drew⟩) (Or.inl ⟨by rfl, ?hg5_0⟩) ?_
  case hg5_0 => intro w _; go_simp; (try with_reducible rfl)
  try simp only [Act.put, List.setIfInBounds_toArray, List.set_cons_zero, List.set_cons_succ]
  refine wpAnyG_take0 (i := 1) (oi := { dst := some 37, op := Go.Op.binOp Go.BinOp.add 9 (Go.Operand.const (Go.Value.string { data := #[103, 101, 116] })) (Go.Operand.tmp 36) 9, type := 9, pos := "ref.go:182", after := #[{ on := 0, ground := Go.Ground.data }], guard := none }) (v := ?vg5_1) rfl (by kernel_rfl) (by kernel_rfl) (by kernel_rfl) (by kernel_rfl) (fun _ _ _ h => h) (fun _ => ⟨HS3.out.1.drew, HS3.out.2.drew⟩) (Or.inl ⟨by rfl, ?hg5_1⟩) ?_
  case hg5_1 => intro w _; go_simp; (try with_reducible rfl)
  try simp only [Act.put, List.setIfInBounds_toArray, List.set_cons_zero, List.set_cons_succ]
  refine wpAnyG_take (i := 2) (oi := { dst := some 38, op := Go.Op.load 72 (Go.Operand.tmp 1), type := 72, pos := "ref.go:182", after := #[], guard := none }) (v := ?vg5_2) [2, 3, 4, 5, 8, 9, 11, 12] rfl (by kernel_rfl) (by kernel_rfl) (by kernel_rfl) (by kernel_rfl) (by kernel_rfl) (fun _ _ _ h => h) (fun _ => ⟨HS3.out.1.drew, HS3.out.2.drew⟩) (Or.inl ⟨by rfl, ?hg5_2⟩) ?_
  case hg5_2 => intro w hSw; (try dsimp only at hSw); have c0 : _ = some (Value.int .i64 3) := hSw.2.cell 0; have c1 : _ = some (Value.int .i64 a) := hSw.2.cell 1; have c2 : _ = some (Value.string ⟨p.toArray⟩) := hSw.2.cell 2; have c3 : _ = some (Value.slice Ab b.length cb) := hSw.2.cell 3; have c4 : _ = some (Value.int .i64 f) := hSw.2.cell 4; have c5 : _ = some (Value.int .i64 n) := hSw.2.cell 5; have c6 : _ = some (Value.slice Ak kp.length ck) := hSw.2.cell 6; go_simp; (try with_reducible rfl)
  try simp only [Act.put, List.setIfInBounds_toArray, List.set_cons_zero, List.set_cons_succ]
  refine wpAnyG_take0 (i := 6) (oi := { dst := some 42, op := Go.Op.fieldAddr 72 (Go.Operand.tmp 1) 4, type := 0, pos := "ref.go:182", after := #[], guard := none }) (v := ?vg5_6) rfl (by kernel_rfl) (by kernel_rfl) (by kernel_rfl) (by kernel_rfl) (fun _ _ _ h => h) (fun _ => ⟨HS3.out.1.drew, HS3.out.2.drew⟩) (Or.inl ⟨by rfl, ?hg5_6⟩) ?_
  case hg5_6 => intro w _; go_simp; (try with_reducible rfl)
  try simp only [Act.put, List.setIfInBounds_toArray, List.set_cons_zero, List.set_cons_succ]
  refine wpAnyG_take (i := 7) (oi := { dst := some 43, op := Go.Op.load 3 (Go.Operand.tmp 42), type := 3, pos := "ref.go:182", after := #[{ on := 6, ground := Go.Ground.data }], guard := none }) (v := ?vg5_7) [7, 8, 9, 11, 12] rfl (by kernel_rfl) (by kernel_rfl) (by kernel_rfl) (by kernel_rfl) (by kernel_rfl) (fun _ _ _ h => h) (fun _ => ⟨HS3.out.1.drew, HS3.out.2.drew⟩) (Or.inl ⟨by rfl, ?hg5_7⟩) ?_
  case hg5_7 => intro w hSw; (try dsimp only at hSw); have c4 : _ = some (Value.int .i64 f) := hSw.2.cell 4; go_simp; (try with_reducible rfl)
  try simp only [Act.put, List.setIfInBounds_toArray, List.set_cons_zero, List.set_cons_succ]
  refine wpAnyG_take0 (i := 10) (oi := { dst := some 46, op := Go.Op.move (Go.Operand.tmp 4), type := 9, pos := "ref.go:182", after := #[], guard := none }) (v := ?vg5_10) rfl (by kernel_rfl) (by kernel_rfl) (by kernel_rfl) (by kernel_rfl) (fun _ _ _ h => h) (fun _ => ⟨HS3.out.1.drew, HS3.out.2.drew⟩) (Or.inl ⟨by rfl, ?hg5_10⟩) ?_
  case hg5_10 => intro w _; go_simp; (try with_reducible rfl)
  try simp only [Act.put, List.setIfInBounds_toArray, List.set_cons_zero, List.set_cons_succ]
  refine wpAnyG_step (i := 3) (oi := { dst := some 39, op := Go.Op.call { callee := Go.Callee.value (Go.Operand.func 65), args := #[Go.Operand.tmp 38], argTypes := #[72] }, type := 9, pos := "ref.go:182", after := #[{ on := 2, ground := Go.Ground.data }], guard := none }) rfl (by kernel_rfl) (by rfl) (fun K hK => ?_)
  go_simp
  go_at_call 65
  refine (HP _).out.mono ?_
  rintro e w4 ⟨rfl, hk4⟩
  have HS4 := Lib.hid (And.intro ((And.intro HS3.out.1.drew HS3.out.2.drew).1.trans (hk4.mono (And.intro HS3.out.1.drew HS3.out.2.drew).1.size)) ((And.intro HS3.out.1.drew HS3.out.2.drew).2.keep (Keep.of_below (F := []) hk4) List.not_mem_nil))
  clear hk4
  dsimp only
  refine hK _ _ ?_ (fun hSg5_3 => ?_)
  · intro _; exact HS4.out
  replace hSg5_3 := hSg5_3 (by kernel_rfl)
  clear hK
  try simp only [Act.put, List.setIfInBounds_toArray, List.set_cons_zero, List.set_cons_succ]
  refine wpAnyG_take0 (i := 4) (oi := { dst := some 40, op := Go.Op.binOp Go.BinOp.add 9 (Go.Operand.tmp 37) (Go.Operand.tmp 39) 9, type := 9, pos := "ref.go:182", after := #[{ on := 1, ground := Go.Ground.data }, { on := 3, ground := Go.Ground.data }], guard := none }) (v := ?vg5_4) rfl (by kernel_rfl) (by kernel_rfl) (by kernel_rfl) (by kernel_rfl) (fun _ _ _ h => h) (fun _ => hSg5_3) (Or.inl ⟨by rfl, ?hg5_4⟩) ?_
  case hg5_4 => intro w _; go_simp; (try with_reducible rfl)
  try simp only [Act.put, List.setIfInBounds_toArray, List.set_cons_zero, List.set_cons_succ]
  refine wpAnyG_take0 (i := 5) (oi := { dst := some 41, op := Go.Op.binOp Go.BinOp.add 9 (Go.Operand.tmp 40) (Go.Operand.const (Go.Value.string { data := #[32] })) 9, type := 9, pos := "ref.go:182", after := #[{ on := 4, ground := Go.Ground.data }], guard := none }) (v := ?vg5_5) rfl (by kernel_rfl) (by kernel_rfl) (by kernel_rfl) (by kernel_rfl) (fun _ _ _ h => h) (fun _ => hSg5_3) (Or.inl ⟨by rfl, ?hg5_5⟩) ?_
  case hg5_5 => intro w _; go_simp; (try with_reducible rfl)
  try simp only [Act.put, List.setIfInBounds_toArray, List.set_cons_zero, List.set_cons_succ]
  refine wpAnyG_step (i := 8) (oi := { dst := some 44, op := Go.Op.call { callee := Go.Callee.value (Go.Operand.func 53), args := #[Go.Operand.tmp 43], argTypes := #[3] }, type := 9, pos := "ref.go:182", after := #[{ on := 7, ground := Go.Ground.data }, { on := 3, ground := Go.Ground.chain }], guard := none }) rfl (by kernel_rfl) (by rfl) (fun K hK => ?_)
  go_simp
  go_at_call 53
  refine (HF _).out.mono ?_
  rintro e w5 ⟨rfl, hk5⟩
  have HS5 := Lib.hid (And.intro (HS4.out.1.trans (hk5.below.mono HS4.out.1.size)) (HS4.out.2.keep hk5 List.not_mem_nil))
  clear hk5
  dsimp only
  refine hK _ _ ?_ (fun hSg5_8 => ?_)
  · intro _; exact HS5.out
  replace hSg5_8 := hSg5_8 (by kernel_rfl)
  clear hK
  try simp only [Act.put, List.setIfInBounds_toArray, List.set_cons_zero, List.set_cons_succ]
  refine wpAnyG_take0 (i := 9) (oi := { dst := some 45, op := Go.Op.binOp Go.BinOp.add 9 (Go.Operand.tmp 41) (Go.Operand.tmp 44) 9, type := 9, pos := "ref.go:182", after := #[{ on := 5, ground := Go.Ground.data }, { on := 8, ground := Go.Ground.data }], guard := none }) (v := ?vg5_9) rfl (by kernel_rfl) (by kernel_rfl) (by kernel_rfl) (by kernel_rfl) (fun _ _ _ h => h) (fun _ => hSg5_8) (Or.inl ⟨by rfl, ?hg5_9⟩) ?_
  case hg5_9 => intro w _; go_simp; (try with_reducible rfl)
  try simp only [Act.put, List.setIfInBounds_toArray, List.set_cons_zero, List.set_cons_succ]
  refine wpAnyG_take0 (i := 11) (oi := { dst := some 47, op := Go.Op.binOp Go.BinOp.add 9 (Go.Operand.tmp 45) (Go.Operand.tmp 46) 9, type := 9, pos := "ref.go:182", after := #[{ on := 9, ground := Go.Ground.data }, { on := 10, ground := Go.Ground.data }], guard := none }) (v := ?vg5_11) rfl (by kernel_rfl) (by kernel_rfl) (by kernel_rfl) (by kernel_rfl) (fun _ _ _ h => h) (fun _ => hSg5_8) (Or.inl ⟨by rfl, ?hg5_11⟩) ?_
  case hg5_11 => intro w _; go_simp; (try with_reducible rfl)
  try simp only [Act.put, List.setIfInBounds_toArray, List.set_cons_zero, List.set_cons_succ]
  refine wpAnyG_take0 (i := 12) (oi := { dst := some 2, op := Go.Op.assign (Go.Operand.tmp 47), type := 9, pos := "ref.go:182", after := #[{ on := 11, ground := Go.Ground.data }, { on := 8, ground := Go.Ground.chain }, { on := 0, ground := Go.Ground.phase }, { on := 1, ground := Go.Ground.phase }, { on := 2, ground := Go.Ground.phase }, { on := 3, ground := Go.Ground.phase }, { on := 4, ground := Go.Ground.phase }, { on := 5, ground := Go.Ground.phase }, { on := 6, ground := Go.Ground.phase }, { on := 7, ground := Go.Ground.phase }, { on := 8, ground := Go.Ground.phase }, { on := 9, ground := Go.Ground.phase }, { on := 10, ground := Go.Ground.phase }, { on := 11, ground := Go.Ground.phase }], guard := none }) (v := ?vg5_12) rfl (by kernel_rfl) (by kernel_rfl) (by kernel_rfl) (by kernel_rfl) (fun _ _ _ h => h) (fun _ => hSg5_8) (Or.inl ⟨by rfl, ?hg5_12⟩) ?_
  case hg5_12 => intro w _; go_simp; (try with_reducible rfl)
  try simp only [Act.put, List.setIfInBounds_toArray, List.set_cons_zero, List.set_cons_succ]
  refine wpAnyG_done (by kernel_rfl) ?_ _
  go_wp2
  go_ret
  rw [HL2.out]
  exact ⟨rfl, HS5.out.1⟩
set_option maxRecDepth 200000 in
set_option maxHeartbeats 8000000 in
theorem rline_4 (a : Int) (p b : List UInt8) (f n : Int) (kp : List Bool) (Ab Ak : Option Addr) (cb ck : Nat) (w : World) (hb : RD encB w Ab b) (hk : RD encT w Ak kp) (hcb : b.length ≤ cb) (hlb : b.length ≤ 3000) (hlp : p.length ≤ 3000) (hlk : kp.length ≤ 4000000)
    (ha : -9223372036854775808 ≤ a ∧ a ≤ 9223372036854775807) (hf : -9223372036854775808 ≤ f ∧ f ≤ 9223372036854775807) (hn : -9223372036854775808 ≤ n ∧ n ≤ 9223372036854775807) :
    Calls Tryd.prog 52 #[.agg (DvA ⟨4, a, p, b, f, n, kp⟩ (.slice Ab b.length cb) (.slice Ak kp.length ck))] w fun e w' => e = .returned (.string ⟨(rlineOf ⟨4, a, p, b, f, n, kp⟩).toArray⟩) ∧ Below w.heap.size w w' := by
  obtain ⟨w1, hw1⟩ : ∃ w1, w.alloc (.cells #[.int .i64 4, .int .i64 a, .string ⟨p.toArray⟩, .slice Ab b.length cb, .int .i64 f, .int .i64 n, .slice Ak kp.length ck] 72) = w1 := ⟨_, rfl⟩
  have HD1 : Hid (Blk w1 w.heap.size 72 #[.int .i64 4, .int .i64 a, .string ⟨p.toArray⟩, .slice Ab b.length cb, .int .i64 f, .int .i64 n, .slice Ak kp.length ck]) := Lib.hid (by rw [← hw1]; exact Blk.new _ _ _)
  have HB1 : Hid (Below w.heap.size w w1) := Lib.hid (by rw [← hw1]; exact (Below.refl _ w).alloc (Nat.le_refl _) _)
  have HA : ∀ W, Hid (Calls Tryd.prog 53 #[.int .i64 a] W fun e w' => e = .returned (.string ⟨(Lib.itoa a).toArray⟩) ∧ Keep [] W w') := fun W => Lib.hid (decimal_any a ha W)
  have HN : ∀ W, Hid (Calls Tryd.prog 53 #[.int .i64 n] W fun e w' => e = .returned (.string ⟨(Lib.itoa n).toArray⟩) ∧ Keep [] W w') := fun W => Lib.hid (decimal_any n hn W)
  have HF : ∀ W, Hid (Calls Tryd.prog 53 #[.int .i64 f] W fun e w' => e = .returned (.string ⟨(Lib.itoa f).toArray⟩) ∧ Keep [] W w') := fun W => Lib.hid (decimal_any f hf W)
  have HP : ∀ W, Hid (Calls Tryd.prog 65 #[.agg #[.int .i64 4, .int .i64 a, .string ⟨p.toArray⟩, .slice Ab b.length cb, .int .i64 f, .int .i64 n, .slice Ak kp.length ck]] W fun e w' => e = .returned (.string ⟨(32 :: hexS p).toArray⟩) ∧ Below W.heap.size W w') := fun W => Lib.hid (rpath_any ⟨4, a, p, b, f, n, kp⟩ _ _ Ab Ak _ cb _ ck W hlp rfl rfl)
  have HX : ∀ W, Below w.heap.size w W → Hid (Calls Tryd.prog 10 #[.slice Ab b.length cb] W fun e w' => e = .returned (.string ⟨(hexS b).toArray⟩) ∧ Below W.heap.size W w') := fun W hW => Lib.hid (rhexg_any b Ab cb W (RD.below hb hW) hcb hlb)
  have HT : ∀ W, Below w.heap.size w W → Hid (Calls Tryd.prog 66 #[.slice Ak kp.length ck] W fun e w' => e = .returned (.string ⟨(truS kp).toArray⟩) ∧ Below W.heap.size W w') := fun W hW => Lib.hid (rtruths_any kp Ak ck W (RD.below hk hW) hlk)
  have HL : Hid (rlineOf ⟨4, a, p, b, f, n, kp⟩ = [109, 97, 114, 107] ++ ([32] ++ Lib.itoa a)) := Lib.hid (by simp [rlineOf, lineOf, nameOf, fieldsOf, wordOf, Lib.join_cons, Lib.join_one, Lib.joinTail])
  have lia := itoa_len a ha
  have lin := itoa_len n hn
  have lif := itoa_len f hf
  have lhp := hexS_len p (by omega)
  have lhb : (hexS b).length ≤ 72001 := by have := hexS_len b (by omega); omega
  have ltk : (truS kp).length ≤ 4000001 := by have := truS_len kp; omega
  have lpa : (32 :: hexS p).length ≤ 72002 := by simp; omega
  generalize Lib.itoa a = ia at *
  generalize Lib.itoa n = in_ at *
  generalize Lib.itoa f = if_ at *
  generalize 32 :: hexS p = pa at *
  generalize hexS b = hb_ at *
  generalize truS kp = tk at *
  obtain ⟨sa, hsa⟩ : ∃ x, x = [32] ++ ia := ⟨_, rfl⟩
  obtain ⟨sn, hsn⟩ : ∃ x, x = [32] ++ in_ := ⟨_, rfl⟩
  have lsa : sa.length ≤ 22 := by rw [hsa]; simp; omega
  have lsn : sn.length ≤ 22 := by rw [hsn]; simp; omega
  have qa : ∀ W : World, (Op.stringOp .add ⟨#[32]⟩ ⟨ia.toArray⟩).run Tryd.prog W = .ok (.string ⟨sa.toArray⟩) W := add_lists (a := [32]) hsa (by omega)
  have qn : ∀ W : World, (Op.stringOp .add ⟨#[32]⟩ ⟨in_.toArray⟩).run Tryd.prog W = .ok (.string ⟨sn.toArray⟩) W := add_lists (a := [32]) hsn (by omega)
  obtain ⟨x0, hx0⟩ : ∃ x, x = [109, 97, 114, 107] ++ sa := ⟨_, rfl⟩
  have lx0 : x0.length ≤ 26 := by rw [hx0, List.length_append]; (try simp only [List.length_cons, List.length_nil]); omega
  have qx0 : ∀ W : World, (Op.stringOp .add ⟨#[109, 97, 114, 107]⟩ ⟨sa.toArray⟩).run Tryd.prog W = .ok (.string ⟨x0.toArray⟩) W := add_lists (a := [109, 97, 114, 107]) (b := sa) hx0 (by omega)
  have HL2 : Hid (rlineOf ⟨4, a, p, b, f, n, kp⟩ = x0) := Lib.hid (by rw [HL.out]; simp only [hx0, hsa, hsn, List.append_assoc])
  clear HL hx0 lx0
  have Hw1 := Lib.hid hw1
  clear lia lin lif lhp lhb ltk lpa lsa lsn hsa hsn hw1 hb hk ha hf hn hlp hlb hlk hcb
  unfold DvA
  go_enter Tryd.func52, Tryd.ntmps52
  go_upto_region 1 with (fail)
  rw [Hw1.out]
  refine wp_region_G (fun W => Below w.heap.size w W ∧ Blk W w.heap.size 72 #[.int .i64 4, .int .i64 a, .string ⟨p.toArray⟩, .slice Ab b.length cb, .int .i64 f, .int .i64 n, .slice Ak kp.length ck]) [] #[false, false, false, false, false, false, false, false, false, false] 10 (by kernel_rfl) (by kernel_rfl) (by kernel_rfl) ?_
  refine wpAnyG_take0 (i := 0) (oi := { dst := some 5, op := Go.Op.fieldAddr 72 (Go.Operand.tmp 1) 1, type := 0, pos := "ref.go:175", after := #[], guard := none }) (v := ?vg6_0) rfl (by kernel_rfl) (by kernel_rfl) (by kernel_rfl) (by kernel_rfl) (fun _ _ _ h => h) (fun _ => ⟨HB1.out.drew, HD1.out.drew⟩) (Or.inl ⟨by rfl, ?hg6_0⟩) ?_
  case hg6_0 => intro w _; go_simp; (try with_reducible rfl)
  try simp only [Act.put, List.setIfInBounds_toArray, List.set_cons_zero, List.set_cons_succ]
  refine wpAnyG_take (i := 1) (oi := { dst := some 6, op := Go.Op.load 3 (Go.Operand.tmp 5), type := 3, pos := "ref.go:175", after := #[{ on := 0, ground := Go.Ground.data }], guard := none }) (v := ?vg6_1) [1, 2, 3, 6, 7, 8, 9] rfl (by kernel_rfl) (by kernel_rfl) (by kernel_rfl) (by kernel_rfl) (by kernel_rfl) (fun _ _ _ h => h) (fun _ => ⟨HB1.out.drew, HD1.out.drew⟩) (Or.inl ⟨by rfl, ?hg6_1⟩) ?_
  case hg6_1 => intro w hSw; (try dsimp only at hSw); have c1 : _ = some (Value.int .i64 a) := hSw.2.cell 1; go_simp; (try with_reducible rfl)
  try simp only [Act.put, List.setIfInBounds_toArray, List.set_cons_zero, List.set_cons_succ]
  refine wpAnyG_take0 (i := 4) (oi := { dst := some 9, op := Go.Op.fieldAddr 72 (Go.Operand.tmp 1) 5, type := 0, pos := "ref.go:175", after := #[], guard := none }) (v := ?vg6_4) rfl (by kernel_rfl) (by kernel_rfl) (by kernel_rfl) (by kernel_rfl) (fun _ _ _ h => h) (fun _ => ⟨HB1.out.drew, HD1.out.drew⟩) (Or.inl ⟨by rfl, ?hg6_4⟩) ?_
  case hg6_4 => intro w _; go_simp; (try with_reducible rfl)
  try simp only [Act.put, List.setIfInBounds_toArray, List.set_cons_zero, List.set_cons_succ]
  refine wpAnyG_take (i := 5) (oi := { dst := some 10, op := Go.Op.load 3 (Go.Operand.tmp 9), type := 3, pos := "ref.go:175", after := #[{ on := 4, ground := Go.Ground.data }], guard := none }) (v := ?vg6_5) [5, 6, 7, 8, 9] rfl (by kernel_rfl) (by kernel_rfl) (by kernel_rfl) (by kernel_rfl) (by kernel_rfl) (fun _ _ _ h => h) (fun _ => ⟨HB1.out.drew, HD1.out.drew⟩) (Or.inl ⟨by rfl, ?hg6_5⟩) ?_
  case hg6_5 => intro w hSw; (try dsimp only at hSw); have c5 : _ = some (Value.int .i64 n) := hSw.2.cell 5; go_simp; (try with_reducible rfl)
  try simp only [Act.put, List.setIfInBounds_toArray, List.set_cons_zero, List.set_cons_succ]
  refine wpAnyG_step (i := 2) (oi := { dst := some 7, op := Go.Op.call { callee := Go.Callee.value (Go.Operand.func 53), args := #[Go.Operand.tmp 6], argTypes := #[3] }, type := 9, pos := "ref.go:175", after := #[{ on := 1, ground := Go.Ground.data }], guard := none }) rfl (by kernel_rfl) (by rfl) (fun K hK => ?_)
  go_simp
  go_at_call 53
  refine (HA _).out.mono ?_
  rintro e w2 ⟨rfl, hk2⟩
  have HS2 := Lib.hid (And.intro ((And.intro HB1.out.drew HD1.out.drew).1.trans (hk2.below.mono (And.intro HB1.out.drew HD1.out.drew).1.size)) ((And.intro HB1.out.drew HD1.out.drew).2.keep hk2 List.not_mem_nil))
  clear hk2
  dsimp only
  refine hK _ _ ?_ (fun hSg6_2 => ?_)
  · intro _; exact HS2.out
  replace hSg6_2 := hSg6_2 (by kernel_rfl)
  clear hK
  try simp only [Act.put, List.setIfInBounds_toArray, List.set_cons_zero, List.set_cons_succ]
  refine wpAnyG_take0 (i := 3) (oi := { dst := some 8, op := Go.Op.binOp Go.BinOp.add 9 (Go.Operand.const (Go.Value.string { data := #[32] })) (Go.Operand.tmp 7) 9, type := 9, pos := "ref.go:175", after := #[{ on := 2, ground := Go.Ground.data }], guard := none }) (v := ?vg6_3) rfl (by kernel_rfl) (by kernel_rfl) (by kernel_rfl) (by kernel_rfl) (fun _ _ _ h => h) (fun _ => hSg6_2) (Or.inl ⟨by rfl, ?hg6_3⟩) ?_
  case hg6_3 => intro w _; go_simp; (try with_reducible rfl)
  try simp only [Act.put, List.setIfInBounds_toArray, List.set_cons_zero, List.set_cons_succ]
  refine wpAnyG_step (i := 6) (oi := { dst := some 11, op := Go.Op.call { callee := Go.Callee.value (Go.Operand.func 53), args := #[Go.Operand.tmp 10], argTypes := #[3] }, type := 9, pos := "ref.go:175", after := #[{ on := 5, ground := Go.Ground.data }, { on := 2, ground := Go.Ground.chain }], guard := none }) rfl (by kernel_rfl) (by rfl) (fun K hK => ?_)
  go_simp
  go_at_call 53
  refine (HN _).out.mono ?_
  rintro e w3 ⟨rfl, hk3⟩
  have HS3 := Lib.hid (And.intro (HS2.out.1.trans (hk3.below.mono HS2.out.1.size)) (HS2.out.2.keep hk3 List.not_mem_nil))
  clear hk3
  dsimp only
  refine hK _ _ ?_ (fun hSg6_6 => ?_)
  · intro _; exact HS3.out
  replace hSg6_6 := hSg6_6 (by kernel_rfl)
  clear hK
  try simp only [Act.put, List.setIfInBounds_toArray, List.set_cons_zero, List.set_cons_succ]
  refine wpAnyG_take0 (i := 7) (oi := { dst := some 12, op := Go.Op.binOp Go.BinOp.add 9 (Go.Operand.const (Go.Value.string { data := #[32] })) (Go.Operand.tmp 11) 9, type := 9, pos := "ref.go:175", after := #[{ on := 6, ground := Go.Ground.data }, { on := 8, ground := Go.Ground.gcOnly Go.Departure.lateStores }], guard := none }) (v := ?vg6_7) rfl (by kernel_rfl) (by kernel_rfl) (by kernel_rfl) (by kernel_rfl) (fun _ _ _ h => h) (fun _ => hSg6_6) (Or.inl ⟨by rfl, ?hg6_7⟩) ?_
  case hg6_7 => intro w _; go_simp; (try with_reducible rfl)
  try simp only [Act.put, List.setIfInBounds_toArray, List.set_cons_zero, List.set_cons_succ]
  refine wpAnyG_take0 (i := 8) (oi := { dst := some 3, op := Go.Op.assign (Go.Operand.tmp 8), type := 9, pos := "ref.go:175", after := #[{ on := 3, ground := Go.Ground.data }, { on := 6, ground := Go.Ground.chain }, { on := 0, ground := Go.Ground.phase }, { on := 1, ground := Go.Ground.phase }, { on := 2, ground := Go.Ground.phase }, { on := 3, ground := Go.Ground.phase }, { on := 4, ground := Go.Ground.textOnly Go.Departure.lateStores }, { on := 5, ground := Go.Ground.textOnly Go.Departure.lateStores }, { on := 6, ground := Go.Ground.textOnly Go.Departure.lateStoresUnsure }, { on := 7, ground := Go.Ground.textOnly Go.Departure.lateStores }], guard := none }) (v := ?vg6_8) rfl (by kernel_rfl) (by kernel_rfl) (by kernel_rfl) (by kernel_rfl) (fun _ _ _ h => h) (fun _ => hSg6_6) (Or.inl ⟨by rfl, ?hg6_8⟩) ?_
  case hg6_8 => intro w _; go_simp; (try with_reducible rfl)
  try simp only [Act.put, List.setIfInBounds_toArray, List.set_cons_zero, List.set_cons_succ]
  refine wpAnyG_take0 (i := 9) (oi := { dst := some 4, op := Go.Op.assign (Go.Operand.tmp 12), type := 9, pos := "ref.go:175", after := #[{ on := 7, ground := Go.Ground.data }, { on := 8, ground := Go.Ground.chain }, { on := 0, ground := Go.Ground.phase }, { on := 1, ground := Go.Ground.phase }, { on := 2, ground := Go.Ground.phase }, { on := 3, ground := Go.Ground.phase }, { on := 4, ground := Go.Ground.phase }, { on := 5, ground := Go.Ground.phase }, { on := 6, ground := Go.Ground.phase }, { on := 7, ground := Go.Ground.phase }, { on := 8, ground := Go.Ground.phase }], guard := none }) (v := ?vg6_9) rfl (by kernel_rfl) (by kernel_rfl) (by kernel_rfl) (by kernel_rfl) (fun _ _ _ h => h) (fun _ => hSg6_6) (Or.inl ⟨by rfl, ?hg6_9⟩) ?_
  case hg6_9 => intro w _; go_simp; (try with_reducible rfl)
  try simp only [Act.put, List.setIfInBounds_toArray, List.set_cons_zero, List.set_cons_succ]
  refine wpAnyG_done (by kernel_rfl) ?_ _
  have c0 : _ = some (Value.int .i64 4) := HS3.out.2.cell 0
  have c1 : _ = some (Value.int .i64 a) := HS3.out.2.cell 1
  have c2 : _ = some (Value.string ⟨p.toArray⟩) := HS3.out.2.cell 2
  have c3 : _ = some (Value.slice Ab b.length cb) := HS3.out.2.cell 3
  have c4 : _ = some (Value.int .i64 f) := HS3.out.2.cell 4
  have c5 : _ = some (Value.int .i64 n) := HS3.out.2.cell 5
  have c6 : _ = some (Value.slice Ak kp.length ck) := HS3.out.2.cell 6
  go_wp2
  go_ret
  rw [HL2.out]
  exact ⟨rfl, HS3.out.1⟩
set_option maxRecDepth 200000 in
set_option maxHeartbeats 8000000 in
theorem rline_5 (a : Int) (p b : List UInt8) (f n : Int) (kp : List Bool) (Ab Ak : Option Addr) (cb ck : Nat) (w : World) (hb : RD encB w Ab b) (hk : RD encT w Ak kp) (hcb : b.length ≤ cb) (hlb : b.length ≤ 3000) (hlp : p.length ≤ 3000) (hlk : kp.length ≤ 4000000)
    (ha : -9223372036854775808 ≤ a ∧ a ≤ 9223372036854775807) (hf : -9223372036854775808 ≤ f ∧ f ≤ 9223372036854775807) (hn : -9223372036854775808 ≤ n ∧ n ≤ 9223372036854775807) :
    Calls Tryd.prog 52 #[.agg (DvA ⟨5, a, p, b, f, n, kp⟩ (.slice Ab b.length cb) (.slice Ak kp.length ck))] w fun e w' => e = .returned (.string ⟨(rlineOf ⟨5, a, p, b, f, n, kp⟩).toArray⟩) ∧ Below w.heap.size w w' := by
  obtain ⟨w1, hw1⟩ : ∃ w1, w.alloc (.cells #[.int .i64 5, .int .i64 a, .string ⟨p.toArray⟩, .slice Ab b.length cb, .int .i64 f, .int .i64 n, .slice Ak kp.length ck] 72) = w1 := ⟨_, rfl⟩
  have HD1 : Hid (Blk w1 w.heap.size 72 #[.int .i64 5, .int .i64 a, .string ⟨p.toArray⟩, .slice Ab b.length cb, .int .i64 f, .int .i64 n, .slice Ak kp.length ck]) := Lib.hid (by rw [← hw1]; exact Blk.new _ _ _)
  have HB1 : Hid (Below w.heap.size w w1) := Lib.hid (by rw [← hw1]; exact (Below.refl _ w).alloc (Nat.le_refl _) _)
  have HA : ∀ W, Hid (Calls Tryd.prog 53 #[.int .i64 a] W fun e w' => e = .returned (.string ⟨(Lib.itoa a).toArray⟩) ∧ Keep [] W w') := fun W => Lib.hid (decimal_any a ha W)
  have HN : ∀ W, Hid (Calls Tryd.prog 53 #[.int .i64 n] W fun e w' => e = .returned (.string ⟨(Lib.itoa n).toArray⟩) ∧ Keep [] W w') := fun W => Lib.hid (decimal_any n hn W)
  have HF : ∀ W, Hid (Calls Tryd.prog 53 #[.int .i64 f] W fun e w' => e = .returned (.string ⟨(Lib.itoa f).toArray⟩) ∧ Keep [] W w') := fun W => Lib.hid (decimal_any f hf W)
  have HP : ∀ W, Hid (Calls Tryd.prog 65 #[.agg #[.int .i64 5, .int .i64 a, .string ⟨p.toArray⟩, .slice Ab b.length cb, .int .i64 f, .int .i64 n, .slice Ak kp.length ck]] W fun e w' => e = .returned (.string ⟨(32 :: hexS p).toArray⟩) ∧ Below W.heap.size W w') := fun W => Lib.hid (rpath_any ⟨5, a, p, b, f, n, kp⟩ _ _ Ab Ak _ cb _ ck W hlp rfl rfl)
  have HX : ∀ W, Below w.heap.size w W → Hid (Calls Tryd.prog 10 #[.slice Ab b.length cb] W fun e w' => e = .returned (.string ⟨(hexS b).toArray⟩) ∧ Below W.heap.size W w') := fun W hW => Lib.hid (rhexg_any b Ab cb W (RD.below hb hW) hcb hlb)
  have HT : ∀ W, Below w.heap.size w W → Hid (Calls Tryd.prog 66 #[.slice Ak kp.length ck] W fun e w' => e = .returned (.string ⟨(truS kp).toArray⟩) ∧ Below W.heap.size W w') := fun W hW => Lib.hid (rtruths_any kp Ak ck W (RD.below hk hW) hlk)
  have HL : Hid (rlineOf ⟨5, a, p, b, f, n, kp⟩ = [115, 119, 101, 101, 112] ++ ([32] ++ Lib.itoa a)) := Lib.hid (by simp [rlineOf, lineOf, nameOf, fieldsOf, wordOf, Lib.join_cons, Lib.join_one, Lib.joinTail])
  have lia := itoa_len a ha
  have lin := itoa_len n hn
  have lif := itoa_len f hf
  have lhp := hexS_len p (by omega)
  have lhb : (hexS b).length ≤ 72001 := by have := hexS_len b (by omega); omega
  have ltk : (truS kp).length ≤ 4000001 := by have := truS_len kp; omega
  have lpa : (32 :: hexS p).length ≤ 72002 := by simp; omega
  generalize Lib.itoa a = ia at *
  generalize Lib.itoa n = in_ at *
  generalize Lib.itoa f = if_ at *
  generalize 32 :: hexS p = pa at *
  generalize hexS b = hb_ at *
  generalize truS kp = tk at *
  obtain ⟨sa, hsa⟩ : ∃ x, x = [32] ++ ia := ⟨_, rfl⟩
  obtain ⟨sn, hsn⟩ : ∃ x, x = [32] ++ in_ := ⟨_, rfl⟩
  have lsa : sa.length ≤ 22 := by rw [hsa]; simp; omega
  have lsn : sn.length ≤ 22 := by rw [hsn]; simp; omega
  have qa : ∀ W : World, (Op.stringOp .add ⟨#[32]⟩ ⟨ia.toArray⟩).run Tryd.prog W = .ok (.string ⟨sa.toArray⟩) W := add_lists (a := [32]) hsa (by omega)
  have qn : ∀ W : World, (Op.stringOp .add ⟨#[32]⟩ ⟨in_.toArray⟩).run Tryd.prog W = .ok (.string ⟨sn.toArray⟩) W := add_lists (a := [32]) hsn (by omega)
  obtain ⟨x0, hx0⟩ : ∃ x, x = [115, 119, 101, 101, 112] ++ sa := ⟨_, rfl⟩
  have lx0 : x0.length ≤ 27 := by rw [hx0, List.length_append]; (try simp only [List.length_cons, List.length_nil]); omega
  have qx0 : ∀ W : World, (Op.stringOp .add ⟨#[115, 119, 101, 101, 112]⟩ ⟨sa.toArray⟩).run Tryd.prog W = .ok (.string ⟨x0.toArray⟩) W := add_lists (a := [115, 119, 101, 101, 112]) (b := sa) hx0 (by omega)
  have HL2 : Hid (rlineOf ⟨5, a, p, b, f, n, kp⟩ = x0) := Lib.hid (by rw [HL.out]; simp only [hx0, hsa, hsn, List.append_assoc])
  clear HL hx0 lx0
  have Hw1 := Lib.hid hw1
  clear lia lin lif lhp lhb ltk lpa lsa lsn hsa hsn hw1 hb hk ha hf hn hlp hlb hlk hcb
  unfold DvA
  go_enter Tryd.func52, Tryd.ntmps52
  go_upto_region 1 with (fail)
  rw [Hw1.out]
  refine wp_region_G (fun W => Below w.heap.size w W ∧ Blk W w.heap.size 72 #[.int .i64 5, .int .i64 a, .string ⟨p.toArray⟩, .slice Ab b.length cb, .int .i64 f, .int .i64 n, .slice Ak kp.length ck]) [] #[false, false, false, false, false, false, false, false, false, false] 10 (by kernel_rfl) (by kernel_rfl) (by kernel_rfl) ?_
  refine wpAnyG_take0 (i := 0) (oi := { dst := some 5, op := Go.Op.fieldAddr 72 (Go.Operand.tmp 1) 1, type := 0, pos := "ref.go:175", after := #[], guard := none }) (v := ?vg7_0) rfl (by kernel_rfl) (by kernel_rfl) (by kernel_rfl) (by kernel_rfl) (fun _ _ _ h => h) (fun _ => ⟨HB1.out.drew, HD1.out.drew⟩) (Or.inl ⟨by rfl, ?hg7_0⟩) ?_
  case hg7_0 => intro w _; go_simp; (try with_reducible rfl)
  try simp only [Act.put, List.setIfInBounds_toArray, List.set_cons_zero, List.set_cons_succ]
  refine wpAnyG_take (i := 1) (oi := { dst := some 6, op := Go.Op.load 3 (Go.Operand.tmp 5), type := 3, pos := "ref.go:175", after := #[{ on := 0, ground := Go.Ground.data }], guard := none }) (v := ?vg7_1) [1, 2, 3, 6, 7, 8, 9] rfl (by kernel_rfl) (by kernel_rfl) (by kernel_rfl) (by kernel_rfl) (by kernel_rfl) (fun _ _ _ h => h) (fun _ => ⟨HB1.out.drew, HD1.out.drew⟩) (Or.inl ⟨by rfl, ?hg7_1⟩) ?_
  case hg7_1 => intro w hSw; (try dsimp only at hSw); have c1 : _ = some (Value.int .i64 a) := hSw.2.cell 1; go_simp; (try with_reducible rfl)
  try simp only [Act.put, List.setIfInBounds_toArray, List.set_cons_zero, List.set_cons_succ]
  refine wpAnyG_take0 (i := 4) (oi := { dst := some 9, op := Go.Op.fieldAddr 72 (Go.Operand.tmp 1) 5, type := 0, pos := "ref.go:175", after := #[], guard := none }) (v := ?vg7_4) rfl (by kernel_rfl) (by kernel_rfl) (by kernel_rfl) (by kernel_rfl) (fun _ _ _ h => h) (fun _ => ⟨HB1.out.drew, HD1.out.drew⟩) (Or.inl ⟨by rfl, ?hg7_4⟩) ?_
  case hg7_4 => intro w _; go_simp; (try with_reducible rfl)
  try simp only [Act.put, List.setIfInBounds_toArray, List.set_cons_zero, List.set_cons_succ]
  refine wpAnyG_take (i := 5) (oi := { dst := some 10, op := Go.Op.load 3 (Go.Operand.tmp 9), type := 3, pos := "ref.go:175", after := #[{ on := 4, ground := Go.Ground.data }], guard := none }) (v := ?vg7_5) [5, 6, 7, 8, 9] rfl (by kernel_rfl) (by kernel_rfl) (by kernel_rfl) (by kernel_rfl) (by kernel_rfl) (fun _ _ _ h => h) (fun _ => ⟨HB1.out.drew, HD1.out.drew⟩) (Or.inl ⟨by rfl, ?hg7_5⟩) ?_
  case hg7_5 => intro w hSw; (try dsimp only at hSw); have c5 : _ = some (Value.int .i64 n) := hSw.2.cell 5; go_simp; (try with_reducible rfl)
  try simp only [Act.put, List.setIfInBounds_toArray, List.set_cons_zero, List.set_cons_succ]
  refine wpAnyG_step (i := 2) (oi := { dst := some 7, op := Go.Op.call { callee := Go.Callee.value (Go.Operand.func 53), args := #[Go.Operand.tmp 6], argTypes := #[3] }, type := 9, pos := "ref.go:175", after := #[{ on := 1, ground := Go.Ground.data }], guard := none }) rfl (by kernel_rfl) (by rfl) (fun K hK => ?_)
  go_simp
  go_at_call 53
  refine (HA _).out.mono ?_
  rintro e w2 ⟨rfl, hk2⟩
  have HS2 := Lib.hid (And.intro ((And.intro HB1.out.drew HD1.out.drew).1.trans (hk2.below.mono (And.intro HB1.out.drew HD1.out.drew).1.size)) ((And.intro HB1.out.drew HD1.out.drew).2.keep hk2 List.not_mem_nil))
  clear hk2
  dsimp only
  refine hK _ _ ?_ (fun hSg7_2 => ?_)
  · intro _; exact HS2.out
  replace hSg7_2 := hSg7_2 (by kernel_rfl)
  clear hK
  try simp only [Act.put, List.setIfInBounds_toArray, List.set_cons_zero, List.set_cons_succ]
  refine wpAnyG_take0 (i := 3) (oi := { dst := some 8, op := Go.Op.binOp Go.BinOp.add 9 (Go.Operand.const (Go.Value.string { data := #[32] })) (Go.Operand.tmp 7) 9, type := 9, pos := "ref.go:175", after := #[{ on := 2, ground := Go.Ground.data }], guard := none }) (v := ?vg7_3) rfl (by kernel_rfl) (by kernel_rfl) (by kernel_rfl) (by kernel_rfl) (fun _ _ _ h => h) (fun _ => hSg7_2) (Or.inl ⟨by rfl, ?hg7_3⟩) ?_
  case hg7_3 => intro w _; go_simp; (try with_reducible rfl)
  try simp only [Act.put, List.setIfInBounds_toArray, List.set_cons_zero, List.set_cons_succ]
  refine wpAnyG_step (i := 6) (oi := { dst := some 11, op := Go.Op.call { callee := Go.Callee.value (Go.Operand.func 53), args := #[Go.Operand.tmp 10], argTypes := #[3] }, type := 9, pos := "ref.go:175", after := #[{ on := 5, ground := Go.Ground.data }, { on := 2, ground := Go.Ground.chain }], guard := none }) rfl (by kernel_rfl) (by rfl) (fun K hK => ?_)
  go_simp
  go_at_call 53
  refine (HN _).out.mono ?_
  rintro e w3 ⟨rfl, hk3⟩
  have HS3 := Lib.hid (And.intro (HS2.out.1.trans (hk3.below.mono HS2.out.1.size)) (HS2.out.2.keep hk3 List.not_mem_nil))
  clear hk3
  dsimp only
  refine hK _ _ ?_ (fun hSg7_6 => ?_)
  · intro _; exact HS3.out
  replace hSg7_6 := hSg7_6 (by kernel_rfl)
  clear hK
  try simp only [Act.put, List.setIfInBounds_toArray, List.set_cons_zero, List.set_cons_succ]
  refine wpAnyG_take0 (i := 7) (oi := { dst := some 12, op := Go.Op.binOp Go.BinOp.add 9 (Go.Operand.const (Go.Value.string { data := #[32] })) (Go.Operand.tmp 11) 9, type := 9, pos := "ref.go:175", after := #[{ on := 6, ground := Go.Ground.data }, { on := 8, ground := Go.Ground.gcOnly Go.Departure.lateStores }], guard := none }) (v := ?vg7_7) rfl (by kernel_rfl) (by kernel_rfl) (by kernel_rfl) (by kernel_rfl) (fun _ _ _ h => h) (fun _ => hSg7_6) (Or.inl ⟨by rfl, ?hg7_7⟩) ?_
  case hg7_7 => intro w _; go_simp; (try with_reducible rfl)
  try simp only [Act.put, List.setIfInBounds_toArray, List.set_cons_zero, List.set_cons_succ]
  refine wpAnyG_take0 (i := 8) (oi := { dst := some 3, op := Go.Op.assign (Go.Operand.tmp 8), type := 9, pos := "ref.go:175", after := #[{ on := 3, ground := Go.Ground.data }, { on := 6, ground := Go.Ground.chain }, { on := 0, ground := Go.Ground.phase }, { on := 1, ground := Go.Ground.phase }, { on := 2, ground := Go.Ground.phase }, { on := 3, ground := Go.Ground.phase }, { on := 4, ground := Go.Ground.textOnly Go.Departure.lateStores }, { on := 5, ground := Go.Ground.textOnly Go.Departure.lateStores }, { on := 6, ground := Go.Ground.textOnly Go.Departure.lateStoresUnsure }, { on := 7, ground := Go.Ground.textOnly Go.Departure.lateStores }], guard := none }) (v := ?vg7_8) rfl (by kernel_rfl) (by kernel_rfl) (by kernel_rfl) (by kernel_rfl) (fun _ _ _ h => h) (fun _ => hSg7_6) (Or.inl ⟨by rfl, ?hg7_8⟩) ?_
  case hg7_8 => intro w _; go_simp; (try with_reducible rfl)
  try simp only [Act.put, List.setIfInBounds_toArray, List.set_cons_zero, List.set_cons_succ]
  refine wpAnyG_take0 (i := 9) (oi := { dst := some 4, op := Go.Op.assign (Go.Operand.tmp 12), type := 9, pos := "ref.go:175", after := #[{ on := 7, ground := Go.Ground.data }, { on := 8, ground := Go.Ground.chain }, { on := 0, ground := Go.Ground.phase }, { on := 1, ground := Go.Ground.phase }, { on := 2, ground := Go.Ground.phase }, { on := 3, ground := Go.Ground.phase }, { on := 4, ground := Go.Ground.phase }, { on := 5, ground := Go.Ground.phase }, { on := 6, ground := Go.Ground.phase }, { on := 7, ground := Go.Ground.phase }, { on := 8, ground := Go.Ground.phase }], guard := none }) (v := ?vg7_9) rfl (by kernel_rfl) (by kernel_rfl) (by kernel_rfl) (by kernel_rfl) (fun _ _ _ h => h) (fun _ => hSg7_6) (Or.inl ⟨by rfl, ?hg7_9⟩) ?_
  case hg7_9 => intro w _; go_simp; (try with_reducible rfl)
  try simp only [Act.put, List.setIfInBounds_toArray, List.set_cons_zero, List.set_cons_succ]
  refine wpAnyG_done (by kernel_rfl) ?_ _
  have c0 : _ = some (Value.int .i64 5) := HS3.out.2.cell 0
  have c1 : _ = some (Value.int .i64 a) := HS3.out.2.cell 1
  have c2 : _ = some (Value.string ⟨p.toArray⟩) := HS3.out.2.cell 2
  have c3 : _ = some (Value.slice Ab b.length cb) := HS3.out.2.cell 3
  have c4 : _ = some (Value.int .i64 f) := HS3.out.2.cell 4
  have c5 : _ = some (Value.int .i64 n) := HS3.out.2.cell 5
  have c6 : _ = some (Value.slice Ak kp.length ck) := HS3.out.2.cell 6
  go_wp2
  go_ret
  rw [HL2.out]
  exact ⟨rfl, HS3.out.1⟩
set_option maxRecDepth 200000 in
set_option maxHeartbeats 8000000 in
theorem rline_6 (a : Int) (p b : List UInt8) (f n : Int) (kp : List Bool) (Ab Ak : Option Addr) (cb ck : Nat) (w : World) (hb : RD encB w Ab b) (hk : RD encT w Ak kp) (hcb : b.length ≤ cb) (hlb : b.length ≤ 3000) (hlp : p.length ≤ 3000) (hlk : kp.length ≤ 4000000)
    (ha : -9223372036854775808 ≤ a ∧ a ≤ 9223372036854775807) (hf : -9223372036854775808 ≤ f ∧ f ≤ 9223372036854775807) (hn : -9223372036854775808 ≤ n ∧ n ≤ 9223372036854775807) :
    Calls Tryd.prog 52 #[.agg (DvA ⟨6, a, p, b, f, n, kp⟩ (.slice Ab b.length cb) (.slice Ak kp.length ck))] w fun e w' => e = .returned (.string ⟨(rlineOf ⟨6, a, p, b, f, n, kp⟩).toArray⟩) ∧ Below w.heap.size w w' := by
  obtain ⟨w1, hw1⟩ : ∃ w1, w.alloc (.cells #[.int .i64 6, .int .i64 a, .string ⟨p.toArray⟩, .slice Ab b.length cb, .int .i64 f, .int .i64 n, .slice Ak kp.length ck] 72) = w1 := ⟨_, rfl⟩
  have HD1 : Hid (Blk w1 w.heap.size 72 #[.int .i64 6, .int .i64 a, .string ⟨p.toArray⟩, .slice Ab b.length cb, .int .i64 f, .int .i64 n, .slice Ak kp.length ck]) := Lib.hid (by rw [← hw1]; exact Blk.new _ _ _)
  have HB1 : Hid (Below w.heap.size w w1) := Lib.hid (by rw [← hw1]; exact (Below.refl _ w).alloc (Nat.le_refl _) _)
  have HA : ∀ W, Hid (Calls Tryd.prog 53 #[.int .i64 a] W fun e w' => e = .returned (.string ⟨(Lib.itoa a).toArray⟩) ∧ Keep [] W w') := fun W => Lib.hid (decimal_any a ha W)
  have HN : ∀ W, Hid (Calls Tryd.prog 53 #[.int .i64 n] W fun e w' => e = .returned (.string ⟨(Lib.itoa n).toArray⟩) ∧ Keep [] W w') := fun W => Lib.hid (decimal_any n hn W)
  have HF : ∀ W, Hid (Calls Tryd.prog 53 #[.int .i64 f] W fun e w' => e = .returned (.string ⟨(Lib.itoa f).toArray⟩) ∧ Keep [] W w') := fun W => Lib.hid (decimal_any f hf W)
  have HP : ∀ W, Hid (Calls Tryd.prog 65 #[.agg #[.int .i64 6, .int .i64 a, .string ⟨p.toArray⟩, .slice Ab b.length cb, .int .i64 f, .int .i64 n, .slice Ak kp.length ck]] W fun e w' => e = .returned (.string ⟨(32 :: hexS p).toArray⟩) ∧ Below W.heap.size W w') := fun W => Lib.hid (rpath_any ⟨6, a, p, b, f, n, kp⟩ _ _ Ab Ak _ cb _ ck W hlp rfl rfl)
  have HX : ∀ W, Below w.heap.size w W → Hid (Calls Tryd.prog 10 #[.slice Ab b.length cb] W fun e w' => e = .returned (.string ⟨(hexS b).toArray⟩) ∧ Below W.heap.size W w') := fun W hW => Lib.hid (rhexg_any b Ab cb W (RD.below hb hW) hcb hlb)
  have HT : ∀ W, Below w.heap.size w W → Hid (Calls Tryd.prog 66 #[.slice Ak kp.length ck] W fun e w' => e = .returned (.string ⟨(truS kp).toArray⟩) ∧ Below W.heap.size W w') := fun W hW => Lib.hid (rtruths_any kp Ak ck W (RD.below hk hW) hlk)
  have HL : Hid (rlineOf ⟨6, a, p, b, f, n, kp⟩ = [115, 99, 114, 117, 98] ++ ([32] ++ Lib.itoa a)) := Lib.hid (by simp [rlineOf, lineOf, nameOf, fieldsOf, wordOf, Lib.join_cons, Lib.join_one, Lib.joinTail])
  have lia := itoa_len a ha
  have lin := itoa_len n hn
  have lif := itoa_len f hf
  have lhp := hexS_len p (by omega)
  have lhb : (hexS b).length ≤ 72001 := by have := hexS_len b (by omega); omega
  have ltk : (truS kp).length ≤ 4000001 := by have := truS_len kp; omega
  have lpa : (32 :: hexS p).length ≤ 72002 := by simp; omega
  generalize Lib.itoa a = ia at *
  generalize Lib.itoa n = in_ at *
  generalize Lib.itoa f = if_ at *
  generalize 32 :: hexS p = pa at *
  generalize hexS b = hb_ at *
  generalize truS kp = tk at *
  obtain ⟨sa, hsa⟩ : ∃ x, x = [32] ++ ia := ⟨_, rfl⟩
  obtain ⟨sn, hsn⟩ : ∃ x, x = [32] ++ in_ := ⟨_, rfl⟩
  have lsa : sa.length ≤ 22 := by rw [hsa]; simp; omega
  have lsn : sn.length ≤ 22 := by rw [hsn]; simp; omega
  have qa : ∀ W : World, (Op.stringOp .add ⟨#[32]⟩ ⟨ia.toArray⟩).run Tryd.prog W = .ok (.string ⟨sa.toArray⟩) W := add_lists (a := [32]) hsa (by omega)
  have qn : ∀ W : World, (Op.stringOp .add ⟨#[32]⟩ ⟨in_.toArray⟩).run Tryd.prog W = .ok (.string ⟨sn.toArray⟩) W := add_lists (a := [32]) hsn (by omega)
  obtain ⟨x0, hx0⟩ : ∃ x, x = [115, 99, 114, 117, 98] ++ sa := ⟨_, rfl⟩
  have lx0 : x0.length ≤ 27 := by rw [hx0, List.length_append]; (try simp only [List.length_cons, List.length_nil]); omega
  have qx0 : ∀ W : World, (Op.stringOp .add ⟨#[115, 99, 114, 117, 98]⟩ ⟨sa.toArray⟩).run Tryd.prog W = .ok (.string ⟨x0.toArray⟩) W := add_lists (a := [115, 99, 114, 117, 98]) (b := sa) hx0 (by omega)
  have HL2 : Hid (rlineOf ⟨6, a, p, b, f, n, kp⟩ = x0) := Lib.hid (by rw [HL.out]; simp only [hx0, hsa, hsn, List.append_assoc])
  clear HL hx0 lx0
  have Hw1 := Lib.hid hw1
  clear lia lin lif lhp lhb ltk lpa lsa lsn hsa hsn hw1 hb hk ha hf hn hlp hlb hlk hcb
  unfold DvA
  go_enter Tryd.func52, Tryd.ntmps52
  go_upto_region 1 with (fail)
  rw [Hw1.out]
  refine wp_region_G (fun W => Below w.heap.size w W ∧ Blk W w.heap.size 72 #[.int .i64 6, .int .i64 a, .string ⟨p.toArray⟩, .slice Ab b.length cb, .int .i64 f, .int .i64 n, .slice Ak kp.length ck]) [] #[false, false, false, false, false, false, false, false, false, false] 10 (by kernel_rfl) (by kernel_rfl) (by kernel_rfl) ?_
  refine wpAnyG_take0 (i := 0) (oi := { dst := some 5, op := Go.Op.fieldAddr 72 (Go.Operand.tmp 1) 1, type := 0, pos := "ref.go:175", after := #[], guard := none }) (v := ?vg8_0) rfl (by kernel_rfl) (by kernel_rfl) (by kernel_rfl) (by kernel_rfl) (fun _ _ _ h => h) (fun _ => ⟨HB1.out.drew, HD1.out.drew⟩) (Or.inl ⟨by rfl, ?hg8_0⟩) ?_
  case hg8_0 => intro w _; go_simp; (try with_reducible rfl)
  try simp only [Act.put, List.setIfInBounds_toArray, List.set_cons_zero, List.set_cons_succ]
  refine wpAnyG_take (i := 1) (oi := { dst := some 6, op := Go.Op.load 3 (Go.Operand.tmp 5), type := 3, pos := "ref.go:175", after := #[{ on := 0, ground := Go.Ground.data }], guard := none }) (v := ?vg8_1) [1, 2, 3, 6, 7, 8, 9] rfl (by kernel_rfl) (by kernel_rfl) (by kernel_rfl) (by kernel_rfl) (by kernel_rfl) (fun _ _ _ h => h) (fun _ => ⟨HB1.out.drew, HD1.out.drew⟩) (Or.inl ⟨by rfl, ?hg8_1⟩) ?_
  case hg8_1 => intro w hSw; (try dsimp only at hSw); have c1 : _ = some (Value.int .i64 a) := hSw.2.cell 1; go_simp; (try with_reducible rfl)
  try simp only [Act.put, List.setIfInBounds_toArray, List.set_cons_zero, List.set_cons_succ]
  refine wpAnyG_take0 (i := 4) (oi := { dst := some 9, op := Go.Op.fieldAddr 72 (Go.Operand.tmp 1) 5, type := 0, pos := "ref.go:175", after := #[], guard := none }) (v := ?vg8_4) rfl (by kernel_rfl) (by kernel_rfl) (by kernel_rfl) (by kernel_rfl) (fun _ _ _ h => h) (fun _ => ⟨HB1.out.drew, HD1.out.drew⟩) (Or.inl ⟨by rfl, ?hg8_4⟩) ?_
  case hg8_4 => intro w _; go_simp; (try with_reducible rfl)
  try simp only [Act.put, List.setIfInBounds_toArray, List.set_cons_zero, List.set_cons_succ]
  refine wpAnyG_take (i := 5) (oi := { dst := some 10, op := Go.Op.load 3 (Go.Operand.tmp 9), type := 3, pos := "ref.go:175", after := #[{ on := 4, ground := Go.Ground.data }], guard := none }) (v := ?vg8_5) [5, 6, 7, 8, 9] rfl (by kernel_rfl) (by kernel_rfl) (by kernel_rfl) (by kernel_rfl) (by kernel_rfl) (fun _ _ _ h => h) (fun _ => ⟨HB1.out.drew, HD1.out.drew⟩) (Or.inl ⟨by rfl, ?hg8_5⟩) ?_
  case hg8_5 => intro w hSw; (try dsimp only at hSw); have c5 : _ = some (Value.int .i64 n) := hSw.2.cell 5; go_simp; (try with_reducible rfl)
  try simp only [Act.put, List.setIfInBounds_toArray, List.set_cons_zero, List.set_cons_succ]
  refine wpAnyG_step (i := 2) (oi := { dst := some 7, op := Go.Op.call { callee := Go.Callee.value (Go.Operand.func 53), args := #[Go.Operand.tmp 6], argTypes := #[3] }, type := 9, pos := "ref.go:175", after := #[{ on := 1, ground := Go.Ground.data }], guard := none }) rfl (by kernel_rfl) (by rfl) (fun K hK => ?_)
  go_simp
  go_at_call 53
  refine (HA _).out.mono ?_
  rintro e w2 ⟨rfl, hk2⟩
  have HS2 := Lib.hid (And.intro ((And.intro HB1.out.drew HD1.out.drew).1.trans (hk2.below.mono (And.intro HB1.out.drew HD1.out.drew).1.size)) ((And.intro HB1.out.drew HD1.out.drew).2.keep hk2 List.not_mem_nil))
  clear hk2
  dsimp only
  refine hK _ _ ?_ (fun hSg8_2 => ?_)
  · intro _; exact HS2.out
  replace hSg8_2 := hSg8_2 (by kernel_rfl)
  clear hK
  try simp only [Act.put, List.setIfInBounds_toArray, List.set_cons_zero, List.set_cons_succ]
  refine wpAnyG_take0 (i := 3) (oi := { dst := some 8, op := Go.Op.binOp Go.BinOp.add 9 (Go.Operand.const (Go.Value.string { data := #[32] })) (Go.Operand.tmp 7) 9, type := 9, pos := "ref.go:175", after := #[{ on := 2, ground := Go.Ground.data }], guard := none }) (v := ?vg8_3) rfl (by kernel_rfl) (by kernel_rfl) (by kernel_rfl) (by kernel_rfl) (fun _ _ _ h => h) (fun _ => hSg8_2) (Or.inl ⟨by rfl, ?hg8_3⟩) ?_
  case hg8_3 => intro w _; go_simp; (try with_reducible rfl)
  try simp only [Act.put, List.setIfInBounds_toArray, List.set_cons_zero, List.set_cons_succ]
  refine wpAnyG_step (i := 6) (oi := { dst := some 11, op := Go.Op.call { callee := Go.Callee.value (Go.Operand.func 53), args := #[Go.Operand.tmp 10], argTypes := #[3] }, type := 9, pos := "ref.go:175", after := #[{ on := 5, ground := Go.Ground.data }, { on := 2, ground := Go.Ground.chain }], guard := none }) rfl (by kernel_rfl) (by rfl) (fun K hK => ?_)
  go_simp
  go_at_call 53
  refine (HN _).out.mono ?_
  rintro e w3 ⟨rfl, hk3⟩
  have HS3 := Lib.hid (And.intro (HS2.out.1.trans (hk3.below.mono HS2.out.1.size)) (HS2.out.2.keep hk3 List.not_mem_nil))
  clear hk3
  dsimp only
  refine hK _ _ ?_ (fun hSg8_6 => ?_)
  · intro _; exact HS3.out
  replace hSg8_6 := hSg8_6 (by kernel_rfl)
  clear hK
  try simp only [Act.put, List.setIfInBounds_toArray, List.set_cons_zero, List.set_cons_succ]
  refine wpAnyG_take0 (i := 7) (oi := { dst := some 12, op := Go.Op.binOp Go.BinOp.add 9 (Go.Operand.const (Go.Value.string { data := #[32] })) (Go.Operand.tmp 11) 9, type := 9, pos := "ref.go:175", after := #[{ on := 6, ground := Go.Ground.data }, { on := 8, ground := Go.Ground.gcOnly Go.Departure.lateStores }], guard := none }) (v := ?vg8_7) rfl (by kernel_rfl) (by kernel_rfl) (by kernel_rfl) (by kernel_rfl) (fun _ _ _ h => h) (fun _ => hSg8_6) (Or.inl ⟨by rfl, ?hg8_7⟩) ?_
  case hg8_7 => intro w _; go_simp; (try with_reducible rfl)
  try simp only [Act.put, List.setIfInBounds_toArray, List.set_cons_zero, List.set_cons_succ]
  refine wpAnyG_take0 (i := 8) (oi := { dst := some 3, op := Go.Op.assign (Go.Operand.tmp 8), type := 9, pos := "ref.go:175", after := #[{ on := 3, ground := Go.Ground.data }, { on := 6, ground := Go.Ground.chain }, { on := 0, ground := Go.Ground.phase }, { on := 1, ground := Go.Ground.phase }, { on := 2, ground := Go.Ground.phase }, { on := 3, ground := Go.Ground.phase }, { on := 4, ground := Go.Ground.textOnly Go.Departure.lateStores }, { on := 5, ground := Go.Ground.textOnly Go.Departure.lateStores }, { on := 6, ground := Go.Ground.textOnly Go.Departure.lateStoresUnsure }, { on := 7, ground := Go.Ground.textOnly Go.Departure.lateStores }], guard := none }) (v := ?vg8_8) rfl (by kernel_rfl) (by kernel_rfl) (by kernel_rfl) (by kernel_rfl) (fun _ _ _ h => h) (fun _ => hSg8_6) (Or.inl ⟨by rfl, ?hg8_8⟩) ?_
  case hg8_8 => intro w _; go_simp; (try with_reducible rfl)
  try simp only [Act.put, List.setIfInBounds_toArray, List.set_cons_zero, List.set_cons_succ]
  refine wpAnyG_take0 (i := 9) (oi := { dst := some 4, op := Go.Op.assign (Go.Operand.tmp 12), type := 9, pos := "ref.go:175", after := #[{ on := 7, ground := Go.Ground.data }, { on := 8, ground := Go.Ground.chain }, { on := 0, ground := Go.Ground.phase }, { on := 1, ground := Go.Ground.phase }, { on := 2, ground := Go.Ground.phase }, { on := 3, ground := Go.Ground.phase }, { on := 4, ground := Go.Ground.phase }, { on := 5, ground := Go.Ground.phase }, { on := 6, ground := Go.Ground.phase }, { on := 7, ground := Go.Ground.phase }, { on := 8, ground := Go.Ground.phase }], guard := none }) (v := ?vg8_9) rfl (by kernel_rfl) (by kernel_rfl) (by kernel_rfl) (by kernel_rfl) (fun _ _ _ h => h) (fun _ => hSg8_6) (Or.inl ⟨by rfl, ?hg8_9⟩) ?_
  case hg8_9 => intro w _; go_simp; (try with_reducible rfl)
  try simp only [Act.put, List.setIfInBounds_toArray, List.set_cons_zero, List.set_cons_succ]
  refine wpAnyG_done (by kernel_rfl) ?_ _
  have c0 : _ = some (Value.int .i64 6) := HS3.out.2.cell 0
  have c1 : _ = some (Value.int .i64 a) := HS3.out.2.cell 1
  have c2 : _ = some (Value.string ⟨p.toArray⟩) := HS3.out.2.cell 2
  have c3 : _ = some (Value.slice Ab b.length cb) := HS3.out.2.cell 3
  have c4 : _ = some (Value.int .i64 f) := HS3.out.2.cell 4
  have c5 : _ = some (Value.int .i64 n) := HS3.out.2.cell 5
  have c6 : _ = some (Value.slice Ak kp.length ck) := HS3.out.2.cell 6
  go_wp2
  go_ret
  rw [HL2.out]
  exact ⟨rfl, HS3.out.1⟩
set_option maxRecDepth 200000 in
set_option maxHeartbeats 8000000 in
theorem rline_7 (a : Int) (p b : List UInt8) (f n : Int) (kp : List Bool) (Ab Ak : Option Addr) (cb ck : Nat) (w : World) (hb : RD encB w Ab b) (hk : RD encT w Ak kp) (hcb : b.length ≤ cb) (hlb : b.length ≤ 3000) (hlp : p.length ≤ 3000) (hlk : kp.length ≤ 4000000)
    (ha : -9223372036854775808 ≤ a ∧ a ≤ 9223372036854775807) (hf : -9223372036854775808 ≤ f ∧ f ≤ 9223372036854775807) (hn : -9223372036854775808 ≤ n ∧ n ≤ 9223372036854775807) :
    Calls Tryd.prog 52 #[.agg (DvA ⟨7, a, p, b, f, n, kp⟩ (.slice Ab b.length cb) (.slice Ak kp.length ck))] w fun e w' => e = .returned (.string ⟨(rlineOf ⟨7, a, p, b, f, n, kp⟩).toArray⟩) ∧ Below w.heap.size w w' := by
  obtain ⟨w1, hw1⟩ : ∃ w1, w.alloc (.cells #[.int .i64 7, .int .i64 a, .string ⟨p.toArray⟩, .slice Ab b.length cb, .int .i64 f, .int .i64 n, .slice Ak kp.length ck] 72) = w1 := ⟨_, rfl⟩
  have HD1 : Hid (Blk w1 w.heap.size 72 #[.int .i64 7, .int .i64 a, .string ⟨p.toArray⟩, .slice Ab b.length cb, .int .i64 f, .int .i64 n, .slice Ak kp.length ck]) := Lib.hid (by rw [← hw1]; exact Blk.new _ _ _)
  have HB1 : Hid (Below w.heap.size w w1) := Lib.hid (by rw [← hw1]; exact (Below.refl _ w).alloc (Nat.le_refl _) _)
  have HA : ∀ W, Hid (Calls Tryd.prog 53 #[.int .i64 a] W fun e w' => e = .returned (.string ⟨(Lib.itoa a).toArray⟩) ∧ Keep [] W w') := fun W => Lib.hid (decimal_any a ha W)
  have HN : ∀ W, Hid (Calls Tryd.prog 53 #[.int .i64 n] W fun e w' => e = .returned (.string ⟨(Lib.itoa n).toArray⟩) ∧ Keep [] W w') := fun W => Lib.hid (decimal_any n hn W)
  have HF : ∀ W, Hid (Calls Tryd.prog 53 #[.int .i64 f] W fun e w' => e = .returned (.string ⟨(Lib.itoa f).toArray⟩) ∧ Keep [] W w') := fun W => Lib.hid (decimal_any f hf W)
  have HP : ∀ W, Hid (Calls Tryd.prog 65 #[.agg #[.int .i64 7, .int .i64 a, .string ⟨p.toArray⟩, .slice Ab b.length cb, .int .i64 f, .int .i64 n, .slice Ak kp.length ck]] W fun e w' => e = .returned (.string ⟨(32 :: hexS p).toArray⟩) ∧ Below W.heap.size W w') := fun W => Lib.hid (rpath_any ⟨7, a, p, b, f, n, kp⟩ _ _ Ab Ak _ cb _ ck W hlp rfl rfl)
  have HX : ∀ W, Below w.heap.size w W → Hid (Calls Tryd.prog 10 #[.slice Ab b.length cb] W fun e w' => e = .returned (.string ⟨(hexS b).toArray⟩) ∧ Below W.heap.size W w') := fun W hW => Lib.hid (rhexg_any b Ab cb W (RD.below hb hW) hcb hlb)
  have HT : ∀ W, Below w.heap.size w W → Hid (Calls Tryd.prog 66 #[.slice Ak kp.length ck] W fun e w' => e = .returned (.string ⟨(truS kp).toArray⟩) ∧ Below W.heap.size W w') := fun W hW => Lib.hid (rtruths_any kp Ak ck W (RD.below hk hW) hlk)
  have HL : Hid (rlineOf ⟨7, a, p, b, f, n, kp⟩ = [112, 114, 111, 109, 111, 116, 101] ++ ([32] ++ Lib.itoa a)) := Lib.hid (by simp [rlineOf, lineOf, nameOf, fieldsOf, wordOf, Lib.join_cons, Lib.join_one, Lib.joinTail])
  have lia := itoa_len a ha
  have lin := itoa_len n hn
  have lif := itoa_len f hf
  have lhp := hexS_len p (by omega)
  have lhb : (hexS b).length ≤ 72001 := by have := hexS_len b (by omega); omega
  have ltk : (truS kp).length ≤ 4000001 := by have := truS_len kp; omega
  have lpa : (32 :: hexS p).length ≤ 72002 := by simp; omega
  generalize Lib.itoa a = ia at *
  generalize Lib.itoa n = in_ at *
  generalize Lib.itoa f = if_ at *
  generalize 32 :: hexS p = pa at *
  generalize hexS b = hb_ at *
  generalize truS kp = tk at *
  obtain ⟨sa, hsa⟩ : ∃ x, x = [32] ++ ia := ⟨_, rfl⟩
  obtain ⟨sn, hsn⟩ : ∃ x, x = [32] ++ in_ := ⟨_, rfl⟩
  have lsa : sa.length ≤ 22 := by rw [hsa]; simp; omega
  have lsn : sn.length ≤ 22 := by rw [hsn]; simp; omega
  have qa : ∀ W : World, (Op.stringOp .add ⟨#[32]⟩ ⟨ia.toArray⟩).run Tryd.prog W = .ok (.string ⟨sa.toArray⟩) W := add_lists (a := [32]) hsa (by omega)
  have qn : ∀ W : World, (Op.stringOp .add ⟨#[32]⟩ ⟨in_.toArray⟩).run Tryd.prog W = .ok (.string ⟨sn.toArray⟩) W := add_lists (a := [32]) hsn (by omega)
  obtain ⟨x0, hx0⟩ : ∃ x, x = [112, 114, 111, 109, 111, 116, 101] ++ sa := ⟨_, rfl⟩
  have lx0 : x0.length ≤ 29 := by rw [hx0, List.length_append]; (try simp only [List.length_cons, List.length_nil]); omega
  have qx0 : ∀ W : World, (Op.stringOp .add ⟨#[112, 114, 111, 109, 111, 116, 101]⟩ ⟨sa.toArray⟩).run Tryd.prog W = .ok (.string ⟨x0.toArray⟩) W := add_lists (a := [112, 114, 111, 109, 111, 116, 101]) (b := sa) hx0 (by omega)
  have HL2 : Hid (rlineOf ⟨7, a, p, b, f, n, kp⟩ = x0) := Lib.hid (by rw [HL.out]; simp only [hx0, hsa, hsn, List.append_assoc])
  clear HL hx0 lx0
  have Hw1 := Lib.hid hw1
  clear lia lin lif lhp lhb ltk lpa lsa lsn hsa hsn hw1 hb hk ha hf hn hlp hlb hlk hcb
  unfold DvA
  go_enter Tryd.func52, Tryd.ntmps52
  go_upto_region 1 with (fail)
  rw [Hw1.out]
  refine wp_region_G (fun W => Below w.heap.size w W ∧ Blk W w.heap.size 72 #[.int .i64 7, .int .i64 a, .string ⟨p.toArray⟩, .slice Ab b.length cb, .int .i64 f, .int .i64 n, .slice Ak kp.length ck]) [] #[false, false, false, false, false, false, false, false, false, false] 10 (by kernel_rfl) (by kernel_rfl) (by kernel_rfl) ?_
  refine wpAnyG_take0 (i := 0) (oi := { dst := some 5, op := Go.Op.fieldAddr 72 (Go.Operand.tmp 1) 1, type := 0, pos := "ref.go:175", after := #[], guard := none }) (v := ?vg9_0) rfl (by kernel_rfl) (by kernel_rfl) (by kernel_rfl) (by kernel_rfl) (fun _ _ _ h => h) (fun _ => ⟨HB1.out.drew, HD1.out.drew⟩) (Or.inl ⟨by rfl, ?hg9_0⟩) ?_
  case hg9_0 => intro w _; go_simp; (try with_reducible rfl)
  try simp only [Act.put, List.setIfInBounds_toArray, List.set_cons_zero, List.set_cons_succ]
  refine wpAnyG_take (i := 1) (oi := { dst := some 6, op := Go.Op.load 3 (Go.Operand.tmp 5), type := 3, pos := "ref.go:175", after := #[{ on := 0, ground := Go.Ground.data }], guard := none }) (v := ?vg9_1) [1, 2, 3, 6, 7, 8, 9] rfl (by kernel_rfl) (by kernel_rfl) (by kernel_rfl) (by kernel_rfl) (by kernel_rfl) (fun _ _ _ h => h) (fun _ => ⟨HB1.out.drew, HD1.out.drew⟩) (Or.inl ⟨by rfl, ?hg9_1⟩) ?_
  case hg9_1 => intro w hSw; (try dsimp only at hSw); have c1 : _ = some (Value.int .i64 a) := hSw.2.cell 1; go_simp; (try with_reducible rfl)
  try simp only [Act.put, List.setIfInBounds_toArray, List.set_cons_zero, List.set_cons_succ]
  refine wpAnyG_take0 (i := 4) (oi := { dst := some 9, op := Go.Op.fieldAddr 72 (Go.Operand.tmp 1) 5, type := 0, pos := "ref.go:175", after := #[], guard := none }) (v := ?vg9_4) rfl (by kernel_rfl) (by kernel_rfl) (by kernel_rfl) (by kernel_rfl) (fun _ _ _ h => h) (fun _ => ⟨HB1.out.drew, HD1.out.drew⟩) (Or.inl ⟨by rfl, ?hg9_4⟩) ?_
  case hg9_4 => intro w _; go_simp; (try with_reducible rfl)
  try simp only [Act.put, List.setIfInBounds_toArray, List.set_cons_zero, List.set_cons_succ]
  refine wpAnyG_take (i := 5) (oi := { dst := some 10, op := Go.Op.load 3 (Go.Operand.tmp 9), type := 3, pos := "ref.go:175", after := #[{ on := 4, ground := Go.Ground.data }], guard := none }) (v := ?vg9_5) [5, 6, 7, 8, 9] rfl (by kernel_rfl) (by kernel_rfl) (by kernel_rfl) (by kernel_rfl) (by kernel_rfl) (fun _ _ _ h => h) (fun _ => ⟨HB1.out.drew, HD1.out.drew⟩) (Or.inl ⟨by rfl, ?hg9_5⟩) ?_
  case hg9_5 => intro w hSw; (try dsimp only at hSw); have c5 : _ = some (Value.int .i64 n) := hSw.2.cell 5; go_simp; (try with_reducible rfl)
  try simp only [Act.put, List.setIfInBounds_toArray, List.set_cons_zero, List.set_cons_succ]
  refine wpAnyG_step (i := 2) (oi := { dst := some 7, op := Go.Op.call { callee := Go.Callee.value (Go.Operand.func 53), args := #[Go.Operand.tmp 6], argTypes := #[3] }, type := 9, pos := "ref.go:175", after := #[{ on := 1, ground := Go.Ground.data }], guard := none }) rfl (by kernel_rfl) (by rfl) (fun K hK => ?_)
  go_simp
  go_at_call 53
  refine (HA _).out.mono ?_
  rintro e w2 ⟨rfl, hk2⟩
  have HS2 := Lib.hid (And.intro ((And.intro HB1.out.drew HD1.out.drew).1.trans (hk2.below.mono (And.intro HB1.out.drew HD1.out.drew).1.size)) ((And.intro HB1.out.drew HD1.out.drew).2.keep hk2 List.not_mem_nil))
  clear hk2
  dsimp only
  refine hK _ _ ?_ (fun hSg9_2 => ?_)
  · intro _; exact HS2.out
  replace hSg9_2 := hSg9_2 (by kernel_rfl)
  clear hK
  try simp only [Act.put, List.setIfInBounds_toArray, List.set_cons_zero, List.set_cons_succ]
  refine wpAnyG_take0 (i := 3) (oi := { dst := some 8, op := Go.Op.binOp Go.BinOp.add 9 (Go.Operand.const (Go.Value.string { data := #[32] })) (Go.Operand.tmp 7) 9, type := 9, pos := "ref.go:175", after := #[{ on := 2, ground := Go.Ground.data }], guard := none }) (v := ?vg9_3) rfl (by kernel_rfl) (by kernel_rfl) (by kernel_rfl) (by kernel_rfl) (fun _ _ _ h => h) (fun _ => hSg9_2) (Or.inl ⟨by rfl, ?hg9_3⟩) ?_
  case hg9_3 => intro w _; go_simp; (try with_reducible rfl)
  try simp only [Act.put, List.setIfInBounds_toArray, List.set_cons_zero, List.set_cons_succ]
  refine wpAnyG_step (i := 6) (oi := { dst := some 11, op := Go.Op.call { callee := Go.Callee.value (Go.Operand.func 53), args := #[Go.Operand.tmp 10], argTypes := #[3] }, type := 9, pos := "ref.go:175", after := #[{ on := 5, ground := Go.Ground.data }, { on := 2, ground := Go.Ground.chain }], guard := none }) rfl (by kernel_rfl) (by rfl) (fun K hK => ?_)
  go_simp
  go_at_call 53
  refine (HN _).out.mono ?_
  rintro e w3 ⟨rfl, hk3⟩
  have HS3 := Lib.hid (And.intro (HS2.out.1.trans (hk3.below.mono HS2.out.1.size)) (HS2.out.2.keep hk3 List.not_mem_nil))
  clear hk3
  dsimp only
  refine hK _ _ ?_ (fun hSg9_6 => ?_)
  · intro _; exact HS3.out
  replace hSg9_6 := hSg9_6 (by kernel_rfl)
  clear hK
  try simp only [Act.put, List.setIfInBounds_toArray, List.set_cons_zero, List.set_cons_succ]
  refine wpAnyG_take0 (i := 7) (oi := { dst := some 12, op := Go.Op.binOp Go.BinOp.add 9 (Go.Operand.const (Go.Value.string { data := #[32] })) (Go.Operand.tmp 11) 9, type := 9, pos := "ref.go:175", after := #[{ on := 6, ground := Go.Ground.data }, { on := 8, ground := Go.Ground.gcOnly Go.Departure.lateStores }], guard := none }) (v := ?vg9_7) rfl (by kernel_rfl) (by kernel_rfl) (by kernel_rfl) (by kernel_rfl) (fun _ _ _ h => h) (fun _ => hSg9_6) (Or.inl ⟨by rfl, ?hg9_7⟩) ?_
  case hg9_7 => intro w _; go_simp; (try with_reducible rfl)
  try simp only [Act.put, List.setIfInBounds_toArray, List.set_cons_zero, List.set_cons_succ]
  refine wpAnyG_take0 (i := 8) (oi := { dst := some 3, op := Go.Op.assign (Go.Operand.tmp 8), type := 9, pos := "ref.go:175", after := #[{ on := 3, ground := Go.Ground.data }, { on := 6, ground := Go.Ground.chain }, { on := 0, ground := Go.Ground.phase }, { on := 1, ground := Go.Ground.phase }, { on := 2, ground := Go.Ground.phase }, { on := 3, ground := Go.Ground.phase }, { on := 4, ground := Go.Ground.textOnly Go.Departure.lateStores }, { on := 5, ground := Go.Ground.textOnly Go.Departure.lateStores }, { on := 6, ground := Go.Ground.textOnly Go.Departure.lateStoresUnsure }, { on := 7, ground := Go.Ground.textOnly Go.Departure.lateStores }], guard := none }) (v := ?vg9_8) rfl (by kernel_rfl) (by kernel_rfl) (by kernel_rfl) (by kernel_rfl) (fun _ _ _ h => h) (fun _ => hSg9_6) (Or.inl ⟨by rfl, ?hg9_8⟩) ?_
  case hg9_8 => intro w _; go_simp; (try with_reducible rfl)
  try simp only [Act.put, List.setIfInBounds_toArray, List.set_cons_zero, List.set_cons_succ]
  refine wpAnyG_take0 (i := 9) (oi := { dst := some 4, op := Go.Op.assign (Go.Operand.tmp 12), type := 9, pos := "ref.go:175", after := #[{ on := 7, ground := Go.Ground.data }, { on := 8, ground := Go.Ground.chain }, { on := 0, ground := Go.Ground.phase }, { on := 1, ground := Go.Ground.phase }, { on := 2, ground := Go.Ground.phase }, { on := 3, ground := Go.Ground.phase }, { on := 4, ground := Go.Ground.phase }, { on := 5, ground := Go.Ground.phase }, { on := 6, ground := Go.Ground.phase }, { on := 7, ground := Go.Ground.phase }, { on := 8, ground := Go.Ground.phase }], guard := none }) (v := ?vg9_9) rfl (by kernel_rfl) (by kernel_rfl) (by kernel_rfl) (by kernel_rfl) (fun _ _ _ h => h) (fun _ => hSg9_6) (Or.inl ⟨by rfl, ?hg9_9⟩) ?_
  case hg9_9 => intro w _; go_simp; (try with_reducible rfl)
  try simp only [Act.put, List.setIfInBounds_toArray, List.set_cons_zero, List.set_cons_succ]
  refine wpAnyG_done (by kernel_rfl) ?_ _
  have c0 : _ = some (Value.int .i64 7) := HS3.out.2.cell 0
  have c1 : _ = some (Value.int .i64 a) := HS3.out.2.cell 1
  have c2 : _ = some (Value.string ⟨p.toArray⟩) := HS3.out.2.cell 2
  have c3 : _ = some (Value.slice Ab b.length cb) := HS3.out.2.cell 3
  have c4 : _ = some (Value.int .i64 f) := HS3.out.2.cell 4
  have c5 : _ = some (Value.int .i64 n) := HS3.out.2.cell 5
  have c6 : _ = some (Value.slice Ak kp.length ck) := HS3.out.2.cell 6
  go_wp2
  go_ret
  rw [HL2.out]
  exact ⟨rfl, HS3.out.1⟩
set_option maxRecDepth 200000 in
set_option maxHeartbeats 8000000 in
theorem rline_8 (a : Int) (p b : List UInt8) (f n : Int) (kp : List Bool) (Ab Ak : Option Addr) (cb ck : Nat) (w : World) (hb : RD encB w Ab b) (hk : RD encT w Ak kp) (hcb : b.length ≤ cb) (hlb : b.length ≤ 3000) (hlp : p.length ≤ 3000) (hlk : kp.length ≤ 4000000)
    (ha : -9223372036854775808 ≤ a ∧ a ≤ 9223372036854775807) (hf : -9223372036854775808 ≤ f ∧ f ≤ 9223372036854775807) (hn : -9223372036854775808 ≤ n ∧ n ≤ 9223372036854775807) :
    Calls Tryd.prog 52 #[.agg (DvA ⟨8, a, p, b, f, n, kp⟩ (.slice Ab b.length cb) (.slice Ak kp.length ck))] w fun e w' => e = .returned (.string ⟨(rlineOf ⟨8, a, p, b, f, n, kp⟩).toArray⟩) ∧ Below w.heap.size w w' := by
  obtain ⟨w1, hw1⟩ : ∃ w1, w.alloc (.cells #[.int .i64 8, .int .i64 a, .string ⟨p.toArray⟩, .slice Ab b.length cb, .int .i64 f, .int .i64 n, .slice Ak kp.length ck] 72) = w1 := ⟨_, rfl⟩
  have HD1 : Hid (Blk w1 w.heap.size 72 #[.int .i64 8, .int .i64 a, .string ⟨p.toArray⟩, .slice Ab b.length cb, .int .i64 f, .int .i64 n, .slice Ak kp.length ck]) := Lib.hid (by rw [← hw1]; exact Blk.new _ _ _)
  have HB1 : Hid (Below w.heap.size w w1) := Lib.hid (by rw [← hw1]; exact (Below.refl _ w).alloc (Nat.le_refl _) _)
  have HA : ∀ W, Hid (Calls Tryd.prog 53 #[.int .i64 a] W fun e w' => e = .returned (.string ⟨(Lib.itoa a).toArray⟩) ∧ Keep [] W w') := fun W => Lib.hid (decimal_any a ha W)
  have HN : ∀ W, Hid (Calls Tryd.prog 53 #[.int .i64 n] W fun e w' => e = .returned (.string ⟨(Lib.itoa n).toArray⟩) ∧ Keep [] W w') := fun W => Lib.hid (decimal_any n hn W)
  have HF : ∀ W, Hid (Calls Tryd.prog 53 #[.int .i64 f] W fun e w' => e = .returned (.string ⟨(Lib.itoa f).toArray⟩) ∧ Keep [] W w') := fun W => Lib.hid (decimal_any f hf W)
  have HP : ∀ W, Hid (Calls Tryd.prog 65 #[.agg #[.int .i64 8, .int .i64 a, .string ⟨p.toArray⟩, .slice Ab b.length cb, .int .i64 f, .int .i64 n, .slice Ak kp.length ck]] W fun e w' => e = .returned (.string ⟨(32 :: hexS p).toArray⟩) ∧ Below W.heap.size W w') := fun W => Lib.hid (rpath_any ⟨8, a, p, b, f, n, kp⟩ _ _ Ab Ak _ cb _ ck W hlp rfl rfl)
  have HX : ∀ W, Below w.heap.size w W → Hid (Calls Tryd.prog 10 #[.slice Ab b.length cb] W fun e w' => e = .returned (.string ⟨(hexS b).toArray⟩) ∧ Below W.heap.size W w') := fun W hW => Lib.hid (rhexg_any b Ab cb W (RD.below hb hW) hcb hlb)
  have HT : ∀ W, Below w.heap.size w W → Hid (Calls Tryd.prog 66 #[.slice Ak kp.length ck] W fun e w' => e = .returned (.string ⟨(truS kp).toArray⟩) ∧ Below W.heap.size W w') := fun W hW => Lib.hid (rtruths_any kp Ak ck W (RD.below hk hW) hlk)
  have HL : Hid (rlineOf ⟨8, a, p, b, f, n, kp⟩ = [115, 116, 101, 112] ++ ([32] ++ Lib.itoa a)) := Lib.hid (by simp [rlineOf, lineOf, nameOf, fieldsOf, wordOf, Lib.join_cons, Lib.join_one, Lib.joinTail])
  have lia := itoa_len a ha
  have lin := itoa_len n hn
  have lif := itoa_len f hf
  have lhp := hexS_len p (by omega)
  have lhb : (hexS b).length ≤ 72001 := by have := hexS_len b (by omega); omega
  have ltk : (truS kp).length ≤ 4000001 := by have := truS_len kp; omega
  have lpa : (32 :: hexS p).length ≤ 72002 := by simp; omega
  generalize Lib.itoa a = ia at *
  generalize Lib.itoa n = in_ at *
  generalize Lib.itoa f = if_ at *
  generalize 32 :: hexS p = pa at *
  generalize hexS b = hb_ at *
  generalize truS kp = tk at *
  obtain ⟨sa, hsa⟩ : ∃ x, x = [32] ++ ia := ⟨_, rfl⟩
  obtain ⟨sn, hsn⟩ : ∃ x, x = [32] ++ in_ := ⟨_, rfl⟩
  have lsa : sa.length ≤ 22 := by rw [hsa]; simp; omega
  have lsn : sn.length ≤ 22 := by rw [hsn]; simp; omega
  have qa : ∀ W : World, (Op.stringOp .add ⟨#[32]⟩ ⟨ia.toArray⟩).run Tryd.prog W = .ok (.string ⟨sa.toArray⟩) W := add_lists (a := [32]) hsa (by omega)
  have qn : ∀ W : World, (Op.stringOp .add ⟨#[32]⟩ ⟨in_.toArray⟩).run Tryd.prog W = .ok (.string ⟨sn.toArray⟩) W := add_lists (a := [32]) hsn (by omega)
  obtain ⟨x0, hx0⟩ : ∃ x, x = [115, 116, 101, 112] ++ sa := ⟨_, rfl⟩
  have lx0 : x0.length ≤ 26 := by rw [hx0, List.length_append]; (try simp only [List.length_cons, List.length_nil]); omega
  have qx0 : ∀ W : World, (Op.stringOp .add ⟨#[115, 116, 101, 112]⟩ ⟨sa.toArray⟩).run Tryd.prog W = .ok (.string ⟨x0.toArray⟩) W := add_lists (a := [115, 116, 101, 112]) (b := sa) hx0 (by omega)
  have HL2 : Hid (rlineOf ⟨8, a, p, b, f, n, kp⟩ = x0) := Lib.hid (by rw [HL.out]; simp only [hx0, hsa, hsn, List.append_assoc])
  clear HL hx0 lx0
  have Hw1 := Lib.hid hw1
  clear lia lin lif lhp lhb ltk lpa lsa lsn hsa hsn hw1 hb hk ha hf hn hlp hlb hlk hcb
  unfold DvA
  go_enter Tryd.func52, Tryd.ntmps52
  go_upto_region 1 with (fail)
  rw [Hw1.out]
  refine wp_region_G (fun W => Below w.heap.size w W ∧ Blk W w.heap.size 72 #[.int .i64 8, .int .i64 a, .string ⟨p.toArray⟩, .slice Ab b.length cb, .int .i64 f, .int .i64 n, .slice Ak kp.length ck]) [] #[false, false, false, false, false, false, false, false, false, false] 10 (by kernel_rfl) (by kernel_rfl) (by kernel_rfl) ?_
  refine wpAnyG_take0 (i := 0) (oi := { dst := some 5, op := Go.Op.fieldAddr 72 (Go.Operand.tmp 1) 1, type := 0, pos := "ref.go:175", after := #[], guard := none }) (v := ?vg10_0) rfl (by kernel_rfl) (by kernel_rfl) (by kernel_rfl) (by kernel_rfl) (fun _ _ _ h => h) (fun _ => ⟨HB1.out.drew, HD1.out.drew⟩) (Or.inl ⟨by rfl, ?hg10_0⟩) ?_
  case hg10_0 => intro w _; go_simp; (try with_reducible rfl)
  try simp only [Act.put, List.setIfInBounds_toArray, List.set_cons_zero, List.set_cons_succ]
  refine wpAnyG_take (i := 1) (oi := { dst := some 6, op := Go.Op.load 3 (Go.Operand.tmp 5), type := 3, pos := "ref.go:175", after := #[{ on := 0, ground := Go.Ground.data }], guard := none }) (v := ?vg10_1) [1, 2, 3, 6, 7, 8, 9] rfl (by kernel_rfl) (by kernel_rfl) (by kernel_rfl) (by kernel_rfl) (by kernel_rfl) (fun _ _ _ h => h) (fun _ => ⟨HB1.out.drew, HD1.out.drew⟩) (Or.inl ⟨by rfl, ?hg10_1⟩) ?_
  case hg10_1 => intro w hSw; (try dsimp only at hSw); have c1 : _ = some (Value.int .i64 a) := hSw.2.cell 1; go_simp; (try with_reducible rfl)
  try simp only [Act.put, List.setIfInBounds_toArray, List.set_cons_zero, List.set_cons_succ]
  refine wpAnyG_take0 (i := 4) (oi := { dst := some 9, op := Go.Op.fieldAddr 72 (Go.Operand.tmp 1) 5, type := 0, pos := "ref.go:175", after := #[], guard := none }) (v := ?vg10_4) rfl (by kernel_rfl) (by kernel_rfl) (by kernel_rfl) (by kernel_rfl) (fun _ _ _ h => h) (fun _ => ⟨HB1.out.drew, HD1.out.drew⟩) (Or.inl ⟨by rfl, ?hg10_4⟩) ?_
  case hg10_4 => intro w _; go_simp; (try with_reducible rfl)
  try simp only [Act.put, List.setIfInBounds_toArray, List.set_cons_zero, List.set_cons_succ]
  refine wpAnyG_take (i := 5) (oi := { dst := some 10, op := Go.Op.load 3 (Go.Operand.tmp 9), type := 3, pos := "ref.go:175", after := #[{ on := 4, ground := Go.Ground.data }], guard := none }) (v := ?vg10_5) [5, 6, 7, 8, 9] rfl (by kernel_rfl) (by kernel_rfl) (by kernel_rfl) (by kernel_rfl) (by kernel_rfl) (fun _ _ _ h => h) (fun _ => ⟨HB1.out.drew, HD1.out.drew⟩) (Or.inl ⟨by rfl, ?hg10_5⟩) ?_
  case hg10_5 => intro w hSw; (try dsimp only at hSw); have c5 : _ = some (Value.int .i64 n) := hSw.2.cell 5; go_simp; (try with_reducible rfl)
  try simp only [Act.put, List.setIfInBounds_toArray, List.set_cons_zero, List.set_cons_succ]
  refine wpAnyG_step (i := 2) (oi := { dst := some 7, op := Go.Op.call { callee := Go.Callee.value (Go.Operand.func 53), args := #[Go.Operand.tmp 6], argTypes := #[3] }, type := 9, pos := "ref.go:175", after := #[{ on := 1, ground := Go.Ground.data }], guard := none }) rfl (by kernel_rfl) (by rfl) (fun K hK => ?_)
  go_simp
  go_at_call 53
  refine (HA _).out.mono ?_
  rintro e w2 ⟨rfl, hk2⟩
  have HS2 := Lib.hid (And.intro ((And.intro HB1.out.drew HD1.out.drew).1.trans (hk2.below.mono (And.intro HB1.out.drew HD1.out.drew).1.size)) ((And.intro HB1.out.drew HD1.out.drew).2.keep hk2 List.not_mem_nil))
  clear hk2
  dsimp only
  refine hK _ _ ?_ (fun hSg10_2 => ?_)
  · intro _; exact HS2.out
  replace hSg10_2 := hSg10_2 (by kernel_rfl)
  clear hK
  try simp only [Act.put, List.setIfInBounds_toArray, List.set_cons_zero, List.set_cons_succ]
  refine wpAnyG_take0 (i := 3) (oi := { dst := some 8, op := Go.Op.binOp Go.BinOp.add 9 (Go.Operand.const (Go.Value.string { data := #[32] })) (Go.Operand.tmp 7) 9, type := 9, pos := "ref.go:175", after := #[{ on := 2, ground := Go.Ground.data }], guard := none }) (v := ?vg10_3) rfl (by kernel_rfl) (by kernel_rfl) (by kernel_rfl) (by kernel_rfl) (fun _ _ _ h => h) (fun _ => hSg10_2) (Or.inl ⟨by rfl, ?hg10_3⟩) ?_
  case hg10_3 => intro w _; go_simp; (try with_reducible rfl)
  try simp only [Act.put, List.setIfInBounds_toArray, List.set_cons_zero, List.set_cons_succ]
  refine wpAnyG_step (i := 6) (oi := { dst := some 11, op := Go.Op.call { callee := Go.Callee.value (Go.Operand.func 53), args := #[Go.Operand.tmp 10], argTypes := #[3] }, type := 9, pos := "ref.go:175", after := #[{ on := 5, ground := Go.Ground.data }, { on := 2, ground := Go.Ground.chain }], guard := none }) rfl (by kernel_rfl) (by rfl) (fun K hK => ?_)
  go_simp
  go_at_call 53
  refine (HN _).out.mono ?_
  rintro e w3 ⟨rfl, hk3⟩
  have HS3 := Lib.hid (And.intro (HS2.out.1.trans (hk3.below.mono HS2.out.1.size)) (HS2.out.2.keep hk3 List.not_mem_nil))
  clear hk3
  dsimp only
  refine hK _ _ ?_ (fun hSg10_6 => ?_)
  · intro _; exact HS3.out
  replace hSg10_6 := hSg10_6 (by kernel_rfl)
  clear hK
  try simp only [Act.put, List.setIfInBounds_toArray, List.set_cons_zero, List.set_cons_succ]
  refine wpAnyG_take0 (i := 7) (oi := { dst := some 12, op := Go.Op.binOp Go.BinOp.add 9 (Go.Operand.const (Go.Value.string { data := #[32] })) (Go.Operand.tmp 11) 9, type := 9, pos := "ref.go:175", after := #[{ on := 6, ground := Go.Ground.data }, { on := 8, ground := Go.Ground.gcOnly Go.Departure.lateStores }], guard := none }) (v := ?vg10_7) rfl (by kernel_rfl) (by kernel_rfl) (by kernel_rfl) (by kernel_rfl) (fun _ _ _ h => h) (fun _ => hSg10_6) (Or.inl ⟨by rfl, ?hg10_7⟩) ?_
  case hg10_7 => intro w _; go_simp; (try with_reducible rfl)
  try simp only [Act.put, List.setIfInBounds_toArray, List.set_cons_zero, List.set_cons_succ]
  refine wpAnyG_take0 (i := 8) (oi := { dst := some 3, op := Go.Op.assign (Go.Operand.tmp 8), type := 9, pos := "ref.go:175", after := #[{ on := 3, ground := Go.Ground.data }, { on := 6, ground := Go.Ground.chain }, { on := 0, ground := Go.Ground.phase }, { on := 1, ground := Go.Ground.phase }, { on := 2, ground := Go.Ground.phase }, { on := 3, ground := Go.Ground.phase }, { on := 4, ground := Go.Ground.textOnly Go.Departure.lateStores }, { on := 5, ground := Go.Ground.textOnly Go.Departure.lateStores }, { on := 6, ground := Go.Ground.textOnly Go.Departure.lateStoresUnsure }, { on := 7, ground := Go.Ground.textOnly Go.Departure.lateStores }], guard := none }) (v := ?vg10_8) rfl (by kernel_rfl) (by kernel_rfl) (by kernel_rfl) (by kernel_rfl) (fun _ _ _ h => h) (fun _ => hSg10_6) (Or.inl ⟨by rfl, ?hg10_8⟩) ?_
  case hg10_8 => intro w _; go_simp; (try with_reducible rfl)
  try simp only [Act.put, List.setIfInBounds_toArray, List.set_cons_zero, List.set_cons_succ]
  refine wpAnyG_take0 (i := 9) (oi := { dst := some 4, op := Go.Op.assign (Go.Operand.tmp 12), type := 9, pos := "ref.go:175", after := #[{ on := 7, ground := Go.Ground.data }, { on := 8, ground := Go.Ground.chain }, { on := 0, ground := Go.Ground.phase }, { on := 1, ground := Go.Ground.phase }, { on := 2, ground := Go.Ground.phase }, { on := 3, ground := Go.Ground.phase }, { on := 4, ground := Go.Ground.phase }, { on := 5, ground := Go.Ground.phase }, { on := 6, ground := Go.Ground.phase }, { on := 7, ground := Go.Ground.phase }, { on := 8, ground := Go.Ground.phase }], guard := none }) (v := ?vg10_9) rfl (by kernel_rfl) (by kernel_rfl) (by kernel_rfl) (by kernel_rfl) (fun _ _ _ h => h) (fun _ => hSg10_6) (Or.inl ⟨by rfl, ?hg10_9⟩) ?_
  case hg10_9 => intro w _; go_simp; (try with_reducible rfl)
  try simp only [Act.put, List.setIfInBounds_toArray, List.set_cons_zero, List.set_cons_succ]
  refine wpAnyG_done (by kernel_rfl) ?_ _
  have c0 : _ = some (Value.int .i64 8) := HS3.out.2.cell 0
  have c1 : _ = some (Value.int .i64 a) := HS3.out.2.cell 1
  have c2 : _ = some (Value.string ⟨p.toArray⟩) := HS3.out.2.cell 2
  have c3 : _ = some (Value.slice Ab b.length cb) := HS3.out.2.cell 3
  have c4 : _ = some (Value.int .i64 f) := HS3.out.2.cell 4
  have c5 : _ = some (Value.int .i64 n) := HS3.out.2.cell 5
  have c6 : _ = some (Value.slice Ak kp.length ck) := HS3.out.2.cell 6
  go_wp2
  go_ret
  rw [HL2.out]
  exact ⟨rfl, HS3.out.1⟩
set_option maxRecDepth 200000 in
set_option maxHeartbeats 8000000 in
theorem rline_9 (a : Int) (p b : List UInt8) (f n : Int) (kp : List Bool) (Ab Ak : Option Addr) (cb ck : Nat) (w : World) (hb : RD encB w Ab b) (hk : RD encT w Ak kp) (hcb : b.length ≤ cb) (hlb : b.length ≤ 3000) (hlp : p.length ≤ 3000) (hlk : kp.length ≤ 4000000)
    (ha : -9223372036854775808 ≤ a ∧ a ≤ 9223372036854775807) (hf : -9223372036854775808 ≤ f ∧ f ≤ 9223372036854775807) (hn : -9223372036854775808 ≤ n ∧ n ≤ 9223372036854775807) :
    Calls Tryd.prog 52 #[.agg (DvA ⟨9, a, p, b, f, n, kp⟩ (.slice Ab b.length cb) (.slice Ak kp.length ck))] w fun e w' => e = .returned (.string ⟨(rlineOf ⟨9, a, p, b, f, n, kp⟩).toArray⟩) ∧ Below w.heap.size w w' := by
  obtain ⟨w1, hw1⟩ : ∃ w1, w.alloc (.cells #[.int .i64 9, .int .i64 a, .string ⟨p.toArray⟩, .slice Ab b.length cb, .int .i64 f, .int .i64 n, .slice Ak kp.length ck] 72) = w1 := ⟨_, rfl⟩
  have HD1 : Hid (Blk w1 w.heap.size 72 #[.int .i64 9, .int .i64 a, .string ⟨p.toArray⟩, .slice Ab b.length cb, .int .i64 f, .int .i64 n, .slice Ak kp.length ck]) := Lib.hid (by rw [← hw1]; exact Blk.new _ _ _)
  have HB1 : Hid (Below w.heap.size w w1) := Lib.hid (by rw [← hw1]; exact (Below.refl _ w).alloc (Nat.le_refl _) _)
  have HA : ∀ W, Hid (Calls Tryd.prog 53 #[.int .i64 a] W fun e w' => e = .returned (.string ⟨(Lib.itoa a).toArray⟩) ∧ Keep [] W w') := fun W => Lib.hid (decimal_any a ha W)
  have HN : ∀ W, Hid (Calls Tryd.prog 53 #[.int .i64 n] W fun e w' => e = .returned (.string ⟨(Lib.itoa n).toArray⟩) ∧ Keep [] W w') := fun W => Lib.hid (decimal_any n hn W)
  have HF : ∀ W, Hid (Calls Tryd.prog 53 #[.int .i64 f] W fun e w' => e = .returned (.string ⟨(Lib.itoa f).toArray⟩) ∧ Keep [] W w') := fun W => Lib.hid (decimal_any f hf W)
  have HP : ∀ W, Hid (Calls Tryd.prog 65 #[.agg #[.int .i64 9, .int .i64 a, .string ⟨p.toArray⟩, .slice Ab b.length cb, .int .i64 f, .int .i64 n, .slice Ak kp.length ck]] W fun e w' => e = .returned (.string ⟨(32 :: hexS p).toArray⟩) ∧ Below W.heap.size W w') := fun W => Lib.hid (rpath_any ⟨9, a, p, b, f, n, kp⟩ _ _ Ab Ak _ cb _ ck W hlp rfl rfl)
  have HX : ∀ W, Below w.heap.size w W → Hid (Calls Tryd.prog 10 #[.slice Ab b.length cb] W fun e w' => e = .returned (.string ⟨(hexS b).toArray⟩) ∧ Below W.heap.size W w') := fun W hW => Lib.hid (rhexg_any b Ab cb W (RD.below hb hW) hcb hlb)
  have HT : ∀ W, Below w.heap.size w W → Hid (Calls Tryd.prog 66 #[.slice Ak kp.length ck] W fun e w' => e = .returned (.string ⟨(truS kp).toArray⟩) ∧ Below W.heap.size W w') := fun W hW => Lib.hid (rtruths_any kp Ak ck W (RD.below hk hW) hlk)
  have HL : Hid (rlineOf ⟨9, a, p, b, f, n, kp⟩ = [100, 101, 108, 105, 118, 101, 114] ++ ([32] ++ Lib.itoa n)) := Lib.hid (by simp [rlineOf, lineOf, nameOf, fieldsOf, wordOf, Lib.join_cons, Lib.join_one, Lib.joinTail])
  have lia := itoa_len a ha
  have lin := itoa_len n hn
  have lif := itoa_len f hf
  have lhp := hexS_len p (by omega)
  have lhb : (hexS b).length ≤ 72001 := by have := hexS_len b (by omega); omega
  have ltk : (truS kp).length ≤ 4000001 := by have := truS_len kp; omega
  have lpa : (32 :: hexS p).length ≤ 72002 := by simp; omega
  generalize Lib.itoa a = ia at *
  generalize Lib.itoa n = in_ at *
  generalize Lib.itoa f = if_ at *
  generalize 32 :: hexS p = pa at *
  generalize hexS b = hb_ at *
  generalize truS kp = tk at *
  obtain ⟨sa, hsa⟩ : ∃ x, x = [32] ++ ia := ⟨_, rfl⟩
  obtain ⟨sn, hsn⟩ : ∃ x, x = [32] ++ in_ := ⟨_, rfl⟩
  have lsa : sa.length ≤ 22 := by rw [hsa]; simp; omega
  have lsn : sn.length ≤ 22 := by rw [hsn]; simp; omega
  have qa : ∀ W : World, (Op.stringOp .add ⟨#[32]⟩ ⟨ia.toArray⟩).run Tryd.prog W = .ok (.string ⟨sa.toArray⟩) W := add_lists (a := [32]) hsa (by omega)
  have qn : ∀ W : World, (Op.stringOp .add ⟨#[32]⟩ ⟨in_.toArray⟩).run Tryd.prog W = .ok (.string ⟨sn.toArray⟩) W := add_lists (a := [32]) hsn (by omega)
  obtain ⟨x0, hx0⟩ : ∃ x, x = [100, 101, 108, 105, 118, 101, 114] ++ sn := ⟨_, rfl⟩
  have lx0 : x0.length ≤ 29 := by rw [hx0, List.length_append]; (try simp only [List.length_cons, List.length_nil]); omega
  have qx0 : ∀ W : World, (Op.stringOp .add ⟨#[100, 101, 108, 105, 118, 101, 114]⟩ ⟨sn.toArray⟩).run Tryd.prog W = .ok (.string ⟨x0.toArray⟩) W := add_lists (a := [100, 101, 108, 105, 118, 101, 114]) (b := sn) hx0 (by omega)
  have HL2 : Hid (rlineOf ⟨9, a, p, b, f, n, kp⟩ = x0) := Lib.hid (by rw [HL.out]; simp only [hx0, hsa, hsn, List.append_assoc])
  clear HL hx0 lx0
  have Hw1 := Lib.hid hw1
  clear lia lin lif lhp lhb ltk lpa lsa lsn hsa hsn hw1 hb hk ha hf hn hlp hlb hlk hcb
  unfold DvA
  go_enter Tryd.func52, Tryd.ntmps52
  go_upto_region 1 with (fail)
  rw [Hw1.out]
  refine wp_region_G (fun W => Below w.heap.size w W ∧ Blk W w.heap.size 72 #[.int .i64 9, .int .i64 a, .string ⟨p.toArray⟩, .slice Ab b.length cb, .int .i64 f, .int .i64 n, .slice Ak kp.length ck]) [] #[false, false, false, false, false, false, false, false, false, false] 10 (by kernel_rfl) (by kernel_rfl) (by kernel_rfl) ?_
  refine wpAnyG_take0 (i := 0) (oi := { dst := some 5, op := Go.Op.fieldAddr 72 (Go.Operand.tmp 1) 1, type := 0, pos := "ref.go:175", after := #[], guard := none }) (v := ?vg11_0) rfl (by kernel_rfl) (by kernel_rfl) (by kernel_rfl) (by kernel_rfl) (fun _ _ _ h => h) (fun _ => ⟨HB1.out.drew, HD1.out.drew⟩) (Or.inl ⟨by rfl, ?hg11_0⟩) ?_
  case hg11_0 => intro w _; go_simp; (try with_reducible rfl)
  try simp only [Act.put, List.setIfInBounds_toArray, List.set_cons_zero, List.set_cons_succ]
  refine wpAnyG_take (i := 1) (oi := { dst := some 6, op := Go.Op.load 3 (Go.Operand.tmp 5), type := 3, pos := "ref.go:175", after := #[{ on := 0, ground := Go.Ground.data }], guard := none }) (v := ?vg11_1) [1, 2, 3, 6, 7, 8, 9] rfl (by kernel_rfl) (by kernel_rfl) (by kernel_rfl) (by kernel_rfl) (by kernel_rfl) (fun _ _ _ h => h) (fun _ => ⟨HB1.out.drew, HD1.out.drew⟩) (Or.inl ⟨by rfl, ?hg11_1⟩) ?_
  case hg11_1 => intro w hSw; (try dsimp only at hSw); have c1 : _ = some (Value.int .i64 a) := hSw.2.cell 1; go_simp; (try with_reducible rfl)
  try simp only [Act.put, List.setIfInBounds_toArray, List.set_cons_zero, List.set_cons_succ]
  refine wpAnyG_take0 (i := 4) (oi := { dst := some 9, op := Go.Op.fieldAddr 72 (Go.Operand.tmp 1) 5, type := 0, pos := "ref.go:175", after := #[], guard := none }) (v := ?vg11_4) rfl (by kernel_rfl) (by kernel_rfl) (by kernel_rfl) (by kernel_rfl) (fun _ _ _ h => h) (fun _ => ⟨HB1.out.drew, HD1.out.drew⟩) (Or.inl ⟨by rfl, ?hg11_4⟩) ?_
  case hg11_4 => intro w _; go_simp; (try with_reducible rfl)
  try simp only [Act.put, List.setIfInBounds_toArray, List.set_cons_zero, List.set_cons_succ]
  refine wpAnyG_take (i := 5) (oi := { dst := some 10, op := Go.Op.load 3 (Go.Operand.tmp 9), type := 3, pos := "ref.go:175", after := #[{ on := 4, ground := Go.Ground.data }], guard := none }) (v := ?vg11_5) [5, 6, 7, 8, 9] rfl (by kernel_rfl) (by kernel_rfl) (by kernel_rfl) (by kernel_rfl) (by kernel_rfl) (fun _ _ _ h => h) (fun _ => ⟨HB1.out.drew, HD1.out.drew⟩) (Or.inl ⟨by rfl, ?hg11_5⟩) ?_
  case hg11_5 => intro w hSw; (try dsimp only at hSw); have c5 : _ = some (Value.int .i64 n) := hSw.2.cell 5; go_simp; (try with_reducible rfl)
  try simp only [Act.put, List.setIfInBounds_toArray, List.set_cons_zero, List.set_cons_succ]
  refine wpAnyG_step (i := 2) (oi := { dst := some 7, op := Go.Op.call { callee := Go.Callee.value (Go.Operand.func 53), args := #[Go.Operand.tmp 6], argTypes := #[3] }, type := 9, pos := "ref.go:175", after := #[{ on := 1, ground := Go.Ground.data }], guard := none }) rfl (by kernel_rfl) (by rfl) (fun K hK => ?_)
  go_simp
  go_at_call 53
  refine (HA _).out.mono ?_
  rintro e w2 ⟨rfl, hk2⟩
  have HS2 := Lib.hid (And.intro ((And.intro HB1.out.drew HD1.out.drew).1.trans (hk2.below.mono (And.intro HB1.out.drew HD1.out.drew).1.size)) ((And.intro HB1.out.drew HD1.out.drew).2.keep hk2 List.not_mem_nil))
  clear hk2
  dsimp only
  refine hK _ _ ?_ (fun hSg11_2 => ?_)
  · intro _; exact HS2.out
  replace hSg11_2 := hSg11_2 (by kernel_rfl)
  clear hK
  try simp only [Act.put, List.setIfInBounds_toArray, List.set_cons_zero, List.set_cons_succ]
  refine wpAnyG_take0 (i := 3) (oi := { dst := some 8, op := Go.Op.binOp Go.BinOp.add 9 (Go.Operand.const (Go.Value.string { data := #[32] })) (Go.Operand.tmp 7) 9, type := 9, pos := "ref.go:175", after := #[{ on := 2, ground := Go.Ground.data }], guard := none }) (v := ?vg11_3) rfl (by kernel_rfl) (by kernel_rfl) (by kernel_rfl) (by kernel_rfl) (fun _ _ _ h => h) (fun _ => hSg11_2) (Or.inl ⟨by rfl, ?hg11_3⟩) ?_
  case hg11_3 => intro w _; go_simp; (try with_reducible rfl)
  try simp only [Act.put, List.setIfInBounds_toArray, List.set_cons_zero, List.set_cons_succ]
  refine wpAnyG_step (i := 6) (oi := { dst := some 11, op := Go.Op.call { callee := Go.Callee.value (Go.Operand.func 53), args := #[Go.Operand.tmp 10], argTypes := #[3] }, type := 9, pos := "ref.go:175", after := #[{ on := 5, ground := Go.Ground.data }, { on := 2, ground := Go.Ground.chain }], guard := none }) rfl (by kernel_rfl) (by rfl) (fun K hK => ?_)
  go_simp
  go_at_call 53
  refine (HN _).out.mono ?_
  rintro e w3 ⟨rfl, hk3⟩
  have HS3 := Lib.hid (And.intro (HS2.out.1.trans (hk3.below.mono HS2.out.1.size)) (HS2.out.2.keep hk3 List.not_mem_nil))
  clear hk3
  dsimp only
  refine hK _ _ ?_ (fun hSg11_6 => ?_)
  · intro _; exact HS3.out
  replace hSg11_6 := hSg11_6 (by kernel_rfl)
  clear hK
  try simp only [Act.put, List.setIfInBounds_toArray, List.set_cons_zero, List.set_cons_succ]
  refine wpAnyG_take0 (i := 7) (oi := { dst := some 12, op := Go.Op.binOp Go.BinOp.add 9 (Go.Operand.const (Go.Value.string { data := #[32] })) (Go.Operand.tmp 11) 9, type := 9, pos := "ref.go:175", after := #[{ on := 6, ground := Go.Ground.data }, { on := 8, ground := Go.Ground.gcOnly Go.Departure.lateStores }], guard := none }) (v := ?vg11_7) rfl (by kernel_rfl) (by kernel_rfl) (by kernel_rfl) (by kernel_rfl) (fun _ _ _ h => h) (fun _ => hSg11_6) (Or.inl ⟨by rfl, ?hg11_7⟩) ?_
  case hg11_7 => intro w _; go_simp; (try with_reducible rfl)
  try simp only [Act.put, List.setIfInBounds_toArray, List.set_cons_zero, List.set_cons_succ]
  refine wpAnyG_take0 (i := 8) (oi := { dst := some 3, op := Go.Op.assign (Go.Operand.tmp 8), type := 9, pos := "ref.go:175", after := #[{ on := 3, ground := Go.Ground.data }, { on := 6, ground := Go.Ground.chain }, { on := 0, ground := Go.Ground.phase }, { on := 1, ground := Go.Ground.phase }, { on := 2, ground := Go.Ground.phase }, { on := 3, ground := Go.Ground.phase }, { on := 4, ground := Go.Ground.textOnly Go.Departure.lateStores }, { on := 5, ground := Go.Ground.textOnly Go.Departure.lateStores }, { on := 6, ground := Go.Ground.textOnly Go.Departure.lateStoresUnsure }, { on := 7, ground := Go.Ground.textOnly Go.Departure.lateStores }], guard := none }) (v := ?vg11_8) rfl (by kernel_rfl) (by kernel_rfl) (by kernel_rfl) (by kernel_rfl) (fun _ _ _ h => h) (fun _ => hSg11_6) (Or.inl ⟨by rfl, ?hg11_8⟩) ?_
  case hg11_8 => intro w _; go_simp; (try with_reducible rfl)
  try simp only [Act.put, List.setIfInBounds_toArray, List.set_cons_zero, List.set_cons_succ]
  refine wpAnyG_take0 (i := 9) (oi := { dst := some 4, op := Go.Op.assign (Go.Operand.tmp 12), type := 9, pos := "ref.go:175", after := #[{ on := 7, ground := Go.Ground.data }, { on := 8, ground := Go.Ground.chain }, { on := 0, ground := Go.Ground.phase }, { on := 1, ground := Go.Ground.phase }, { on := 2, ground := Go.Ground.phase }, { on := 3, ground := Go.Ground.phase }, { on := 4, ground := Go.Ground.phase }, { on := 5, ground := Go.Ground.phase }, { on := 6, ground := Go.Ground.phase }, { on := 7, ground := Go.Ground.phase }, { on := 8, ground := Go.Ground.phase }], guard := none }) (v := ?vg11_9) rfl (by kernel_rfl) (by kernel_rfl) (by kernel_rfl) (by kernel_rfl) (fun _ _ _ h => h) (fun _ => hSg11_6) (Or.inl ⟨by rfl, ?hg11_9⟩) ?_
  case hg11_9 => intro w _; go_simp; (try with_reducible rfl)
  try simp only [Act.put, List.setIfInBounds_toArray, List.set_cons_zero, List.set_cons_succ]
  refine wpAnyG_done (by kernel_rfl) ?_ _
  have c0 : _ = some (Value.int .i64 9) := HS3.out.2.cell 0
  have c1 : _ = some (Value.int .i64 a) := HS3.out.2.cell 1
  have c2 : _ = some (Value.string ⟨p.toArray⟩) := HS3.out.2.cell 2
  have c3 : _ = some (Value.slice Ab b.length cb) := HS3.out.2.cell 3
  have c4 : _ = some (Value.int .i64 f) := HS3.out.2.cell 4
  have c5 : _ = some (Value.int .i64 n) := HS3.out.2.cell 5
  have c6 : _ = some (Value.slice Ak kp.length ck) := HS3.out.2.cell 6
  go_wp2
  go_ret
  rw [HL2.out]
  exact ⟨rfl, HS3.out.1⟩
set_option maxRecDepth 200000 in
set_option maxHeartbeats 8000000 in
theorem rline_10 (a : Int) (p b : List UInt8) (f n : Int) (kp : List Bool) (Ab Ak : Option Addr) (cb ck : Nat) (w : World) (hb : RD encB w Ab b) (hk : RD encT w Ak kp) (hcb : b.length ≤ cb) (hlb : b.length ≤ 3000) (hlp : p.length ≤ 3000) (hlk : kp.length ≤ 4000000)
    (ha : -9223372036854775808 ≤ a ∧ a ≤ 9223372036854775807) (hf : -9223372036854775808 ≤ f ∧ f ≤ 9223372036854775807) (hn : -9223372036854775808 ≤ n ∧ n ≤ 9223372036854775807) :
    Calls Tryd.prog 52 #[.agg (DvA ⟨10, a, p, b, f, n, kp⟩ (.slice Ab b.length cb) (.slice Ak kp.length ck))] w fun e w' => e = .returned (.string ⟨(rlineOf ⟨10, a, p, b, f, n, kp⟩).toArray⟩) ∧ Below w.heap.size w w' := by
  obtain ⟨w1, hw1⟩ : ∃ w1, w.alloc (.cells #[.int .i64 10, .int .i64 a, .string ⟨p.toArray⟩, .slice Ab b.length cb, .int .i64 f, .int .i64 n, .slice Ak kp.length ck] 72) = w1 := ⟨_, rfl⟩
  have HD1 : Hid (Blk w1 w.heap.size 72 #[.int .i64 10, .int .i64 a, .string ⟨p.toArray⟩, .slice Ab b.length cb, .int .i64 f, .int .i64 n, .slice Ak kp.length ck]) := Lib.hid (by rw [← hw1]; exact Blk.new _ _ _)
  have HB1 : Hid (Below w.heap.size w w1) := Lib.hid (by rw [← hw1]; exact (Below.refl _ w).alloc (Nat.le_refl _) _)
  have HA : ∀ W, Hid (Calls Tryd.prog 53 #[.int .i64 a] W fun e w' => e = .returned (.string ⟨(Lib.itoa a).toArray⟩) ∧ Keep [] W w') := fun W => Lib.hid (decimal_any a ha W)
  have HN : ∀ W, Hid (Calls Tryd.prog 53 #[.int .i64 n] W fun e w' => e = .returned (.string ⟨(Lib.itoa n).toArray⟩) ∧ Keep [] W w') := fun W => Lib.hid (decimal_any n hn W)
  have HF : ∀ W, Hid (Calls Tryd.prog 53 #[.int .i64 f] W fun e w' => e = .returned (.string ⟨(Lib.itoa f).toArray⟩) ∧ Keep [] W w') := fun W => Lib.hid (decimal_any f hf W)
  have HP : ∀ W, Hid (Calls Tryd.prog 65 #[.agg #[.int .i64 10, .int .i64 a, .string ⟨p.toArray⟩, .slice Ab b.length cb, .int .i64 f, .int .i64 n, .slice Ak kp.length ck]] W fun e w' => e = .returned (.string ⟨(32 :: hexS p).toArray⟩) ∧ Below W.heap.size W w') := fun W => Lib.hid (rpath_any ⟨10, a, p, b, f, n, kp⟩ _ _ Ab Ak _ cb _ ck W hlp rfl rfl)
  have HX : ∀ W, Below w.heap.size w W → Hid (Calls Tryd.prog 10 #[.slice Ab b.length cb] W fun e w' => e = .returned (.string ⟨(hexS b).toArray⟩) ∧ Below W.heap.size W w') := fun W hW => Lib.hid (rhexg_any b Ab cb W (RD.below hb hW) hcb hlb)
  have HT : ∀ W, Below w.heap.size w W → Hid (Calls Tryd.prog 66 #[.slice Ak kp.length ck] W fun e w' => e = .returned (.string ⟨(truS kp).toArray⟩) ∧ Below W.heap.size W w') := fun W hW => Lib.hid (rtruths_any kp Ak ck W (RD.below hk hW) hlk)
  have HL : Hid (rlineOf ⟨10, a, p, b, f, n, kp⟩ = [100, 114, 111, 112] ++ ([32] ++ Lib.itoa n)) := Lib.hid (by simp [rlineOf, lineOf, nameOf, fieldsOf, wordOf, Lib.join_cons, Lib.join_one, Lib.joinTail])
  have lia := itoa_len a ha
  have lin := itoa_len n hn
  have lif := itoa_len f hf
  have lhp := hexS_len p (by omega)
  have lhb : (hexS b).length ≤ 72001 := by have := hexS_len b (by omega); omega
  have ltk : (truS kp).length ≤ 4000001 := by have := truS_len kp; omega
  have lpa : (32 :: hexS p).length ≤ 72002 := by simp; omega
  generalize Lib.itoa a = ia at *
  generalize Lib.itoa n = in_ at *
  generalize Lib.itoa f = if_ at *
  generalize 32 :: hexS p = pa at *
  generalize hexS b = hb_ at *
  generalize truS kp = tk at *
  obtain ⟨sa, hsa⟩ : ∃ x, x = [32] ++ ia := ⟨_, rfl⟩
  obtain ⟨sn, hsn⟩ : ∃ x, x = [32] ++ in_ := ⟨_, rfl⟩
  have lsa : sa.length ≤ 22 := by rw [hsa]; simp; omega
  have lsn : sn.length ≤ 22 := by rw [hsn]; simp; omega
  have qa : ∀ W : World, (Op.stringOp .add ⟨#[32]⟩ ⟨ia.toArray⟩).run Tryd.prog W = .ok (.string ⟨sa.toArray⟩) W := add_lists (a := [32]) hsa (by omega)
  have qn : ∀ W : World, (Op.stringOp .add ⟨#[32]⟩ ⟨in_.toArray⟩).run Tryd.prog W = .ok (.string ⟨sn.toArray⟩) W := add_lists (a := [32]) hsn (by omega)
  obtain ⟨x0, hx0⟩ : ∃ x, x = [100, 114, 111, 112] ++ sn := ⟨_, rfl⟩
  have lx0 : x0.length ≤ 26 := by rw [hx0, List.length_append]; (try simp only [List.length_cons, List.length_nil]); omega
  have qx0 : ∀ W : World, (Op.stringOp .add ⟨#[100, 114, 111, 112]⟩ ⟨sn.toArray⟩).run Tryd.prog W = .ok (.string ⟨x0.toArray⟩) W := add_lists (a := [100, 114, 111, 112]) (b := sn) hx0 (by omega)
  have HL2 : Hid (rlineOf ⟨10, a, p, b, f, n, kp⟩ = x0) := Lib.hid (by rw [HL.out]; simp only [hx0, hsa, hsn, List.append_assoc])
  clear HL hx0 lx0
  have Hw1 := Lib.hid hw1
  clear lia lin lif lhp lhb ltk lpa lsa lsn hsa hsn hw1 hb hk ha hf hn hlp hlb hlk hcb
  unfold DvA
  go_enter Tryd.func52, Tryd.ntmps52
  go_upto_region 1 with (fail)
  rw [Hw1.out]
  refine wp_region_G (fun W => Below w.heap.size w W ∧ Blk W w.heap.size 72 #[.int .i64 10, .int .i64 a, .string ⟨p.toArray⟩, .slice Ab b.length cb, .int .i64 f, .int .i64 n, .slice Ak kp.length ck]) [] #[false, false, false, false, false, false, false, false, false, false] 10 (by kernel_rfl) (by kernel_rfl) (by kernel_rfl) ?_
  refine wpAnyG_take0 (i := 0) (oi := { dst := some 5, op := Go.Op.fieldAddr 72 (Go.Operand.tmp 1) 1, type := 0, pos := "ref.go:175", after := #[], guard := none }) (v := ?vg12_0) rfl (by kernel_rfl) (by kernel_rfl) (by kernel_rfl) (by kernel_rfl) (fun _ _ _ h => h) (fun _ => ⟨HB1.out.drew, HD1.out.drew⟩) (Or.inl ⟨by rfl, ?hg12_0⟩) ?_
  case hg12_0 => intro w _; go_simp; (try with_reducible rfl)
  try simp only [Act.put, List.setIfInBounds_toArray, List.set_cons_zero, List.set_cons_succ]
  refine wpAnyG_take (i := 1) (oi := { dst := some 6, op := Go.Op.load 3 (Go.Operand.tmp 5), type := 3, pos := "ref.go:175", after := #[{ on := 0, ground := Go.Ground.data }], guard := none }) (v := ?vg12_1) [1, 2, 3, 6, 7, 8, 9] rfl (by kernel_rfl) (by kernel_rfl) (by kernel_rfl) (by kernel_rfl) (by kernel_rfl) (fun _ _ _ h => h) (fun _ => ⟨HB1.out.drew, HD1.out.drew⟩) (Or.inl ⟨by rfl, ?hg12_1⟩) ?_
  case hg12_1 => intro w hSw; (try dsimp only at hSw); have c1 : _ = some (Value.int .i64 a) := hSw.2.cell 1; go_simp; (try with_reducible rfl)
  try simp only [Act.put, List.setIfInBounds_toArray, List.set_cons_zero, List.set_cons_succ]
  refine wpAnyG_take0 (i := 4) (oi := { dst := some 9, op := Go.Op.fieldAddr 72 (Go.Operand.tmp 1) 5, type := 0, pos := "ref.go:175", after := #[], guard := none }) (v := ?vg12_4) rfl (by kernel_rfl) (by kernel_rfl) (by kernel_rfl) (by kernel_rfl) (fun _ _ _ h => h) (fun _ => ⟨HB1.out.drew, HD1.out.drew⟩) (Or.inl ⟨by rfl, ?hg12_4⟩) ?_
  case hg12_4 => intro w _; go_simp; (try with_reducible rfl)
  try simp only [Act.put, List.setIfInBounds_toArray, List.set_cons_zero, List.set_cons_succ]
  refine wpAnyG_take (i := 5) (oi := { dst := some 10, op := Go.Op.load 3 (Go.Operand.tmp 9), type := 3, pos := "ref.go:175", after := #[{ on := 4, ground := Go.Ground.data }], guard := none }) (v := ?vg12_5) [5, 6, 7, 8, 9] rfl (by kernel_rfl) (by kernel_rfl) (by kernel_rfl) (by kernel_rfl) (by kernel_rfl) (fun _ _ _ h => h) (fun _ => ⟨HB1.out.drew, HD1.out.drew⟩) (Or.inl ⟨by rfl, ?hg12_5⟩) ?_
  case hg12_5 => intro w hSw; (try dsimp only at hSw); have c5 : _ = some (Value.int .i64 n) := hSw.2.cell 5; go_simp; (try with_reducible rfl)
  try simp only [Act.put, List.setIfInBounds_toArray, List.set_cons_zero, List.set_cons_succ]
  refine wpAnyG_step (i := 2) (oi := { dst := some 7, op := Go.Op.call { callee := Go.Callee.value (Go.Operand.func 53), args := #[Go.Operand.tmp 6], argTypes := #[3] }, type := 9, pos := "ref.go:175", after := #[{ on := 1, ground := Go.Ground.data }], guard := none }) rfl (by kernel_rfl) (by rfl) (fun K hK => ?_)
  go_simp
  go_at_call 53
  refine (HA _).out.mono ?_
  rintro e w2 ⟨rfl, hk2⟩
  have HS2 := Lib.hid (And.intro ((And.intro HB1.out.drew HD1.out.drew).1.trans (hk2.below.mono (And.intro HB1.out.drew HD1.out.drew).1.size)) ((And.intro HB1.out.drew HD1.out.drew).2.keep hk2 List.not_mem_nil))
  clear hk2
  dsimp only
  refine hK _ _ ?_ (fun hSg12_2 => ?_)
  · intro _; exact HS2.out
  replace hSg12_2 := hSg12_2 (by kernel_rfl)
  clear hK
  try simp only [Act.put, List.setIfInBounds_toArray, List.set_cons_zero, List.set_cons_succ]
  refine wpAnyG_take0 (i := 3) (oi := { dst := some 8, op := Go.Op.binOp Go.BinOp.add 9 (Go.Operand.const (Go.Value.string { data := #[32] })) (Go.Operand.tmp 7) 9, type := 9, pos := "ref.go:175", after := #[{ on := 2, ground := Go.Ground.data }], guard := none }) (v := ?vg12_3) rfl (by kernel_rfl) (by kernel_rfl) (by kernel_rfl) (by kernel_rfl) (fun _ _ _ h => h) (fun _ => hSg12_2) (Or.inl ⟨by rfl, ?hg12_3⟩) ?_
  case hg12_3 => intro w _; go_simp; (try with_reducible rfl)
  try simp only [Act.put, List.setIfInBounds_toArray, List.set_cons_zero, List.set_cons_succ]
  refine wpAnyG_step (i := 6) (oi := { dst := some 11, op := Go.Op.call { callee := Go.Callee.value (Go.Operand.func 53), args := #[Go.Operand.tmp 10], argTypes := #[3] }, type := 9, pos := "ref.go:175", after := #[{ on := 5, ground := Go.Ground.data }, { on := 2, ground := Go.Ground.chain }], guard := none }) rfl (by kernel_rfl) (by rfl) (fun K hK => ?_)
  go_simp
  go_at_call 53
  refine (HN _).out.mono ?_
  rintro e w3 ⟨rfl, hk3⟩
  have HS3 := Lib.hid (And.intro (HS2.out.1.trans (hk3.below.mono HS2.out.1.size)) (HS2.out.2.keep hk3 List.not_mem_nil))
  clear hk3
  dsimp only
  refine hK _ _ ?_ (fun hSg12_6 => ?_)
  · intro _; exact HS3.out
  replace hSg12_6 := hSg12_6 (by kernel_rfl)
  clear hK
  try simp only [Act.put, List.setIfInBounds_toArray, List.set_cons_zero, List.set_cons_succ]
  refine wpAnyG_take0 (i := 7) (oi := { dst := some 12, op := Go.Op.binOp Go.BinOp.add 9 (Go.Operand.const (Go.Value.string { data := #[32] })) (Go.Operand.tmp 11) 9, type := 9, pos := "ref.go:175", after := #[{ on := 6, ground := Go.Ground.data }, { on := 8, ground := Go.Ground.gcOnly Go.Departure.lateStores }], guard := none }) (v := ?vg12_7) rfl (by kernel_rfl) (by kernel_rfl) (by kernel_rfl) (by kernel_rfl) (fun _ _ _ h => h) (fun _ => hSg12_6) (Or.inl ⟨by rfl, ?hg12_7⟩) ?_
  case hg12_7 => intro w _; go_simp; (try with_reducible rfl)
  try simp only [Act.put, List.setIfInBounds_toArray, List.set_cons_zero, List.set_cons_succ]
  refine wpAnyG_take0 (i := 8) (oi := { dst := some 3, op := Go.Op.assign (Go.Operand.tmp 8), type := 9, pos := "ref.go:175", after := #[{ on := 3, ground := Go.Ground.data }, { on := 6, ground := Go.Ground.chain }, { on := 0, ground := Go.Ground.phase }, { on := 1, ground := Go.Ground.phase }, { on := 2, ground := Go.Ground.phase }, { on := 3, ground := Go.Ground.phase }, { on := 4, ground := Go.Ground.textOnly Go.Departure.lateStores }, { on := 5, ground := Go.Ground.textOnly Go.Departure.lateStores }, { on := 6, ground := Go.Ground.textOnly Go.Departure.lateStoresUnsure }, { on := 7, ground := Go.Ground.textOnly Go.Departure.lateStores }], guard := none }) (v := ?vg12_8) rfl (by kernel_rfl) (by kernel_rfl) (by kernel_rfl) (by kernel_rfl) (fun _ _ _ h => h) (fun _ => hSg12_6) (Or.inl ⟨by rfl, ?hg12_8⟩) ?_
  case hg12_8 => intro w _; go_simp; (try with_reducible rfl)
  try simp only [Act.put, List.setIfInBounds_toArray, List.set_cons_zero, List.set_cons_succ]
  refine wpAnyG_take0 (i := 9) (oi := { dst := some 4, op := Go.Op.assign (Go.Operand.tmp 12), type := 9, pos := "ref.go:175", after := #[{ on := 7, ground := Go.Ground.data }, { on := 8, ground := Go.Ground.chain }, { on := 0, ground := Go.Ground.phase }, { on := 1, ground := Go.Ground.phase }, { on := 2, ground := Go.Ground.phase }, { on := 3, ground := Go.Ground.phase }, { on := 4, ground := Go.Ground.phase }, { on := 5, ground := Go.Ground.phase }, { on := 6, ground := Go.Ground.phase }, { on := 7, ground := Go.Ground.phase }, { on := 8, ground := Go.Ground.phase }], guard := none }) (v := ?vg12_9) rfl (by kernel_rfl) (by kernel_rfl) (by kernel_rfl) (by kernel_rfl) (fun _ _ _ h => h) (fun _ => hSg12_6) (Or.inl ⟨by rfl, ?hg12_9⟩) ?_
  case hg12_9 => intro w _; go_simp; (try with_reducible rfl)
  try simp only [Act.put, List.setIfInBounds_toArray, List.set_cons_zero, List.set_cons_succ]
  refine wpAnyG_done (by kernel_rfl) ?_ _
  have c0 : _ = some (Value.int .i64 10) := HS3.out.2.cell 0
  have c1 : _ = some (Value.int .i64 a) := HS3.out.2.cell 1
  have c2 : _ = some (Value.string ⟨p.toArray⟩) := HS3.out.2.cell 2
  have c3 : _ = some (Value.slice Ab b.length cb) := HS3.out.2.cell 3
  have c4 : _ = some (Value.int .i64 f) := HS3.out.2.cell 4
  have c5 : _ = some (Value.int .i64 n) := HS3.out.2.cell 5
  have c6 : _ = some (Value.slice Ak kp.length ck) := HS3.out.2.cell 6
  go_wp2
  go_ret
  rw [HL2.out]
  exact ⟨rfl, HS3.out.1⟩
set_option maxRecDepth 200000 in
set_option maxHeartbeats 8000000 in
theorem rline_11 (a : Int) (p b : List UInt8) (f n : Int) (kp : List Bool) (Ab Ak : Option Addr) (cb ck : Nat) (w : World) (hb : RD encB w Ab b) (hk : RD encT w Ak kp) (hcb : b.length ≤ cb) (hlb : b.length ≤ 3000) (hlp : p.length ≤ 3000) (hlk : kp.length ≤ 4000000)
    (ha : -9223372036854775808 ≤ a ∧ a ≤ 9223372036854775807) (hf : -9223372036854775808 ≤ f ∧ f ≤ 9223372036854775807) (hn : -9223372036854775808 ≤ n ∧ n ≤ 9223372036854775807) :
    Calls Tryd.prog 52 #[.agg (DvA ⟨11, a, p, b, f, n, kp⟩ (.slice Ab b.length cb) (.slice Ak kp.length ck))] w fun e w' => e = .returned (.string ⟨(rlineOf ⟨11, a, p, b, f, n, kp⟩).toArray⟩) ∧ Below w.heap.size w w' := by
  obtain ⟨w1, hw1⟩ : ∃ w1, w.alloc (.cells #[.int .i64 11, .int .i64 a, .string ⟨p.toArray⟩, .slice Ab b.length cb, .int .i64 f, .int .i64 n, .slice Ak kp.length ck] 72) = w1 := ⟨_, rfl⟩
  have HD1 : Hid (Blk w1 w.heap.size 72 #[.int .i64 11, .int .i64 a, .string ⟨p.toArray⟩, .slice Ab b.length cb, .int .i64 f, .int .i64 n, .slice Ak kp.length ck]) := Lib.hid (by rw [← hw1]; exact Blk.new _ _ _)
  have HB1 : Hid (Below w.heap.size w w1) := Lib.hid (by rw [← hw1]; exact (Below.refl _ w).alloc (Nat.le_refl _) _)
  have HA : ∀ W, Hid (Calls Tryd.prog 53 #[.int .i64 a] W fun e w' => e = .returned (.string ⟨(Lib.itoa a).toArray⟩) ∧ Keep [] W w') := fun W => Lib.hid (decimal_any a ha W)
  have HN : ∀ W, Hid (Calls Tryd.prog 53 #[.int .i64 n] W fun e w' => e = .returned (.string ⟨(Lib.itoa n).toArray⟩) ∧ Keep [] W w') := fun W => Lib.hid (decimal_any n hn W)
  have HF : ∀ W, Hid (Calls Tryd.prog 53 #[.int .i64 f] W fun e w' => e = .returned (.string ⟨(Lib.itoa f).toArray⟩) ∧ Keep [] W w') := fun W => Lib.hid (decimal_any f hf W)
  have HP : ∀ W, Hid (Calls Tryd.prog 65 #[.agg #[.int .i64 11, .int .i64 a, .string ⟨p.toArray⟩, .slice Ab b.length cb, .int .i64 f, .int .i64 n, .slice Ak kp.length ck]] W fun e w' => e = .returned (.string ⟨(32 :: hexS p).toArray⟩) ∧ Below W.heap.size W w') := fun W => Lib.hid (rpath_any ⟨11, a, p, b, f, n, kp⟩ _ _ Ab Ak _ cb _ ck W hlp rfl rfl)
  have HX : ∀ W, Below w.heap.size w W → Hid (Calls Tryd.prog 10 #[.slice Ab b.length cb] W fun e w' => e = .returned (.string ⟨(hexS b).toArray⟩) ∧ Below W.heap.size W w') := fun W hW => Lib.hid (rhexg_any b Ab cb W (RD.below hb hW) hcb hlb)
  have HT : ∀ W, Below w.heap.size w W → Hid (Calls Tryd.prog 66 #[.slice Ak kp.length ck] W fun e w' => e = .returned (.string ⟨(truS kp).toArray⟩) ∧ Below W.heap.size W w') := fun W hW => Lib.hid (rtruths_any kp Ak ck W (RD.below hk hW) hlk)
  have HL : Hid (rlineOf ⟨11, a, p, b, f, n, kp⟩ = [100, 111, 117, 98, 108, 101] ++ ([32] ++ Lib.itoa n)) := Lib.hid (by simp [rlineOf, lineOf, nameOf, fieldsOf, wordOf, Lib.join_cons, Lib.join_one, Lib.joinTail])
  have lia := itoa_len a ha
  have lin := itoa_len n hn
  have lif := itoa_len f hf
  have lhp := hexS_len p (by omega)
  have lhb : (hexS b).length ≤ 72001 := by have := hexS_len b (by omega); omega
  have ltk : (truS kp).length ≤ 4000001 := by have := truS_len kp; omega
  have lpa : (32 :: hexS p).length ≤ 72002 := by simp; omega
  generalize Lib.itoa a = ia at *
  generalize Lib.itoa n = in_ at *
  generalize Lib.itoa f = if_ at *
  generalize 32 :: hexS p = pa at *
  generalize hexS b = hb_ at *
  generalize truS kp = tk at *
  obtain ⟨sa, hsa⟩ : ∃ x, x = [32] ++ ia := ⟨_, rfl⟩
  obtain ⟨sn, hsn⟩ : ∃ x, x = [32] ++ in_ := ⟨_, rfl⟩
  have lsa : sa.length ≤ 22 := by rw [hsa]; simp; omega
  have lsn : sn.length ≤ 22 := by rw [hsn]; simp; omega
  have qa : ∀ W : World, (Op.stringOp .add ⟨#[32]⟩ ⟨ia.toArray⟩).run Tryd.prog W = .ok (.string ⟨sa.toArray⟩) W := add_lists (a := [32]) hsa (by omega)
  have qn : ∀ W : World, (Op.stringOp .add ⟨#[32]⟩ ⟨in_.toArray⟩).run Tryd.prog W = .ok (.string ⟨sn.toArray⟩) W := add_lists (a := [32]) hsn (by omega)
  obtain ⟨x0, hx0⟩ : ∃ x, x = [100, 111, 117, 98, 108, 101] ++ sn := ⟨_, rfl⟩
  have lx0 : x0.length ≤ 28 := by rw [hx0, List.length_append]; (try simp only [List.length_cons, List.length_nil]); omega
  have qx0 : ∀ W : World, (Op.stringOp .add ⟨#[100, 111, 117, 98, 108, 101]⟩ ⟨sn.toArray⟩).run Tryd.prog W = .ok (.string ⟨x0.toArray⟩) W := add_lists (a := [100, 111, 117, 98, 108, 101]) (b := sn) hx0 (by omega)
  have HL2 : Hid (rlineOf ⟨11, a, p, b, f, n, kp⟩ = x0) := Lib.hid (by rw [HL.out]; simp only [hx0, hsa, hsn, List.append_assoc])
  clear HL hx0 lx0
  have Hw1 := Lib.hid hw1
  clear lia lin lif lhp lhb ltk lpa lsa lsn hsa hsn hw1 hb hk ha hf hn hlp hlb hlk hcb
  unfold DvA
  go_enter Tryd.func52, Tryd.ntmps52
  go_upto_region 1 with (fail)
  rw [Hw1.out]
  refine wp_region_G (fun W => Below w.heap.size w W ∧ Blk W w.heap.size 72 #[.int .i64 11, .int .i64 a, .string ⟨p.toArray⟩, .slice Ab b.length cb, .int .i64 f, .int .i64 n, .slice Ak kp.length ck]) [] #[false, false, false, false, false, false, false, false, false, false] 10 (by kernel_rfl) (by kernel_rfl) (by kernel_rfl) ?_
  refine wpAnyG_take0 (i := 0) (oi := { dst := some 5, op := Go.Op.fieldAddr 72 (Go.Operand.tmp 1) 1, type := 0, pos := "ref.go:175", after := #[], guard := none }) (v := ?vg13_0) rfl (by kernel_rfl) (by kernel_rfl) (by kernel_rfl) (by kernel_rfl) (fun _ _ _ h => h) (fun _ => ⟨HB1.out.drew, HD1.out.drew⟩) (Or.inl ⟨by rfl, ?hg13_0⟩) ?_
  case hg13_0 => intro w _; go_simp; (try with_reducible rfl)
  try simp only [Act.put, List.setIfInBounds_toArray, List.set_cons_zero, List.set_cons_succ]
  refine wpAnyG_take (i := 1) (oi := { dst := some 6, op := Go.Op.load 3 (Go.Operand.tmp 5), type := 3, pos := "ref.go:175", after := #[{ on := 0, ground := Go.Ground.data }], guard := none }) (v := ?vg13_1) [1, 2, 3, 6, 7, 8, 9] rfl (by kernel_rfl) (by kernel_rfl) (by kernel_rfl) (by kernel_rfl) (by kernel_rfl) (fun _ _ _ h => h) (fun _ => ⟨HB1.out.drew, HD1.out.drew⟩) (Or.inl ⟨by rfl, ?hg13_1⟩) ?_
  case hg13_1 => intro w hSw; (try dsimp only at hSw); have c1 : _ = some (Value.int .i64 a) := hSw.2.cell 1; go_simp; (try with_reducible rfl)
  try simp only [Act.put, List.setIfInBounds_toArray, List.set_cons_zero, List.set_cons_succ]
  refine wpAnyG_take0 (i := 4) (oi := { dst := some 9, op := Go.Op.fieldAddr 72 (Go.Operand.tmp 1) 5, type := 0, pos := "ref.go:175", after := #[], guard := none }) (v := ?vg13_4) rfl (by kernel_rfl) (by kernel_rfl) (by kernel_rfl) (by kernel_rfl) (fun _ _ _ h => h) (fun _ => ⟨HB1.out.drew, HD1.out.drew⟩) (Or.inl ⟨by rfl, ?hg13_4⟩) ?_
  case hg13_4 => intro w _; go_simp; (try with_reducible rfl)
  try simp only [Act.put, List.setIfInBounds_toArray, List.set_cons_zero, List.set_cons_succ]
  refine wpAnyG_take (i := 5) (oi := { dst := some 10, op := Go.Op.load 3 (Go.Operand.tmp 9), type := 3, pos := "ref.go:175", after := #[{ on := 4, ground := Go.Ground.data }], guard := none }) (v := ?vg13_5) [5, 6, 7, 8, 9] rfl (by kernel_rfl) (by kernel_rfl) (by kernel_rfl) (by kernel_rfl) (by kernel_rfl) (fun _ _ _ h => h) (fun _ => ⟨HB1.out.drew, HD1.out.drew⟩) (Or.inl ⟨by rfl, ?hg13_5⟩) ?_
  case hg13_5 => intro w hSw; (try dsimp only at hSw); have c5 : _ = some (Value.int .i64 n) := hSw.2.cell 5; go_simp; (try with_reducible rfl)
  try simp only [Act.put, List.setIfInBounds_toArray, List.set_cons_zero, List.set_cons_succ]
  refine wpAnyG_step (i := 2) (oi := { dst := some 7, op := Go.Op.call { callee := Go.Callee.value (Go.Operand.func 53), args := #[Go.Operand.tmp 6], argTypes := #[3] }, type := 9, pos := "ref.go:175", after := #[{ on := 1, ground := Go.Ground.data }], guard := none }) rfl (by kernel_rfl) (by rfl) (fun K hK => ?_)
  go_simp
  go_at_call 53
  refine (HA _).out.mono ?_
  rintro e w2 ⟨rfl, hk2⟩
  have HS2 := Lib.hid (And.intro ((And.intro HB1.out.drew HD1.out.drew).1.trans (hk2.below.mono (And.intro HB1.out.drew HD1.out.drew).1.size)) ((And.intro HB1.out.drew HD1.out.drew).2.keep hk2 List.not_mem_nil))
  clear hk2
  dsimp only
  refine hK _ _ ?_ (fun hSg13_2 => ?_)
  · intro _; exact HS2.out
  replace hSg13_2 := hSg13_2 (by kernel_rfl)
  clear hK
  try simp only [Act.put, List.setIfInBounds_toArray, List.set_cons_zero, List.set_cons_succ]
  refine wpAnyG_take0 (i := 3) (oi := { dst := some 8, op := Go.Op.binOp Go.BinOp.add 9 (Go.Operand.const (Go.Value.string { data := #[32] })) (Go.Operand.tmp 7) 9, type := 9, pos := "ref.go:175", after := #[{ on := 2, ground := Go.Ground.data }], guard := none }) (v := ?vg13_3) rfl (by kernel_rfl) (by kernel_rfl) (by kernel_rfl) (by kernel_rfl) (fun _ _ _ h => h) (fun _ => hSg13_2) (Or.inl ⟨by rfl, ?hg13_3⟩) ?_
  case hg13_3 => intro w _; go_simp; (try with_reducible rfl)
  try simp only [Act.put, List.setIfInBounds_toArray, List.set_cons_zero, List.set_cons_succ]
  refine wpAnyG_step (i := 6) (oi := { dst := some 11, op := Go.Op.call { callee := Go.Callee.value (Go.Operand.func 53), args := #[Go.Operand.tmp 10], argTypes := #[3] }, type := 9, pos := "ref.go:175", after := #[{ on := 5, ground := Go.Ground.data }, { on := 2, ground := Go.Ground.chain }], guard := none }) rfl (by kernel_rfl) (by rfl) (fun K hK => ?_)
  go_simp
  go_at_call 53
  refine (HN _).out.mono ?_
  rintro e w3 ⟨rfl, hk3⟩
  have HS3 := Lib.hid (And.intro (HS2.out.1.trans (hk3.below.mono HS2.out.1.size)) (HS2.out.2.keep hk3 List.not_mem_nil))
  clear hk3
  dsimp only
  refine hK _ _ ?_ (fun hSg13_6 => ?_)
  · intro _; exact HS3.out
  replace hSg13_6 := hSg13_6 (by kernel_rfl)
  clear hK
  try simp only [Act.put, List.setIfInBounds_toArray, List.set_cons_zero, List.set_cons_succ]
  refine wpAnyG_take0 (i := 7) (oi := { dst := some 12, op := Go.Op.binOp Go.BinOp.add 9 (Go.Operand.const (Go.Value.string { data := #[32] })) (Go.Operand.tmp 11) 9, type := 9, pos := "ref.go:175", after := #[{ on := 6, ground := Go.Ground.data }, { on := 8, ground := Go.Ground.gcOnly Go.Departure.lateStores }], guard := none }) (v := ?vg13_7) rfl (by kernel_rfl) (by kernel_rfl) (by kernel_rfl) (by kernel_rfl) (fun _ _ _ h => h) (fun _ => hSg13_6) (Or.inl ⟨by rfl, ?hg13_7⟩) ?_
  case hg13_7 => intro w _; go_simp; (try with_reducible rfl)
  try simp only [Act.put, List.setIfInBounds_toArray, List.set_cons_zero, List.set_cons_succ]
  refine wpAnyG_take0 (i := 8) (oi := { dst := some 3, op := Go.Op.assign (Go.Operand.tmp 8), type := 9, pos := "ref.go:175", after := #[{ on := 3, ground := Go.Ground.data }, { on := 6, ground := Go.Ground.chain }, { on := 0, ground := Go.Ground.phase }, { on := 1, ground := Go.Ground.phase }, { on := 2, ground := Go.Ground.phase }, { on := 3, ground := Go.Ground.phase }, { on := 4, ground := Go.Ground.textOnly Go.Departure.lateStores }, { on := 5, ground := Go.Ground.textOnly Go.Departure.lateStores }, { on := 6, ground := Go.Ground.textOnly Go.Departure.lateStoresUnsure }, { on := 7, ground := Go.Ground.textOnly Go.Departure.lateStores }], guard := none }) (v := ?vg13_8) rfl (by kernel_rfl) (by kernel_rfl) (by kernel_rfl) (by kernel_rfl) (fun _ _ _ h => h) (fun _ => hSg13_6) (Or.inl ⟨by rfl, ?hg13_8⟩) ?_
  case hg13_8 => intro w _; go_simp; (try with_reducible rfl)
  try simp only [Act.put, List.setIfInBounds_toArray, List.set_cons_zero, List.set_cons_succ]
  refine wpAnyG_take0 (i := 9) (oi := { dst := some 4, op := Go.Op.assign (Go.Operand.tmp 12), type := 9, pos := "ref.go:175", after := #[{ on := 7, ground := Go.Ground.data }, { on := 8, ground := Go.Ground.chain }, { on := 0, ground := Go.Ground.phase }, { on := 1, ground := Go.Ground.phase }, { on := 2, ground := Go.Ground.phase }, { on := 3, ground := Go.Ground.phase }, { on := 4, ground := Go.Ground.phase }, { on := 5, ground := Go.Ground.phase }, { on := 6, ground := Go.Ground.phase }, { on := 7, ground := Go.Ground.phase }, { on := 8, ground := Go.Ground.phase }], guard := none }) (v := ?vg13_9) rfl (by kernel_rfl) (by kernel_rfl) (by kernel_rfl) (by kernel_rfl) (fun _ _ _ h => h) (fun _ => hSg13_6) (Or.inl ⟨by rfl, ?hg13_9⟩) ?_
  case hg13_9 => intro w _; go_simp; (try with_reducible rfl)
  try simp only [Act.put, List.setIfInBounds_toArray, List.set_cons_zero, List.set_cons_succ]
  refine wpAnyG_done (by kernel_rfl) ?_ _
  have c0 : _ = some (Value.int .i64 11) := HS3.out.2.cell 0
  have c1 : _ = some (Value.int .i64 a) := HS3.out.2.cell 1
  have c2 : _ = some (Value.string ⟨p.toArray⟩) := HS3.out.2.cell 2
  have c3 : _ = some (Value.slice Ab b.length cb) := HS3.out.2.cell 3
  have c4 : _ = some (Value.int .i64 f) := HS3.out.2.cell 4
  have c5 : _ = some (Value.int .i64 n) := HS3.out.2.cell 5
  have c6 : _ = some (Value.slice Ak kp.length ck) := HS3.out.2.cell 6
  go_wp2
  go_ret
  rw [HL2.out]
  exact ⟨rfl, HS3.out.1⟩
set_option maxRecDepth 200000 in
set_option maxHeartbeats 8000000 in
theorem rline_12 (a : Int) (p b : List UInt8) (f n : Int) (kp : List Bool) (Ab Ak : Option Addr) (cb ck : Nat) (w : World) (hb : RD encB w Ab b) (hk : RD encT w Ak kp) (hcb : b.length ≤ cb) (hlb : b.length ≤ 3000) (hlp : p.length ≤ 3000) (hlk : kp.length ≤ 4000000)
    (ha : -9223372036854775808 ≤ a ∧ a ≤ 9223372036854775807) (hf : -9223372036854775808 ≤ f ∧ f ≤ 9223372036854775807) (hn : -9223372036854775808 ≤ n ∧ n ≤ 9223372036854775807) :
    Calls Tryd.prog 52 #[.agg (DvA ⟨12, a, p, b, f, n, kp⟩ (.slice Ab b.length cb) (.slice Ak kp.length ck))] w fun e w' => e = .returned (.string ⟨(rlineOf ⟨12, a, p, b, f, n, kp⟩).toArray⟩) ∧ Below w.heap.size w w' := by
  obtain ⟨w1, hw1⟩ : ∃ w1, w.alloc (.cells #[.int .i64 12, .int .i64 a, .string ⟨p.toArray⟩, .slice Ab b.length cb, .int .i64 f, .int .i64 n, .slice Ak kp.length ck] 72) = w1 := ⟨_, rfl⟩
  have HD1 : Hid (Blk w1 w.heap.size 72 #[.int .i64 12, .int .i64 a, .string ⟨p.toArray⟩, .slice Ab b.length cb, .int .i64 f, .int .i64 n, .slice Ak kp.length ck]) := Lib.hid (by rw [← hw1]; exact Blk.new _ _ _)
  have HB1 : Hid (Below w.heap.size w w1) := Lib.hid (by rw [← hw1]; exact (Below.refl _ w).alloc (Nat.le_refl _) _)
  have HA : ∀ W, Hid (Calls Tryd.prog 53 #[.int .i64 a] W fun e w' => e = .returned (.string ⟨(Lib.itoa a).toArray⟩) ∧ Keep [] W w') := fun W => Lib.hid (decimal_any a ha W)
  have HN : ∀ W, Hid (Calls Tryd.prog 53 #[.int .i64 n] W fun e w' => e = .returned (.string ⟨(Lib.itoa n).toArray⟩) ∧ Keep [] W w') := fun W => Lib.hid (decimal_any n hn W)
  have HF : ∀ W, Hid (Calls Tryd.prog 53 #[.int .i64 f] W fun e w' => e = .returned (.string ⟨(Lib.itoa f).toArray⟩) ∧ Keep [] W w') := fun W => Lib.hid (decimal_any f hf W)
  have HP : ∀ W, Hid (Calls Tryd.prog 65 #[.agg #[.int .i64 12, .int .i64 a, .string ⟨p.toArray⟩, .slice Ab b.length cb, .int .i64 f, .int .i64 n, .slice Ak kp.length ck]] W fun e w' => e = .returned (.string ⟨(32 :: hexS p).toArray⟩) ∧ Below W.heap.size W w') := fun W => Lib.hid (rpath_any ⟨12, a, p, b, f, n, kp⟩ _ _ Ab Ak _ cb _ ck W hlp rfl rfl)
  have HX : ∀ W, Below w.heap.size w W → Hid (Calls Tryd.prog 10 #[.slice Ab b.length cb] W fun e w' => e = .returned (.string ⟨(hexS b).toArray⟩) ∧ Below W.heap.size W w') := fun W hW => Lib.hid (rhexg_any b Ab cb W (RD.below hb hW) hcb hlb)
  have HT : ∀ W, Below w.heap.size w W → Hid (Calls Tryd.prog 66 #[.slice Ak kp.length ck] W fun e w' => e = .returned (.string ⟨(truS kp).toArray⟩) ∧ Below W.heap.size W w') := fun W hW => Lib.hid (rtruths_any kp Ak ck W (RD.below hk hW) hlk)
  have HL : Hid (rlineOf ⟨12, a, p, b, f, n, kp⟩ = [105, 110, 106, 101, 99, 116] ++ ([32] ++ Lib.itoa a) ++ [32] ++ hexS b) := Lib.hid (by simp [rlineOf, lineOf, nameOf, fieldsOf, wordOf, Lib.join_cons, Lib.join_one, Lib.joinTail])
  have lia := itoa_len a ha
  have lin := itoa_len n hn
  have lif := itoa_len f hf
  have lhp := hexS_len p (by omega)
  have lhb : (hexS b).length ≤ 72001 := by have := hexS_len b (by omega); omega
  have ltk : (truS kp).length ≤ 4000001 := by have := truS_len kp; omega
  have lpa : (32 :: hexS p).length ≤ 72002 := by simp; omega
  generalize Lib.itoa a = ia at *
  generalize Lib.itoa n = in_ at *
  generalize Lib.itoa f = if_ at *
  generalize 32 :: hexS p = pa at *
  generalize hexS b = hb_ at *
  generalize truS kp = tk at *
  obtain ⟨sa, hsa⟩ : ∃ x, x = [32] ++ ia := ⟨_, rfl⟩
  obtain ⟨sn, hsn⟩ : ∃ x, x = [32] ++ in_ := ⟨_, rfl⟩
  have lsa : sa.length ≤ 22 := by rw [hsa]; simp; omega
  have lsn : sn.length ≤ 22 := by rw [hsn]; simp; omega
  have qa : ∀ W : World, (Op.stringOp .add ⟨#[32]⟩ ⟨ia.toArray⟩).run Tryd.prog W = .ok (.string ⟨sa.toArray⟩) W := add_lists (a := [32]) hsa (by omega)
  have qn : ∀ W : World, (Op.stringOp .add ⟨#[32]⟩ ⟨in_.toArray⟩).run Tryd.prog W = .ok (.string ⟨sn.toArray⟩) W := add_lists (a := [32]) hsn (by omega)
  obtain ⟨x0, hx0⟩ : ∃ x, x = [105, 110, 106, 101, 99, 116] ++ sa := ⟨_, rfl⟩
  obtain ⟨x1, hx1⟩ : ∃ x, x = x0 ++ [32] := ⟨_, rfl⟩
  obtain ⟨x2, hx2⟩ : ∃ x, x = x1 ++ hb_ := ⟨_, rfl⟩
  have lx0 : x0.length ≤ 28 := by rw [hx0, List.length_append]; (try simp only [List.length_cons, List.length_nil]); omega
  have qx0 : ∀ W : World, (Op.stringOp .add ⟨#[105, 110, 106, 101, 99, 116]⟩ ⟨sa.toArray⟩).run Tryd.prog W = .ok (.string ⟨x0.toArray⟩) W := add_lists (a := [105, 110, 106, 101, 99, 116]) (b := sa) hx0 (by omega)
  have lx1 : x1.length ≤ 29 := by rw [hx1, List.length_append]; (try simp only [List.length_cons, List.length_nil]); omega
  have qx1 : ∀ W : World, (Op.stringOp .add ⟨x0.toArray⟩ ⟨#[32]⟩).run Tryd.prog W = .ok (.string ⟨x1.toArray⟩) W := add_lists (a := x0) (b := [32]) hx1 (by omega)
  have lx2 : x2.length ≤ 72030 := by rw [hx2, List.length_append]; (try simp only [List.length_cons, List.length_nil]); omega
  have qx2 : ∀ W : World, (Op.stringOp .add ⟨x1.toArray⟩ ⟨hb_.toArray⟩).run Tryd.prog W = .ok (.string ⟨x2.toArray⟩) W := add_lists (a := x1) (b := hb_) hx2 (by omega)
  have HL2 : Hid (rlineOf ⟨12, a, p, b, f, n, kp⟩ = x2) := Lib.hid (by rw [HL.out]; simp only [hx0, hx1, hx2, hsa, hsn, List.append_assoc])
  clear HL hx0 lx0 hx1 lx1 hx2 lx2
  have Hw1 := Lib.hid hw1
  clear lia lin lif lhp lhb ltk lpa lsa lsn hsa hsn hw1 hb hk ha hf hn hlp hlb hlk hcb
  unfold DvA
  go_enter Tryd.func52, Tryd.ntmps52
  go_upto_region 1 with (fail)
  rw [Hw1.out]
  refine wp_region_G (fun W => Below w.heap.size w W ∧ Blk W w.heap.size 72 #[.int .i64 12, .int .i64 a, .string ⟨p.toArray⟩, .slice Ab b.length cb, .int .i64 f, .int .i64 n, .slice Ak kp.length ck]) [] #[false, false, false, false, false, false, false, false, false, false] 10 (by kernel_rfl) (by kernel_rfl) (by kernel_rfl) ?_
  refine wpAnyG_take0 (i := 0) (oi := { dst := some 5, op := Go.Op.fieldAddr 72 (Go.Operand.tmp 1) 1, type := 0, pos := "ref.go:175", after := #[], guard := none }) (v := ?vg14_0) rfl (by kernel_rfl) (by kernel_rfl) (by kernel_rfl) (by kernel_rfl) (fun _ _ _ h => h) (fun _ => ⟨HB1.out.drew, HD1.out.drew⟩) (Or.inl ⟨by rfl, ?hg14_0⟩) ?_
  case hg14_0 => intro w _; go_simp; (try with_reducible rfl)
  try simp only [Act.put, List.setIfInBounds_toArray, List.set_cons_zero, List.set_cons_succ]
  refine wpAnyG_take (i := 1) (oi := { dst := some 6, op := Go.Op.load 3 (Go.Operand.tmp 5), type := 3, pos := "ref.go:175", after := #[{ on := 0, ground := Go.Ground.data }], guard := none }) (v := ?vg14_1) [1, 2, 3, 6, 7, 8, 9] rfl (by kernel_rfl) (by kernel_rfl) (by kernel_rfl) (by kernel_rfl) (by kernel_rfl) (fun _ _ _ h => h) (fun _ => ⟨HB1.out.drew, HD1.out.drew⟩) (Or.inl ⟨by rfl, ?hg14_1⟩) ?_
  case hg14_1 => intro w hSw; (try dsimp only at hSw); have c1 : _ = some (Value.int .i64 a) := hSw.2.cell 1; go_simp; (try with_reducible rfl)
  try simp only [Act.put, List.setIfInBounds_toArray, List.set_cons_zero, List.set_cons_succ]
  refine wpAnyG_take0 (i := 4) (oi := { dst := some 9, op := Go.Op.fieldAddr 72 (Go.Operand.tmp 1) 5, type := 0, pos := "ref.go:175", after := #[], guard := none }) (v := ?vg14_4) rfl (by kernel_rfl) (by kernel_rfl) (by kernel_rfl) (by kernel_rfl) (fun _ _ _ h => h) (fun _ => ⟨HB1.out.drew, HD1.out.drew⟩) (Or.inl ⟨by rfl, ?hg14_4⟩) ?_
  case hg14_4 => intro w _; go_simp; (try with_reducible rfl)
  try simp only [Act.put, List.setIfInBounds_toArray, List.set_cons_zero, List.set_cons_succ]
  refine wpAnyG_take (i := 5) (oi := { dst := some 10, op := Go.Op.load 3 (Go.Operand.tmp 9), type := 3, pos := "ref.go:175", after := #[{ on := 4, ground := Go.Ground.data }], guard := none }) (v := ?vg14_5) [5, 6, 7, 8, 9] rfl (by kernel_rfl) (by kernel_rfl) (by kernel_rfl) (by kernel_rfl) (by kernel_rfl) (fun _ _ _ h => h) (fun _ => ⟨HB1.out.drew, HD1.out.drew⟩) (Or.inl ⟨by rfl, ?hg14_5⟩) ?_
  case hg14_5 => intro w hSw; (try dsimp only at hSw); have c5 : _ = some (Value.int .i64 n) := hSw.2.cell 5; go_simp; (try with_reducible rfl)
  try simp only [Act.put, List.setIfInBounds_toArray, List.set_cons_zero, List.set_cons_succ]
  refine wpAnyG_step (i := 2) (oi := { dst := some 7, op := Go.Op.call { callee := Go.Callee.value (Go.Operand.func 53), args := #[Go.Operand.tmp 6], argTypes := #[3] }, type := 9, pos := "ref.go:175", after := #[{ on := 1, ground := Go.Ground.data }], guard := none }) rfl (by kernel_rfl) (by rfl) (fun K hK => ?_)
  go_simp
  go_at_call 53
  refine (HA _).out.mono ?_
  rintro e w2 ⟨rfl, hk2⟩
  have HS2 := Lib.hid (And.intro ((And.intro HB1.out.drew HD1.out.drew).1.trans (hk2.below.mono (And.intro HB1.out.drew HD1.out.drew).1.size)) ((And.intro HB1.out.drew HD1.out.drew).2.keep hk2 List.not_mem_nil))
  clear hk2
  dsimp only
  refine hK _ _ ?_ (fun hSg14_2 => ?_)
  · intro _; exact HS2.out
  replace hSg14_2 := hSg14_2 (by kernel_rfl)
  clear hK
  try simp only [Act.put, List.setIfInBounds_toArray, List.set_cons_zero, List.set_cons_succ]
  refine wpAnyG_take0 (i := 3) (oi := { dst := some 8, op := Go.Op.binOp Go.BinOp.add 9 (Go.Operand.const (Go.Value.string { data := #[32] })) (Go.Operand.tmp 7) 9, type := 9, pos := "ref.go:175", after := #[{ on := 2, ground := Go.Ground.data }], guard := none }) (v := ?vg14_3) rfl (by kernel_rfl) (by kernel_rfl) (by kernel_rfl) (by kernel_rfl) (fun _ _ _ h => h) (fun _ => hSg14_2) (Or.inl ⟨by rfl, ?hg14_3⟩) ?_
  case hg14_3 => intro w _; go_simp; (try with_reducible rfl)
  try simp only [Act.put, List.setIfInBounds_toArray, List.set_cons_zero, List.set_cons_succ]
  refine wpAnyG_step (i := 6) (oi := { dst := some 11, op := Go.Op.call { callee := Go.Callee.value (Go.Operand.func 53), args := #[Go.Operand.tmp 10], argTypes := #[3] }, type := 9, pos := "ref.go:175", after := #[{ on := 5, ground := Go.Ground.data }, { on := 2, ground := Go.Ground.chain }], guard := none }) rfl (by kernel_rfl) (by rfl) (fun K hK => ?_)
  go_simp
  go_at_call 53
  refine (HN _).out.mono ?_
  rintro e w3 ⟨rfl, hk3⟩
  have HS3 := Lib.hid (And.intro (HS2.out.1.trans (hk3.below.mono HS2.out.1.size)) (HS2.out.2.keep hk3 List.not_mem_nil))
  clear hk3
  dsimp only
  refine hK _ _ ?_ (fun hSg14_6 => ?_)
  · intro _; exact HS3.out
  replace hSg14_6 := hSg14_6 (by kernel_rfl)
  clear hK
  try simp only [Act.put, List.setIfInBounds_toArray, List.set_cons_zero, List.set_cons_succ]
  refine wpAnyG_take0 (i := 7) (oi := { dst := some 12, op := Go.Op.binOp Go.BinOp.add 9 (Go.Operand.const (Go.Value.string { data := #[32] })) (Go.Operand.tmp 11) 9, type := 9, pos := "ref.go:175", after := #[{ on := 6, ground := Go.Ground.data }, { on := 8, ground := Go.Ground.gcOnly Go.Departure.lateStores }], guard := none }) (v := ?vg14_7) rfl (by kernel_rfl) (by kernel_rfl) (by kernel_rfl) (by kernel_rfl) (fun _ _ _ h => h) (fun _ => hSg14_6) (Or.inl ⟨by rfl, ?hg14_7⟩) ?_
  case hg14_7 => intro w _; go_simp; (try with_reducible rfl)
  try simp only [Act.put, List.setIfInBounds_toArray, List.set_cons_zero, List.set_cons_succ]
  refine wpAnyG_take0 (i := 8) (oi := { dst := some 3, op := Go.Op.assign (Go.Operand.tmp 8), type := 9, pos := "ref.go:175", after := #[{ on := 3, ground := Go.Ground.data }, { on := 6, ground := Go.Ground.chain }, { on := 0, ground := Go.Ground.phase }, { on := 1, ground := Go.Ground.phase }, { on := 2, ground := Go.Ground.phase }, { on := 3, ground := Go.Ground.phase }, { on := 4, ground := Go.Ground.textOnly Go.Departure.lateStores }, { on := 5, ground := Go.Ground.textOnly Go.Departure.lateStores }, { on := 6, ground := Go.Ground.textOnly Go.Departure.lateStoresUnsure }, { on := 7, ground := Go.Ground.textOnly Go.Departure.lateStores }], guard := none }) (v := ?vg14_8) rfl (by kernel_rfl) (by kernel_rfl) (by kernel_rfl) (by kernel_rfl) (fun _ _ _ h => h) (fun _ => hSg14_6) (Or.inl ⟨by rfl, ?hg14_8⟩) ?_
  case hg14_8 => intro w _; go_simp; (try with_reducible rfl)
  try simp only [Act.put, List.setIfInBounds_toArray, List.set_cons_zero, List.set_cons_succ]
  refine wpAnyG_take0 (i := 9) (oi := { dst := some 4, op := Go.Op.assign (Go.Operand.tmp 12), type := 9, pos := "ref.go:175", after := #[{ on := 7, ground := Go.Ground.data }, { on := 8, ground := Go.Ground.chain }, { on := 0, ground := Go.Ground.phase }, { on := 1, ground := Go.Ground.phase }, { on := 2, ground := Go.Ground.phase }, { on := 3, ground := Go.Ground.phase }, { on := 4, ground := Go.Ground.phase }, { on := 5, ground := Go.Ground.phase }, { on := 6, ground := Go.Ground.phase }, { on := 7, ground := Go.Ground.phase }, { on := 8, ground := Go.Ground.phase }], guard := none }) (v := ?vg14_9) rfl (by kernel_rfl) (by kernel_rfl) (by kernel_rfl) (by kernel_rfl) (fun _ _ _ h => h) (fun _ => hSg14_6) (Or.inl ⟨by rfl, ?hg14_9⟩) ?_
  case hg14_9 => intro w _; go_simp; (try with_reducible rfl)
  try simp only [Act.put, List.setIfInBounds_toArray, List.set_cons_zero, List.set_cons_succ]
  refine wpAnyG_done (by kernel_rfl) ?_ _
  have c0 : _ = some (Value.int .i64 12) := HS3.out.2.cell 0
  have c1 : _ = some (Value.int .i64 a) := HS3.out.2.cell 1
  have c2 : _ = some (Value.string ⟨p.toArray⟩) := HS3.out.2.cell 2
  have c3 : _ = some (Value.slice Ab b.length cb) := HS3.out.2.cell 3
  have c4 : _ = some (Value.int .i64 f) := HS3.out.2.cell 4
  have c5 : _ = some (Value.int .i64 n) := HS3.out.2.cell 5
  have c6 : _ = some (Value.slice Ak kp.length ck) := HS3.out.2.cell 6
  go_wp2_with (go_at_call 10; refine (HX _ HS3.out.1).out.mono ?_; rintro e w4 ⟨rfl, hk4⟩)
  go_ret
  rw [HL2.out]
  exact ⟨rfl, HS3.out.1.trans (hk4.mono HS3.out.1.size)⟩
set_option maxRecDepth 200000 in
set_option maxHeartbeats 8000000 in
theorem rline_13 (a : Int) (p b : List UInt8) (f n : Int) (kp : List Bool) (Ab Ak : Option Addr) (cb ck : Nat) (w : World) (hb : RD encB w Ab b) (hk : RD encT w Ak kp) (hcb : b.length ≤ cb) (hlb : b.length ≤ 3000) (hlp : p.length ≤ 3000) (hlk : kp.length ≤ 4000000)
    (ha : -9223372036854775808 ≤ a ∧ a ≤ 9223372036854775807) (hf : -9223372036854775808 ≤ f ∧ f ≤ 9223372036854775807) (hn : -9223372036854775808 ≤ n ∧ n ≤ 9223372036854775807) :
    Calls Tryd.prog 52 #[.agg (DvA ⟨13, a, p, b, f, n, kp⟩ (.slice Ab b.length cb) (.slice Ak kp.length ck))] w fun e w' => e = .returned (.string ⟨(rlineOf ⟨13, a, p, b, f, n, kp⟩).toArray⟩) ∧ Below w.heap.size w w' := by
  obtain ⟨w1, hw1⟩ : ∃ w1, w.alloc (.cells #[.int .i64 13, .int .i64 a, .string ⟨p.toArray⟩, .slice Ab b.length cb, .int .i64 f, .int .i64 n, .slice Ak kp.length ck] 72) = w1 := ⟨_, rfl⟩
  have HD1 : Hid (Blk w1 w.heap.size 72 #[.int .i64 13, .int .i64 a, .string ⟨p.toArray⟩, .slice Ab b.length cb, .int .i64 f, .int .i64 n, .slice Ak kp.length ck]) := Lib.hid (by rw [← hw1]; exact Blk.new _ _ _)
  have HB1 : Hid (Below w.heap.size w w1) := Lib.hid (by rw [← hw1]; exact (Below.refl _ w).alloc (Nat.le_refl _) _)
  have HA : ∀ W, Hid (Calls Tryd.prog 53 #[.int .i64 a] W fun e w' => e = .returned (.string ⟨(Lib.itoa a).toArray⟩) ∧ Keep [] W w') := fun W => Lib.hid (decimal_any a ha W)
  have HN : ∀ W, Hid (Calls Tryd.prog 53 #[.int .i64 n] W fun e w' => e = .returned (.string ⟨(Lib.itoa n).toArray⟩) ∧ Keep [] W w') := fun W => Lib.hid (decimal_any n hn W)
  have HF : ∀ W, Hid (Calls Tryd.prog 53 #[.int .i64 f] W fun e w' => e = .returned (.string ⟨(Lib.itoa f).toArray⟩) ∧ Keep [] W w') := fun W => Lib.hid (decimal_any f hf W)
  have HP : ∀ W, Hid (Calls Tryd.prog 65 #[.agg #[.int .i64 13, .int .i64 a, .string ⟨p.toArray⟩, .slice Ab b.length cb, .int .i64 f, .int .i64 n, .slice Ak kp.length ck]] W fun e w' => e = .returned (.string ⟨(32 :: hexS p).toArray⟩) ∧ Below W.heap.size W w') := fun W => Lib.hid (rpath_any ⟨13, a, p, b, f, n, kp⟩ _ _ Ab Ak _ cb _ ck W hlp rfl rfl)
  have HX : ∀ W, Below w.heap.size w W → Hid (Calls Tryd.prog 10 #[.slice Ab b.length cb] W fun e w' => e = .returned (.string ⟨(hexS b).toArray⟩) ∧ Below W.heap.size W w') := fun W hW => Lib.hid (rhexg_any b Ab cb W (RD.below hb hW) hcb hlb)
  have HT : ∀ W, Below w.heap.size w W → Hid (Calls Tryd.prog 66 #[.slice Ak kp.length ck] W fun e w' => e = .returned (.string ⟨(truS kp).toArray⟩) ∧ Below W.heap.size W w') := fun W hW => Lib.hid (rtruths_any kp Ak ck W (RD.below hk hW) hlk)
  have HL : Hid (rlineOf ⟨13, a, p, b, f, n, kp⟩ = [116, 105, 99, 107] ++ ([32] ++ Lib.itoa a) ++ ([32] ++ Lib.itoa n)) := Lib.hid (by simp [rlineOf, lineOf, nameOf, fieldsOf, wordOf, Lib.join_cons, Lib.join_one, Lib.joinTail])
  have lia := itoa_len a ha
  have lin := itoa_len n hn
  have lif := itoa_len f hf
  have lhp := hexS_len p (by omega)
  have lhb : (hexS b).length ≤ 72001 := by have := hexS_len b (by omega); omega
  have ltk : (truS kp).length ≤ 4000001 := by have := truS_len kp; omega
  have lpa : (32 :: hexS p).length ≤ 72002 := by simp; omega
  generalize Lib.itoa a = ia at *
  generalize Lib.itoa n = in_ at *
  generalize Lib.itoa f = if_ at *
  generalize 32 :: hexS p = pa at *
  generalize hexS b = hb_ at *
  generalize truS kp = tk at *
  obtain ⟨sa, hsa⟩ : ∃ x, x = [32] ++ ia := ⟨_, rfl⟩
  obtain ⟨sn, hsn⟩ : ∃ x, x = [32] ++ in_ := ⟨_, rfl⟩
  have lsa : sa.length ≤ 22 := by rw [hsa]; simp; omega
  have lsn : sn.length ≤ 22 := by rw [hsn]; simp; omega
  have qa : ∀ W : World, (Op.stringOp .add ⟨#[32]⟩ ⟨ia.toArray⟩).run Tryd.prog W = .ok (.string ⟨sa.toArray⟩) W := add_lists (a := [32]) hsa (by omega)
  have qn : ∀ W : World, (Op.stringOp .add ⟨#[32]⟩ ⟨in_.toArray⟩).run Tryd.prog W = .ok (.string ⟨sn.toArray⟩) W := add_lists (a := [32]) hsn (by omega)
  obtain ⟨x0, hx0⟩ : ∃ x, x = [116, 105, 99, 107] ++ sa := ⟨_, rfl⟩
  obtain ⟨x1, hx1⟩ : ∃ x, x = x0 ++ sn := ⟨_, rfl⟩
  have lx0 : x0.length ≤ 26 := by rw [hx0, List.length_append]; (try simp only [List.length_cons, List.length_nil]); omega
  have qx0 : ∀ W : World, (Op.stringOp .add ⟨#[116, 105, 99, 107]⟩ ⟨sa.toArray⟩).run Tryd.prog W = .ok (.string ⟨x0.toArray⟩) W := add_lists (a := [116, 105, 99, 107]) (b := sa) hx0 (by omega)
  have lx1 : x1.length ≤ 48 := by rw [hx1, List.length_append]; (try simp only [List.length_cons, List.length_nil]); omega
  have qx1 : ∀ W : World, (Op.stringOp .add ⟨x0.toArray⟩ ⟨sn.toArray⟩).run Tryd.prog W = .ok (.string ⟨x1.toArray⟩) W := add_lists (a := x0) (b := sn) hx1 (by omega)
  have HL2 : Hid (rlineOf ⟨13, a, p, b, f, n, kp⟩ = x1) := Lib.hid (by rw [HL.out]; simp only [hx0, hx1, hsa, hsn, List.append_assoc])
  clear HL hx0 lx0 hx1 lx1
  have Hw1 := Lib.hid hw1
  clear lia lin lif lhp lhb ltk lpa lsa lsn hsa hsn hw1 hb hk ha hf hn hlp hlb hlk hcb
  unfold DvA
  go_enter Tryd.func52, Tryd.ntmps52
  go_upto_region 1 with (fail)
  rw [Hw1.out]
  refine wp_region_G (fun W => Below w.heap.size w W ∧ Blk W w.heap.size 72 #[.int .i64 13, .int .i64 a, .string ⟨p.toArray⟩, .slice Ab b.length cb, .int .i64 f, .int .i64 n, .slice Ak kp.length ck]) [] #[false, false, false, false, false, false, false, false, false, false] 10 (by kernel_rfl) (by kernel_rfl) (by kernel_rfl) ?_
  refine wpAnyG_take0 (i := 0) (oi := { dst := some 5, op := Go.Op.fieldAddr 72 (Go.Operand.tmp 1) 1, type := 0, pos := "ref.go:175", after := #[], guard := none }) (v := ?vg15_0) rfl (by kernel_rfl) (by kernel_rfl) (by kernel_rfl) (by kernel_rfl) (fun _ _ _ h => h) (fun _ => ⟨HB1.out.drew, HD1.out.drew⟩) (Or.inl ⟨by rfl, ?hg15_0⟩) ?_
  case hg15_0 => intro w _; go_simp; (try with_reducible rfl)
  try simp only [Act.put, List.setIfInBounds_toArray, List.set_cons_zero, List.set_cons_succ]
  refine wpAnyG_take (i := 1) (oi := { dst := some 6, op := Go.Op.load 3 (Go.Operand.tmp 5), type := 3, pos := "ref.go:175", after := #[{ on := 0, ground := Go.Ground.data }], guard := none }) (v := ?vg15_1) [1, 2, 3, 6, 7, 8, 9] rfl (by kernel_rfl) (by kernel_rfl) (by kernel_rfl) (by kernel_rfl) (by kernel_rfl) (fun _ _ _ h => h) (fun _ => ⟨HB1.out.drew, HD1.out.drew⟩) (Or.inl ⟨by rfl, ?hg15_1⟩) ?_
  case hg15_1 => intro w hSw; (try dsimp only at hSw); have c1 : _ = some (Value.int .i64 a) := hSw.2.cell 1; go_simp; (try with_reducible rfl)
  try simp only [Act.put, List.setIfInBounds_toArray, List.set_cons_zero, List.set_cons_succ]
  refine wpAnyG_take0 (i := 4) (oi := { dst := some 9, op := Go.Op.fieldAddr 72 (Go.Operand.tmp 1) 5, type := 0, pos := "ref.go:175", after := #[], guard := none }) (v := ?vg15_4) rfl (by kernel_rfl) (by kernel_rfl) (by kernel_rfl) (by kernel_rfl) (fun _ _ _ h => h) (fun _ => ⟨HB1.out.drew, HD1.out.drew⟩) (Or.inl ⟨by rfl, ?hg15_4⟩) ?_
  case hg15_4 => intro w _; go_simp; (try with_reducible rfl)
  try simp only [Act.put, List.setIfInBounds_toArray, List.set_cons_zero, List.set_cons_succ]
  refine wpAnyG_take (i := 5) (oi := { dst := some 10, op := Go.Op.load 3 (Go.Operand.tmp 9), type := 3, pos := "ref.go:175", after := #[{ on := 4, ground := Go.Ground.data }], guard := none }) (v := ?vg15_5) [5, 6, 7, 8, 9] rfl (by kernel_rfl) (by kernel_rfl) (by kernel_rfl) (by kernel_rfl) (by kernel_rfl) (fun _ _ _ h => h) (fun _ => ⟨HB1.out.drew, HD1.out.drew⟩) (Or.inl ⟨by rfl, ?hg15_5⟩) ?_
  case hg15_5 => intro w hSw; (try dsimp only at hSw); have c5 : _ = some (Value.int .i64 n) := hSw.2.cell 5; go_simp; (try with_reducible rfl)
  try simp only [Act.put, List.setIfInBounds_toArray, List.set_cons_zero, List.set_cons_succ]
  refine wpAnyG_step (i := 2) (oi := { dst := some 7, op := Go.Op.call { callee := Go.Callee.value (Go.Operand.func 53), args := #[Go.Operand.tmp 6], argTypes := #[3] }, type := 9, pos := "ref.go:175", after := #[{ on := 1, ground := Go.Ground.data }], guard := none }) rfl (by kernel_rfl) (by rfl) (fun K hK => ?_)
  go_simp
  go_at_call 53
  refine (HA _).out.mono ?_
  rintro e w2 ⟨rfl, hk2⟩
  have HS2 := Lib.hid (And.intro ((And.intro HB1.out.drew HD1.out.drew).1.trans (hk2.below.mono (And.intro HB1.out.drew HD1.out.drew).1.size)) ((And.intro HB1.out.drew HD1.out.drew).2.keep hk2 List.not_mem_nil))
  clear hk2
  dsimp only
  refine hK _ _ ?_ (fun hSg15_2 => ?_)
  · intro _; exact HS2.out
  replace hSg15_2 := hSg15_2 (by kernel_rfl)
  clear hK
  try simp only [Act.put, List.setIfInBounds_toArray, List.set_cons_zero, List.set_cons_succ]
  refine wpAnyG_take0 (i := 3) (oi := { dst := some 8, op := Go.Op.binOp Go.BinOp.add 9 (Go.Operand.const (Go.Value.string { data := #[32] })) (Go.Operand.tmp 7) 9, type := 9, pos := "ref.go:175", after := #[{ on := 2, ground := Go.Ground.data }], guard := none }) (v := ?vg15_3) rfl (by kernel_rfl) (by kernel_rfl) (by kernel_rfl) (by kernel_rfl) (fun _ _ _ h => h) (fun _ => hSg15_2) (Or.inl ⟨by rfl, ?hg15_3⟩) ?_
  case hg15_3 => intro w _; go_simp; (try with_reducible rfl)
  try simp only [Act.put, List.setIfInBounds_toArray, List.set_cons_zero, List.set_cons_succ]
  refine wpAnyG_step (i := 6) (oi := { dst := some 11, op := Go.Op.call { callee := Go.Callee.value (Go.Operand.func 53), args := #[Go.Operand.tmp 10], argTypes := #[3] }, type := 9, pos := "ref.go:175", after := #[{ on := 5, ground := Go.Ground.data }, { on := 2, ground := Go.Ground.chain }], guard := none }) rfl (by kernel_rfl) (by rfl) (fun K hK => ?_)
  go_simp
  go_at_call 53
  refine (HN _).out.mono ?_
  rintro e w3 ⟨rfl, hk3⟩
  have HS3 := Lib.hid (And.intro (HS2.out.1.trans (hk3.below.mono HS2.out.1.size)) (HS2.out.2.keep hk3 List.not_mem_nil))
  clear hk3
  dsimp only
  refine hK _ _ ?_ (fun hSg15_6 => ?_)
  · intro _; exact HS3.out
  replace hSg15_6 := hSg15_6 (by kernel_rfl)
  clear hK
  try simp only [Act.put, List.setIfInBounds_toArray, List.set_cons_zero, List.set_cons_succ]
  refine wpAnyG_take0 (i := 7) (oi := { dst := some 12, op := Go.Op.binOp Go.BinOp.add 9 (Go.Operand.const (Go.Value.string { data := #[32] })) (Go.Operand.tmp 11) 9, type := 9, pos := "ref.go:175", after := #[{ on := 6, ground := Go.Ground.data }, { on := 8, ground := Go.Ground.gcOnly Go.Departure.lateStores }], guard := none }) (v := ?vg15_7) rfl (by kernel_rfl) (by kernel_rfl) (by kernel_rfl) (by kernel_rfl) (fun _ _ _ h => h) (fun _ => hSg15_6) (Or.inl ⟨by rfl, ?hg15_7⟩) ?_
  case hg15_7 => intro w _; go_simp; (try with_reducible rfl)
  try simp only [Act.put, List.setIfInBounds_toArray, List.set_cons_zero, List.set_cons_succ]
  refine wpAnyG_take0 (i := 8) (oi := { dst := some 3, op := Go.Op.assign (Go.Operand.tmp 8), type := 9, pos := "ref.go:175", after := #[{ on := 3, ground := Go.Ground.data }, { on := 6, ground := Go.Ground.chain }, { on := 0, ground := Go.Ground.phase }, { on := 1, ground := Go.Ground.phase }, { on := 2, ground := Go.Ground.phase }, { on := 3, ground := Go.Ground.phase }, { on := 4, ground := Go.Ground.textOnly Go.Departure.lateStores }, { on := 5, ground := Go.Ground.textOnly Go.Departure.lateStores }, { on := 6, ground := Go.Ground.textOnly Go.Departure.lateStoresUnsure }, { on := 7, ground := Go.Ground.textOnly Go.Departure.lateStores }], guard := none }) (v := ?vg15_8) rfl (by kernel_rfl) (by kernel_rfl) (by kernel_rfl) (by kernel_rfl) (fun _ _ _ h => h) (fun _ => hSg15_6) (Or.inl ⟨by rfl, ?hg15_8⟩) ?_
  case hg15_8 => intro w _; go_simp; (try with_reducible rfl)
  try simp only [Act.put, List.setIfInBounds_toArray, List.set_cons_zero, List.set_cons_succ]
  refine wpAnyG_take0 (i := 9) (oi := { dst := some 4, op := Go.Op.assign (Go.Operand.tmp 12), type := 9, pos := "ref.go:175", after := #[{ on := 7, ground := Go.Ground.data }, { on := 8, ground := Go.Ground.chain }, { on := 0, ground := Go.Ground.phase }, { on := 1, ground := Go.Ground.phase }, { on := 2, ground := Go.Ground.phase }, { on := 3, ground := Go.Ground.phase }, { on := 4, ground := Go.Ground.phase }, { on := 5, ground := Go.Ground.phase }, { on := 6, ground := Go.Ground.phase }, { on := 7, ground := Go.Ground.phase }, { on := 8, ground := Go.Ground.phase }], guard := none }) (v := ?vg15_9) rfl (by kernel_rfl) (by kernel_rfl) (by kernel_rfl) (by kernel_rfl) (fun _ _ _ h => h) (fun _ => hSg15_6) (Or.inl ⟨by rfl, ?hg15_9⟩) ?_
  case hg15_9 => intro w _; go_simp; (try with_reducible rfl)
  try simp only [Act.put, List.setIfInBounds_toArray, List.set_cons_zero, List.set_cons_succ]
  refine wpAnyG_done (by kernel_rfl) ?_ _
  have c0 : _ = some (Value.int .i64 13) := HS3.out.2.cell 0
  have c1 : _ = some (Value.int .i64 a) := HS3.out.2.cell 1
  have c2 : _ = some (Value.string ⟨p.toArray⟩) := HS3.out.2.cell 2
  have c3 : _ = some (Value.slice Ab b.length cb) := HS3.out.2.cell 3
  have c4 : _ = some (Value.int .i64 f) := HS3.out.2.cell 4
  have c5 : _ = some (Value.int .i64 n) := HS3.out.2.cell 5
  have c6 : _ = some (Value.slice Ak kp.length ck) := HS3.out.2.cell 6
  go_wp2
  go_ret
  rw [HL2.out]
  exact ⟨rfl, HS3.out.1⟩
set_option maxRecDepth 200000 in
set_option maxHeartbeats 8000000 in
theorem rline_14 (a : Int) (p b : List UInt8) (f n : Int) (kp : List Bool) (Ab Ak : Option Addr) (cb ck : Nat) (w : World) (hb : RD encB w Ab b) (hk : RD encT w Ak kp) (hcb : b.length ≤ cb) (hlb : b.length ≤ 3000) (hlp : p.length ≤ 3000) (hlk : kp.length ≤ 4000000)
    (ha : -9223372036854775808 ≤ a ∧ a ≤ 9223372036854775807) (hf : -9223372036854775808 ≤ f ∧ f ≤ 9223372036854775807) (hn : -9223372036854775808 ≤ n ∧ n ≤ 9223372036854775807) :
    Calls Tryd.prog 52 #[.agg (DvA ⟨14, a, p, b, f, n, kp⟩ (.slice Ab b.length cb) (.slice Ak kp.length ck))] w fun e w' => e = .returned (.string ⟨(rlineOf ⟨14, a, p, b, f, n, kp⟩).toArray⟩) ∧ Below w.heap.size w w' := by
  obtain ⟨w1, hw1⟩ : ∃ w1, w.alloc (.cells #[.int .i64 14, .int .i64 a, .string ⟨p.toArray⟩, .slice Ab b.length cb, .int .i64 f, .int .i64 n, .slice Ak kp.length ck] 72) = w1 := ⟨_, rfl⟩
  have HD1 : Hid (Blk w1 w.heap.size 72 #[.int .i64 14, .int .i64 a, .string ⟨p.toArray⟩, .slice Ab b.length cb, .int .i64 f, .int .i64 n, .slice Ak kp.length ck]) := Lib.hid (by rw [← hw1]; exact Blk.new _ _ _)
  have HB1 : Hid (Below w.heap.size w w1) := Lib.hid (by rw [← hw1]; exact (Below.refl _ w).alloc (Nat.le_refl _) _)
  have HA : ∀ W, Hid (Calls Tryd.prog 53 #[.int .i64 a] W fun e w' => e = .returned (.string ⟨(Lib.itoa a).toArray⟩) ∧ Keep [] W w') := fun W => Lib.hid (decimal_any a ha W)
  have HN : ∀ W, Hid (Calls Tryd.prog 53 #[.int .i64 n] W fun e w' => e = .returned (.string ⟨(Lib.itoa n).toArray⟩) ∧ Keep [] W w') := fun W => Lib.hid (decimal_any n hn W)
  have HF : ∀ W, Hid (Calls Tryd.prog 53 #[.int .i64 f] W fun e w' => e = .returned (.string ⟨(Lib.itoa f).toArray⟩) ∧ Keep [] W w') := fun W => Lib.hid (decimal_any f hf W)
  have HP : ∀ W, Hid (Calls Tryd.prog 65 #[.agg #[.int .i64 14, .int .i64 a, .string ⟨p.toArray⟩, .slice Ab b.length cb, .int .i64 f, .int .i64 n, .slice Ak kp.length ck]] W fun e w' => e = .returned (.string ⟨(32 :: hexS p).toArray⟩) ∧ Below W.heap.size W w') := fun W => Lib.hid (rpath_any ⟨14, a, p, b, f, n, kp⟩ _ _ Ab Ak _ cb _ ck W hlp rfl rfl)
  have HX : ∀ W, Below w.heap.size w W → Hid (Calls Tryd.prog 10 #[.slice Ab b.length cb] W fun e w' => e = .returned (.string ⟨(hexS b).toArray⟩) ∧ Below W.heap.size W w') := fun W hW => Lib.hid (rhexg_any b Ab cb W (RD.below hb hW) hcb hlb)
  have HT : ∀ W, Below w.heap.size w W → Hid (Calls Tryd.prog 66 #[.slice Ak kp.length ck] W fun e w' => e = .returned (.string ⟨(truS kp).toArray⟩) ∧ Below W.heap.size W w') := fun W hW => Lib.hid (rtruths_any kp Ak ck W (RD.below hk hW) hlk)
  have HL : Hid (rlineOf ⟨14, a, p, b, f, n, kp⟩ = [99, 114, 97, 115, 104] ++ ([32] ++ Lib.itoa a) ++ [32] ++ Lib.itoa f ++ ([32] ++ Lib.itoa n) ++ [32] ++ truS kp) := Lib.hid (by simp [rlineOf, lineOf, nameOf, fieldsOf, wordOf, Lib.join_cons, Lib.join_one, Lib.joinTail])
  have lia := itoa_len a ha
  have lin := itoa_len n hn
  have lif := itoa_len f hf
  have lhp := hexS_len p (by omega)
  have lhb : (hexS b).length ≤ 72001 := by have := hexS_len b (by omega); omega
  have ltk : (truS kp).length ≤ 4000001 := by have := truS_len kp; omega
  have lpa : (32 :: hexS p).length ≤ 72002 := by simp; omega
  generalize Lib.itoa a = ia at *
  generalize Lib.itoa n = in_ at *
  generalize Lib.itoa f = if_ at *
  generalize 32 :: hexS p = pa at *
  generalize hexS b = hb_ at *
  generalize truS kp = tk at *
  obtain ⟨sa, hsa⟩ : ∃ x, x = [32] ++ ia := ⟨_, rfl⟩
  obtain ⟨sn, hsn⟩ : ∃ x, x = [32] ++ in_ := ⟨_, rfl⟩
  have lsa : sa.length ≤ 22 := by rw [hsa]; simp; omega
  have lsn : sn.length ≤ 22 := by rw [hsn]; simp; omega
  have qa : ∀ W : World, (Op.stringOp .add ⟨#[32]⟩ ⟨ia.toArray⟩).run Tryd.prog W = .ok (.string ⟨sa.toArray⟩) W := add_lists (a := [32]) hsa (by omega)
  have qn : ∀ W : World, (Op.stringOp .add ⟨#[32]⟩ ⟨in_.toArray⟩).run Tryd.prog W = .ok (.string ⟨sn.toArray⟩) W := add_lists (a := [32]) hsn (by omega)
  obtain ⟨x0, hx0⟩ : ∃ x, x = [99, 114, 97, 115, 104] ++ sa := ⟨_, rfl⟩
  obtain ⟨x1, hx1⟩ : ∃ x, x = x0 ++ [32] := ⟨_, rfl⟩
  obtain ⟨x2, hx2⟩ : ∃ x, x = x1 ++ if_ := ⟨_, rfl⟩
  obtain ⟨x3, hx3⟩ : ∃ x, x = x2 ++ sn := ⟨_, rfl⟩
  obtain ⟨x4, hx4⟩ : ∃ x, x = x3 ++ [32] := ⟨_, rfl⟩
  obtain ⟨x5, hx5⟩ : ∃ x, x = x4 ++ tk := ⟨_, rfl⟩
  have lx0 : x0.length ≤ 27 := by rw [hx0, List.length_append]; (try simp only [List.length_cons, List.length_nil]); omega
  have qx0 : ∀ W : World, (Op.stringOp .add ⟨#[99, 114, 97, 115, 104]⟩ ⟨sa.toArray⟩).run Tryd.prog W = .ok (.string ⟨x0.toArray⟩) W := add_lists (a := [99, 114, 97, 115, 104]) (b := sa) hx0 (by omega)
  have lx1 : x1.length ≤ 28 := by rw [hx1, List.length_append]; (try simp only [List.length_cons, List.length_nil]); omega
  have qx1 : ∀ W : World, (Op.stringOp .add ⟨x0.toArray⟩ ⟨#[32]⟩).run Tryd.prog W = .ok (.string ⟨x1.toArray⟩) W := add_lists (a := x0) (b := [32]) hx1 (by omega)
  have lx2 : x2.length ≤ 49 := by rw [hx2, List.length_append]; (try simp only [List.length_cons, List.length_nil]); omega
  have qx2 : ∀ W : World, (Op.stringOp .add ⟨x1.toArray⟩ ⟨if_.toArray⟩).run Tryd.prog W = .ok (.string ⟨x2.toArray⟩) W := add_lists (a := x1) (b := if_) hx2 (by omega)
  have lx3 : x3.length ≤ 71 := by rw [hx3, List.length_append]; (try simp only [List.length_cons, List.length_nil]); omega
  have qx3 : ∀ W : World, (Op.stringOp .add ⟨x2.toArray⟩ ⟨sn.toArray⟩).run Tryd.prog W = .ok (.string ⟨x3.toArray⟩) W := add_lists (a := x2) (b := sn) hx3 (by omega)
  have lx4 : x4.length ≤ 72 := by rw [hx4, List.length_append]; (try simp only [List.length_cons, List.length_nil]); omega
  have qx4 : ∀ W : World, (Op.stringOp .add ⟨x3.toArray⟩ ⟨#[32]⟩).run Tryd.prog W = .ok (.string ⟨x4.toArray⟩) W := add_lists (a := x3) (b := [32]) hx4 (by omega)
  have lx5 : x5.length ≤ 4000073 := by rw [hx5, List.length_append]; (try simp only [List.length_cons, List.length_nil]); omega
  have qx5 : ∀ W : World, (Op.stringOp .add ⟨x4.toArray⟩ ⟨tk.toArray⟩).run Tryd.prog W = .ok (.string ⟨x5.toArray⟩) W := add_lists (a := x4) (b := tk) hx5 (by omega)
  have HL2 : Hid (rlineOf ⟨14, a, p, b, f, n, kp⟩ = x5) := Lib.hid (by rw [HL.out]; simp only [hx0, hx1, hx2, hx3, hx4, hx5, hsa, hsn, List.append_assoc])
  clear HL hx0 lx0 hx1 lx1 hx2 lx2 hx3 lx3 hx4 lx4 hx5 lx5
  have Hw1 := Lib.hid hw1
  clear lia lin lif lhp lhb ltk lpa lsa lsn hsa hsn hw1 hb hk ha hf hn hlp hlb hlk hcb
  unfold DvA
  go_enter Tryd.func52, Tryd.ntmps52
  go_upto_region 1 with (fail)
  rw [Hw1.out]
  refine wp_region_G (fun W => Below w.heap.size w W ∧ Blk W w.heap.size 72 #[.int .i64 14, .int .i64 a, .string ⟨p.toArray⟩, .slice Ab b.length cb, .int .i64 f, .int .i64 n, .slice Ak kp.length ck]) [] #[false, false, false, false, false, false, false, false, false, false] 10 (by kernel_rfl) (by kernel_rfl) (by kernel_rfl) ?_
  refine wpAnyG_take0 (i := 0) (oi := { dst := some 5, op := Go.Op.fieldAddr 72 (Go.Operand.tmp 1) 1, type := 0, pos := "ref.go:175", after := #[], guard := none }) (v := ?vg16_0) rfl (by kernel_rfl) (by kernel_rfl) (by kernel_rfl) (by kernel_rfl) (fun _ _ _ h => h) (fun _ => ⟨HB1.out.drew, HD1.out.drew⟩) (Or.inl ⟨by rfl, ?hg16_0⟩) ?_
  case hg16_0 => intro w _; go_simp; (try with_reducible rfl)
  try simp only [Act.put, List.setIfInBounds_toArray, List.set_cons_zero, List.set_cons_succ]
  refine wpAnyG_take (i := 1) (oi := { dst := some 6, op := Go.Op.load 3 (Go.Operand.tmp 5), type := 3, pos := "ref.go:175", after := #[{ on := 0, ground := Go.Ground.data }], guard := none }) (v := ?vg16_1) [1, 2, 3, 6, 7, 8, 9] rfl (by kernel_rfl) (by kernel_rfl) (by kernel_rfl) (by kernel_rfl) (by kernel_rfl) (fun _ _ _ h => h) (fun _ => ⟨HB1.out.drew, HD1.out.drew⟩) (Or.inl ⟨by rfl, ?hg16_1⟩) ?_
  case hg16_1 => intro w hSw; (try dsimp only at hSw); have c1 : _ = some (Value.int .i64 a) := hSw.2.cell 1; go_simp; (try with_reducible rfl)
  try simp only [Act.put, List.setIfInBounds_toArray, List.set_cons_zero, List.set_cons_succ]
  refine wpAnyG_take0 (i := 4) (oi := { dst := some 9, op := Go.Op.fieldAddr 72 (Go.Operand.tmp 1) 5, type := 0, pos := "ref.go:175", after := #[], guard := none }) (v := ?vg16_4) rfl (by kernel_rfl) (by kernel_rfl) (by kernel_rfl) (by kernel_rfl) (fun _ _ _ h => h) (fun _ => ⟨HB1.out.drew, HD1.out.drew⟩) (Or.inl ⟨by rfl, ?hg16_4⟩) ?_
  case hg16_4 => intro w _; go_simp; (try with_reducible rfl)
  try simp only [Act.put, List.setIfInBounds_toArray, List.set_cons_zero, List.set_cons_succ]
  refine wpAnyG_take (i := 5) (oi := { dst := some 10, op := Go.Op.load 3 (Go.Operand.tmp 9), type := 3, pos := "ref.go:175", after := #[{ on := 4, ground := Go.Ground.data }], guard := none }) (v := ?vg16_5) [5, 6, 7, 8, 9] rfl (by kernel_rfl) (by kernel_rfl) (by kernel_rfl) (by kernel_rfl) (by kernel_rfl) (fun _ _ _ h => h) (fun _ => ⟨HB1.out.drew, HD1.out.drew⟩) (Or.inl ⟨by rfl, ?hg16_5⟩) ?_
  case hg16_5 => intro w hSw; (try dsimp only at hSw); have c5 : _ = some (Value.int .i64 n) := hSw.2.cell 5; go_simp; (try with_reducible rfl)
  try simp only [Act.put, List.setIfInBounds_toArray, List.set_cons_zero, List.set_cons_succ]
  refine wpAnyG_step (i := 2) (oi := { dst := some 7, op := Go.Op.call { callee := Go.Callee.value (Go.Operand.func 53), args := #[Go.Operand.tmp 6], argTypes := #[3] }, type := 9, pos := "ref.go:175", after := #[{ on := 1, ground := Go.Ground.data }], guard := none }) rfl (by kernel_rfl) (by rfl) (fun K hK => ?_)
  go_simp
  go_at_call 53
  refine (HA _).out.mono ?_
  rintro e w2 ⟨rfl, hk2⟩
  have HS2 := Lib.hid (And.intro ((And.intro HB1.out.drew HD1.out.drew).1.trans (hk2.below.mono (And.intro HB1.out.drew HD1.out.drew).1.size)) ((And.intro HB1.out.drew HD1.out.drew).2.keep hk2 List.not_mem_nil))
  clear hk2
  dsimp only
  refine hK _ _ ?_ (fun hSg16_2 => ?_)
  · intro _; exact HS2.out
  replace hSg16_2 := hSg16_2 (by kernel_rfl)
  clear hK
  try simp only [Act.put, List.setIfInBounds_toArray, List.set_cons_zero, List.set_cons_succ]
  refine wpAnyG_take0 (i := 3) (oi := { dst := some 8, op := Go.Op.binOp Go.BinOp.add 9 (Go.Operand.const (Go.Value.string { data := #[32] })) (Go.Operand.tmp 7) 9, type := 9, pos := "ref.go:175", after := #[{ on := 2, ground := Go.Ground.data }], guard := none }) (v := ?vg16_3) rfl (by kernel_rfl) (by kernel_rfl) (by kernel_rfl) (by kernel_rfl) (fun _ _ _ h => h) (fun _ => hSg16_2) (Or.inl ⟨by rfl, ?hg16_3⟩) ?_
  case hg16_3 => intro w _; go_simp; (try with_reducible rfl)
  try simp only [Act.put, List.setIfInBounds_toArray, List.set_cons_zero, List.set_cons_succ]
  refine wpAnyG_step (i := 6) (oi := { dst := some 11, op := Go.Op.call { callee := Go.Callee.value (Go.Operand.func 53), args := #[Go.Operand.tmp 10], argTypes := #[3] }, type := 9, pos := "ref.go:175", after := #[{ on := 5, ground := Go.Ground.data }, { on := 2, ground := Go.Ground.chain }], guard := none }) rfl (by kernel_rfl) (by rfl) (fun K hK => ?_)
  go_simp
  go_at_call 53
  refine (HN _).out.mono ?_
  rintro e w3 ⟨rfl, hk3⟩
  have HS3 := Lib.hid (And.intro (HS2.out.1.trans (hk3.below.mono HS2.out.1.size)) (HS2.out.2.keep hk3 List.not_mem_nil))
  clear hk3
  dsimp only
  refine hK _ _ ?_ (fun hSg16_6 => ?_)
  · intro _; exact HS3.out
  replace hSg16_6 := hSg16_6 (by kernel_rfl)
  clear hK
  try simp only [Act.put, List.setIfInBounds_toArray, List.set_cons_zero, List.set_cons_succ]
  refine wpAnyG_take0 (i := 7) (oi := { dst := some 12, op := Go.Op.binOp Go.BinOp.add 9 (Go.Operand.const (Go.Value.string { data := #[32] })) (Go.Operand.tmp 11) 9, type := 9, pos := "ref.go:175", after := #[{ on := 6, ground := Go.Ground.data }, { on := 8, ground := Go.Ground.gcOnly Go.Departure.lateStores }], guard := none }) (v := ?vg16_7) rfl (by kernel_rfl) (by kernel_rfl) (by kernel_rfl) (by kernel_rfl) (fun _ _ _ h => h) (fun _ => hSg16_6) (Or.inl ⟨by rfl, ?hg16_7⟩) ?_
  case hg16_7 => intro w _; go_simp; (try with_reducible rfl)
  try simp only [Act.put, List.setIfInBounds_toArray, List.set_cons_zero, List.set_cons_succ]
  refine wpAnyG_take0 (i := 8) (oi := { dst := some 3, op := Go.Op.assign (Go.Operand.tmp 8), type := 9, pos := "ref.go:175", after := #[{ on := 3, ground := Go.Ground.data }, { on := 6, ground := Go.Ground.chain }, { on := 0, ground := Go.Ground.phase }, { on := 1, ground := Go.Ground.phase }, { on := 2, ground := Go.Ground.phase }, { on := 3, ground := Go.Ground.phase }, { on := 4, ground := Go.Ground.textOnly Go.Departure.lateStores }, { on := 5, ground := Go.Ground.textOnly Go.Departure.lateStores }, { on := 6, ground := Go.Ground.textOnly Go.Departure.lateStoresUnsure }, { on := 7, ground := Go.Ground.textOnly Go.Departure.lateStores }], guard := none }) (v := ?vg16_8) rfl (by kernel_rfl) (by kernel_rfl) (by kernel_rfl) (by kernel_rfl) (fun _ _ _ h => h) (fun _ => hSg16_6) (Or.inl ⟨by rfl, ?hg16_8⟩) ?_
  case hg16_8 => intro w _; go_simp; (try with_reducible rfl)
  try simp only [Act.put, List.setIfInBounds_toArray, List.set_cons_zero, List.set_cons_succ]
  refine wpAnyG_take0 (i := 9) (oi := { dst := some 4, op := Go.Op.assign (Go.Operand.tmp 12), type := 9, pos := "ref.go:175", after := #[{ on := 7, ground := Go.Ground.data }, { on := 8, ground := Go.Ground.chain }, { on := 0, ground := Go.Ground.phase }, { on := 1, ground := Go.Ground.phase }, { on := 2, ground := Go.Ground.phase }, { on := 3, ground := Go.Ground.phase }, { on := 4, ground := Go.Ground.phase }, { on := 5, ground := Go.Ground.phase }, { on := 6, ground := Go.Ground.phase }, { on := 7, ground := Go.Ground.phase }, { on := 8, ground := Go.Ground.phase }], guard := none }) (v := ?vg16_9) rfl (by kernel_rfl) (by kernel_rfl) (by kernel_rfl) (by kernel_rfl) (fun _ _ _ h => h) (fun _ => hSg16_6) (Or.inl ⟨by rfl, ?hg16_9⟩) ?_
  case hg16_9 => intro w _; go_simp; (try with_reducible rfl)
  try simp only [Act.put, List.setIfInBounds_toArray, List.set_cons_zero, List.set_cons_succ]
  refine wpAnyG_done (by kernel_rfl) ?_ _
  have c0 : _ = some (Value.int .i64 14) := HS3.out.2.cell 0
  have c1 : _ = some (Value.int .i64 a) := HS3.out.2.cell 1
  have c2 : _ = some (Value.string ⟨p.toArray⟩) := HS3.out.2.cell 2
  have c3 : _ = some (Value.slice Ab b.length cb) := HS3.out.2.cell 3
  have c4 : _ = some (Value.int .i64 f) := HS3.out.2.cell 4
  have c5 : _ = some (Value.int .i64 n) := HS3.out.2.cell 5
  have c6 : _ = some (Value.slice Ak kp.length ck) := HS3.out.2.cell 6
  go_upto_region 30 with (fail)
  clear c0 c1 c2 c3 c4 c5 c6
  refine wp_region_G (fun W => Below w.heap.size w W ∧ Blk W w.heap.size 72 #[.int .i64 14, .int .i64 a, .string ⟨p.toArray⟩, .slice Ab b.length cb, .int .i64 f, .int .i64 n, .slice Ak kp.length ck]) [] #[false, false, false, false, false, false, false, false, false, false, false, false, false, false, false] 15 (by kernel_rfl) (by kernel_rfl) (by kernel_rfl) ?_
  refine wpAnyG_take0 (i := 0) (oi := { dst := some 97, op := Go.Op.move (Go.Operand.tmp 3), type := 9, pos := "ref.go:204", after := #[], guard := none }) (v := ?vg17_0) rfl (by kernel_rfl) (by kernel_rfl) (by kernel_rfl) (by kernel_rfl) (fun _ _ _ h => h) (fun _ => ⟨HS3.out.1.drew, HS3.out.2.drew⟩) (Or.inl ⟨by rfl, ?hg17_0⟩) ?_
  case hg17_0 => intro w _; go_simp; (try with_reducible rfl)
  try simp only [Act.put, List.setIfInBounds_toArray, List.set_cons_zero, List.set_cons_succ]
  refine wpAnyG_take0 (i := 1) (oi := { dst := some 98, op := Go.Op.binOp Go.BinOp.add 9 (Go.Operand.const (Go.Value.string { data := #[99, 114, 97, 115, 104] })) (Go.Operand.tmp 97) 9, type := 9, pos := "ref.go:204", after := #[{ on := 0, ground := Go.Ground.data }], guard := none }) (v := ?vg17_1) rfl (by kernel_rfl) (by kernel_rfl) (by kernel_rfl) (by kernel_rfl) (fun _ _ _ h => h) (fun _ => ⟨HS3.out.1.drew, HS3.out.2.drew⟩) (Or.inl ⟨by rfl, ?hg17_1⟩) ?_
  case hg17_1 => intro w _; go_simp; (try with_reducible rfl)
  try simp only [Act.put, List.setIfInBounds_toArray, List.set_cons_zero, List.set_cons_succ]
  refine wpAnyG_take0 (i := 2) (oi := { dst := some 99, op := Go.Op.binOp Go.BinOp.add 9 (Go.Operand.tmp 98) (Go.Operand.const (Go.Value.string { data := #[32] })) 9, type := 9, pos := "ref.go:204", after := #[{ on := 1, ground := Go.Ground.data }], guard := none }) (v := ?vg17_2) rfl (by kernel_rfl) (by kernel_rfl) (by kernel_rfl) (by kernel_rfl) (fun _ _ _ h => h) (fun _ => ⟨HS3.out.1.drew, HS3.out.2.drew⟩) (Or.inl ⟨by rfl, ?hg17_2⟩) ?_
  case hg17_2 => intro w _; go_simp; (try with_reducible rfl)
  try simp only [Act.put, List.setIfInBounds_toArray, List.set_cons_zero, List.set_cons_succ]
  refine wpAnyG_take0 (i := 3) (oi := { dst := some 100, op := Go.Op.fieldAddr 72 (Go.Operand.tmp 1) 4, type := 0, pos := "ref.go:204", after := #[], guard := none }) (v := ?vg17_3) rfl (by kernel_rfl) (by kernel_rfl) (by kernel_rfl) (by kernel_rfl) (fun _ _ _ h => h) (fun _ => ⟨HS3.out.1.drew, HS3.out.2.drew⟩) (Or.inl ⟨by rfl, ?hg17_3⟩) ?_
  case hg17_3 => intro w _; go_simp; (try with_reducible rfl)
  try simp only [Act.put, List.setIfInBounds_toArray, List.set_cons_zero, List.set_cons_succ]
  refine wpAnyG_take (i := 4) (oi := { dst := some 101, op := Go.Op.load 3 (Go.Operand.tmp 100), type := 3, pos := "ref.go:204", after := #[{ on := 3, ground := Go.Ground.data }], guard := none }) (v := ?vg17_4) [4, 5, 6, 8, 9, 12, 13, 14] rfl (by kernel_rfl) (by kernel_rfl) (by kernel_rfl) (by kernel_rfl) (by kernel_rfl) (fun _ _ _ h => h) (fun _ => ⟨HS3.out.1.drew, HS3.out.2.drew⟩) (Or.inl ⟨by rfl, ?hg17_4⟩) ?_
  case hg17_4 => intro w hSw; (try dsimp only at hSw); have c4 : _ = some (Value.int .i64 f) := hSw.2.cell 4; go_simp; (try with_reducible rfl)
  try simp only [Act.put, List.setIfInBounds_toArray, List.set_cons_zero, List.set_cons_succ]
  refine wpAnyG_take0 (i := 7) (oi := { dst := some 104, op := Go.Op.move (Go.Operand.tmp 4), type := 9, pos := "ref.go:204", after := #[], guard := none }) (v := ?vg17_7) rfl (by kernel_rfl) (by kernel_rfl) (by kernel_rfl) (by kernel_rfl) (fun _ _ _ h => h) (fun _ => ⟨HS3.out.1.drew, HS3.out.2.drew⟩) (Or.inl ⟨by rfl, ?hg17_7⟩) ?_
  case hg17_7 => intro w _; go_simp; (try with_reducible rfl)
  try simp only [Act.put, List.setIfInBounds_toArray, List.set_cons_zero, List.set_cons_succ]
  refine wpAnyG_take0 (i := 10) (oi := { dst := some 107, op := Go.Op.fieldAddr 72 (Go.Operand.tmp 1) 6, type := 0, pos := "ref.go:204", after := #[], guard := none }) (v := ?vg17_10) rfl (by kernel_rfl) (by kernel_rfl) (by kernel_rfl) (by kernel_rfl) (fun _ _ _ h => h) (fun _ => ⟨HS3.out.1.drew, HS3.out.2.drew⟩) (Or.inl ⟨by rfl, ?hg17_10⟩) ?_
  case hg17_10 => intro w _; go_simp; (try with_reducible rfl)
  try simp only [Act.put, List.setIfInBounds_toArray, List.set_cons_zero, List.set_cons_succ]
  refine wpAnyG_take (i := 11) (oi := { dst := some 108, op := Go.Op.load 70 (Go.Operand.tmp 107), type := 70, pos := "ref.go:204", after := #[{ on := 10, ground := Go.Ground.data }], guard := none }) (v := ?vg17_11) [11, 12, 13, 14] rfl (by kernel_rfl) (by kernel_rfl) (by kernel_rfl) (by kernel_rfl) (by kernel_rfl) (fun _ _ _ h => h) (fun _ => ⟨HS3.out.1.drew, HS3.out.2.drew⟩) (Or.inl ⟨by rfl, ?hg17_11⟩) ?_
  case hg17_11 => intro w hSw; (try dsimp only at hSw); have c6 : _ = some (Value.slice Ak kp.length ck) := hSw.2.cell 6; go_simp; (try with_reducible rfl)
  try simp only [Act.put, List.setIfInBounds_toArray, List.set_cons_zero, List.set_cons_succ]
  refine wpAnyG_step (i := 5) (oi := { dst := some 102, op := Go.Op.call { callee := Go.Callee.value (Go.Operand.func 53), args := #[Go.Operand.tmp 101], argTypes := #[3] }, type := 9, pos := "ref.go:204", after := #[{ on := 4, ground := Go.Ground.data }], guard := none }) rfl (by kernel_rfl) (by rfl) (fun K hK => ?_)
  go_simp
  go_at_call 53
  refine (HF _).out.mono ?_
  rintro e w4 ⟨rfl, hk4⟩
  have HS4 := Lib.hid (And.intro ((And.intro HS3.out.1.drew HS3.out.2.drew).1.trans (hk4.below.mono (And.intro HS3.out.1.drew HS3.out.2.drew).1.size)) ((And.intro HS3.out.1.drew HS3.out.2.drew).2.keep hk4 List.not_mem_nil))
  clear hk4
  dsimp only
  refine hK _ _ ?_ (fun hSg17_5 => ?_)
  · intro _; exact HS4.out
  replace hSg17_5 := hSg17_5 (by kernel_rfl)
  clear hK
  try simp only [Act.put, List.setIfInBounds_toArray, List.set_cons_zero, List.set_cons_succ]
  refine wpAnyG_take0 (i := 6) (oi := { dst := some 103, op := Go.Op.binOp Go.BinOp.add 9 (Go.Operand.tmp 99) (Go.Operand.tmp 102) 9, type := 9, pos := "ref.go:204", after := #[{ on := 2, ground := Go.Ground.data }, { on := 5, ground := Go.Ground.data }], guard := none }) (v := ?vg17_6) rfl (by kernel_rfl) (by kernel_rfl) (by kernel_rfl) (by kernel_rfl) (fun _ _ _ h => h) (fun _ => hSg17_5) (Or.inl ⟨by rfl, ?hg17_6⟩) ?_
  case hg17_6 => intro w _; go_simp; (try with_reducible rfl)
  try simp only [Act.put, List.setIfInBounds_toArray, List.set_cons_zero, List.set_cons_succ]
  refine wpAnyG_take0 (i := 8) (oi := { dst := some 105, op := Go.Op.binOp Go.BinOp.add 9 (Go.Operand.tmp 103) (Go.Operand.tmp 104) 9, type := 9, pos := "ref.go:204", after := #[{ on := 6, ground := Go.Ground.data }, { on := 7, ground := Go.Ground.data }], guard := none }) (v := ?vg17_8) rfl (by kernel_rfl) (by kernel_rfl) (by kernel_rfl) (by kernel_rfl) (fun _ _ _ h => h) (fun _ => hSg17_5) (Or.inl ⟨by rfl, ?hg17_8⟩) ?_
  case hg17_8 => intro w _; go_simp; (try with_reducible rfl)
  try simp only [Act.put, List.setIfInBounds_toArray, List.set_cons_zero, List.set_cons_succ]
  refine wpAnyG_take0 (i := 9) (oi := { dst := some 106, op := Go.Op.binOp Go.BinOp.add 9 (Go.Operand.tmp 105) (Go.Operand.const (Go.Value.string { data := #[32] })) 9, type := 9, pos := "ref.go:204", after := #[{ on := 8, ground := Go.Ground.data }], guard := none }) (v := ?vg17_9) rfl (by kernel_rfl) (by kernel_rfl) (by kernel_rfl) (by kernel_rfl) (fun _ _ _ h => h) (fun _ => hSg17_5) (Or.inl ⟨by rfl, ?hg17_9⟩) ?_
  case hg17_9 => intro w _; go_simp; (try with_reducible rfl)
  try simp only [Act.put, List.setIfInBounds_toArray, List.set_cons_zero, List.set_cons_succ]
  refine wpAnyG_step (i := 12) (oi := { dst := some 109, op := Go.Op.call { callee := Go.Callee.value (Go.Operand.func 66), args := #[Go.Operand.tmp 108], argTypes := #[70] }, type := 9, pos := "ref.go:204", after := #[{ on := 11, ground := Go.Ground.data }, { on := 5, ground := Go.Ground.chain }], guard := none }) rfl (by kernel_rfl) (by rfl) (fun K hK => ?_)
  go_simp
  go_at_call 66
  refine (HT _ HS4.out.1).out.mono ?_
  rintro e w5 ⟨rfl, hk5⟩
  have HS5 := Lib.hid (And.intro (HS4.out.1.trans (hk5.mono HS4.out.1.size)) (HS4.out.2.keep (Keep.of_below (F := []) hk5) List.not_mem_nil))
  clear hk5
  dsimp only
  refine hK _ _ ?_ (fun hSg17_12 => ?_)
  · intro _; exact HS5.out
  replace hSg17_12 := hSg17_12 (by kernel_rfl)
  clear hK
  try simp only [Act.put, List.setIfInBounds_toArray, List.set_cons_zero, List.set_cons_succ]
  refine wpAnyG_take0 (i := 13) (oi := { dst := some 110, op := Go.Op.binOp Go.BinOp.add 9 (Go.Operand.tmp 106) (Go.Operand.tmp 109) 9, type := 9, pos := "ref.go:204", after := #[{ on := 9, ground := Go.Ground.data }, { on := 12, ground := Go.Ground.data }], guard := none }) (v := ?vg17_13) rfl (by kernel_rfl) (by kernel_rfl) (by kernel_rfl) (by kernel_rfl) (fun _ _ _ h => h) (fun _ => hSg17_12) (Or.inl ⟨by rfl, ?hg17_13⟩) ?_
  case hg17_13 => intro w _; go_simp; (try with_reducible rfl)
  try simp only [Act.put, List.setIfInBounds_toArray, List.set_cons_zero, List.set_cons_succ]
  refine wpAnyG_take0 (i := 14) (oi := { dst := some 2, op := Go.Op.assign (Go.Operand.tmp 110), type := 9, pos := "ref.go:204", after := #[{ on := 13, ground := Go.Ground.data }, { on := 12, ground := Go.Ground.chain }, { on := 0, ground := Go.Ground.phase }, { on := 1, ground := Go.Ground.phase }, { on := 2, ground := Go.Ground.phase }, { on := 3, ground := Go.Ground.phase }, { on := 4, ground := Go.Ground.phase }, { on := 5, ground := Go.Ground.phase }, { on := 6, ground := Go.Ground.phase }, { on := 7, ground := Go.Ground.phase }, { on := 8, ground := Go.Ground.phase }, { on := 9, ground := Go.Ground.phase }, { on := 10, ground := Go.Ground.phase }, { on := 11, ground := Go.Ground.phase }, { on := 12, ground := Go.Ground.phase }, { on := 13, ground := Go.Ground.phase }], guard := none }) (v := ?vg17_14) rfl (by kernel_rfl) (by kernel_rfl) (by kernel_rfl) (by kernel_rfl) (fun _ _ _ h => h) (fun _ => hSg17_12) (Or.inl ⟨by rfl, ?hg17_14⟩) ?_
  case hg17_14 => intro w _; go_simp; (try with_reducible rfl)
  try simp only [Act.put, List.setIfInBounds_toArray, List.set_cons_zero, List.set_cons_succ]
  refine wpAnyG_done (by kernel_rfl) ?_ _
  go_wp2
  go_ret
  rw [HL2.out]
  exact ⟨rfl, HS5.out.1⟩
set_option maxRecDepth 200000 in
set_option maxHeartbeats 8000000 in
theorem rline_15 (a : Int) (p b : List UInt8) (f n : Int) (kp : List Bool) (Ab Ak : Option Addr) (cb ck : Nat) (w : World) (hb : RD encB w Ab b) (hk : RD encT w Ak kp) (hcb : b.length ≤ cb) (hlb : b.length ≤ 3000) (hlp : p.length ≤ 3000) (hlk : kp.length ≤ 4000000)
    (ha : -9223372036854775808 ≤ a ∧ a ≤ 9223372036854775807) (hf : -9223372036854775808 ≤ f ∧ f ≤ 9223372036854775807) (hn : -9223372036854775808 ≤ n ∧ n ≤ 9223372036854775807) :
    Calls Tryd.prog 52 #[.agg (DvA ⟨15, a, p, b, f, n, kp⟩ (.slice Ab b.length cb) (.slice Ak kp.length ck))] w fun e w' => e = .returned (.string ⟨(rlineOf ⟨15, a, p, b, f, n, kp⟩).toArray⟩) ∧ Below w.heap.size w w' := by
  obtain ⟨w1, hw1⟩ : ∃ w1, w.alloc (.cells #[.int .i64 15, .int .i64 a, .string ⟨p.toArray⟩, .slice Ab b.length cb, .int .i64 f, .int .i64 n, .slice Ak kp.length ck] 72) = w1 := ⟨_, rfl⟩
  have HD1 : Hid (Blk w1 w.heap.size 72 #[.int .i64 15, .int .i64 a, .string ⟨p.toArray⟩, .slice Ab b.length cb, .int .i64 f, .int .i64 n, .slice Ak kp.length ck]) := Lib.hid (by rw [← hw1]; exact Blk.new _ _ _)
  have HB1 : Hid (Below w.heap.size w w1) := Lib.hid (by rw [← hw1]; exact (Below.refl _ w).alloc (Nat.le_refl _) _)
  have HA : ∀ W, Hid (Calls Tryd.prog 53 #[.int .i64 a] W fun e w' => e = .returned (.string ⟨(Lib.itoa a).toArray⟩) ∧ Keep [] W w') := fun W => Lib.hid (decimal_any a ha W)
  have HN : ∀ W, Hid (Calls Tryd.prog 53 #[.int .i64 n] W fun e w' => e = .returned (.string ⟨(Lib.itoa n).toArray⟩) ∧ Keep [] W w') := fun W => Lib.hid (decimal_any n hn W)
  have HF : ∀ W, Hid (Calls Tryd.prog 53 #[.int .i64 f] W fun e w' => e = .returned (.string ⟨(Lib.itoa f).toArray⟩) ∧ Keep [] W w') := fun W => Lib.hid (decimal_any f hf W)
  have HP : ∀ W, Hid (Calls Tryd.prog 65 #[.agg #[.int .i64 15, .int .i64 a, .string ⟨p.toArray⟩, .slice Ab b.length cb, .int .i64 f, .int .i64 n, .slice Ak kp.length ck]] W fun e w' => e = .returned (.string ⟨(32 :: hexS p).toArray⟩) ∧ Below W.heap.size W w') := fun W => Lib.hid (rpath_any ⟨15, a, p, b, f, n, kp⟩ _ _ Ab Ak _ cb _ ck W hlp rfl rfl)
  have HX : ∀ W, Below w.heap.size w W → Hid (Calls Tryd.prog 10 #[.slice Ab b.length cb] W fun e w' => e = .returned (.string ⟨(hexS b).toArray⟩) ∧ Below W.heap.size W w') := fun W hW => Lib.hid (rhexg_any b Ab cb W (RD.below hb hW) hcb hlb)
  have HT : ∀ W, Below w.heap.size w W → Hid (Calls Tryd.prog 66 #[.slice Ak kp.length ck] W fun e w' => e = .returned (.string ⟨(truS kp).toArray⟩) ∧ Below W.heap.size W w') := fun W hW => Lib.hid (rtruths_any kp Ak ck W (RD.below hk hW) hlk)
  have HL : Hid (rlineOf ⟨15, a, p, b, f, n, kp⟩ = [114, 111, 116] ++ ([32] ++ Lib.itoa a) ++ [32] ++ Lib.itoa f ++ ([32] ++ Lib.itoa n) ++ [32] ++ hexS b) := Lib.hid (by simp [rlineOf, lineOf, nameOf, fieldsOf, wordOf, Lib.join_cons, Lib.join_one, Lib.joinTail])
  have lia := itoa_len a ha
  have lin := itoa_len n hn
  have lif := itoa_len f hf
  have lhp := hexS_len p (by omega)
  have lhb : (hexS b).length ≤ 72001 := by have := hexS_len b (by omega); omega
  have ltk : (truS kp).length ≤ 4000001 := by have := truS_len kp; omega
  have lpa : (32 :: hexS p).length ≤ 72002 := by simp; omega
  generalize Lib.itoa a = ia at *
  generalize Lib.itoa n = in_ at *
  generalize Lib.itoa f = if_ at *
  generalize 32 :: hexS p = pa at *
  generalize hexS b = hb_ at *
  generalize truS kp = tk at *
  obtain ⟨sa, hsa⟩ : ∃ x, x = [32] ++ ia := ⟨_, rfl⟩
  obtain ⟨sn, hsn⟩ : ∃ x, x = [32] ++ in_ := ⟨_, rfl⟩
  have lsa : sa.length ≤ 22 := by rw [hsa]; simp; omega
  have lsn : sn.length ≤ 22 := by rw [hsn]; simp; omega
  have qa : ∀ W : World, (Op.stringOp .add ⟨#[32]⟩ ⟨ia.toArray⟩).run Tryd.prog W = .ok (.string ⟨sa.toArray⟩) W := add_lists (a := [32]) hsa (by omega)
  have qn : ∀ W : World, (Op.stringOp .add ⟨#[32]⟩ ⟨in_.toArray⟩).run Tryd.prog W = .ok (.string ⟨sn.toArray⟩) W := add_lists (a := [32]) hsn (by omega)
  obtain ⟨x0, hx0⟩ : ∃ x, x = [114, 111, 116] ++ sa := ⟨_, rfl⟩
  obtain ⟨x1, hx1⟩ : ∃ x, x = x0 ++ [32] := ⟨_, rfl⟩
  obtain ⟨x2, hx2⟩ : ∃ x, x = x1 ++ if_ := ⟨_, rfl⟩
  obtain ⟨x3, hx3⟩ : ∃ x, x = x2 ++ sn := ⟨_, rfl⟩
  obtain ⟨x4, hx4⟩ : ∃ x, x = x3 ++ [32] := ⟨_, rfl⟩
  obtain ⟨x5, hx5⟩ : ∃ x, x = x4 ++ hb_ := ⟨_, rfl⟩
  have lx0 : x0.length ≤ 25 := by rw [hx0, List.length_append]; (try simp only [List.length_cons, List.length_nil]); omega
  have qx0 : ∀ W : World, (Op.stringOp .add ⟨#[114, 111, 116]⟩ ⟨sa.toArray⟩).run Tryd.prog W = .ok (.string ⟨x0.toArray⟩) W := add_lists (a := [114, 111, 116]) (b := sa) hx0 (by omega)
  have lx1 : x1.length ≤ 26 := by rw [hx1, List.length_append]; (try simp only [List.length_cons, List.length_nil]); omega
  have qx1 : ∀ W : World, (Op.stringOp .add ⟨x0.toArray⟩ ⟨#[32]⟩).run Tryd.prog W = .ok (.string ⟨x1.toArray⟩) W := add_lists (a := x0) (b := [32]) hx1 (by omega)
  have lx2 : x2.length ≤ 47 := by rw [hx2, List.length_append]; (try simp only [List.length_cons, List.length_nil]); omega
  have qx2 : ∀ W : World, (Op.stringOp .add ⟨x1.toArray⟩ ⟨if_.toArray⟩).run Tryd.prog W = .ok (.string ⟨x2.toArray⟩) W := add_lists (a := x1) (b := if_) hx2 (by omega)
  have lx3 : x3.length ≤ 69 := by rw [hx3, List.length_append]; (try simp only [List.length_cons, List.length_nil]); omega
  have qx3 : ∀ W : World, (Op.stringOp .add ⟨x2.toArray⟩ ⟨sn.toArray⟩).run Tryd.prog W = .ok (.string ⟨x3.toArray⟩) W := add_lists (a := x2) (b := sn) hx3 (by omega)
  have lx4 : x4.length ≤ 70 := by rw [hx4, List.length_append]; (try simp only [List.length_cons, List.length_nil]); omega
  have qx4 : ∀ W : World, (Op.stringOp .add ⟨x3.toArray⟩ ⟨#[32]⟩).run Tryd.prog W = .ok (.string ⟨x4.toArray⟩) W := add_lists (a := x3) (b := [32]) hx4 (by omega)
  have lx5 : x5.length ≤ 72071 := by rw [hx5, List.length_append]; (try simp only [List.length_cons, List.length_nil]); omega
  have qx5 : ∀ W : World, (Op.stringOp .add ⟨x4.toArray⟩ ⟨hb_.toArray⟩).run Tryd.prog W = .ok (.string ⟨x5.toArray⟩) W := add_lists (a := x4) (b := hb_) hx5 (by omega)
  have HL2 : Hid (rlineOf ⟨15, a, p, b, f, n, kp⟩ = x5) := Lib.hid (by rw [HL.out]; simp only [hx0, hx1, hx2, hx3, hx4, hx5, hsa, hsn, List.append_assoc])
  clear HL hx0 lx0 hx1 lx1 hx2 lx2 hx3 lx3 hx4 lx4 hx5 lx5
  have Hw1 := Lib.hid hw1
  clear lia lin lif lhp lhb ltk lpa lsa lsn hsa hsn hw1 hb hk ha hf hn hlp hlb hlk hcb
  unfold DvA
  go_enter Tryd.func52, Tryd.ntmps52
  go_upto_region 1 with (fail)
  rw [Hw1.out]
  refine wp_region_G (fun W => Below w.heap.size w W ∧ Blk W w.heap.size 72 #[.int .i64 15, .int .i64 a, .string ⟨p.toArray⟩, .slice Ab b.length cb, .int .i64 f, .int .i64 n, .slice Ak kp.length ck]) [] #[false, false, false, false, false, false, false, false, false, false] 10 (by kernel_rfl) (by kernel_rfl) (by kernel_rfl) ?_
  refine wpAnyG_take0 (i := 0) (oi := { dst := some 5, op := Go.Op.fieldAddr 72 (Go.Operand.tmp 1) 1, type := 0, pos := "ref.go:175", after := #[], guard := none }) (v := ?vg18_0) rfl (by kernel_rfl) (by kernel_rfl) (by kernel_rfl) (by kernel_rfl) (fun _ _ _ h => h) (fun _ => ⟨HB1.out.drew, HD1.out.drew⟩) (Or.inl ⟨by rfl, ?hg18_0⟩) ?_
  case hg18_0 => intro w _; go_simp; (try with_reducible rfl)
  try simp only [Act.put, List.setIfInBounds_toArray, List.set_cons_zero, List.set_cons_succ]
  refine wpAnyG_take (i := 1) (oi := { dst := some 6, op := Go.Op.load 3 (Go.Operand.tmp 5), type := 3, pos := "ref.go:175", after := #[{ on := 0, ground := Go.Ground.data }], guard := none }) (v := ?vg18_1) [1, 2, 3, 6, 7, 8, 9] rfl (by kernel_rfl) (by kernel_rfl) (by kernel_rfl) (by kernel_rfl) (by kernel_rfl) (fun _ _ _ h => h) (fun _ => ⟨HB1.out.drew, HD1.out.drew⟩) (Or.inl ⟨by rfl, ?hg18_1⟩) ?_
  case hg18_1 => intro w hSw; (try dsimp only at hSw); have c1 : _ = some (Value.int .i64 a) := hSw.2.cell 1; go_simp; (try with_reducible rfl)
  try simp only [Act.put, List.setIfInBounds_toArray, List.set_cons_zero, List.set_cons_succ]
  refine wpAnyG_take0 (i := 4) (oi := { dst := some 9, op := Go.Op.fieldAddr 72 (Go.Operand.tmp 1) 5, type := 0, pos := "ref.go:175", after := #[], guard := none }) (v := ?vg18_4) rfl (by kernel_rfl) (by kernel_rfl) (by kernel_rfl) (by kernel_rfl) (fun _ _ _ h => h) (fun _ => ⟨HB1.out.drew, HD1.out.drew⟩) (Or.inl ⟨by rfl, ?hg18_4⟩) ?_
  case hg18_4 => intro w _; go_simp; (try with_reducible rfl)
  try simp only [Act.put, List.setIfInBounds_toArray, List.set_cons_zero, List.set_cons_succ]
  refine wpAnyG_take (i := 5) (oi := { dst := some 10, op := Go.Op.load 3 (Go.Operand.tmp 9), type := 3, pos := "ref.go:175", after := #[{ on := 4, ground := Go.Ground.data }], guard := none }) (v := ?vg18_5) [5, 6, 7, 8, 9] rfl (by kernel_rfl) (by kernel_rfl) (by kernel_rfl) (by kernel_rfl) (by kernel_rfl) (fun _ _ _ h => h) (fun _ => ⟨HB1.out.drew, HD1.out.drew⟩) (Or.inl ⟨by rfl, ?hg18_5⟩) ?_
  case hg18_5 => intro w hSw; (try dsimp only at hSw); have c5 : _ = some (Value.int .i64 n) := hSw.2.cell 5; go_simp; (try with_reducible rfl)
  try simp only [Act.put, List.setIfInBounds_toArray, List.set_cons_zero, List.set_cons_succ]
  refine wpAnyG_step (i := 2) (oi := { dst := some 7, op := Go.Op.call { callee := Go.Callee.value (Go.Operand.func 53), args := #[Go.Operand.tmp 6], argTypes := #[3] }, type := 9, pos := "ref.go:175", after := #[{ on := 1, ground := Go.Ground.data }], guard := none }) rfl (by kernel_rfl) (by rfl) (fun K hK => ?_)
  go_simp
  go_at_call 53
  refine (HA _).out.mono ?_
  rintro e w2 ⟨rfl, hk2⟩
  have HS2 := Lib.hid (And.intro ((And.intro HB1.out.drew HD1.out.drew).1.trans (hk2.below.mono (And.intro HB1.out.drew HD1.out.drew).1.size)) ((And.intro HB1.out.drew HD1.out.drew).2.keep hk2 List.not_mem_nil))
  clear hk2
  dsimp only
  refine hK _ _ ?_ (fun hSg18_2 => ?_)
  · intro _; exact HS2.out
  replace hSg18_2 := hSg18_2 (by kernel_rfl)
  clear hK
  try simp only [Act.put, List.setIfInBounds_toArray, List.set_cons_zero, List.set_cons_succ]
  refine wpAnyG_take0 (i := 3) (oi := { dst := some 8, op := Go.Op.binOp Go.BinOp.add 9 (Go.Operand.const (Go.Value.string { data := #[32] })) (Go.Operand.tmp 7) 9, type := 9, pos := "ref.go:175", after := #[{ on := 2, ground := Go.Ground.data }], guard := none }) (v := ?vg18_3) rfl (by kernel_rfl) (by kernel_rfl) (by kernel_rfl) (by kernel_rfl) (fun _ _ _ h => h) (fun _ => hSg18_2) (Or.inl ⟨by rfl, ?hg18_3⟩) ?_
  case hg18_3 => intro w _; go_simp; (try with_reducible rfl)
  try simp only [Act.put, List.setIfInBounds_toArray, List.set_cons_zero, List.set_cons_succ]
  refine wpAnyG_step (i := 6) (oi := { dst := some 11, op := Go.Op.call { callee := Go.Callee.value (Go.Operand.func 53), args := #[Go.Operand.tmp 10], argTypes := #[3] }, type := 9, pos := "ref.go:175", after := #[{ on := 5, ground := Go.Ground.data }, { on := 2, ground := Go.Ground.chain }], guard := none }) rfl (by kernel_rfl) (by rfl) (fun K hK => ?_)
  go_simp
  go_at_call 53
  refine (HN _).out.mono ?_
  rintro e w3 ⟨rfl, hk3⟩
  have HS3 := Lib.hid (And.intro (HS2.out.1.trans (hk3.below.mono HS2.out.1.size)) (HS2.out.2.keep hk3 List.not_mem_nil))
  clear hk3
  dsimp only
  refine hK _ _ ?_ (fun hSg18_6 => ?_)
  · intro _; exact HS3.out
  replace hSg18_6 := hSg18_6 (by kernel_rfl)
  clear hK
  try simp only [Act.put, List.setIfInBounds_toArray, List.set_cons_zero, List.set_cons_succ]
  refine wpAnyG_take0 (i := 7) (oi := { dst := some 12, op := Go.Op.binOp Go.BinOp.add 9 (Go.Operand.const (Go.Value.string { data := #[32] })) (Go.Operand.tmp 11) 9, type := 9, pos := "ref.go:175", after := #[{ on := 6, ground := Go.Ground.data }, { on := 8, ground := Go.Ground.gcOnly Go.Departure.lateStores }], guard := none }) (v := ?vg18_7) rfl (by kernel_rfl) (by kernel_rfl) (by kernel_rfl) (by kernel_rfl) (fun _ _ _ h => h) (fun _ => hSg18_6) (Or.inl ⟨by rfl, ?hg18_7⟩) ?_
  case hg18_7 => intro w _; go_simp; (try with_reducible rfl)
  try simp only [Act.put, List.setIfInBounds_toArray, List.set_cons_zero, List.set_cons_succ]
  refine wpAnyG_take0 (i := 8) (oi := { dst := some 3, op := Go.Op.assign (Go.Operand.tmp 8), type := 9, pos := "ref.go:175", after := #[{ on := 3, ground := Go.Ground.data }, { on := 6, ground := Go.Ground.chain }, { on := 0, ground := Go.Ground.phase }, { on := 1, ground := Go.Ground.phase }, { on := 2, ground := Go.Ground.phase }, { on := 3, ground := Go.Ground.phase }, { on := 4, ground := Go.Ground.textOnly Go.Departure.lateStores }, { on := 5, ground := Go.Ground.textOnly Go.Departure.lateStores }, { on := 6, ground := Go.Ground.textOnly Go.Departure.lateStoresUnsure }, { on := 7, ground := Go.Ground.textOnly Go.Departure.lateStores }], guard := none }) (v := ?vg18_8) rfl (by kernel_rfl) (by kernel_rfl) (by kernel_rfl) (by kernel_rfl) (fun _ _ _ h => h) (fun _ => hSg18_6) (Or.inl ⟨by rfl, ?hg18_8⟩) ?_
  case hg18_8 => intro w _; go_simp; (try with_reducible rfl)
  try simp only [Act.put, List.setIfInBounds_toArray, List.set_cons_zero, List.set_cons_succ]
  refine wpAnyG_take0 (i := 9) (oi := { dst := some 4, op := Go.Op.assign (Go.Operand.tmp 12), type := 9, pos := "ref.go:175", after := #[{ on := 7, ground := Go.Ground.data }, { on := 8, ground := Go.Ground.chain }, { on := 0, ground := Go.Ground.phase }, { on := 1, ground := Go.Ground.phase }, { on := 2, ground := Go.Ground.phase }, { on := 3, ground := Go.Ground.phase }, { on := 4, ground := Go.Ground.phase }, { on := 5, ground := Go.Ground.phase }, { on := 6, ground := Go.Ground.phase }, { on := 7, ground := Go.Ground.phase }, { on := 8, ground := Go.Ground.phase }], guard := none }) (v := ?vg18_9) rfl (by kernel_rfl) (by kernel_rfl) (by kernel_rfl) (by kernel_rfl) (fun _ _ _ h => h) (fun _ => hSg18_6) (Or.inl ⟨by rfl, ?hg18_9⟩) ?_
  case hg18_9 => intro w _; go_simp; (try with_reducible rfl)
  try simp only [Act.put, List.setIfInBounds_toArray, List.set_cons_zero, List.set_cons_succ]
  refine wpAnyG_done (by kernel_rfl) ?_ _
  have c0 : _ = some (Value.int .i64 15) := HS3.out.2.cell 0
  have c1 : _ = some (Value.int .i64 a) := HS3.out.2.cell 1
  have c2 : _ = some (Value.string ⟨p.toArray⟩) := HS3.out.2.cell 2
  have c3 : _ = some (Value.slice Ab b.length cb) := HS3.out.2.cell 3
  have c4 : _ = some (Value.int .i64 f) := HS3.out.2.cell 4
  have c5 : _ = some (Value.int .i64 n) := HS3.out.2.cell 5
  have c6 : _ = some (Value.slice Ak kp.length ck) := HS3.out.2.cell 6
  go_upto_region 32 with (fail)
  clear c0 c1 c2 c3 c4 c5 c6
  refine wp_region_G (fun W => Below w.heap.size w W ∧ Blk W w.heap.size 72 #[.int .i64 15, .int .i64 a, .string ⟨p.toArray⟩, .slice Ab b.length cb, .int .i64 f, .int .i64 n, .slice Ak kp.length ck]) [] #[false, false, false, false, false, false, false, false, false, false, false, false, false, false, false] 15 (by kernel_rfl) (by kernel_rfl) (by kernel_rfl) ?_
  refine wpAnyG_take0 (i := 0) (oi := { dst := some 113, op := Go.Op.move (Go.Operand.tmp 3), type := 9, pos := "ref.go:206", after := #[], guard := none }) (v := ?vg19_0) rfl (by kernel_rfl) (by kernel_rfl) (by kernel_rfl) (by kernel_rfl) (fun _ _ _ h => h) (fun _ => ⟨HS3.out.1.drew, HS3.out.2.drew⟩) (Or.inl ⟨by rfl, ?hg19_0⟩) ?_
  case hg19_0 => intro w _; go_simp; (try with_reducible rfl)
  try simp only [Act.put, List.setIfInBounds_toArray, List.set_cons_zero, List.set_cons_succ]
  refine wpAnyG_take0 (i := 1) (oi := { dst := some 114, op := Go.Op.binOp Go.BinOp.add 9 (Go.Operand.const (Go.Value.string { data := #[114, 111, 116] })) (Go.Operand.tmp 113) 9, type := 9, pos := "ref.go:206", after := #[{ on := 0, ground := Go.Ground.data }], guard := none }) (v := ?vg19_1) rfl (by kernel_rfl) (by kernel_rfl) (by kernel_rfl) (by kernel_rfl) (fun _ _ _ h => h) (fun _ => ⟨HS3.out.1.drew, HS3.out.2.drew⟩) (Or.inl ⟨by rfl, ?hg19_1⟩) ?_
  case hg19_1 => intro w _; go_simp; (try with_reducible rfl)
  try simp only [Act.put, List.setIfInBounds_toArray, List.set_cons_zero, List.set_cons_succ]
  refine wpAnyG_take0 (i := 2) (oi := { dst := some 115, op := Go.Op.binOp Go.BinOp.add 9 (Go.Operand.tmp 114) (Go.Operand.const (Go.Value.string { data := #[32] })) 9, type := 9, pos := "ref.go:206", after := #[{ on := 1, ground := Go.Ground.data }], guard := none }) (v := ?vg19_2) rfl (by kernel_rfl) (by kernel_rfl) (by kernel_rfl) (by kernel_rfl) (fun _ _ _ h => h) (fun _ => ⟨HS3.out.1.drew, HS3.out.2.drew⟩) (Or.inl ⟨by rfl, ?hg19_2⟩) ?_
  case hg19_2 => intro w _; go_simp; (try with_reducible rfl)
  try simp only [Act.put, List.setIfInBounds_toArray, List.set_cons_zero, List.set_cons_succ]
  refine wpAnyG_take0 (i := 3) (oi := { dst := some 116, op := Go.Op.fieldAddr 72 (Go.Operand.tmp 1) 4, type := 0, pos := "ref.go:206", after := #[], guard := none }) (v := ?vg19_3) rfl (by kernel_rfl) (by kernel_rfl) (by kernel_rfl) (by kernel_rfl) (fun _ _ _ h => h) (fun _ => ⟨HS3.out.1.drew, HS3.out.2.drew⟩) (Or.inl ⟨by rfl, ?hg19_3⟩) ?_
  case hg19_3 => intro w _; go_simp; (try with_reducible rfl)
  try simp only [Act.put, List.setIfInBounds_toArray, List.set_cons_zero, List.set_cons_succ]
  refine wpAnyG_take (i := 4) (oi := { dst := some 117, op := Go.Op.load 3 (Go.Operand.tmp 116), type := 3, pos := "ref.go:206", after := #[{ on := 3, ground := Go.Ground.data }], guard := none }) (v := ?vg19_4) [4, 5, 6, 8, 9, 12, 13, 14] rfl (by kernel_rfl) (by kernel_rfl) (by kernel_rfl) (by kernel_rfl) (by kernel_rfl) (fun _ _ _ h => h) (fun _ => ⟨HS3.out.1.drew, HS3.out.2.drew⟩) (Or.inl ⟨by rfl, ?hg19_4⟩) ?_
  case hg19_4 => intro w hSw; (try dsimp only at hSw); have c4 : _ = some (Value.int .i64 f) := hSw.2.cell 4; go_simp; (try with_reducible rfl)
  try simp only [Act.put, List.setIfInBounds_toArray, List.set_cons_zero, List.set_cons_succ]
  refine wpAnyG_take0 (i := 7) (oi := { dst := some 120, op := Go.Op.move (Go.Operand.tmp 4), type := 9, pos := "ref.go:206", after := #[], guard := none }) (v := ?vg19_7) rfl (by kernel_rfl) (by kernel_rfl) (by kernel_rfl) (by kernel_rfl) (fun _ _ _ h => h) (fun _ => ⟨HS3.out.1.drew, HS3.out.2.drew⟩) (Or.inl ⟨by rfl, ?hg19_7⟩) ?_
  case hg19_7 => intro w _; go_simp; (try with_reducible rfl)
  try simp only [Act.put, List.setIfInBounds_toArray, List.set_cons_zero, List.set_cons_succ]
  refine wpAnyG_take0 (i := 10) (oi := { dst := some 123, op := Go.Op.fieldAddr 72 (Go.Operand.tmp 1) 3, type := 0, pos := "ref.go:206", after := #[], guard := none }) (v := ?vg19_10) rfl (by kernel_rfl) (by kernel_rfl) (by kernel_rfl) (by kernel_rfl) (fun _ _ _ h => h) (fun _ => ⟨HS3.out.1.drew, HS3.out.2.drew⟩) (Or.inl ⟨by rfl, ?hg19_10⟩) ?_
  case hg19_10 => intro w _; go_simp; (try with_reducible rfl)
  try simp only [Act.put, List.setIfInBounds_toArray, List.set_cons_zero, List.set_cons_succ]
  refine wpAnyG_take (i := 11) (oi := { dst := some 124, op := Go.Op.load 22 (Go.Operand.tmp 123), type := 22, pos := "ref.go:206", after := #[{ on := 10, ground := Go.Ground.data }], guard := none }) (v := ?vg19_11) [11, 12, 13, 14] rfl (by kernel_rfl) (by kernel_rfl) (by kernel_rfl) (by kernel_rfl) (by kernel_rfl) (fun _ _ _ h => h) (fun _ => ⟨HS3.out.1.drew, HS3.out.2.drew⟩) (Or.inl ⟨by rfl, ?hg19_11⟩) ?_
  case hg19_11 => intro w hSw; (try dsimp only at hSw); have c3 : _ = some (Value.slice Ab b.length cb) := hSw.2.cell 3; go_simp; (try with_reducible rfl)
  try simp only [Act.put, List.setIfInBounds_toArray, List.set_cons_zero, List.set_cons_succ]
  refine wpAnyG_step (i := 5) (oi := { dst := some 118, op := Go.Op.call { callee := Go.Callee.value (Go.Operand.func 53), args := #[Go.Operand.tmp 117], argTypes := #[3] }, type := 9, pos := "ref.go:206", after := #[{ on := 4, ground := Go.Ground.data }], guard := none }) rfl (by kernel_rfl) (by rfl) (fun K hK => ?_)
  go_simp
  go_at_call 53
  refine (HF _).out.mono ?_
  rintro e w4 ⟨rfl, hk4⟩
  have HS4 := Lib.hid (And.intro ((And.intro HS3.out.1.drew HS3.out.2.drew).1.trans (hk4.below.mono (And.intro HS3.out.1.drew HS3.out.2.drew).1.size)) ((And.intro HS3.out.1.drew HS3.out.2.drew).2.keep hk4 List.not_mem_nil))
  clear hk4
  dsimp only
  refine hK _ _ ?_ (fun hSg19_5 => ?_)
  · intro _; exact HS4.out
  replace hSg19_5 := hSg19_5 (by kernel_rfl)
  clear hK
  try simp only [Act.put, List.setIfInBounds_toArray, List.set_cons_zero, List.set_cons_succ]
  refine wpAnyG_take0 (i := 6) (oi := { dst := some 119, op := Go.Op.binOp Go.BinOp.add 9 (Go.Operand.tmp 115) (Go.Operand.tmp 118) 9, type := 9, pos := "ref.go:206", after := #[{ on := 2, ground := Go.Ground.data }, { on := 5, ground := Go.Ground.data }], guard := none }) (v := ?vg19_6) rfl (by kernel_rfl) (by kernel_rfl) (by kernel_rfl) (by kernel_rfl) (fun _ _ _ h => h) (fun _ => hSg19_5) (Or.inl ⟨by rfl, ?hg19_6⟩) ?_
  case hg19_6 => intro w _; go_simp; (try with_reducible rfl)
  try simp only [Act.put, List.setIfInBounds_toArray, List.set_cons_zero, List.set_cons_succ]
  refine wpAnyG_take0 (i := 8) (oi := { dst := some 121, op := Go.Op.binOp Go.BinOp.add 9 (Go.Operand.tmp 119) (Go.Operand.tmp 120) 9, type := 9, pos := "ref.go:206", after := #[{ on := 6, ground := Go.Ground.data }, { on := 7, ground := Go.Ground.data }], guard := none }) (v := ?vg19_8) rfl (by kernel_rfl) (by kernel_rfl) (by kernel_rfl) (by kernel_rfl) (fun _ _ _ h => h) (fun _ => hSg19_5) (Or.inl ⟨by rfl, ?hg19_8⟩) ?_
  case hg19_8 => intro w _; go_simp; (try with_reducible rfl)
  try simp only [Act.put, List.setIfInBounds_toArray, List.set_cons_zero, List.set_cons_succ]
  refine wpAnyG_take0 (i := 9) (oi := { dst := some 122, op := Go.Op.binOp Go.BinOp.add 9 (Go.Operand.tmp 121) (Go.Operand.const (Go.Value.string { data := #[32] })) 9, type := 9, pos := "ref.go:206", after := #[{ on := 8, ground := Go.Ground.data }], guard := none }) (v := ?vg19_9) rfl (by kernel_rfl) (by kernel_rfl) (by kernel_rfl) (by kernel_rfl) (fun _ _ _ h => h) (fun _ => hSg19_5) (Or.inl ⟨by rfl, ?hg19_9⟩) ?_
  case hg19_9 => intro w _; go_simp; (try with_reducible rfl)
  try simp only [Act.put, List.setIfInBounds_toArray, List.set_cons_zero, List.set_cons_succ]
  refine wpAnyG_step (i := 12) (oi := { dst := some 125, op := Go.Op.call { callee := Go.Callee.value (Go.Operand.func 10), args := #[Go.Operand.tmp 124], argTypes := #[22] }, type := 9, pos := "ref.go:206", after := #[{ on := 11, ground := Go.Ground.data }, { on := 5, ground := Go.Ground.chain }], guard := none }) rfl (by kernel_rfl) (by rfl) (fun K hK => ?_)
  go_simp
  go_at_call 10
  refine (HX _ HS4.out.1).out.mono ?_
  rintro e w5 ⟨rfl, hk5⟩
  have HS5 := Lib.hid (And.intro (HS4.out.1.trans (hk5.mono HS4.out.1.size)) (HS4.out.2.keep (Keep.of_below (F := []) hk5) List.not_mem_nil))
  clear hk5
  dsimp only
  refine hK _ _ ?_ (fun hSg19_12 => ?_)
  · intro _; exact HS5.out
  replace hSg19_12 := hSg19_12 (by kernel_rfl)
  clear hK
  try simp only [Act.put, List.setIfInBounds_toArray, List.set_cons_zero, List.set_cons_succ]
  refine wpAnyG_take0 (i := 13) (oi := { dst := some 126, op := Go.Op.binOp Go.BinOp.add 9 (Go.Operand.tmp 122) (Go.Operand.tmp 125) 9, type := 9, pos := "ref.go:206", after := #[{ on := 9, ground := Go.Ground.data }, { on := 12, ground := Go.Ground.data }], guard := none }) (v := ?vg19_13) rfl (by kernel_rfl) (by kernel_rfl) (by kernel_rfl) (by kernel_rfl) (fun _ _ _ h => h) (fun _ => hSg19_12) (Or.inl ⟨by rfl, ?hg19_13⟩) ?_
  case hg19_13 => intro w _; go_simp; (try with_reducible rfl)
  try simp only [Act.put, List.setIfInBounds_toArray, List.set_cons_zero, List.set_cons_succ]
  refine wpAnyG_take0 (i := 14) (oi := { dst := some 2, op := Go.Op.assign (Go.Operand.tmp 126), type := 9, pos := "ref.go:206", after := #[{ on := 13, ground := Go.Ground.data }, { on := 12, ground := Go.Ground.chain }, { on := 0, ground := Go.Ground.phase }, { on := 1, ground := Go.Ground.phase }, { on := 2, ground := Go.Ground.phase }, { on := 3, ground := Go.Ground.phase }, { on := 4, ground := Go.Ground.phase }, { on := 5, ground := Go.Ground.phase }, { on := 6, ground := Go.Ground.phase }, { on := 7, ground := Go.Ground.phase }, { on := 8, ground := Go.Ground.phase }, { on := 9, ground := Go.Ground.phase }, { on := 10, ground := Go.Ground.phase }, { on := 11, ground := Go.Ground.phase }, { on := 12, ground := Go.Ground.phase }, { on := 13, ground := Go.Ground.phase }], guard := none }) (v := ?vg19_14) rfl (by kernel_rfl) (by kernel_rfl) (by kernel_rfl) (by kernel_rfl) (fun _ _ _ h => h) (fun _ => hSg19_12) (Or.inl ⟨by rfl, ?hg19_14⟩) ?_
  case hg19_14 => intro w _; go_simp; (try with_reducible rfl)
  try simp only [Act.put, List.setIfInBounds_toArray, List.set_cons_zero, List.set_cons_succ]
  refine wpAnyG_done (by kernel_rfl) ?_ _
  go_wp2
  go_ret
  rw [HL2.out]
  exact ⟨rfl, HS5.out.1⟩
set_option maxRecDepth 200000 in
set_option maxHeartbeats 8000000 in
theorem rline_16 (a : Int) (p b : List UInt8) (f n : Int) (kp : List Bool) (Ab Ak : Option Addr) (cb ck : Nat) (w : World) (hb : RD encB w Ab b) (hk : RD encT w Ak kp) (hcb : b.length ≤ cb) (hlb : b.length ≤ 3000) (hlp : p.length ≤ 3000) (hlk : kp.length ≤ 4000000)
    (ha : -9223372036854775808 ≤ a ∧ a ≤ 9223372036854775807) (hf : -9223372036854775808 ≤ f ∧ f ≤ 9223372036854775807) (hn : -9223372036854775808 ≤ n ∧ n ≤ 9223372036854775807) :
    Calls Tryd.prog 52 #[.agg (DvA ⟨16, a, p, b, f, n, kp⟩ (.slice Ab b.length cb) (.slice Ak kp.length ck))] w fun e w' => e = .returned (.string ⟨(rlineOf ⟨16, a, p, b, f, n, kp⟩).toArray⟩) ∧ Below w.heap.size w w' := by
  obtain ⟨w1, hw1⟩ : ∃ w1, w.alloc (.cells #[.int .i64 16, .int .i64 a, .string ⟨p.toArray⟩, .slice Ab b.length cb, .int .i64 f, .int .i64 n, .slice Ak kp.length ck] 72) = w1 := ⟨_, rfl⟩
  have HD1 : Hid (Blk w1 w.heap.size 72 #[.int .i64 16, .int .i64 a, .string ⟨p.toArray⟩, .slice Ab b.length cb, .int .i64 f, .int .i64 n, .slice Ak kp.length ck]) := Lib.hid (by rw [← hw1]; exact Blk.new _ _ _)
  have HB1 : Hid (Below w.heap.size w w1) := Lib.hid (by rw [← hw1]; exact (Below.refl _ w).alloc (Nat.le_refl _) _)
  have HA : ∀ W, Hid (Calls Tryd.prog 53 #[.int .i64 a] W fun e w' => e = .returned (.string ⟨(Lib.itoa a).toArray⟩) ∧ Keep [] W w') := fun W => Lib.hid (decimal_any a ha W)
  have HN : ∀ W, Hid (Calls Tryd.prog 53 #[.int .i64 n] W fun e w' => e = .returned (.string ⟨(Lib.itoa n).toArray⟩) ∧ Keep [] W w') := fun W => Lib.hid (decimal_any n hn W)
  have HF : ∀ W, Hid (Calls Tryd.prog 53 #[.int .i64 f] W fun e w' => e = .returned (.string ⟨(Lib.itoa f).toArray⟩) ∧ Keep [] W w') := fun W => Lib.hid (decimal_any f hf W)
  have HP : ∀ W, Hid (Calls Tryd.prog 65 #[.agg #[.int .i64 16, .int .i64 a, .string ⟨p.toArray⟩, .slice Ab b.length cb, .int .i64 f, .int .i64 n, .slice Ak kp.length ck]] W fun e w' => e = .returned (.string ⟨(32 :: hexS p).toArray⟩) ∧ Below W.heap.size W w') := fun W => Lib.hid (rpath_any ⟨16, a, p, b, f, n, kp⟩ _ _ Ab Ak _ cb _ ck W hlp rfl rfl)
  have HX : ∀ W, Below w.heap.size w W → Hid (Calls Tryd.prog 10 #[.slice Ab b.length cb] W fun e w' => e = .returned (.string ⟨(hexS b).toArray⟩) ∧ Below W.heap.size W w') := fun W hW => Lib.hid (rhexg_any b Ab cb W (RD.below hb hW) hcb hlb)
  have HT : ∀ W, Below w.heap.size w W → Hid (Calls Tryd.prog 66 #[.slice Ak kp.length ck] W fun e w' => e = .returned (.string ⟨(truS kp).toArray⟩) ∧ Below W.heap.size W w') := fun W hW => Lib.hid (rtruths_any kp Ak ck W (RD.below hk hW) hlk)
  have HL : Hid (rlineOf ⟨16, a, p, b, f, n, kp⟩ = [102, 117, 115, 101] ++ ([32] ++ Lib.itoa a) ++ ([32] ++ Lib.itoa n)) := Lib.hid (by simp [rlineOf, lineOf, nameOf, fieldsOf, wordOf, Lib.join_cons, Lib.join_one, Lib.joinTail])
  have lia := itoa_len a ha
  have lin := itoa_len n hn
  have lif := itoa_len f hf
  have lhp := hexS_len p (by omega)
  have lhb : (hexS b).length ≤ 72001 := by have := hexS_len b (by omega); omega
  have ltk : (truS kp).length ≤ 4000001 := by have := truS_len kp; omega
  have lpa : (32 :: hexS p).length ≤ 72002 := by simp; omega
  generalize Lib.itoa a = ia at *
  generalize Lib.itoa n = in_ at *
  generalize Lib.itoa f = if_ at *
  generalize 32 :: hexS p = pa at *
  generalize hexS b = hb_ at *
  generalize truS kp = tk at *
  obtain ⟨sa, hsa⟩ : ∃ x, x = [32] ++ ia := ⟨_, rfl⟩
  obtain ⟨sn, hsn⟩ : ∃ x, x = [32] ++ in_ := ⟨_, rfl⟩
  have lsa : sa.length ≤ 22 := by rw [hsa]; simp; omega
  have lsn : sn.length ≤ 22 := by rw [hsn]; simp; omega
  have qa : ∀ W : World, (Op.stringOp .add ⟨#[32]⟩ ⟨ia.toArray⟩).run Tryd.prog W = .ok (.string ⟨sa.toArray⟩) W := add_lists (a := [32]) hsa (by omega)
  have qn : ∀ W : World, (Op.stringOp .add ⟨#[32]⟩ ⟨in_.toArray⟩).run Tryd.prog W = .ok (.string ⟨sn.toArray⟩) W := add_lists (a := [32]) hsn (by omega)
  obtain ⟨x0, hx0⟩ : ∃ x, x = [102, 117, 115, 101] ++ sa := ⟨_, rfl⟩
  obtain ⟨x1, hx1⟩ : ∃ x, x = x0 ++ sn := ⟨_, rfl⟩
  have lx0 : x0.length ≤ 26 := by rw [hx0, List.length_append]; (try simp only [List.length_cons, List.length_nil]); omega
  have qx0 : ∀ W : World, (Op.stringOp .add ⟨#[102, 117, 115, 101]⟩ ⟨sa.toArray⟩).run Tryd.prog W = .ok (.string ⟨x0.toArray⟩) W := add_lists (a := [102, 117, 115, 101]) (b := sa) hx0 (by omega)
  have lx1 : x1.length ≤ 48 := by rw [hx1, List.length_append]; (try simp only [List.length_cons, List.length_nil]); omega
  have qx1 : ∀ W : World, (Op.stringOp .add ⟨x0.toArray⟩ ⟨sn.toArray⟩).run Tryd.prog W = .ok (.string ⟨x1.toArray⟩) W := add_lists (a := x0) (b := sn) hx1 (by omega)
  have HL2 : Hid (rlineOf ⟨16, a, p, b, f, n, kp⟩ = x1) := Lib.hid (by rw [HL.out]; simp only [hx0, hx1, hsa, hsn, List.append_assoc])
  clear HL hx0 lx0 hx1 lx1
  have Hw1 := Lib.hid hw1
  clear lia lin lif lhp lhb ltk lpa lsa lsn hsa hsn hw1 hb hk ha hf hn hlp hlb hlk hcb
  unfold DvA
  go_enter Tryd.func52, Tryd.ntmps52
  go_upto_region 1 with (fail)
  rw [Hw1.out]
  refine wp_region_G (fun W => Below w.heap.size w W ∧ Blk W w.heap.size 72 #[.int .i64 16, .int .i64 a, .string ⟨p.toArray⟩, .slice Ab b.length cb, .int .i64 f, .int .i64 n, .slice Ak kp.length ck]) [] #[false, false, false, false, false, false, false, false, false, false] 10 (by kernel_rfl) (by kernel_rfl) (by kernel_rfl) ?_
  refine wpAnyG_take0 (i := 0) (oi := { dst := some 5, op := Go.Op.fieldAddr 72 (Go.Operand.tmp 1) 1, type := 0, pos := "ref.go:175", after := #[], guard := none }) (v := ?vg20_0) rfl (by kernel_rfl) (by kernel_rfl) (by kernel_rfl) (by kernel_rfl) (fun _ _ _ h => h) (fun _ => ⟨HB1.out.drew, HD1.out.drew⟩) (Or.inl ⟨by rfl, ?hg20_0⟩) ?_
  case hg20_0 => intro w _; go_simp; (try with_reducible rfl)
  try simp only [Act.put, List.setIfInBounds_toArray, List.set_cons_zero, List.set_cons_succ]
  refine wpAnyG_take (i := 1) (oi := { dst := some 6, op := Go.Op.load 3 (Go.Operand.tmp 5), type := 3, pos := "ref.go:175", after := #[{ on := 0, ground := Go.Ground.data }], guard := none }) (v := ?vg20_1) [1, 2, 3, 6, 7, 8, 9] rfl (by kernel_rfl) (by kernel_rfl) (by kernel_rfl) (by kernel_rfl) (by kernel_rfl) (fun _ _ _ h => h) (fun _ => ⟨HB1.out.drew, HD1.out.drew⟩) (Or.inl ⟨by rfl, ?hg20_1⟩) ?_
  case hg20_1 => intro w hSw; (try dsimp only at hSw); have c1 : _ = some (Value.int .i64 a) := hSw.2.cell 1; go_simp; (try with_reducible rfl)
  try simp only [Act.put, List.setIfInBounds_toArray, List.set_cons_zero, List.set_cons_succ]
  refine wpAnyG_take0 (i := 4) (oi := { dst := some 9, op := Go.Op.fieldAddr 72 (Go.Operand.tmp 1) 5, type := 0, pos := "ref.go:175", after := #[], guard := none }) (v := ?vg20_4) rfl (by kernel_rfl) (by kernel_rfl) (by kernel_rfl) (by kernel_rfl) (fun _ _ _ h => h) (fun _ => ⟨HB1.out.drew, HD1.out.drew⟩) (Or.inl ⟨by rfl, ?hg20_4⟩) ?_
  case hg20_4 => intro w _; go_simp; (try with_reducible rfl)
  try simp only [Act.put, List.setIfInBounds_toArray, List.set_cons_zero, List.set_cons_succ]
  refine wpAnyG_take (i := 5) (oi := { dst := some 10, op := Go.Op.load 3 (Go.Operand.tmp 9), type := 3, pos := "ref.go:175", after := #[{ on := 4, ground := Go.Ground.data }], guard := none }) (v := ?vg20_5) [5, 6, 7, 8, 9] rfl (by kernel_rfl) (by kernel_rfl) (by kernel_rfl) (by kernel_rfl) (by kernel_rfl) (fun _ _ _ h => h) (fun _ => ⟨HB1.out.drew, HD1.out.drew⟩) (Or.inl ⟨by rfl, ?hg20_5⟩) ?_
  case hg20_5 => intro w hSw; (try dsimp only at hSw); have c5 : _ = some (Value.int .i64 n) := hSw.2.cell 5; go_simp; (try with_reducible rfl)
  try simp only [Act.put, List.setIfInBounds_toArray, List.set_cons_zero, List.set_cons_succ]
  refine wpAnyG_step (i := 2) (oi := { dst := some 7, op := Go.Op.call { callee := Go.Callee.value (Go.Operand.func 53), args := #[Go.Operand.tmp 6], argTypes := #[3] }, type := 9, pos := "ref.go:175", after := #[{ on := 1, ground := Go.Ground.data }], guard := none }) rfl (by kernel_rfl) (by rfl) (fun K hK => ?_)
  go_simp
  go_at_call 53
  refine (HA _).out.mono ?_
  rintro e w2 ⟨rfl, hk2⟩
  have HS2 := Lib.hid (And.intro ((And.intro HB1.out.drew HD1.out.drew).1.trans (hk2.below.mono (And.intro HB1.out.drew HD1.out.drew).1.size)) ((And.intro HB1.out.drew HD1.out.drew).2.keep hk2 List.not_mem_nil))
  clear hk2
  dsimp only
  refine hK _ _ ?_ (fun hSg20_2 => ?_)
  · intro _; exact HS2.out
  replace hSg20_2 := hSg20_2 (by kernel_rfl)
  clear hK
  try simp only [Act.put, List.setIfInBounds_toArray, List.set_cons_zero, List.set_cons_succ]
  refine wpAnyG_take0 (i := 3) (oi := { dst := some 8, op := Go.Op.binOp Go.BinOp.add 9 (Go.Operand.const (Go.Value.string { data := #[32] })) (Go.Operand.tmp 7) 9, type := 9, pos := "ref.go:175", after := #[{ on := 2, ground := Go.Ground.data }], guard := none }) (v := ?vg20_3) rfl (by kernel_rfl) (by kernel_rfl) (by kernel_rfl) (by kernel_rfl) (fun _ _ _ h => h) (fun _ => hSg20_2) (Or.inl ⟨by rfl, ?hg20_3⟩) ?_
  case hg20_3 => intro w _; go_simp; (try with_reducible rfl)
  try simp only [Act.put, List.setIfInBounds_toArray, List.set_cons_zero, List.set_cons_succ]
  refine wpAnyG_step (i := 6) (oi := { dst := some 11, op := Go.Op.call { callee := Go.Callee.value (Go.Operand.func 53), args := #[Go.Operand.tmp 10], argTypes := #[3] }, type := 9, pos := "ref.go:175", after := #[{ on := 5, ground := Go.Ground.data }, { on := 2, ground := Go.Ground.chain }], guard := none }) rfl (by kernel_rfl) (by rfl) (fun K hK => ?_)
  go_simp
  go_at_call 53
  refine (HN _).out.mono ?_
  rintro e w3 ⟨rfl, hk3⟩
  have HS3 := Lib.hid (And.intro (HS2.out.1.trans (hk3.below.mono HS2.out.1.size)) (HS2.out.2.keep hk3 List.not_mem_nil))
  clear hk3
  dsimp only
  refine hK _ _ ?_ (fun hSg20_6 => ?_)
  · intro _; exact HS3.out
  replace hSg20_6 := hSg20_6 (by kernel_rfl)
  clear hK
  try simp only [Act.put, List.setIfInBounds_toArray, List.set_cons_zero, List.set_cons_succ]
  refine wpAnyG_take0 (i := 7) (oi := { dst := some 12, op := Go.Op.binOp Go.BinOp.add 9 (Go.Operand.const (Go.Value.string { data := #[32] })) (Go.Operand.tmp 11) 9, type := 9, pos := "ref.go:175", after := #[{ on := 6, ground := Go.Ground.data }, { on := 8, ground := Go.Ground.gcOnly Go.Departure.lateStores }], guard := none }) (v := ?vg20_7) rfl (by kernel_rfl) (by kernel_rfl) (by kernel_rfl) (by kernel_rfl) (fun _ _ _ h => h) (fun _ => hSg20_6) (Or.inl ⟨by rfl, ?hg20_7⟩) ?_
  case hg20_7 => intro w _; go_simp; (try with_reducible rfl)
  try simp only [Act.put, List.setIfInBounds_toArray, List.set_cons_zero, List.set_cons_succ]
  refine wpAnyG_take0 (i := 8) (oi := { dst := some 3, op := Go.Op.assign (Go.Operand.tmp 8), type := 9, pos := "ref.go:175", after := #[{ on := 3, ground := Go.Ground.data }, { on := 6, ground := Go.Ground.chain }, { on := 0, ground := Go.Ground.phase }, { on := 1, ground := Go.Ground.phase }, { on := 2, ground := Go.Ground.phase }, { on := 3, ground := Go.Ground.phase }, { on := 4, ground := Go.Ground.textOnly Go.Departure.lateStores }, { on := 5, ground := Go.Ground.textOnly Go.Departure.lateStores }, { on := 6, ground := Go.Ground.textOnly Go.Departure.lateStoresUnsure }, { on := 7, ground := Go.Ground.textOnly Go.Departure.lateStores }], guard := none }) (v := ?vg20_8) rfl (by kernel_rfl) (by kernel_rfl) (by kernel_rfl) (by kernel_rfl) (fun _ _ _ h => h) (fun _ => hSg20_6) (Or.inl ⟨by rfl, ?hg20_8⟩) ?_
  case hg20_8 => intro w _; go_simp; (try with_reducible rfl)
  try simp only [Act.put, List.setIfInBounds_toArray, List.set_cons_zero, List.set_cons_succ]
  refine wpAnyG_take0 (i := 9) (oi := { dst := some 4, op := Go.Op.assign (Go.Operand.tmp 12), type := 9, pos := "ref.go:175", after := #[{ on := 7, ground := Go.Ground.data }, { on := 8, ground := Go.Ground.chain }, { on := 0, ground := Go.Ground.phase }, { on := 1, ground := Go.Ground.phase }, { on := 2, ground := Go.Ground.phase }, { on := 3, ground := Go.Ground.phase }, { on := 4, ground := Go.Ground.phase }, { on := 5, ground := Go.Ground.phase }, { on := 6, ground := Go.Ground.phase }, { on := 7, ground := Go.Ground.phase }, { on := 8, ground := Go.Ground.phase }], guard := none }) (v := ?vg20_9) rfl (by kernel_rfl) (by kernel_rfl) (by kernel_rfl) (by kernel_rfl) (fun _ _ _ h => h) (fun _ => hSg20_6) (Or.inl ⟨by rfl, ?hg20_9⟩) ?_
  case hg20_9 => intro w _; go_simp; (try with_reducible rfl)
  try simp only [Act.put, List.setIfInBounds_toArray, List.set_cons_zero, List.set_cons_succ]
  refine wpAnyG_done (by kernel_rfl) ?_ _
  have c0 : _ = some (Value.int .i64 16) := HS3.out.2.cell 0
  have c1 : _ = some (Value.int .i64 a) := HS3.out.2.cell 1
  have c2 : _ = some (Value.string ⟨p.toArray⟩) := HS3.out.2.cell 2
  have c3 : _ = some (Value.slice Ab b.length cb) := HS3.out.2.cell 3
  have c4 : _ = some (Value.int .i64 f) := HS3.out.2.cell 4
  have c5 : _ = some (Value.int .i64 n) := HS3.out.2.cell 5
  have c6 : _ = some (Value.slice Ak kp.length ck) := HS3.out.2.cell 6
  go_wp2
  go_ret
  rw [HL2.out]
  exact ⟨rfl, HS3.out.1⟩
set_option maxRecDepth 200000 in
set_option maxHeartbeats 8000000 in
theorem rline_other (kd a : Int) (p b : List UInt8) (f n : Int) (kp : List Bool) (Ab Ak : Option Addr) (cb ck : Nat) (w : World) (hb : RD encB w Ab b) (hk : RD encT w Ak kp) (hcb : b.length ≤ cb) (hlb : b.length ≤ 3000) (hlp : p.length ≤ 3000) (hlk : kp.length ≤ 4000000)
    (ha : -9223372036854775808 ≤ a ∧ a ≤ 9223372036854775807) (hf : -9223372036854775808 ≤ f ∧ f ≤ 9223372036854775807) (hn : -9223372036854775808 ≤ n ∧ n ≤ 9223372036854775807) (hk0 : ¬ (kd = 1 ∨ kd = 2 ∨ kd = 3 ∨ kd = 4 ∨ kd = 5 ∨ kd = 6 ∨ kd = 7 ∨ kd = 8 ∨ kd = 9 ∨ kd = 10 ∨ kd = 11 ∨ kd = 12 ∨ kd = 13 ∨ kd = 14 ∨ kd = 15 ∨ kd = 16)) :
    Calls Tryd.prog 52 #[.agg (DvA ⟨kd, a, p, b, f, n, kp⟩ (.slice Ab b.length cb) (.slice Ak kp.length ck))] w fun e w' => e = .returned (.string ⟨(rlineOf ⟨kd, a, p, b, f, n, kp⟩).toArray⟩) ∧ Below w.heap.size w w' := by
  obtain ⟨w1, hw1⟩ : ∃ w1, w.alloc (.cells #[.int .i64 kd, .int .i64 a, .string ⟨p.toArray⟩, .slice Ab b.length cb, .int .i64 f, .int .i64 n, .slice Ak kp.length ck] 72) = w1 := ⟨_, rfl⟩
  have HD1 : Hid (Blk w1 w.heap.size 72 #[.int .i64 kd, .int .i64 a, .string ⟨p.toArray⟩, .slice Ab b.length cb, .int .i64 f, .int .i64 n, .slice Ak kp.length ck]) := Lib.hid (by rw [← hw1]; exact Blk.new _ _ _)
  have HB1 : Hid (Below w.heap.size w w1) := Lib.hid (by rw [← hw1]; exact (Below.refl _ w).alloc (Nat.le_refl _) _)
  have HA : ∀ W, Hid (Calls Tryd.prog 53 #[.int .i64 a] W fun e w' => e = .returned (.string ⟨(Lib.itoa a).toArray⟩) ∧ Keep [] W w') := fun W => Lib.hid (decimal_any a ha W)
  have HN : ∀ W, Hid (Calls Tryd.prog 53 #[.int .i64 n] W fun e w' => e = .returned (.string ⟨(Lib.itoa n).toArray⟩) ∧ Keep [] W w') := fun W => Lib.hid (decimal_any n hn W)
  have HF : ∀ W, Hid (Calls Tryd.prog 53 #[.int .i64 f] W fun e w' => e = .returned (.string ⟨(Lib.itoa f).toArray⟩) ∧ Keep [] W w') := fun W => Lib.hid (decimal_any f hf W)
  have HP : ∀ W, Hid (Calls Tryd.prog 65 #[.agg #[.int .i64 kd, .int .i64 a, .string ⟨p.toArray⟩, .slice Ab b.length cb, .int .i64 f, .int .i64 n, .slice Ak kp.length ck]] W fun e w' => e = .returned (.string ⟨(32 :: hexS p).toArray⟩) ∧ Below W.heap.size W w') := fun W => Lib.hid (rpath_any ⟨kd, a, p, b, f, n, kp⟩ _ _ Ab Ak _ cb _ ck W hlp rfl rfl)
  have HX : ∀ W, Below w.heap.size w W → Hid (Calls Tryd.prog 10 #[.slice Ab b.length cb] W fun e w' => e = .returned (.string ⟨(hexS b).toArray⟩) ∧ Below W.heap.size W w') := fun W hW => Lib.hid (rhexg_any b Ab cb W (RD.below hb hW) hcb hlb)
  have HT : ∀ W, Below w.heap.size w W → Hid (Calls Tryd.prog 66 #[.slice Ak kp.length ck] W fun e w' => e = .returned (.string ⟨(truS kp).toArray⟩) ∧ Below W.heap.size W w') := fun W hW => Lib.hid (rtruths_any kp Ak ck W (RD.below hk hW) hlk)
  have HL : Hid (rlineOf ⟨kd, a, p, b, f, n, kp⟩ = []) := Lib.hid (by rw [rlineOf, if_pos (nameOf_other kd hk0)])
  have lia := itoa_len a ha
  have lin := itoa_len n hn
  have lif := itoa_len f hf
  have lhp := hexS_len p (by omega)
  have lhb : (hexS b).length ≤ 72001 := by have := hexS_len b (by omega); omega
  have ltk : (truS kp).length ≤ 4000001 := by have := truS_len kp; omega
  have lpa : (32 :: hexS p).length ≤ 72002 := by simp; omega
  generalize Lib.itoa a = ia at *
  generalize Lib.itoa n = in_ at *
  generalize Lib.itoa f = if_ at *
  generalize 32 :: hexS p = pa at *
  generalize hexS b = hb_ at *
  generalize truS kp = tk at *
  obtain ⟨sa, hsa⟩ : ∃ x, x = [32] ++ ia := ⟨_, rfl⟩
  obtain ⟨sn, hsn⟩ : ∃ x, x = [32] ++ in_ := ⟨_, rfl⟩
  have lsa : sa.length ≤ 22 := by rw [hsa]; simp; omega
  have lsn : sn.length ≤ 22 := by rw [hsn]; simp; omega
  have qa : ∀ W : World, (Op.stringOp .add ⟨#[32]⟩ ⟨ia.toArray⟩).run Tryd.prog W = .ok (.string ⟨sa.toArray⟩) W := add_lists (a := [32]) hsa (by omega)
  have qn : ∀ W : World, (Op.stringOp .add ⟨#[32]⟩ ⟨in_.toArray⟩).run Tryd.prog W = .ok (.string ⟨sn.toArray⟩) W := add_lists (a := [32]) hsn (by omega)
  have HL2 := HL
  have Hw1 := Lib.hid hw1
  clear lia lin lif lhp lhb ltk lpa lsa lsn hsa hsn hw1 hb hk ha hf hn hlp hlb hlk hcb
  have n1 : (kd == 1) = false := by rw [beq_eq_false_iff_ne]; omega
  have n2 : (kd == 2) = false := by rw [beq_eq_false_iff_ne]; omega
  have n3 : (kd == 3) = false := by rw [beq_eq_false_iff_ne]; omega
  have n4 : (kd == 4) = false := by rw [beq_eq_false_iff_ne]; omega
  have n5 : (kd == 5) = false := by rw [beq_eq_false_iff_ne]; omega
  have n6 : (kd == 6) = false := by rw [beq_eq_false_iff_ne]; omega
  have n7 : (kd == 7) = false := by rw [beq_eq_false_iff_ne]; omega
  have n8 : (kd == 8) = false := by rw [beq_eq_false_iff_ne]; omega
  have n9 : (kd == 9) = false := by rw [beq_eq_false_iff_ne]; omega
  have n10 : (kd == 10) = false := by rw [beq_eq_false_iff_ne]; omega
  have n11 : (kd == 11) = false := by rw [beq_eq_false_iff_ne]; omega
  have n12 : (kd == 12) = false := by rw [beq_eq_false_iff_ne]; omega
  have n13 : (kd == 13) = false := by rw [beq_eq_false_iff_ne]; omega
  have n14 : (kd == 14) = false := by rw [beq_eq_false_iff_ne]; omega
  have n15 : (kd == 15) = false := by rw [beq_eq_false_iff_ne]; omega
  have n16 : (kd == 16) = false := by rw [beq_eq_false_iff_ne]; omega
  clear hk0
  unfold DvA
  go_enter Tryd.func52, Tryd.ntmps52
  go_upto_region 1 with (fail)
  rw [Hw1.out]
  refine wp_region_G (fun W => Below w.heap.size w W ∧ Blk W w.heap.size 72 #[.int .i64 kd, .int .i64 a, .string ⟨p.toArray⟩, .slice Ab b.length cb, .int .i64 f, .int .i64 n, .slice Ak kp.length ck]) [] #[false, false, false, false, false, false, false, false, false, false] 10 (by kernel_rfl) (by kernel_rfl) (by kernel_rfl) ?_
  refine wpAnyG_take0 (i := 0) (oi := { dst := some 5, op := Go.Op.fieldAddr 72 (Go.Operand.tmp 1) 1, type := 0, pos := "ref.go:175", after := #[], guard := none }) (v := ?vg21_0) rfl (by kernel_rfl) (by kernel_rfl) (by kernel_rfl) (by kernel_rfl) (fun _ _ _ h => h) (fun _ => ⟨HB1.out.drew, HD1.out.drew⟩) (Or.inl ⟨by rfl, ?hg21_0⟩) ?_
  case hg21_0 => intro w _; go_simp; (try with_reducible rfl)
  try simp only [Act.put, List.setIfInBounds_toArray, List.set_cons_zero, List.set_cons_succ]
  refine wpAnyG_take (i := 1) (oi := { dst := some 6, op := Go.Op.load 3 (Go.Operand.tmp 5), type := 3, pos := "ref.go:175", after := #[{ on := 0, ground := Go.Ground.data }], guard := none }) (v := ?vg21_1) [1, 2, 3, 6, 7, 8, 9] rfl (by kernel_rfl) (by kernel_rfl) (by kernel_rfl) (by kernel_rfl) (by kernel_rfl) (fun _ _ _ h => h) (fun _ => ⟨HB1.out.drew, HD1.out.drew⟩) (Or.inl ⟨by rfl, ?hg21_1⟩) ?_
  case hg21_1 => intro w hSw; (try dsimp only at hSw); have c1 : _ = some (Value.int .i64 a) := hSw.2.cell 1; go_simp; (try with_reducible rfl)
  try simp only [Act.put, List.setIfInBounds_toArray, List.set_cons_zero, List.set_cons_succ]
  refine wpAnyG_take0 (i := 4) (oi := { dst := some 9, op := Go.Op.fieldAddr 72 (Go.Operand.tmp 1) 5, type := 0, pos := "ref.go:175", after := #[], guard := none }) (v := ?vg21_4) rfl (by kernel_rfl) (by kernel_rfl) (by kernel_rfl) (by kernel_rfl) (fun _ _ _ h => h) (fun _ => ⟨HB1.out.drew, HD1.out.drew⟩) (Or.inl ⟨by rfl, ?hg21_4⟩) ?_
  case hg21_4 => intro w _; go_simp; (try with_reducible rfl)
  try simp only [Act.put, List.setIfInBounds_toArray, List.set_cons_zero, List.set_cons_succ]
  refine wpAnyG_take (i := 5) (oi := { dst := some 10, op := Go.Op.load 3 (Go.Operand.tmp 9), type := 3, pos := "ref.go:175", after := #[{ on := 4, ground := Go.Ground.data }], guard := none }) (v := ?vg21_5) [5, 6, 7, 8, 9] rfl (by kernel_rfl) (by kernel_rfl) (by kernel_rfl) (by kernel_rfl) (by kernel_rfl) (fun _ _ _ h => h) (fun _ => ⟨HB1.out.drew, HD1.out.drew⟩) (Or.inl ⟨by rfl, ?hg21_5⟩) ?_
  case hg21_5 => intro w hSw; (try dsimp only at hSw); have c5 : _ = some (Value.int .i64 n) := hSw.2.cell 5; go_simp; (try with_reducible rfl)
  try simp only [Act.put, List.setIfInBounds_toArray, List.set_cons_zero, List.set_cons_succ]
  refine wpAnyG_step (i := 2) (oi := { dst := some 7, op := Go.Op.call { callee := Go.Callee.value (Go.Operand.func 53), args := #[Go.Operand.tmp 6], argTypes := #[3] }, type := 9, pos := "ref.go:175", after := #[{ on := 1, ground := Go.Ground.data }], guard := none }) rfl (by kernel_rfl) (by rfl) (fun K hK => ?_)
  go_simp
  go_at_call 53
  refine (HA _).out.mono ?_
  rintro e w2 ⟨rfl, hk2⟩
  have HS2 := Lib.hid (And.intro ((And.intro HB1.out.drew HD1.out.drew).1.trans (hk2.below.mono (And.intro HB1.out.drew HD1.out.drew).1.size)) ((And.intro HB1.out.drew HD1.out.drew).2.keep hk2 List.not_mem_nil))
  clear hk2
  dsimp only
  refine hK _ _ ?_ (fun hSg21_2 => ?_)
  · intro _; exact HS2.out
  replace hSg21_2 := hSg21_2 (by kernel_rfl)
  clear hK
  try simp only [Act.put, List.setIfInBounds_toArray, List.set_cons_zero, List.set_cons_succ]
  refine wpAnyG_take0 (i := 3) (oi := { dst := some 8, op := Go.Op.binOp Go.BinOp.add 9 (Go.Operand.const (Go.Value.string { data := #[32] })) (Go.Operand.tmp 7) 9, type := 9, pos := "ref.go:175", after := #[{ on := 2, ground := Go.Ground.data }], guard := none }) (v := ?vg21_3) rfl (by kernel_rfl) (by kernel_rfl) (by kernel_rfl) (by kernel_rfl) (fun _ _ _ h => h) (fun _ => hSg21_2) (Or.inl ⟨by rfl, ?hg21_3⟩) ?_
  case hg21_3 => intro w _; go_simp; (try with_reducible rfl)
  try simp only [Act.put, List.setIfInBounds_toArray, List.set_cons_zero, List.set_cons_succ]
  refine wpAnyG_step (i := 6) (oi := { dst := some 11, op := Go.Op.call { callee := Go.Callee.value (Go.Operand.func 53), args := #[Go.Operand.tmp 10], argTypes := #[3] }, type := 9, pos := "ref.go:175", after := #[{ on := 5, ground := Go.Ground.data }, { on := 2, ground := Go.Ground.chain }], guard := none }) rfl (by kernel_rfl) (by rfl) (fun K hK => ?_)
  go_simp
  go_at_call 53
  refine (HN _).out.mono ?_
  rintro e w3 ⟨rfl, hk3⟩
  have HS3 := Lib.hid (And.intro (HS2.out.1.trans (hk3.below.mono HS2.out.1.size)) (HS2.out.2.keep hk3 List.not_mem_nil))
  clear hk3
  dsimp only
  refine hK _ _ ?_ (fun hSg21_6 => ?_)
  · intro _; exact HS3.out
  replace hSg21_6 := hSg21_6 (by kernel_rfl)
  clear hK
  try simp only [Act.put, List.setIfInBounds_toArray, List.set_cons_zero, List.set_cons_succ]
  refine wpAnyG_take0 (i := 7) (oi := { dst := some 12, op := Go.Op.binOp Go.BinOp.add 9 (Go.Operand.const (Go.Value.string { data := #[32] })) (Go.Operand.tmp 11) 9, type := 9, pos := "ref.go:175", after := #[{ on := 6, ground := Go.Ground.data }, { on := 8, ground := Go.Ground.gcOnly Go.Departure.lateStores }], guard := none }) (v := ?vg21_7) rfl (by kernel_rfl) (by kernel_rfl) (by kernel_rfl) (by kernel_rfl) (fun _ _ _ h => h) (fun _ => hSg21_6) (Or.inl ⟨by rfl, ?hg21_7⟩) ?_
  case hg21_7 => intro w _; go_simp; (try with_reducible rfl)
  try simp only [Act.put, List.setIfInBounds_toArray, List.set_cons_zero, List.set_cons_succ]
  refine wpAnyG_take0 (i := 8) (oi := { dst := some 3, op := Go.Op.assign (Go.Operand.tmp 8), type := 9, pos := "ref.go:175", after := #[{ on := 3, ground := Go.Ground.data }, { on := 6, ground := Go.Ground.chain }, { on := 0, ground := Go.Ground.phase }, { on := 1, ground := Go.Ground.phase }, { on := 2, ground := Go.Ground.phase }, { on := 3, ground := Go.Ground.phase }, { on := 4, ground := Go.Ground.textOnly Go.Departure.lateStores }, { on := 5, ground := Go.Ground.textOnly Go.Departure.lateStores }, { on := 6, ground := Go.Ground.textOnly Go.Departure.lateStoresUnsure }, { on := 7, ground := Go.Ground.textOnly Go.Departure.lateStores }], guard := none }) (v := ?vg21_8) rfl (by kernel_rfl) (by kernel_rfl) (by kernel_rfl) (by kernel_rfl) (fun _ _ _ h => h) (fun _ => hSg21_6) (Or.inl ⟨by rfl, ?hg21_8⟩) ?_
  case hg21_8 => intro w _; go_simp; (try with_reducible rfl)
  try simp only [Act.put, List.setIfInBounds_toArray, List.set_cons_zero, List.set_cons_succ]
  refine wpAnyG_take0 (i := 9) (oi := { dst := some 4, op := Go.Op.assign (Go.Operand.tmp 12), type := 9, pos := "ref.go:175", after := #[{ on := 7, ground := Go.Ground.data }, { on := 8, ground := Go.Ground.chain }, { on := 0, ground := Go.Ground.phase }, { on := 1, ground := Go.Ground.phase }, { on := 2, ground := Go.Ground.phase }, { on := 3, ground := Go.Ground.phase }, { on := 4, ground := Go.Ground.phase }, { on := 5, ground := Go.Ground.phase }, { on := 6, ground := Go.Ground.phase }, { on := 7, ground := Go.Ground.phase }, { on := 8, ground := Go.Ground.phase }], guard := none }) (v := ?vg21_9) rfl (by kernel_rfl) (by kernel_rfl) (by kernel_rfl) (by kernel_rfl) (fun _ _ _ h => h) (fun _ => hSg21_6) (Or.inl ⟨by rfl, ?hg21_9⟩) ?_
  case hg21_9 => intro w _; go_simp; (try with_reducible rfl)
  try simp only [Act.put, List.setIfInBounds_toArray, List.set_cons_zero, List.set_cons_succ]
  refine wpAnyG_done (by kernel_rfl) ?_ _
  have c0 : _ = some (Value.int .i64 kd) := HS3.out.2.cell 0
  have c1 : _ = some (Value.int .i64 a) := HS3.out.2.cell 1
  have c2 : _ = some (Value.string ⟨p.toArray⟩) := HS3.out.2.cell 2
  have c3 : _ = some (Value.slice Ab b.length cb) := HS3.out.2.cell 3
  have c4 : _ = some (Value.int .i64 f) := HS3.out.2.cell 4
  have c5 : _ = some (Value.int .i64 n) := HS3.out.2.cell 5
  have c6 : _ = some (Value.slice Ak kp.length ck) := HS3.out.2.cell 6
  go_wp2
  go_ret
  rw [HL2.out]
  exact ⟨rfl, HS3.out.1⟩
theorem rline_any (d : Dd) (Ab Ak : Option Addr) (cb ck : Nat) (w : World) (hb : RD encB w Ab d.bs) (hk : RD encT w Ak d.keep) (hcb : d.bs.length ≤ cb) (hlb : d.bs.length ≤ 3000) (hlp : d.path.length ≤ 3000) (hlk : d.keep.length ≤ 4000000)
    (ha : -9223372036854775808 ≤ d.a ∧ d.a ≤ 9223372036854775807) (hf : -9223372036854775808 ≤ d.frm ∧ d.frm ≤ 9223372036854775807) (hn : -9223372036854775808 ≤ d.n ∧ d.n ≤ 9223372036854775807) :
    Calls Tryd.prog 52 #[.agg (DvA d (.slice Ab d.bs.length cb) (.slice Ak d.keep.length ck))] w fun e w' => e = .returned (.string ⟨(rlineOf d).toArray⟩) ∧ Below w.heap.size w w' := by
  obtain ⟨kd, a, p, b, f, n, kp⟩ := d
  by_cases hk0 : kd = 1 ∨ kd = 2 ∨ kd = 3 ∨ kd = 4 ∨ kd = 5 ∨ kd = 6 ∨ kd = 7 ∨ kd = 8 ∨ kd = 9 ∨ kd = 10 ∨ kd = 11 ∨ kd = 12 ∨ kd = 13 ∨ kd = 14 ∨ kd = 15 ∨ kd = 16
  · rcases hk0 with rfl | rfl | rfl | rfl | rfl | rfl | rfl | rfl | rfl | rfl | rfl | rfl | rfl | rfl | rfl | rfl
    · exact rline_1 a p b f n kp Ab Ak cb ck w hb hk hcb hlb hlp hlk ha hf hn
    · exact rline_2 a p b f n kp Ab Ak cb ck w hb hk hcb hlb hlp hlk ha hf hn
    · exact rline_3 a p b f n kp Ab Ak cb ck w hb hk hcb hlb hlp hlk ha hf hn
    · exact rline_4 a p b f n kp Ab Ak cb ck w hb hk hcb hlb hlp hlk ha hf hn
    · exact rline_5 a p b f n kp Ab Ak cb ck w hb hk hcb hlb hlp hlk ha hf hn
    · exact rline_6 a p b f n kp Ab Ak cb ck w hb hk hcb hlb hlp hlk ha hf hn
    · exact rline_7 a p b f n kp Ab Ak cb ck w hb hk hcb hlb hlp hlk ha hf hn
    · exact rline_8 a p b f n kp Ab Ak cb ck w hb hk hcb hlb hlp hlk ha hf hn
    · exact rline_9 a p b f n kp Ab Ak cb ck w hb hk hcb hlb hlp hlk ha hf hn
    · exact rline_10 a p b f n kp Ab Ak cb ck w hb hk hcb hlb hlp hlk ha hf hn
    · exact rline_11 a p b f n kp Ab Ak cb ck w hb hk hcb hlb hlp hlk ha hf hn
    · exact rline_12 a p b f n kp Ab Ak cb ck w hb hk hcb hlb hlp hlk ha hf hn
    · exact rline_13 a p b f n kp Ab Ak cb ck w hb hk hcb hlb hlp hlk ha hf hn
    · exact rline_14 a p b f n kp Ab Ak cb ck w hb hk hcb hlb hlp hlk ha hf hn
    · exact rline_15 a p b f n kp Ab Ak cb ck w hb hk hcb hlb hlp hlk ha hf hn
    · exact rline_16 a p b f n kp Ab Ak cb ck w hb hk hcb hlb hlp hlk ha hf hn
  · exact rline_other kd a p b f n kp Ab Ak cb ck w hb hk hcb hlb hlp hlk ha hf hn hk0
end Go.Proofs.YtopfbbnpbobhaaaDoor
