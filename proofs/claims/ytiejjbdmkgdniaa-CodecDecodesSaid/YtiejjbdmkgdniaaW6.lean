/- The laws' liveness check, walked. -/
import Derived.Test.YtiejjbdmkgdniaaW4
import Derived.Test.YtiejjbdmkgdniaaCpc
import Derived.Laws.BytesArg
import Derived.Lib.SlBytesConst
set_option linter.unusedVariables false
set_option linter.unusedSimpArgs false
namespace Go.Cod
open Go.Huf
theorem enc_lt {b : List Nat} (hb : ∀ x ∈ b, x < 256) (hl : b.length ≤ 20000) : ∀ y ∈ encP b, y < 256 := by
  intro y hy
  have h1 : (tokP b).length ≤ b.length := tok_len _ 0
  unfold encP at hy
  split at hy
  · rcases List.mem_cons.1 hy with rfl | hy
    · omega
    · rcases List.mem_append.1 hy with hy | hy
      · exact varP_lt (by omega) y hy
      · exact Go.Proofs.Ytiejjbdmkgdniaa.packR_lt (by omega) y hy
  · rcases List.mem_cons.1 hy with rfl | hy
    · omega
    · rcases List.mem_append.1 hy with hy | hy
      · exact varP_lt (by omega) y hy
      · exact hb y hy
end Go.Cod
namespace Go.Proofs.Ytiejjbdmkgdniaa
open Go.RowKit Go.Sal Go.Huf Go.Cod
def strN (l : List Nat) : ByteArray := ⟨(l.map UInt8.ofNat).toArray⟩
theorem conv0 (a : Addr) (c : Nat) (w : World) : (convert 24 9 (.slice (some a) 0 c)).run Try.prog w = .ok (.string ⟨#[]⟩) w := by
  have hl : (loadCells a 0).run Try.prog w = .ok (([] : List Int).map (Value.int .u8)).toArray w := by
    have := run_loadCells_list (P := Try.prog) w a (([] : List Int).map (Value.int .u8)) (fun j v hj => by simp at hj)
    simpa using this
  have h1 := run_convert_bytes_string (P := Try.prog) w 24 9 5 (some a) 0 c Try.underlying24 Try.underlying5 Try.underlying9
  have h2 := run_bytesToString (P := Try.prog) w a 0 c [] hl
  exact h1.trans (h2.trans rfl)
theorem str_src {w : World} {A : Option Addr} {l : List Nat} (h : BySrc w A l) (c : Nat) : (convert 24 9 (.slice A l.length c)).run Try.prog w = .ok (.string (strN l)) w := by
  cases A with
  | none =>
    have hz : l = [] := by
      cases l with
      | nil => rfl
      | cons x l =>
        obtain ⟨g, o, h, _⟩ := h.1 0 (by simp)
        cases h
    subst hz
    have := run_convert_bytes_nil w 24 5 Try.underlying24 Try.underlying5 0 c 9 Try.underlying9
    exact this
  | some a =>
    rcases Nat.eq_zero_or_pos l.length with h0 | h0
    · have hz : l = [] := List.eq_nil_of_length_eq_zero h0
      subst hz
      have e1 : strN [] = ⟨#[]⟩ := rfl
      rw [List.length_nil, e1]
      exact conv0 a c w
    · obtain ⟨g, o, e, _⟩ := h.1 0 h0
      obtain rfl := Option.some.inj e
      have := run_convert_bytes_arg w 24 5 Try.underlying24 Try.underlying5 g o l.length c (l.map fun (k : Nat) => (k : Int)) (by simp) (fun i hi => by
        obtain ⟨g', o', e, _, hc⟩ := h.1 i hi
        injection e with e
        injection e with e1 e2
        subst e1; subst e2
        rw [hc]
        simp [List.getD, hi]) 9 Try.underlying9
      rw [this]
      simp [strOfNums, strN, Function.comp_def]
def ZB (n : Nat) : Obj := .cells (madeCells #[.int .u8 0] (n * 1)) 5 (0, 0)
theorem mkb100 (w : World) : (Instr.makeSlice 24 (.int .i64 100) (.int .i64 100)).run Try.prog w = .ok (.slice (some ⟨w.heap.size, 0, none⟩) 100 100) (w.alloc (ZB 100)) := by kernel_rfl
theorem zb_src (w : World) (n : Nat) : BySrc (w.alloc (ZB n)) (some ⟨w.heap.size, 0, none⟩) (List.replicate n 0) := by
  refine ⟨fun i hi => ⟨w.heap.size, 0, rfl, by simp, ?_⟩, fun x hx => by rw [(List.mem_replicate.1 hx).2]; omega⟩
  rw [List.length_replicate] at hi
  have hb : Blk (w.alloc (ZB n)) w.heap.size 5 (madeCells #[.int .u8 0] (n * 1)) := heap_alloc_new w _
  rw [Nat.zero_add, hb.cell i, List.getElem_replicate]
  have := toList_madeCells_one (.int .u8 0) (n * 1)
  rw [← Array.getElem?_toList, this]
  simp [hi]
theorem encode_ab (w : World) : Calls Try.prog 18 #[.slice (some ⟨w.heap.size, 0, none⟩) 2 2] (w.alloc (.cells #[.int .u8 97, .int .u8 98] 5 (2, 3))) fun e w' =>
    ∃ A c, e = .returned (.tuple #[.slice A 4 c, .int .i64 0]) ∧ BySrc w' A [0, 2, 97, 98] ∧ Keep [] w w' := by
  have hs : BySrc (w.alloc (.cells #[.int .u8 97, .int .u8 98] 5 (2, 3))) (some ⟨w.heap.size, 0, none⟩) [97, 98] := by
    have hb := heap_alloc_new w (.cells #[.int .u8 97, .int .u8 98] 5 (2, 3))
    refine ⟨fun i hi => ⟨w.heap.size, 0, rfl, by simp, ?_⟩, by simp⟩
    rw [Nat.zero_add]
    have := cell_of_row _ w.heap.size i _ _ _ hb
    simp at hi
    rcases Nat.lt_or_ge i 1 with h | h
    · obtain rfl : i = 0 := by omega
      exact this
    · obtain rfl : i = 1 := by omega
      exact this
  refine (encode_any [97, 98] _ 2 _ hs (by simp) (by simp)).mono ?_
  rintro e w' ⟨A, c, rfl, ho, hk⟩
  rw [enc_ab] at ho ⊢
  exact ⟨A, c, rfl, bsrc_own ho (by simp), ((Keep.refl [] w).alloc _).trans hk⟩
theorem zeros_lt : ∀ x ∈ List.replicate 100 0, x < 256 := fun x hx => by rw [(List.mem_replicate.1 hx).2]; omega
theorem encode_zeros (w : World) : ∃ r, encP (List.replicate 100 0) = 1 :: r ∧ r.length < 59 ∧ Calls Try.prog 18 #[.slice (some ⟨w.heap.size, 0, none⟩) 100 100] (w.alloc (ZB 100)) fun e w' =>
    ∃ A c, e = .returned (.tuple #[.slice A (1 :: r).length c, .int .i64 0]) ∧ BySrc w' A (1 :: r) ∧ (1 :: r).length ≤ c ∧ (∀ a, A = some a → a.block < w'.heap.size) ∧ Keep [] w w' := by
  obtain ⟨r, h1, h2⟩ := enc_zeros
  refine ⟨r, h1, h2, (encode_any (List.replicate 100 0) _ 100 _ (zb_src w 100) (by simp) (by simp)).mono ?_⟩
  rintro e w' ⟨A, c, rfl, ho, hk⟩
  have hlt := enc_lt (b := List.replicate 100 0) zeros_lt (by simp)
  rw [h1] at ho hlt ⊢
  obtain ⟨g, rfl, h3, h4⟩ := own_some ho (by simp)
  exact ⟨_, c, rfl, bsrc_own ho hlt, (own_cap ho).1, fun a ha => by injection ha with ha; subst ha; exact h3, ((Keep.refl [] w).alloc _).trans hk⟩
theorem decode_zeros {r : List Nat} (h : encP (List.replicate 100 0) = 1 :: r) (hr : r.length < 59) (w : World) (A : Option Addr) (c : Nat) (hs : BySrc w A (1 :: r)) (hc : (1 :: r).length ≤ c) (hA : ∀ a, A = some a → a.block < w.heap.size) :
    Calls Try.prog 20 #[.slice A (1 :: r).length c] w fun e w' => ∃ A2 c2, e = .returned (.tuple #[.slice A2 100 c2, .int .i64 0]) ∧ BySrc w' A2 (List.replicate 100 0) ∧ Keep [] w w' := by
  refine (decode_any (1 :: r) A c w hs hc hA (by simp; omega)).mono ?_
  have hd := dec_yes (dec_back (b := List.replicate 100 0) zeros_lt (by simp))
  rw [h] at hd
  rw [hd.1, hd.2]
  rintro e w' ⟨A2, c2, rfl, ho, hk⟩
  rw [List.length_replicate] at ho ⊢
  exact ⟨A2, c2, rfl, bsrc_own ho zeros_lt, hk⟩
theorem conv_ab (w : World) : (convert 24 24 (.slice (some ⟨w.heap.size, 0, none⟩) 2 2)).run Try.prog (w.alloc (.cells #[.int .u8 97, .int .u8 98] 5 (0, 0))) = .ok (.slice (some ⟨w.heap.size, 0, none⟩) 2 2) (w.alloc (.cells #[.int .u8 97, .int .u8 98] 5 (2, 3))) :=
  Lib.run_convert_bytes_const w 24 5 #[.int .u8 97, .int .u8 98] 2 2 Try.underlying24 Try.underlying5
theorem str_ab : strN [0, 2, 97, 98] = { data := #[0, 2, 97, 98] } := rfl
set_option maxRecDepth 20000 in
set_option maxHeartbeats 2000000 in
theorem alive_any (w : World) : Calls Try.prog 13 #[] w fun e w' => e = .returned (.bool true) ∧ Keep [] w w' := by
  have cv := conv_ab w
  go_enter Try.func13, Try.ntmps13
  go_upto_region 2 with (go_at_call 18; refine (encode_ab _).mono ?_; rintro e w1 ⟨A1, c1, rfl, hs1, hk1⟩; have H1 := Lib.hid (And.intro hs1 hk1); clear hs1 hk1)
  have mk := mkb100
  obtain ⟨r, hr1, hr2, hE⟩ := encode_zeros w1
  have HZ : Hid (∀ W : World, BySrc (W.alloc (ZB 100)) (some ⟨W.heap.size, 0, none⟩) (List.replicate 100 0)) := Lib.hid (fun W => zb_src W 100)
  have HD := Lib.hid (@decode_zeros r hr1 hr2)
  have HE := Lib.hid hE
  have hl60 : (1 :: r).length < 60 := by simp; omega
  have hl0 : 0 < (1 :: r).length := by simp
  clear hE hr1 hr2
  have Hc0 : Hid (∀ (W : World) (A : Option Addr), BySrc W A (1 :: r) → ∃ g o, A = some ⟨g, o, none⟩ ∧ W.cell? ⟨g, o, none⟩ = some (.int .u8 1)) := Lib.hid (fun W A h => by
    obtain ⟨g, o, e, _, hc⟩ := h.1 0 (by simp)
    exact ⟨g, o, e, by simpa using hc⟩)
  generalize 1 :: r = R at *
  generalize ZB 100 = Z at *
  go_upto_region 3 with (go_at_call 18; refine HE.out.mono ?_; rintro e w2 ⟨A2, c2, rfl, hs2, hc2, ha2, hk2⟩; have H2 := Lib.hid (And.intro (H1.out.1.keep hk2 (by simp)) (And.intro (H1.out.2.trans hk2) (And.intro hs2 (And.intro hc2 ha2)))); clear hs2 hc2 ha2 hk2)
  go_upto_region 4 with (go_at_call 20; refine (HD.out w2 A2 c2 H2.out.2.2.1 H2.out.2.2.2.1 H2.out.2.2.2.2).mono ?_; rintro e w3 ⟨A3, c3, rfl, hs3, hk3⟩; have H3 := Lib.hid (And.intro (H2.out.1.keep hk3 (by simp)) (And.intro (H2.out.2.1.trans hk3) (And.intro (H2.out.2.2.1.keep hk3 (by simp)) hs3))); clear hs3 hk3)
  have ka : Keep [] w3 (w3.alloc Z).drew := ((Keep.refl [] w3).alloc _).drew
  have kd : Keep [] w3 w3.drew := (Keep.refl [] w3).drew
  have e1 := str_src (H3.out.1.keep kd (by simp)) c1
  have e2 := str_src (H3.out.2.2.2.keep kd (by simp)) c3
  have e3 := str_src (H3.out.2.2.2.keep ka (by simp)) c3
  have x1 := str_src (H3.out.1.keep ka (by simp)) c1
  have e4 := str_src ((HZ.out w3).keep ((Keep.refl [] _).drew) (by simp)) 100
  rw [List.length_replicate] at e2 e3 e4
  rw [str_ab] at e1 x1
  obtain ⟨g, o, rfl, hcell⟩ := Hc0.out _ _ (H3.out.2.2.1.keep kd (by simp))
  have x2 : (w3.alloc Z).drew.cell? ⟨g, o, none⟩ = some (.int .u8 1) := by
    obtain ⟨g', o', he, hq⟩ := Hc0.out _ _ (H3.out.2.2.1.keep ka (by simp))
    injection he with he
    injection he with he1 he2
    subst he1; subst he2
    exact hq
  have Hk : Hid (Keep [] w (w3.alloc Z).drew) := Lib.hid (H3.out.2.1.trans ka)
  have hl60i : (R.length : Int) < 60 := by omega
  have hl0i : (0 : Int) < R.length := by omega
  have hl60b : decide ((R.length : Int) < 60) = true := decide_eq_true hl60i
  clear HD HE H1 H2 Hc0 HZ ka kd
  generalize strN (List.replicate 100 0) = S at *
  refine wp_region_G (fun W => (convert 24 9 (.slice A1 4 c1)).run Try.prog W = .ok (.string { data := #[0, 2, 97, 98] }) W ∧ (convert 24 9 (.slice A3 100 c3)).run Try.prog W = .ok (.string S) W ∧ W.cell? ⟨g, o, none⟩ = some (.int .u8 1)) [] #[false, false, false, false, false, false, false, false, false, false, false, false, false, false, false, false, false, false, false, false, false, false, false, false, false, false, false, false, false, false, false, false, false, false] 34 (by kernel_rfl) (by kernel_rfl) (by kernel_rfl) ?_
  refine wpAnyG_take0 (i := 0) (oi := { dst := some 23, op := Go.Op.move (Go.Operand.tmp 2), type := 25, pos := "law.go:22", after := #[], guard := none }) (v := ?vg1_0) rfl (by kernel_rfl) (by kernel_rfl) (by kernel_rfl) (by kernel_rfl) (fun _ _ _ h => h) (fun _ => ⟨e1, e2, hcell⟩) (Or.inl ⟨by rfl, ?hg1_0⟩) ?_
  case hg1_0 => intro w _; go_simp; (try with_reducible rfl)
  try simp only [Act.put, List.setIfInBounds_toArray, List.set_cons_zero, List.set_cons_succ]
  refine wpAnyG_take0 (i := 1) (oi := { dst := some 24, op := Go.Op.binOp Go.BinOp.eql 25 (Go.Operand.tmp 23) (Go.Operand.const (Go.Value.int Go.IntKind.i64 0)) 25, type := 4, pos := "law.go:22", after := #[{ on := 0, ground := Go.Ground.data }], guard := none }) (v := ?vg1_1) rfl (by kernel_rfl) (by kernel_rfl) (by kernel_rfl) (by kernel_rfl) (fun _ _ _ h => h) (fun _ => ⟨e1, e2, hcell⟩) (Or.inl ⟨by rfl, ?hg1_1⟩) ?_
  case hg1_1 => intro w _; go_simp; (try with_reducible rfl)
  try simp only [Act.put, List.setIfInBounds_toArray, List.set_cons_zero, List.set_cons_succ]
  refine wpAnyG_take0 (i := 2) (oi := { dst := some 25, op := Go.Op.move (Go.Operand.tmp 24), type := 4, pos := "law.go:22", after := #[{ on := 1, ground := Go.Ground.data }], guard := none }) (v := ?vg1_2) rfl (by kernel_rfl) (by kernel_rfl) (by kernel_rfl) (by kernel_rfl) (fun _ _ _ h => h) (fun _ => ⟨e1, e2, hcell⟩) (Or.inl ⟨by rfl, ?hg1_2⟩) ?_
  case hg1_2 => intro w _; go_simp; (try with_reducible rfl)
  try simp only [Act.put, List.setIfInBounds_toArray, List.set_cons_zero, List.set_cons_succ]
  refine wpAnyG_take0 (i := 3) (oi := { dst := some 26, op := Go.Op.move (Go.Operand.tmp 4), type := 25, pos := "law.go:22", after := #[{ on := 2, ground := Go.Ground.guard }], guard := some (2, true) }) (v := ?vg1_3) rfl (by kernel_rfl) (by kernel_rfl) (by kernel_rfl) (by kernel_rfl) (fun _ _ _ h => h) (fun _ => ⟨e1, e2, hcell⟩) (Or.inl ⟨by rfl, ?hg1_3⟩) ?_
  case hg1_3 => intro w _; go_simp; (try with_reducible rfl)
  try simp only [Act.put, List.setIfInBounds_toArray, List.set_cons_zero, List.set_cons_succ]
  refine wpAnyG_take0 (i := 4) (oi := { dst := some 27, op := Go.Op.binOp Go.BinOp.eql 25 (Go.Operand.tmp 26) (Go.Operand.const (Go.Value.int Go.IntKind.i64 0)) 25, type := 4, pos := "law.go:22", after := #[{ on := 3, ground := Go.Ground.data }, { on := 2, ground := Go.Ground.guard }], guard := some (2, true) }) (v := ?vg1_4) rfl (by kernel_rfl) (by kernel_rfl) (by kernel_rfl) (by kernel_rfl) (fun _ _ _ h => h) (fun _ => ⟨e1, e2, hcell⟩) (Or.inl ⟨by rfl, ?hg1_4⟩) ?_
  case hg1_4 => intro w _; go_simp; (try with_reducible rfl)
  try simp only [Act.put, List.setIfInBounds_toArray, List.set_cons_zero, List.set_cons_succ]
  refine wpAnyG_take0 (i := 5) (oi := { dst := some 28, op := Go.Op.pick (Go.Operand.tmp 25) (Go.Operand.tmp 27) (Go.Operand.const (Go.Value.bool false)), type := 4, pos := "law.go:22", after := #[{ on := 2, ground := Go.Ground.data }, { on := 4, ground := Go.Ground.data }], guard := none }) (v := ?vg1_5) rfl (by kernel_rfl) (by kernel_rfl) (by kernel_rfl) (by kernel_rfl) (fun _ _ _ h => h) (fun _ => ⟨e1, e2, hcell⟩) (Or.inl ⟨by rfl, ?hg1_5⟩) ?_
  case hg1_5 => intro w _; go_simp; (try with_reducible rfl)
  try simp only [Act.put, List.setIfInBounds_toArray, List.set_cons_zero, List.set_cons_succ]
  refine wpAnyG_take0 (i := 6) (oi := { dst := some 29, op := Go.Op.move (Go.Operand.tmp 28), type := 4, pos := "law.go:22", after := #[{ on := 5, ground := Go.Ground.data }, { on := 2, ground := Go.Ground.chain }], guard := none }) (v := ?vg1_6) rfl (by kernel_rfl) (by kernel_rfl) (by kernel_rfl) (by kernel_rfl) (fun _ _ _ h => h) (fun _ => ⟨e1, e2, hcell⟩) (Or.inl ⟨by rfl, ?hg1_6⟩) ?_
  case hg1_6 => intro w _; go_simp; (try with_reducible rfl)
  try simp only [Act.put, List.setIfInBounds_toArray, List.set_cons_zero, List.set_cons_succ]
  refine wpAnyG_take0 (i := 7) (oi := { dst := some 30, op := Go.Op.move (Go.Operand.tmp 6), type := 25, pos := "law.go:22", after := #[{ on := 6, ground := Go.Ground.guard }], guard := some (6, true) }) (v := ?vg1_7) rfl (by kernel_rfl) (by kernel_rfl) (by kernel_rfl) (by kernel_rfl) (fun _ _ _ h => h) (fun _ => ⟨e1, e2, hcell⟩) (Or.inl ⟨by rfl, ?hg1_7⟩) ?_
  case hg1_7 => intro w _; go_simp; (try with_reducible rfl)
  try simp only [Act.put, List.setIfInBounds_toArray, List.set_cons_zero, List.set_cons_succ]
  refine wpAnyG_take0 (i := 8) (oi := { dst := some 31, op := Go.Op.binOp Go.BinOp.eql 25 (Go.Operand.tmp 30) (Go.Operand.const (Go.Value.int Go.IntKind.i64 0)) 25, type := 4, pos := "law.go:22", after := #[{ on := 7, ground := Go.Ground.data }, { on := 6, ground := Go.Ground.guard }], guard := some (6, true) }) (v := ?vg1_8) rfl (by kernel_rfl) (by kernel_rfl) (by kernel_rfl) (by kernel_rfl) (fun _ _ _ h => h) (fun _ => ⟨e1, e2, hcell⟩) (Or.inl ⟨by rfl, ?hg1_8⟩) ?_
  case hg1_8 => intro w _; go_simp; (try with_reducible rfl)
  try simp only [Act.put, List.setIfInBounds_toArray, List.set_cons_zero, List.set_cons_succ]
  refine wpAnyG_take0 (i := 9) (oi := { dst := some 32, op := Go.Op.pick (Go.Operand.tmp 29) (Go.Operand.tmp 31) (Go.Operand.const (Go.Value.bool false)), type := 4, pos := "law.go:22", after := #[{ on := 6, ground := Go.Ground.data }, { on := 8, ground := Go.Ground.data }], guard := none }) (v := ?vg1_9) rfl (by kernel_rfl) (by kernel_rfl) (by kernel_rfl) (by kernel_rfl) (fun _ _ _ h => h) (fun _ => ⟨e1, e2, hcell⟩) (Or.inl ⟨by rfl, ?hg1_9⟩) ?_
  case hg1_9 => intro w _; go_simp; (try with_reducible rfl)
  try simp only [Act.put, List.setIfInBounds_toArray, List.set_cons_zero, List.set_cons_succ]
  refine wpAnyG_take0 (i := 10) (oi := { dst := some 33, op := Go.Op.move (Go.Operand.tmp 32), type := 4, pos := "law.go:22", after := #[{ on := 9, ground := Go.Ground.data }, { on := 6, ground := Go.Ground.chain }], guard := none }) (v := ?vg1_10) rfl (by kernel_rfl) (by kernel_rfl) (by kernel_rfl) (by kernel_rfl) (fun _ _ _ h => h) (fun _ => ⟨e1, e2, hcell⟩) (Or.inl ⟨by rfl, ?hg1_10⟩) ?_
  case hg1_10 => intro w _; go_simp; (try with_reducible rfl)
  try simp only [Act.put, List.setIfInBounds_toArray, List.set_cons_zero, List.set_cons_succ]
  refine wpAnyG_take0 (i := 11) (oi := { dst := some 34, op := Go.Op.move (Go.Operand.tmp 1), type := 24, pos := "law.go:22", after := #[{ on := 10, ground := Go.Ground.guard }], guard := some (10, true) }) (v := ?vg1_11) rfl (by kernel_rfl) (by kernel_rfl) (by kernel_rfl) (by kernel_rfl) (fun _ _ _ h => h) (fun _ => ⟨e1, e2, hcell⟩) (Or.inl ⟨by rfl, ?hg1_11⟩) ?_
  case hg1_11 => intro w _; go_simp; (try with_reducible rfl)
  try simp only [Act.put, List.setIfInBounds_toArray, List.set_cons_zero, List.set_cons_succ]
  refine wpAnyG_take (i := 12) (oi := { dst := some 35, op := Go.Op.convert 24 9 (Go.Operand.tmp 34), type := 9, pos := "law.go:22", after := #[{ on := 11, ground := Go.Ground.data }, { on := 10, ground := Go.Ground.guard }], guard := some (10, true) }) (v := ?vg1_12) [12, 13, 14, 15, 16, 17, 18, 19, 20, 21, 22, 23, 24, 25, 26, 27, 28, 29, 30, 31, 32, 33] rfl (by kernel_rfl) (by kernel_rfl) (by kernel_rfl) (by kernel_rfl) (by kernel_rfl) (fun _ _ _ h => h) (fun _ => ⟨e1, e2, hcell⟩) (Or.inl ⟨by rfl, ?hg1_12⟩) ?_
  case hg1_12 => intro w hSw; (try dsimp only at hSw); go_simp; (try with_reducible rfl)
  try simp only [Act.put, List.setIfInBounds_toArray, List.set_cons_zero, List.set_cons_succ]
  refine wpAnyG_take0 (i := 13) (oi := { dst := some 36, op := Go.Op.binOp Go.BinOp.eql 9 (Go.Operand.tmp 35) (Go.Operand.const (Go.Value.string { data := #[0, 2, 97, 98] })) 9, type := 4, pos := "law.go:22", after := #[{ on := 12, ground := Go.Ground.data }, { on := 10, ground := Go.Ground.guard }], guard := some (10, true) }) (v := ?vg1_13) rfl (by kernel_rfl) (by kernel_rfl) (by kernel_rfl) (by kernel_rfl) (fun _ _ _ h => h) (fun _ => ⟨e1, e2, hcell⟩) (Or.inl ⟨by rfl, ?hg1_13⟩) ?_
  case hg1_13 => intro w _; go_simp; (try with_reducible rfl)
  try simp only [Act.put, List.setIfInBounds_toArray, List.set_cons_zero, List.set_cons_succ]
  refine wpAnyG_take0 (i := 14) (oi := { dst := some 37, op := Go.Op.pick (Go.Operand.tmp 33) (Go.Operand.tmp 36) (Go.Operand.const (Go.Value.bool false)), type := 4, pos := "law.go:22", after := #[{ on := 10, ground := Go.Ground.data }, { on := 13, ground := Go.Ground.data }], guard := none }) (v := ?vg1_14) rfl (by kernel_rfl) (by kernel_rfl) (by kernel_rfl) (by kernel_rfl) (fun _ _ _ h => h) (fun _ => ⟨e1, e2, hcell⟩) (Or.inl ⟨by rfl, ?hg1_14⟩) ?_
  case hg1_14 => intro w _; go_simp; (try with_reducible rfl)
  try simp only [Act.put, List.setIfInBounds_toArray, List.set_cons_zero, List.set_cons_succ]
  refine wpAnyG_take0 (i := 15) (oi := { dst := some 38, op := Go.Op.move (Go.Operand.tmp 37), type := 4, pos := "law.go:22", after := #[{ on := 14, ground := Go.Ground.data }, { on := 10, ground := Go.Ground.chain }], guard := none }) (v := ?vg1_15) rfl (by kernel_rfl) (by kernel_rfl) (by kernel_rfl) (by kernel_rfl) (fun _ _ _ h => h) (fun _ => ⟨e1, e2, hcell⟩) (Or.inl ⟨by rfl, ?hg1_15⟩) ?_
  case hg1_15 => intro w _; go_simp; (try with_reducible rfl)
  try simp only [Act.put, List.setIfInBounds_toArray, List.set_cons_zero, List.set_cons_succ]
  refine wpAnyG_take0 (i := 16) (oi := { dst := some 39, op := Go.Op.move (Go.Operand.tmp 3), type := 24, pos := "law.go:22", after := #[{ on := 15, ground := Go.Ground.guard }], guard := some (15, true) }) (v := ?vg1_16) rfl (by kernel_rfl) (by kernel_rfl) (by kernel_rfl) (by kernel_rfl) (fun _ _ _ h => h) (fun _ => ⟨e1, e2, hcell⟩) (Or.inl ⟨by rfl, ?hg1_16⟩) ?_
  case hg1_16 => intro w _; go_simp; (try with_reducible rfl)
  try simp only [Act.put, List.setIfInBounds_toArray, List.set_cons_zero, List.set_cons_succ]
  refine wpAnyG_take0 (i := 17) (oi := { dst := some 40, op := Go.Op.call { callee := Go.Callee.builtin Go.Builtin.len, args := #[Go.Operand.tmp 39], argTypes := #[24] }, type := 3, pos := "law.go:22", after := #[{ on := 16, ground := Go.Ground.data }, { on := 15, ground := Go.Ground.guard }], guard := some (15, true) }) (v := ?vg1_17) rfl (by kernel_rfl) (by kernel_rfl) (by kernel_rfl) (by kernel_rfl) (fun _ _ _ h => h) (fun _ => ⟨e1, e2, hcell⟩) (Or.inl ⟨by rfl, ?hg1_17⟩) ?_
  case hg1_17 => intro w _; go_simp; (try with_reducible rfl)
  try simp only [Act.put, List.setIfInBounds_toArray, List.set_cons_zero, List.set_cons_succ]
  refine wpAnyG_take0 (i := 18) (oi := { dst := some 41, op := Go.Op.binOp Go.BinOp.lss 3 (Go.Operand.tmp 40) (Go.Operand.const (Go.Value.int Go.IntKind.i64 60)) 3, type := 4, pos := "law.go:22", after := #[{ on := 17, ground := Go.Ground.data }, { on := 15, ground := Go.Ground.guard }], guard := some (15, true) }) (v := ?vg1_18) rfl (by kernel_rfl) (by kernel_rfl) (by kernel_rfl) (by kernel_rfl) (fun _ _ _ h => h) (fun _ => ⟨e1, e2, hcell⟩) (Or.inl ⟨by rfl, ?hg1_18⟩) ?_
  case hg1_18 => intro w _; go_simp; (try with_reducible rfl)
  try simp only [Act.put, List.setIfInBounds_toArray, List.set_cons_zero, List.set_cons_succ]
  refine wpAnyG_take0 (i := 19) (oi := { dst := some 42, op := Go.Op.pick (Go.Operand.tmp 38) (Go.Operand.tmp 41) (Go.Operand.const (Go.Value.bool false)), type := 4, pos := "law.go:22", after := #[{ on := 15, ground := Go.Ground.data }, { on := 18, ground := Go.Ground.data }], guard := none }) (v := ?vg1_19) rfl (by kernel_rfl) (by kernel_rfl) (by kernel_rfl) (by kernel_rfl) (fun _ _ _ h => h) (fun _ => ⟨e1, e2, hcell⟩) (Or.inl ⟨by rfl, ?hg1_19⟩) ?_
  case hg1_19 => intro w _; go_simp; (try with_reducible rfl)
  try simp only [Act.put, List.setIfInBounds_toArray, List.set_cons_zero, List.set_cons_succ]
  refine wpAnyG_take0 (i := 20) (oi := { dst := some 43, op := Go.Op.move (Go.Operand.tmp 42), type := 4, pos := "law.go:22", after := #[{ on := 19, ground := Go.Ground.data }, { on := 15, ground := Go.Ground.chain }], guard := none }) (v := ?vg1_20) rfl (by kernel_rfl) (by kernel_rfl) (by kernel_rfl) (by kernel_rfl) (fun _ _ _ h => h) (fun _ => ⟨e1, e2, hcell⟩) (Or.inl ⟨by rfl, ?hg1_20⟩) ?_
  case hg1_20 => intro w _; go_simp; (try with_reducible rfl)
  try simp only [Act.put, List.setIfInBounds_toArray, List.set_cons_zero, List.set_cons_succ]
  refine wpAnyG_take0 (i := 21) (oi := { dst := some 44, op := Go.Op.move (Go.Operand.tmp 3), type := 24, pos := "law.go:22", after := #[{ on := 20, ground := Go.Ground.guard }], guard := some (20, true) }) (v := ?vg1_21) rfl (by kernel_rfl) (by kernel_rfl) (by kernel_rfl) (by kernel_rfl) (fun _ _ _ h => h) (fun _ => ⟨e1, e2, hcell⟩) (Or.inl ⟨by rfl, ?hg1_21⟩) ?_
  case hg1_21 => intro w _; go_simp; (try with_reducible rfl)
  try simp only [Act.put, List.setIfInBounds_toArray, List.set_cons_zero, List.set_cons_succ]
  refine wpAnyG_take0 (i := 22) (oi := { dst := some 45, op := Go.Op.indexAddr 24 (Go.Operand.tmp 44) (Go.Operand.const (Go.Value.int Go.IntKind.i64 0)), type := 0, pos := "law.go:22", after := #[{ on := 21, ground := Go.Ground.data }, { on := 20, ground := Go.Ground.guard }], guard := some (20, true) }) (v := ?vg1_22) rfl (by kernel_rfl) (by kernel_rfl) (by kernel_rfl) (by kernel_rfl) (fun _ _ _ h => h) (fun _ => ⟨e1, e2, hcell⟩) (Or.inl ⟨by rfl, ?hg1_22⟩) ?_
  case hg1_22 => intro w _; go_simp; (try with_reducible rfl)
  try simp only [Act.put, List.setIfInBounds_toArray, List.set_cons_zero, List.set_cons_succ]
  refine wpAnyG_take (i := 23) (oi := { dst := some 46, op := Go.Op.load 5 (Go.Operand.tmp 45), type := 5, pos := "law.go:22", after := #[{ on := 22, ground := Go.Ground.data }, { on := 20, ground := Go.Ground.guard }], guard := some (20, true) }) (v := ?vg1_23) [23, 24, 25, 26, 27, 28, 29, 30, 31, 32, 33] rfl (by kernel_rfl) (by kernel_rfl) (by kernel_rfl) (by kernel_rfl) (by kernel_rfl) (fun _ _ _ h => h) (fun _ => ⟨e1, e2, hcell⟩) (Or.inl ⟨by rfl, ?hg1_23⟩) ?_
  case hg1_23 => intro w hSw; (try dsimp only at hSw); go_simp; (try with_reducible rfl)
  try simp only [Act.put, List.setIfInBounds_toArray, List.set_cons_zero, List.set_cons_succ]
  refine wpAnyG_take0 (i := 24) (oi := { dst := some 47, op := Go.Op.binOp Go.BinOp.eql 5 (Go.Operand.tmp 46) (Go.Operand.const (Go.Value.int Go.IntKind.u8 1)) 5, type := 4, pos := "law.go:22", after := #[{ on := 23, ground := Go.Ground.data }, { on := 20, ground := Go.Ground.guard }], guard := some (20, true) }) (v := ?vg1_24) rfl (by kernel_rfl) (by kernel_rfl) (by kernel_rfl) (by kernel_rfl) (fun _ _ _ h => h) (fun _ => ⟨e1, e2, hcell⟩) (Or.inl ⟨by rfl, ?hg1_24⟩) ?_
  case hg1_24 => intro w _; go_simp; (try with_reducible rfl)
  try simp only [Act.put, List.setIfInBounds_toArray, List.set_cons_zero, List.set_cons_succ]
  refine wpAnyG_take0 (i := 25) (oi := { dst := some 48, op := Go.Op.pick (Go.Operand.tmp 43) (Go.Operand.tmp 47) (Go.Operand.const (Go.Value.bool false)), type := 4, pos := "law.go:22", after := #[{ on := 20, ground := Go.Ground.data }, { on := 24, ground := Go.Ground.data }], guard := none }) (v := ?vg1_25) rfl (by kernel_rfl) (by kernel_rfl) (by kernel_rfl) (by kernel_rfl) (fun _ _ _ h => h) (fun _ => ⟨e1, e2, hcell⟩) (Or.inl ⟨by rfl, ?hg1_25⟩) ?_
  case hg1_25 => intro w _; go_simp; (try with_reducible rfl)
  try simp only [Act.put, List.setIfInBounds_toArray, List.set_cons_zero, List.set_cons_succ]
  refine wpAnyG_take0 (i := 26) (oi := { dst := some 49, op := Go.Op.move (Go.Operand.tmp 48), type := 4, pos := "law.go:22", after := #[{ on := 25, ground := Go.Ground.data }, { on := 20, ground := Go.Ground.chain }], guard := none }) (v := ?vg1_26) rfl (by kernel_rfl) (by kernel_rfl) (by kernel_rfl) (by kernel_rfl) (fun _ _ _ h => h) (fun _ => ⟨e1, e2, hcell⟩) (Or.inl ⟨by rfl, ?hg1_26⟩) ?_
  case hg1_26 => intro w _; go_simp; (try with_reducible rfl)
  try simp only [Act.put, List.setIfInBounds_toArray, List.set_cons_zero, List.set_cons_succ]
  refine wpAnyG_take0 (i := 27) (oi := { dst := some 50, op := Go.Op.move (Go.Operand.tmp 5), type := 24, pos := "law.go:22", after := #[{ on := 26, ground := Go.Ground.guard }], guard := some (26, true) }) (v := ?vg1_27) rfl (by kernel_rfl) (by kernel_rfl) (by kernel_rfl) (by kernel_rfl) (fun _ _ _ h => h) (fun _ => ⟨e1, e2, hcell⟩) (Or.inl ⟨by rfl, ?hg1_27⟩) ?_
  case hg1_27 => intro w _; go_simp; (try with_reducible rfl)
  try simp only [Act.put, List.setIfInBounds_toArray, List.set_cons_zero, List.set_cons_succ]
  refine wpAnyG_take (i := 28) (oi := { dst := some 51, op := Go.Op.convert 24 9 (Go.Operand.tmp 50), type := 9, pos := "law.go:22", after := #[{ on := 27, ground := Go.Ground.data }, { on := 26, ground := Go.Ground.guard }], guard := some (26, true) }) (v := ?vg1_28) [28, 31, 32, 33] rfl (by kernel_rfl) (by kernel_rfl) (by kernel_rfl) (by kernel_rfl) (by kernel_rfl) (fun _ _ _ h => h) (fun _ => ⟨e1, e2, hcell⟩) (Or.inl ⟨by rfl, ?hg1_28⟩) ?_
  case hg1_28 => intro w hSw; (try dsimp only at hSw); go_simp; (try with_reducible rfl)
  try simp only [Act.put, List.setIfInBounds_toArray, List.set_cons_zero, List.set_cons_succ]
  refine wpAnyG_step (i := 29) (oi := { dst := some 52, op := Go.Op.makeSlice 24 (Go.Operand.const (Go.Value.int Go.IntKind.i64 100)) (Go.Operand.const (Go.Value.int Go.IntKind.i64 100)), type := 24, pos := "law.go:22", after := #[{ on := 26, ground := Go.Ground.guard }], guard := some (26, true) }) rfl (by kernel_rfl) (by rfl) (fun K hK => ?_)
  go_simp
  refine hK _ _ ?_ (fun hSg1_29 => ?_)
  · intro _; exact ⟨x1, e3, x2⟩
  replace hSg1_29 := hSg1_29 (by kernel_rfl)
  clear hK
  try simp only [Act.put, List.setIfInBounds_toArray, List.set_cons_zero, List.set_cons_succ]
  refine wpAnyG_step (i := 30) (oi := { dst := some 53, op := Go.Op.convert 24 9 (Go.Operand.tmp 52), type := 9, pos := "law.go:22", after := #[{ on := 29, ground := Go.Ground.data }, { on := 26, ground := Go.Ground.guard }], guard := some (26, true) }) rfl (by kernel_rfl) (by rfl) (fun K hK => ?_)
  go_simp
  refine hK _ _ ?_ (fun hSg1_30 => ?_)
  · intro _; exact ⟨x1, e3, x2⟩
  replace hSg1_30 := hSg1_30 (by kernel_rfl)
  clear hK
  try simp only [Act.put, List.setIfInBounds_toArray, List.set_cons_zero, List.set_cons_succ]
  refine wpAnyG_take0 (i := 31) (oi := { dst := some 54, op := Go.Op.binOp Go.BinOp.eql 9 (Go.Operand.tmp 51) (Go.Operand.tmp 53) 9, type := 4, pos := "law.go:22", after := #[{ on := 28, ground := Go.Ground.data }, { on := 30, ground := Go.Ground.data }, { on := 26, ground := Go.Ground.guard }], guard := some (26, true) }) (v := ?vg1_31) rfl (by kernel_rfl) (by kernel_rfl) (by kernel_rfl) (by kernel_rfl) (fun _ _ _ h => h) (fun _ => hSg1_30) (Or.inl ⟨by rfl, ?hg1_31⟩) ?_
  case hg1_31 => intro w _; go_simp; (try with_reducible rfl)
  try simp only [Act.put, List.setIfInBounds_toArray, List.set_cons_zero, List.set_cons_succ]
  refine wpAnyG_take0 (i := 32) (oi := { dst := some 55, op := Go.Op.pick (Go.Operand.tmp 49) (Go.Operand.tmp 54) (Go.Operand.const (Go.Value.bool false)), type := 4, pos := "law.go:22", after := #[{ on := 26, ground := Go.Ground.data }, { on := 31, ground := Go.Ground.data }], guard := none }) (v := ?vg1_32) rfl (by kernel_rfl) (by kernel_rfl) (by kernel_rfl) (by kernel_rfl) (fun _ _ _ h => h) (fun _ => hSg1_30) (Or.inl ⟨by rfl, ?hg1_32⟩) ?_
  case hg1_32 => intro w _; go_simp; (try with_reducible rfl)
  try simp only [Act.put, List.setIfInBounds_toArray, List.set_cons_zero, List.set_cons_succ]
  refine wpAnyG_take0 (i := 33) (oi := { dst := some 0, op := Go.Op.assign (Go.Operand.tmp 55), type := 4, pos := "law.go:22", after := #[{ on := 32, ground := Go.Ground.data }, { on := 26, ground := Go.Ground.chain }, { on := 0, ground := Go.Ground.phase }, { on := 1, ground := Go.Ground.phase }, { on := 2, ground := Go.Ground.phase }, { on := 3, ground := Go.Ground.phase }, { on := 4, ground := Go.Ground.phase }, { on := 5, ground := Go.Ground.phase }, { on := 6, ground := Go.Ground.phase }, { on := 7, ground := Go.Ground.phase }, { on := 8, ground := Go.Ground.phase }, { on := 9, ground := Go.Ground.phase }, { on := 10, ground := Go.Ground.phase }, { on := 11, ground := Go.Ground.phase }, { on := 12, ground := Go.Ground.phase }, { on := 13, ground := Go.Ground.phase }, { on := 14, ground := Go.Ground.phase }, { on := 15, ground := Go.Ground.phase }, { on := 16, ground := Go.Ground.phase }, { on := 17, ground := Go.Ground.phase }, { on := 18, ground := Go.Ground.phase }, { on := 19, ground := Go.Ground.phase }, { on := 20, ground := Go.Ground.phase }, { on := 21, ground := Go.Ground.phase }, { on := 22, ground := Go.Ground.phase }, { on := 23, ground := Go.Ground.phase }, { on := 24, ground := Go.Ground.phase }, { on := 25, ground := Go.Ground.phase }, { on := 26, ground := Go.Ground.phase }, { on := 27, ground := Go.Ground.phase }, { on := 28, ground := Go.Ground.phase }, { on := 29, ground := Go.Ground.phase }, { on := 30, ground := Go.Ground.phase }, { on := 31, ground := Go.Ground.phase }, { on := 32, ground := Go.Ground.phase }], guard := none }) (v := ?vg1_33) rfl (by kernel_rfl) (by kernel_rfl) (by kernel_rfl) (by kernel_rfl) (fun _ _ _ h => h) (fun _ => hSg1_30) (Or.inl ⟨by rfl, ?hg1_33⟩) ?_
  case hg1_33 => intro w _; go_simp; (try with_reducible rfl)
  try simp only [Act.put, List.setIfInBounds_toArray, List.set_cons_zero, List.set_cons_succ]
  refine wpAnyG_done (by kernel_rfl) ?_ _
  go_wp2
  go_ret
  exact ⟨rfl, Hk.out⟩
end Go.Proofs.Ytiejjbdmkgdniaa
