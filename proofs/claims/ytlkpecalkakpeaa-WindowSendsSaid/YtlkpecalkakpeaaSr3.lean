/- The reference's sender: Push. -/
import Derived.Test.YtlkpecalkakpeaaSr2
set_option linter.unusedVariables false
set_option linter.unusedSimpArgs false
namespace Go.Proofs.Ytlkpecalkakpeaa
open Go.RowKit Go.Sal
def RPushPost (base br : Nat) (sz ag now : Int) (AL : Option Addr) (cL : Nat) (l : List (Snr Value)) (b : List UInt8) (w : World) (e : Ending) (w' : World) : Prop :=
  ∃ v' A' c', e = .returned (.tuple #[.int .i64 ((l.length : Int) + 1), .int .i64 0]) ∧ Reads base 5 w' v' b ∧ RS base br sz ag now A' c' (l ++ [⟨v', false, -1⟩]) w' ∧ Keep (br :: (Value.slice AL l.length cL).ownBlock.toList) w w'

set_option maxRecDepth 20000 in
set_option maxHeartbeats 4000000 in
theorem rpush_any (base br : Nat) (sz ag now : Int) (AL : Option Addr) (cL : Nat) (l : List (Snr Value)) (v : Value) (b : List UInt8) (w : World) (h : RS base br sz ag now AL cL l w) (hv : Reads base 5 w v b)
    (hB : base ≤ w.heap.size) (hbl : b.length ≤ 140737488355328) (hl : l.length ≤ 1000) (hbr : base ≤ br) :
    Calls Try.prog 24 #[.pointer (some ⟨br, 0, none⟩), v] w (RPushPost base br sz ag now AL cL l b w) := by
  obtain ⟨A, c, rfl, hbc, hcm, _⟩ := id hv
  have c3 : w.cell? ⟨br, 3, none⟩ = some (.slice AL l.length cL) := h.1.cell 3
  have hlb := h.1.lt
  -- the appends, before they are walked
  have hka : Keep [] w (w.drew.alloc (.cells #[] 5)) := ((Keep.refl [] w).drew).alloc _
  have hsz : w.drew.heap.size = w.heap.size := rfl
  have hs1 := ((hv.keep hka noByte_nil).src).2
  obtain ⟨v1, wb, hap1, hown1, hg1, hat1⟩ := run_append_src (P := Try.prog) (w.drew.alloc (.cells #[] 5)) 31 31 5 (.int .u8 0) 1 1 base Try.underlying31 u8info rfl (by omega) (.slice (some ⟨w.heap.size, 0, none⟩) 0 0) 0 []
    (World.ownsRow_made w.drew #[] 0 hB (by simp [maxLen]) (by simp)) A b.length c _ hs1 (byteCells_one b) (by unfold maxLen; omega) (by omega) (by simp [hsz]; omega)
  rw [Nat.zero_add] at hown1
  obtain ⟨AV, cV, rfl, _⟩ := own_slice hown1
  have hkb : Keep [] w wb := hka.grown hg1 (fun k hk => by simp [Value.ownBlock] at hk; right; omega)
  have hr1 : Reads base 5 wb (.slice AV b.length cV) b := Reads.of_own hown1
  have hkc : Keep [] w (wb.alloc (.cells #[.slice AV b.length cV, .bool false, .int .i64 (-1)] 98)) := hkb.alloc _
  have hownc := ownsRow_keep h.2 hkc (by simp)
  obtain ⟨v2, wd, hap2, hown2, hg2, hat2⟩ := run_append_src (P := Try.prog) (wb.alloc (.cells #[.slice AV b.length cV, .bool false, .int .i64 (-1)] 98)) 68 68 98 _ 3 40 base Try.underlying68 snrinfo rfl (by omega) (.slice AL l.length cL) l.length _ hownc
    (some ⟨wb.heap.size, 0, none⟩) 1 1 [.slice AV b.length cV, .bool false, .int .i64 (-1)] (src_new wb 98 3 [.slice AV b.length cV, .bool false, .int .i64 (-1)] rfl) (by simp [Value.oneCell']) (by unfold maxLen; omega) (by omega) (by have := hkb.size; simp; omega)
  obtain ⟨AB, cB, rfl, _⟩ := own_slice hown2
  have hkd : Keep (Value.slice AL l.length cL).ownBlock.toList w wd := (hkc.mono (by simp)).grown hg2 (fun k hk => .inl (by simp [hk]))
  have hnb : br ∉ (Value.slice AL l.length cL).ownBlock.toList := by
    have := own_ne_blk h.2 h.1 (by decide)
    simpa using this
  have hTd := h.1.keep hkd hnb
  have f1 : wd.cell? ⟨br, 3, none⟩ = some (.slice AL l.length cL) := hTd.cell 3
  have f2 : wd.frozen? ⟨br, 3, none⟩ = false := hTd.free 3
  have hnoL : NoByte base 5 (wb.alloc (.cells #[.slice AV b.length cV, .bool false, .int .i64 (-1)] 98)) (Value.slice AL l.length cL).ownBlock.toList := by simpa using noByte_own (F := []) hownc (Nat.le_refl _) (by decide) noByte_nil
  have hrd : Reads base 5 wd (.slice AV b.length cV) b := (hr1.keep ((Keep.refl [] wb).alloc _) noByte_nil).keep ((Keep.refl _ _).grown hg2 (fun k hk => .inl (by simp [hk]))) hnoL
  have Hkb := Lib.hid hkb
  have Hkc := Lib.hid hkc
  have Hkd := Lib.hid hkd
  have HTd := Lib.hid hTd
  have Hown2 := Lib.hid hown2
  have Hrd := Lib.hid hrd
  have HSk : Hid (∀ W, Keep [] w W → W.cell? ⟨br, 3, none⟩ = some (.slice AL l.length cL)) := Lib.hid (fun W k => (k.cell (p := ⟨br, 3, none⟩) hlb (by simp)).trans c3)
  have hb31 := run_empty_slice (P := Try.prog) 31 5 _ _ _ Try.underlying31 u8info
  have hS0 := HSk.out _ ((Keep.refl [] w).drew)
  have H := Lib.hid h
  have Hap1 := Lib.hid hap1
  have Hap2 := Lib.hid hap2
  have Hn : Hid (decide ((l.length : Int) + 1 ≤ 1001) = true) := Lib.hid (by simp; omega)
  clear h hv hka hs1 hown1 hg1 hat1 hkb hr1 hkc hownc hown2 hg2 hat2 hkd hnb hTd hnoL hrd hap1 hap2
  go_enter Try.func24, Try.ntmps24
  go_wp2
  go_loop [6, 7] (fun n i => ∃ j m : Nat, i = .int .i64 j ∧ j ≤ l.length ∧ n = .int .i64 m ∧ m ≤ j) (fun _ i => l.length - (intOf i).toNat)
  case atStart => exact ⟨0, 0, rfl, by omega, rfl, by omega⟩
  case round =>
    obtain ⟨j, m, rfl, hj, rfl, hm⟩ := hrel
    rcases Nat.lt_or_ge j l.length with hlt | hge
    · obtain ⟨g, hAL, _, _, _, q1, _⟩ := H.out.cells hlt
      subst hAL
      have hwj : IntKind.i64.wrap ((j : Int) + 1) = (j : Int) + 1 := by rw [IntKind.wrap_i64]; omega
      have hwm : IntKind.i64.wrap ((m : Int) + 1) = (m : Int) + 1 := by rw [IntKind.wrap_i64]; omega
      clear f1 f2 hS0
      generalize l[j].done = dn at *
      cases dn
      · go_wp2
        exact ⟨⟨j + 1, m + 1, by simp, by omega, by simp, by omega⟩, by simp [intOf]; omega⟩
      · go_wp2
        exact ⟨⟨j + 1, m, by simp, by omega, rfl, by omega⟩, by simp [intOf]; omega⟩
    · obtain rfl : j = l.length := by omega
      have hd : decide (65536 ≤ (m : Int)) = false := by simp; omega
      have hap1 := Hap1.out
      have hap2 := Hap2.out

      go_wp2_with fail
      clear c3
      refine wp_region_G (fun W => W.cell? ⟨br, 3, none⟩ = some (.slice AL l.length cL)) [13] #[false, false, false, false, false, false, false, false, false, false, false, false, false, false] 14 (by kernel_rfl) (by kernel_rfl) (by kernel_rfl) ?_
      refine wpAnyG_take0 (i := 0) (oi := { dst := some 30, op := Go.Op.move (Go.Operand.tmp 0), type := 62, pos := "ref.go:64", after := #[], guard := none }) (v := ?vg1_0) rfl (by kernel_rfl) (by kernel_rfl) (by kernel_rfl) (by kernel_rfl) (fun _ _ _ h => h) (fun _ => hS0) (Or.inl ⟨by rfl, ?hg1_0⟩) ?_
      case hg1_0 => intro w _; go_simp; (try with_reducible rfl)
      try simp only [Act.put, List.setIfInBounds_toArray, List.set_cons_zero, List.set_cons_succ]
      refine wpAnyG_take0 (i := 1) (oi := { dst := some 31, op := Go.Op.move (Go.Operand.tmp 0), type := 62, pos := "ref.go:64", after := #[], guard := none }) (v := ?vg1_1) rfl (by kernel_rfl) (by kernel_rfl) (by kernel_rfl) (by kernel_rfl) (fun _ _ _ h => h) (fun _ => hS0) (Or.inl ⟨by rfl, ?hg1_1⟩) ?_
      case hg1_1 => intro w _; go_simp; (try with_reducible rfl)
      try simp only [Act.put, List.setIfInBounds_toArray, List.set_cons_zero, List.set_cons_succ]
      refine wpAnyG_take0 (i := 2) (oi := { dst := some 32, op := Go.Op.nilCheck (Go.Operand.tmp 31), type := 0, pos := "ref.go:64", after := #[{ on := 1, ground := Go.Ground.data }], guard := none }) (v := ?vg1_2) rfl (by kernel_rfl) (by kernel_rfl) (by kernel_rfl) (by kernel_rfl) (fun _ _ _ h => h) (fun _ => hS0) (Or.inl ⟨by rfl, ?hg1_2⟩) ?_
      case hg1_2 => intro w _; go_simp; (try with_reducible rfl)
      try simp only [Act.put, List.setIfInBounds_toArray, List.set_cons_zero, List.set_cons_succ]
      refine wpAnyG_take0 (i := 3) (oi := { dst := some 33, op := Go.Op.fieldAddr 70 (Go.Operand.tmp 32) 3, type := 0, pos := "ref.go:64", after := #[{ on := 2, ground := Go.Ground.data }], guard := none }) (v := ?vg1_3) rfl (by kernel_rfl) (by kernel_rfl) (by kernel_rfl) (by kernel_rfl) (fun _ _ _ h => h) (fun _ => hS0) (Or.inl ⟨by rfl, ?hg1_3⟩) ?_
      case hg1_3 => intro w _; go_simp; (try with_reducible rfl)
      try simp only [Act.put, List.setIfInBounds_toArray, List.set_cons_zero, List.set_cons_succ]
      refine wpAnyG_take (i := 4) (oi := { dst := some 34, op := Go.Op.load 68 (Go.Operand.tmp 33), type := 68, pos := "ref.go:64", after := #[{ on := 3, ground := Go.Ground.data }], guard := none }) (v := ?vg1_4) [4, 10, 11, 12, 13] rfl (by kernel_rfl) (by kernel_rfl) (by kernel_rfl) (by kernel_rfl) (by kernel_rfl) (fun _ _ _ h => h) (fun _ => hS0) (Or.inl ⟨by rfl, ?hg1_4⟩) ?_
      case hg1_4 => intro w hSw; (try dsimp only at hSw); go_simp; (try with_reducible rfl)
      try simp only [Act.put, List.setIfInBounds_toArray, List.set_cons_zero, List.set_cons_succ]
      refine wpAnyG_take0 (i := 6) (oi := { dst := some 36, op := Go.Op.move (Go.Operand.tmp 1), type := 31, pos := "ref.go:64", after := #[], guard := none }) (v := ?vg1_6) rfl (by kernel_rfl) (by kernel_rfl) (by kernel_rfl) (by kernel_rfl) (fun _ _ _ h => h) (fun _ => hS0) (Or.inl ⟨by rfl, ?hg1_6⟩) ?_
      case hg1_6 => intro w _; go_simp; (try with_reducible rfl)
      try simp only [Act.put, List.setIfInBounds_toArray, List.set_cons_zero, List.set_cons_succ]
      refine wpAnyG_step (i := 5) (oi := { dst := some 35, op := Go.Op.buildSlice 31 0 #[], type := 31, pos := "ref.go:64", after := #[], guard := none }) rfl (by kernel_rfl) (by rfl) (fun K hK => ?_)
      go_simp
      refine hK _ _ ?_ (fun hSg1_5 => ?_)
      · intro _; exact HSk.out _ (((Keep.refl [] w).drew).alloc _)
      replace hSg1_5 := hSg1_5 (by kernel_rfl)
      clear hK
      try simp only [Act.put, List.setIfInBounds_toArray, List.set_cons_zero, List.set_cons_succ]
      refine wpAnyG_step (i := 7) (oi := { dst := some 37, op := Go.Op.call { callee := Go.Callee.builtin Go.Builtin.append, args := #[Go.Operand.tmp 35, Go.Operand.tmp 36], argTypes := #[31, 31] }, type := 31, pos := "ref.go:64", after := #[{ on := 5, ground := Go.Ground.data }, { on := 6, ground := Go.Ground.data }], guard := none }) rfl (by kernel_rfl) (by rfl) (fun K hK => ?_)
      refine wp_append2 (v1 := .slice (some ⟨w.heap.size, 0, none⟩) 0 0) (v2 := .slice A b.length c) (.tmp 35) (.tmp 36) rfl rfl rfl hap1 ?_
      refine hK _ _ ?_ (fun hSg1_7 => ?_)
      · intro _; exact HSk.out _ Hkb.out
      replace hSg1_7 := hSg1_7 (by kernel_rfl)
      clear hK
      try simp only [Act.put, List.setIfInBounds_toArray, List.set_cons_zero, List.set_cons_succ]
      refine wpAnyG_take0 (i := 8) (oi := { dst := some 38, op := Go.Op.build 98 #[(0, Go.Operand.tmp 37), (2, Go.Operand.const (Go.Value.int Go.IntKind.i64 (-1)))], type := 98, pos := "ref.go:64", after := #[{ on := 7, ground := Go.Ground.data }], guard := none }) (v := ?vg1_8) rfl (by kernel_rfl) (by kernel_rfl) (by kernel_rfl) (by kernel_rfl) (fun _ _ _ h => h) (fun _ => hSg1_7) (Or.inl ⟨by rfl, ?hg1_8⟩) ?_
      case hg1_8 => intro w _; go_simp; (try with_reducible rfl)
      try simp only [Act.put, List.setIfInBounds_toArray, List.set_cons_zero, List.set_cons_succ]
      refine wpAnyG_step (i := 9) (oi := { dst := some 39, op := Go.Op.buildSlice 68 1 #[(0, Go.Operand.tmp 38)], type := 68, pos := "ref.go:64", after := #[{ on := 8, ground := Go.Ground.data }], guard := none }) rfl (by kernel_rfl) (by rfl) (fun K hK => ?_)
      go_simp
      refine hK _ _ ?_ (fun hSg1_9 => ?_)
      · intro _; exact HSk.out _ Hkc.out
      replace hSg1_9 := hSg1_9 (by kernel_rfl)
      clear hK
      try simp only [Act.put, List.setIfInBounds_toArray, List.set_cons_zero, List.set_cons_succ]
      refine wpAnyG_step (i := 10) (oi := { dst := some 40, op := Go.Op.call { callee := Go.Callee.builtin Go.Builtin.append, args := #[Go.Operand.tmp 34, Go.Operand.tmp 39], argTypes := #[68, 68] }, type := 68, pos := "ref.go:64", after := #[{ on := 4, ground := Go.Ground.data }, { on := 9, ground := Go.Ground.data }, { on := 7, ground := Go.Ground.chain }], guard := none }) rfl (by kernel_rfl) (by rfl) (fun K hK => ?_)
      refine wp_append2 (v1 := .slice AL l.length cL) (v2 := .slice (some ⟨wb.heap.size, 0, none⟩) 1 1) (.tmp 34) (.tmp 39) rfl rfl rfl hap2 ?_
      refine hK _ _ ?_ (fun hSg1_10 => ?_)
      · intro _; exact f1
      replace hSg1_10 := hSg1_10 (by kernel_rfl)
      clear hK
      try simp only [Act.put, List.setIfInBounds_toArray, List.set_cons_zero, List.set_cons_succ]
      refine wpAnyG_take0 (i := 11) (oi := { dst := some 41, op := Go.Op.nilCheck (Go.Operand.tmp 30), type := 0, pos := "ref.go:64", after := #[{ on := 0, ground := Go.Ground.data }, { on := 0, ground := Go.Ground.phase }, { on := 1, ground := Go.Ground.phase }, { on := 2, ground := Go.Ground.phase }, { on := 3, ground := Go.Ground.phase }, { on := 4, ground := Go.Ground.phase }, { on := 5, ground := Go.Ground.phase }, { on := 6, ground := Go.Ground.phase }, { on := 7, ground := Go.Ground.phase }, { on := 8, ground := Go.Ground.phase }, { on := 9, ground := Go.Ground.phase }, { on := 10, ground := Go.Ground.phase }], guard := none }) (v := ?vg1_11) rfl (by kernel_rfl) (by kernel_rfl) (by kernel_rfl) (by kernel_rfl) (fun _ _ _ h => h) (fun _ => hSg1_10) (Or.inl ⟨by rfl, ?hg1_11⟩) ?_
      case hg1_11 => intro w _; go_simp; (try with_reducible rfl)
      try simp only [Act.put, List.setIfInBounds_toArray, List.set_cons_zero, List.set_cons_succ]
      refine wpAnyG_take0 (i := 12) (oi := { dst := some 42, op := Go.Op.fieldAddr 70 (Go.Operand.tmp 41) 3, type := 0, pos := "ref.go:64", after := #[{ on := 11, ground := Go.Ground.data }, { on := 0, ground := Go.Ground.phase }, { on := 1, ground := Go.Ground.phase }, { on := 2, ground := Go.Ground.phase }, { on := 3, ground := Go.Ground.phase }, { on := 4, ground := Go.Ground.phase }, { on := 5, ground := Go.Ground.phase }, { on := 6, ground := Go.Ground.phase }, { on := 7, ground := Go.Ground.phase }, { on := 8, ground := Go.Ground.phase }, { on := 9, ground := Go.Ground.phase }, { on := 10, ground := Go.Ground.phase }], guard := none }) (v := ?vg1_12) rfl (by kernel_rfl) (by kernel_rfl) (by kernel_rfl) (by kernel_rfl) (fun _ _ _ h => h) (fun _ => hSg1_10) (Or.inl ⟨by rfl, ?hg1_12⟩) ?_
      case hg1_12 => intro w _; go_simp; (try with_reducible rfl)
      try simp only [Act.put, List.setIfInBounds_toArray, List.set_cons_zero, List.set_cons_succ]
      refine wpAnyG_step (i := 13) (oi := { dst := none, op := Go.Op.store 68 (Go.Operand.tmp 42) (Go.Operand.tmp 40), type := 0, pos := "ref.go:64", after := #[{ on := 12, ground := Go.Ground.data }, { on := 10, ground := Go.Ground.data }, { on := 10, ground := Go.Ground.chain }, { on := 0, ground := Go.Ground.phase }, { on := 1, ground := Go.Ground.phase }, { on := 2, ground := Go.Ground.phase }, { on := 3, ground := Go.Ground.phase }, { on := 4, ground := Go.Ground.phase }, { on := 5, ground := Go.Ground.phase }, { on := 6, ground := Go.Ground.phase }, { on := 7, ground := Go.Ground.phase }, { on := 8, ground := Go.Ground.phase }, { on := 9, ground := Go.Ground.phase }, { on := 10, ground := Go.Ground.phase }], guard := none }) rfl (by kernel_rfl) (by rfl) (fun K hK => ?_)
      go_simp
      refine hK _ _ (fun h => absurd h (Bool.eq_false_iff.1 (by kernel_rfl))) (fun _ => ?_)
      clear hK
      try simp only [Act.put, List.setIfInBounds_toArray, List.set_cons_zero, List.set_cons_succ]
      refine wpAnyG_done (by kernel_rfl) ?_ _
      clear hap1 hap2 hb31 hS0 f1 f2
      generalize hw9 : (World.setCell _ _ _) = w9
      have hks9 : Keep [br] wd w9 := by rw [← hw9]; exact (Keep.refl [br] wd).setCell (.inl (by simp)) _
      have hT9 : Blk w9 br 70 #[.int .i64 sz, .int .i64 ag, .int .i64 now, .slice AB (l.length + 1) cB] := by rw [← hw9]; exact HTd.out.set_ 3 _
      have hnAB : (Value.slice AB (l.length + 1) cB).ownBlock ≠ some br := own_ne_blk Hown2.out HTd.out (by decide)
      have hown9 := ownsRow_keep Hown2.out hks9 (by intro i hi; simp; rintro rfl; exact hnAB hi)
      have hr9 := Hrd.out.keep hks9 (noByte_cons HTd.out (by decide) hbr noByte_nil)
      have g3 : w9.cell? ⟨br, 3, none⟩ = some (.slice AB (l.length + 1) cB) := hT9.cell 3
      have H9 := Lib.hid (And.intro hks9 (And.intro hT9 (And.intro hown9 hr9)))
      clear hw9 hks9 hT9 hnAB hown9 hr9
      go_wp2
      go_ret2
      obtain ⟨hks9, hT9, hown9, hr9⟩ := H9.out
      refine ⟨.slice AV b.length cV, AB, cB, by first | rfl | simp, hr9, ⟨?_, ?_⟩, ?_⟩
      · rw [List.length_append]; exact hT9
      · rw [List.length_append, List.flatMap_append]
        exact hown9
      · exact (Hkd.out.mono (by intro i hi; exact List.mem_cons_of_mem _ hi)).trans (hks9.mono (by simp))
end Go.Proofs.Ytlkpecalkakpeaa
