/- The tree of counts: what its depths add up to, and that no lengths cost less. -/
import Derived.Test.YtdnaahbhfjclpaaGreatDoorU5
import Derived.Defers
import Derived.Recover
import Derived.Test.YtdnaahbhfjclpaaGreatDoorHfK
set_option linter.unusedVariables false
set_option linter.unusedSimpArgs false
namespace Go.Huf
theorem or_bit {c b : Nat} (hb : b < 2) : c * 2 ||| b = c * 2 + b := by
  have := Nat.two_pow_add_eq_or_of_lt (i := 1) (show b < 2 ^ 1 by omega) c
  rw [Nat.pow_one, Nat.mul_comm 2 c] at this
  exact this.symm
end Go.Huf
namespace Go.Proofs.YtdnaahbhfjclpaaGreatDoor
open Go.RowKit Go.Sal Go.Huf Go.Cod
def SymE (w : World) (T gl : Nat) (bl : List Nat) (bit : Nat) (r : Option (Nat × Nat)) (e : Ending) (w' : World) : Prop := match r with
  | some (s, k) => e = .returned (.int .i64 (s : Nat)) ∧ LF T gl bl (bit + k) w' ∧ Keep [gl] w w'
  | none => e = .panicked PN ∧ Keep [gl] w w'
theorem SymE.no {w w' : World} {T gl bit : Nat} {bl : List Nat} {r : Option (Nat × Nat)} (h : r = none) (k : Keep [gl] w w') : SymE w T gl bl bit r (.panicked PN) w' := by
  subst h
  exact ⟨rfl, k⟩
structure SyI (w : World) (T gl gm gc : Nat) (ls : List Int) (bl : List Nat) (at_ n x : Nat) (wr : World) : Prop where
  blk : Blk wr gc 188 #[.int .u64 (x : Nat), .int .i64 (n : Nat)]
  left : LF T gl bl at_ wr
  map : BkM wr gm ls
  kp : Keep [gl] w wr
theorem SyI.next {w wr w3 : World} {T gl gm gc : Nat} {ls : List Int} {bl : List Nat} {at_ n x : Nat} (h : SyI w T gl gm gc ls bl at_ n x wr) (hgc : w.heap.size ≤ gc) (hgl : gl < w.heap.size) (hgm : gm < w.heap.size) (hne : gm ≠ gl)
    (hl : LF T gl bl (at_ + 1) w3) (hk : Keep [gl] wr.drew w3) :
    (w3.cell? ⟨gc, 0, none⟩ = some (.int .u64 (x : Nat)) ∧ w3.cell? ⟨gc, 1, none⟩ = some (.int .i64 (n : Nat)) ∧ w3.frozen? ⟨gc, 0, none⟩ = false ∧ w3.frozen? ⟨gc, 1, none⟩ = false) ∧
    ∀ y m : Nat, SyI w T gl gm gc ls bl (at_ + 1) m y ((w3.setCell ⟨gc, 0, none⟩ (.int .u64 (y : Nat))).setCell ⟨gc, 1, none⟩ (.int .i64 (m : Nat))) := by
  have hk' : Keep [gl] wr w3 := hk.of_drew
  have hb := h.blk.keep hk' (by simp; omega)
  refine ⟨⟨hb.cell 0, hb.cell 1, hb.free 0, hb.free 1⟩, fun y m => ?_⟩
  have hkc : Keep [gc] w3 ((w3.setCell ⟨gc, 0, none⟩ (.int .u64 (y : Nat))).setCell ⟨gc, 1, none⟩ (.int .i64 (m : Nat))) := ((Keep.refl [gc] w3).setCell (.inl (by simp)) _).setCell (.inl (by simp)) _
  refine ⟨?_, hl.keep hkc (fun i hi => by simp at hi; omega), (h.map.keep hk' (by simpa using hne)).keep hkc (by simp; omega), (h.kp.trans hk').step hkc (fun i hi => .inr (by simp at hi; omega))⟩
  have := (hb.set_ 0 (.int .u64 (y : Nat))).set_ 1 (.int .i64 (m : Nat))
  simpa using this
set_option maxRecDepth 20000 in
set_option maxHeartbeats 4000000 in
theorem symbol_any (T gl gm : Nat) (ls : List Int) (bl : List Nat) (bit : Nat) (w : World) (h : LF T gl bl bit w) (hm : BkM w gm ls) (hne : gm ≠ gl) (hl : bl.length ≤ 1000000) (hb : bit ≤ 8 * bl.length) :
    Calls Tryz.prog 133 #[.pointer (some ⟨gl, 0, none⟩), .map (some gm)] w fun e w' => SymE w T gl bl bit (one ls bl bit) e w' := by
  have hgl := h.lt
  have hgm := hm.lt
  have H0 : Hid (SyI w T gl gm w.heap.size ls bl (bit + 0) 0 0 (w.alloc (.cells #[.int .u64 0, .int .i64 0] 188))) := by
    have hk : Keep [] w (w.alloc (.cells #[.int .u64 0, .int .i64 0] 188)) := (Keep.refl [] w).alloc _
    exact Lib.hid ⟨Blk.new w 188 #[.int .u64 0, .int .i64 0], h.keep0 hk, hm.keep hk (by simp), hk.mono (by simp)⟩
  clear h hm
  go_enter Tryz.func133, Tryz.ntmps133
  go_wp2
  go_loopg [6] 15 (fun gk _ wr => ∃ n x : Nat, n ≤ 15 ∧ 15 ≤ n + gk ∧ x < 65536 ∧ bit + n ≤ 8 * bl.length ∧ Hid (SyI w T gl gm w.heap.size ls bl (bit + n) n x wr ∧ x = cAt bl bit n ∧ one ls bl bit = oneF ls bl bit (15 - n) (n + 1)))
  case atStart => exact ⟨0, 0, by omega, by omega, by omega, by omega, Lib.hid ⟨H0.out, rfl, rfl⟩⟩
  case round =>
    obtain ⟨n, x, hn, hgk, hx, hbn, hI⟩ := hrel
    clear H0
    have e0 := hI.out.1.blk.cell 0
    have e1 := hI.out.1.blk.cell 1
    simp at e0 e1
    rcases Nat.lt_or_ge n 15 with h15 | h15
    · have h15i : (n : Int) < 15 := by omega
      have h15b : decide ((n : Int) < 15) = true := decide_eq_true h15i
      by_cases hin : bit + n < 8 * bl.length
      · as_aux_lemma =>
          have HT := Lib.hid (take_ok T gl bl (bit + n) wr.drew (hI.out.1.left.keep0 (Keep.refl [] _).drew) hl hin)
          have HX := Lib.hid (fun (w3 : World) (hl : LF T gl bl (bit + n + 1) w3) (hk : Keep [gl] wr.drew w3) => hI.out.1.next (Nat.le_refl _) hgl hgm hne hl hk)
          have hbl2 := bitB_lt bl (bit + n)
          obtain ⟨y, hy⟩ : ∃ y, y = x * 2 + bitB bl (bit + n) := ⟨_, rfl⟩
          have hyc : y = cAt bl bit (n + 1) := by rw [cAt, ← hI.out.2.1, hy]
          have hy2 : y < 65536 := by
            have h1 := cAt_lt bl bit (n + 1)
            rw [← hyc] at h1
            have : 2 ^ (n + 1) ≤ 2 ^ 15 := Nat.pow_le_pow_right (by omega) (by omega)
            omega
          have hw2 : IntKind.u64.wrap ((x : Int) * 2) = ((x * 2 : Nat) : Int) := by rw [IntKind.wrap_u64]; omega
          have hor : bits BinOp.or IntKind.u64 ((x * 2 : Nat) : Int) (bitB bl (bit + n) : Nat) = (y : Int) := by
            rw [bits_or_u64 (by omega) (by omega) (by rw [or_bit hbl2]; omega), or_bit hbl2, hy]
          obtain ⟨m, hm⟩ : ∃ m, m = n + 1 := ⟨_, rfl⟩
          have hwn : IntKind.i64.wrap ((n : Int) + 1) = (m : Int) := by rw [IntKind.wrap_i64]; omega
          have Hone : Hid (one ls bl bit = oneF ls bl bit (15 - m + 1) m ∧ bit + m ≤ 8 * bl.length ∧ y = cAt bl bit m) := Lib.hid ⟨by rw [hI.out.2.2, hm, show 15 - (n + 1) + 1 = 15 - n by omega], by omega, by rw [hm]; exact hyc⟩
          have Hm := Lib.hid hm
          obtain ⟨x2, hx2⟩ : ∃ x2, x2 = x * 2 := ⟨_, rfl⟩
          rw [← hx2] at hw2 hor
          have hS0 : wr.drew.cell? ⟨w.heap.size, 0, none⟩ = some (.int .u64 (x : Nat)) ∧ wr.drew.cell? ⟨w.heap.size, 1, none⟩ = some (.int .i64 (n : Nat)) := ⟨e0, e1⟩
          generalize bitB bl (bit + n) = bt at *
          have hgk2 : gk - 1 < gk ∧ 15 ≤ m + (gk - 1) ∧ m ≤ 15 := by omega
          clear hI hy hyc hm hx2 hin hgk h15 hbn hn
          go_upto_region 3 with (fail)
          refine wp_region_G (fun W => W.cell? ⟨w.heap.size, 0, none⟩ = some (.int .u64 (x : Nat)) ∧ W.cell? ⟨w.heap.size, 1, none⟩ = some (.int .i64 (n : Nat))) [12] #[false, false, false, false, false, false, false, false, false, false, false, false, false] 13 (by kernel_rfl) (by kernel_rfl) (by kernel_rfl) ?_
          refine wpAnyG_take0 (i := 0) (oi := ⟨_, _, _, _, _, _⟩) (v := ?vg1_0) rfl (by kernel_rfl) (by kernel_rfl) (by kernel_rfl) (by kernel_rfl) (fun _ _ _ h => h) (fun _ => hS0) (Or.inl ⟨by rfl, ?hg1_0⟩) ?_
          case hg1_0 => intro w _; go_simp; (try with_reducible rfl)
          try simp only [Act.put, List.setIfInBounds_toArray, List.set_cons_zero, List.set_cons_succ]
          refine wpAnyG_take (i := 1) (oi := ⟨_, _, _, _, _, _⟩) (v := ?vg1_1) [1, 2, 7, 11, 12] rfl (by kernel_rfl) (by kernel_rfl) (by kernel_rfl) (by kernel_rfl) (by kernel_rfl) (fun _ _ _ h => h) (fun _ => hS0) (Or.inl ⟨by rfl, ?hg1_1⟩) ?_
          case hg1_1 => intro w hSw; (try dsimp only at hSw); go_simp; (try with_reducible rfl)
          try simp only [Act.put, List.setIfInBounds_toArray, List.set_cons_zero, List.set_cons_succ]
          refine wpAnyG_take0 (i := 2) (oi := ⟨_, _, _, _, _, _⟩) (v := ?vg1_2) rfl (by kernel_rfl) (by kernel_rfl) (by kernel_rfl) (by kernel_rfl) (fun _ _ _ h => h) (fun _ => hS0) (Or.inl ⟨by rfl, ?hg1_2⟩) ?_
          case hg1_2 => intro w _; go_simp; (try with_reducible rfl)
          try simp only [Act.put, List.setIfInBounds_toArray, List.set_cons_zero, List.set_cons_succ]
          refine wpAnyG_take0 (i := 3) (oi := ⟨_, _, _, _, _, _⟩) (v := ?vg1_3) rfl (by kernel_rfl) (by kernel_rfl) (by kernel_rfl) (by kernel_rfl) (fun _ _ _ h => h) (fun _ => hS0) (Or.inl ⟨by rfl, ?hg1_3⟩) ?_
          case hg1_3 => intro w _; go_simp; (try with_reducible rfl)
          try simp only [Act.put, List.setIfInBounds_toArray, List.set_cons_zero, List.set_cons_succ]
          refine wpAnyG_take0 (i := 4) (oi := ⟨_, _, _, _, _, _⟩) (v := ?vg1_4) rfl (by kernel_rfl) (by kernel_rfl) (by kernel_rfl) (by kernel_rfl) (fun _ _ _ h => h) (fun _ => hS0) (Or.inl ⟨by rfl, ?hg1_4⟩) ?_
          case hg1_4 => intro w _; go_simp; (try with_reducible rfl)
          try simp only [Act.put, List.setIfInBounds_toArray, List.set_cons_zero, List.set_cons_succ]
          refine wpAnyG_take0 (i := 5) (oi := ⟨_, _, _, _, _, _⟩) (v := ?vg1_5) rfl (by kernel_rfl) (by kernel_rfl) (by kernel_rfl) (by kernel_rfl) (fun _ _ _ h => h) (fun _ => hS0) (Or.inl ⟨by rfl, ?hg1_5⟩) ?_
          case hg1_5 => intro w _; go_simp; (try with_reducible rfl)
          try simp only [Act.put, List.setIfInBounds_toArray, List.set_cons_zero, List.set_cons_succ]
          refine wpAnyG_take0 (i := 8) (oi := ⟨_, _, _, _, _, _⟩) (v := ?vg1_8) rfl (by kernel_rfl) (by kernel_rfl) (by kernel_rfl) (by kernel_rfl) (fun _ _ _ h => h) (fun _ => hS0) (Or.inl ⟨by rfl, ?hg1_8⟩) ?_
          case hg1_8 => intro w _; go_simp; (try with_reducible rfl)
          try simp only [Act.put, List.setIfInBounds_toArray, List.set_cons_zero, List.set_cons_succ]
          refine wpAnyG_take (i := 9) (oi := ⟨_, _, _, _, _, _⟩) (v := ?vg1_9) [9, 10, 11, 12] rfl (by kernel_rfl) (by kernel_rfl) (by kernel_rfl) (by kernel_rfl) (by kernel_rfl) (fun _ _ _ h => h) (fun _ => hS0) (Or.inl ⟨by rfl, ?hg1_9⟩) ?_
          case hg1_9 => intro w hSw; (try dsimp only at hSw); go_simp; (try with_reducible rfl)
          try simp only [Act.put, List.setIfInBounds_toArray, List.set_cons_zero, List.set_cons_succ]
          refine wpAnyG_take0 (i := 10) (oi := ⟨_, _, _, _, _, _⟩) (v := ?vg1_10) rfl (by kernel_rfl) (by kernel_rfl) (by kernel_rfl) (by kernel_rfl) (fun _ _ _ h => h) (fun _ => hS0) (Or.inl ⟨by rfl, ?hg1_10⟩) ?_
          case hg1_10 => intro w _; go_simp; (try with_reducible rfl)
          try simp only [Act.put, List.setIfInBounds_toArray, List.set_cons_zero, List.set_cons_succ]
          refine wpAnyG_step (i := 6) (oi := ⟨_, _, _, _, _, _⟩) rfl (by kernel_rfl) (by rfl) (fun K hK => ?_)
          go_simp
          go_at_call 134
          refine HT.out.mono ?_
          rintro e w3 ⟨rfl, hlf3, hk3⟩
          obtain ⟨⟨c0, c1, f0, f1⟩, hx3⟩ := HX.out w3 hlf3 hk3
          have HX3 := Lib.hid hx3
          clear hx3 hlf3 hk3
          refine hK _ _ ?_ (fun hSg1_6 => ?_)
          · intro _; exact ⟨c0, c1⟩
          replace hSg1_6 := hSg1_6 (by kernel_rfl)
          clear hK
          try simp only [Act.put, List.setIfInBounds_toArray, List.set_cons_zero, List.set_cons_succ]
          refine wpAnyG_take0 (i := 7) (oi := ⟨_, _, _, _, _, _⟩) (v := ?vg1_7) rfl (by kernel_rfl) (by kernel_rfl) (by kernel_rfl) (by kernel_rfl) (fun _ _ _ h => h) (fun _ => hSg1_6) (Or.inl ⟨by rfl, ?hg1_7⟩) ?_
          case hg1_7 => intro w _; go_simp; (try with_reducible rfl)
          try simp only [Act.put, List.setIfInBounds_toArray, List.set_cons_zero, List.set_cons_succ]
          refine wpAnyG_take0 (i := 11) (oi := ⟨_, _, _, _, _, _⟩) (v := ?vg1_11) rfl (by kernel_rfl) (by kernel_rfl) (by kernel_rfl) (by kernel_rfl) (fun _ _ _ h => h) (fun _ => hSg1_6) (Or.inl ⟨by rfl, ?hg1_11⟩) ?_
          case hg1_11 => intro w _; go_simp; (try with_reducible rfl)
          try simp only [Act.put, List.setIfInBounds_toArray, List.set_cons_zero, List.set_cons_succ]
          refine wpAnyG_step (i := 12) (oi := ⟨_, _, _, _, _, _⟩) rfl (by kernel_rfl) (by rfl) (fun K hK => ?_)
          go_simp
          refine hK _ _ (fun h => absurd h (Bool.eq_false_iff.1 (by kernel_rfl))) (fun _ => ?_)
          clear hK
          try simp only [Act.put, List.setIfInBounds_toArray, List.set_cons_zero, List.set_cons_succ]
          refine wpAnyG_done (by kernel_rfl) ?_ _
          have HN := HX3.out y m
          have HN := Lib.hid HN
          clear HX3 HX HT
          generalize ((w3.setCell ⟨w.heap.size, 0, none⟩ (.int .u64 (y : Nat))).setCell ⟨w.heap.size, 1, none⟩ (.int .i64 (m : Nat))) = w4 at *
          obtain ⟨f, hM, hf⟩ := HN.out.map
          have q0 := HN.out.blk.cell 0
          have q1 := HN.out.blk.cell 1
          have hlk := klookup_ok claw Tryz.underlying138 (.int .i64 0) (by kernel_rfl) hM (y, m)
          have hm1 : 1 ≤ m := by have := Hm.out; omega
          rw [hf y m hm1] at hlk
          simp at q0 q1
          clear hf hM e0 e1
          cases hs : symAt ls m y with
          | none =>
            rw [hs] at hlk
            simp [ckey] at hlk
            have HR : Hid (SyI w T gl gm w.heap.size ls bl (bit + m) m y w4 ∧ y = cAt bl bit m ∧ one ls bl bit = oneF ls bl bit (15 - m) (m + 1) ∧ bit + m ≤ 8 * bl.length) := Lib.hid ⟨by have := HN.out; rw [Nat.add_assoc, ← Hm.out] at this; exact this, Hone.out.2.2, by
              rw [Hone.out.1]
              exact oneF_none Hone.out.2.1 (by rw [← Hone.out.2.2]; exact hs), Hone.out.2.1⟩
            clear HN Hone Hm hs
            go_wp2_with fail
            go_roundg (gk - 1)
            case rel => exact ⟨m, y, hgk2.2.2, hgk2.2.1, hy2, HR.out.2.2.2, Lib.hid ⟨HR.out.1, HR.out.2.1, HR.out.2.2.1⟩⟩
            case measure => exact hgk2.1
          | some s =>
            rw [hs] at hlk
            simp [ckey] at hlk
            have HR : Hid (one ls bl bit = some (s, m) ∧ LF T gl bl (bit + m) w4 ∧ Keep [gl] w w4) := Lib.hid ⟨by
              rw [Hone.out.1]
              exact oneF_some Hone.out.2.1 (by rw [← Hone.out.2.2]; exact hs), by have := HN.out.left; rw [Nat.add_assoc, ← Hm.out] at this; exact this, HN.out.kp⟩
            clear HN Hone Hm hs
            go_wp2_with fail
            go_ret
            show SymE w T gl bl bit (one ls bl bit) _ _
            rw [HR.out.1]
            exact ⟨rfl, HR.out.2⟩
      · as_aux_lemma =>
          have HT := Lib.hid (take_no T gl bl (bit + n) wr.drew (hI.out.1.left.keep0 (Keep.refl [] _).drew) hl (by omega) hin)
          have HE : Hid (one ls bl bit = none ∧ Keep [gl] w wr) := Lib.hid ⟨by rw [hI.out.2.2]; exact oneF_end (by omega), hI.out.1.kp⟩
          obtain ⟨x2, hx2⟩ : ∃ x2, x2 = x * 2 := ⟨_, rfl⟩
          have hw2 : IntKind.u64.wrap ((x : Int) * 2) = (x2 : Int) := by rw [IntKind.wrap_u64]; omega
          obtain ⟨m, hm⟩ : ∃ m, m = n + 1 := ⟨_, rfl⟩
          have hwn : IntKind.i64.wrap ((n : Int) + 1) = (m : Int) := by rw [IntKind.wrap_i64]; omega
          have hS0 : wr.drew.cell? ⟨w.heap.size, 0, none⟩ = some (.int .u64 (x : Nat)) ∧ wr.drew.cell? ⟨w.heap.size, 1, none⟩ = some (.int .i64 (n : Nat)) := ⟨e0, e1⟩
          clear hI hm hx2 hin hgk h15 hbn hn
          go_upto_region 3 with (fail)
          refine wp_region_G (fun W => W.cell? ⟨w.heap.size, 0, none⟩ = some (.int .u64 (x : Nat)) ∧ W.cell? ⟨w.heap.size, 1, none⟩ = some (.int .i64 (n : Nat))) [12] #[false, false, false, false, false, false, false, false, false, false, false, false, false] 13 (by kernel_rfl) (by kernel_rfl) (by kernel_rfl) ?_
          refine wpAnyG_take0 (i := 0) (oi := ⟨_, _, _, _, _, _⟩) (v := ?vg2_0) rfl (by kernel_rfl) (by kernel_rfl) (by kernel_rfl) (by kernel_rfl) (fun _ _ _ h => h) (fun _ => hS0) (Or.inl ⟨by rfl, ?hg2_0⟩) ?_
          case hg2_0 => intro w _; go_simp; (try with_reducible rfl)
          try simp only [Act.put, List.setIfInBounds_toArray, List.set_cons_zero, List.set_cons_succ]
          refine wpAnyG_take (i := 1) (oi := ⟨_, _, _, _, _, _⟩) (v := ?vg2_1) [1, 2, 7, 11, 12] rfl (by kernel_rfl) (by kernel_rfl) (by kernel_rfl) (by kernel_rfl) (by kernel_rfl) (fun _ _ _ h => h) (fun _ => hS0) (Or.inl ⟨by rfl, ?hg2_1⟩) ?_
          case hg2_1 => intro w hSw; (try dsimp only at hSw); go_simp; (try with_reducible rfl)
          try simp only [Act.put, List.setIfInBounds_toArray, List.set_cons_zero, List.set_cons_succ]
          refine wpAnyG_take0 (i := 2) (oi := ⟨_, _, _, _, _, _⟩) (v := ?vg2_2) rfl (by kernel_rfl) (by kernel_rfl) (by kernel_rfl) (by kernel_rfl) (fun _ _ _ h => h) (fun _ => hS0) (Or.inl ⟨by rfl, ?hg2_2⟩) ?_
          case hg2_2 => intro w _; go_simp; (try with_reducible rfl)
          try simp only [Act.put, List.setIfInBounds_toArray, List.set_cons_zero, List.set_cons_succ]
          refine wpAnyG_take0 (i := 3) (oi := ⟨_, _, _, _, _, _⟩) (v := ?vg2_3) rfl (by kernel_rfl) (by kernel_rfl) (by kernel_rfl) (by kernel_rfl) (fun _ _ _ h => h) (fun _ => hS0) (Or.inl ⟨by rfl, ?hg2_3⟩) ?_
          case hg2_3 => intro w _; go_simp; (try with_reducible rfl)
          try simp only [Act.put, List.setIfInBounds_toArray, List.set_cons_zero, List.set_cons_succ]
          refine wpAnyG_take0 (i := 4) (oi := ⟨_, _, _, _, _, _⟩) (v := ?vg2_4) rfl (by kernel_rfl) (by kernel_rfl) (by kernel_rfl) (by kernel_rfl) (fun _ _ _ h => h) (fun _ => hS0) (Or.inl ⟨by rfl, ?hg2_4⟩) ?_
          case hg2_4 => intro w _; go_simp; (try with_reducible rfl)
          try simp only [Act.put, List.setIfInBounds_toArray, List.set_cons_zero, List.set_cons_succ]
          refine wpAnyG_take0 (i := 5) (oi := ⟨_, _, _, _, _, _⟩) (v := ?vg2_5) rfl (by kernel_rfl) (by kernel_rfl) (by kernel_rfl) (by kernel_rfl) (fun _ _ _ h => h) (fun _ => hS0) (Or.inl ⟨by rfl, ?hg2_5⟩) ?_
          case hg2_5 => intro w _; go_simp; (try with_reducible rfl)
          try simp only [Act.put, List.setIfInBounds_toArray, List.set_cons_zero, List.set_cons_succ]
          refine wpAnyG_take0 (i := 8) (oi := ⟨_, _, _, _, _, _⟩) (v := ?vg2_8) rfl (by kernel_rfl) (by kernel_rfl) (by kernel_rfl) (by kernel_rfl) (fun _ _ _ h => h) (fun _ => hS0) (Or.inl ⟨by rfl, ?hg2_8⟩) ?_
          case hg2_8 => intro w _; go_simp; (try with_reducible rfl)
          try simp only [Act.put, List.setIfInBounds_toArray, List.set_cons_zero, List.set_cons_succ]
          refine wpAnyG_take (i := 9) (oi := ⟨_, _, _, _, _, _⟩) (v := ?vg2_9) [9, 10, 11, 12] rfl (by kernel_rfl) (by kernel_rfl) (by kernel_rfl) (by kernel_rfl) (by kernel_rfl) (fun _ _ _ h => h) (fun _ => hS0) (Or.inl ⟨by rfl, ?hg2_9⟩) ?_
          case hg2_9 => intro w hSw; (try dsimp only at hSw); go_simp; (try with_reducible rfl)
          try simp only [Act.put, List.setIfInBounds_toArray, List.set_cons_zero, List.set_cons_succ]
          refine wpAnyG_take0 (i := 10) (oi := ⟨_, _, _, _, _, _⟩) (v := ?vg2_10) rfl (by kernel_rfl) (by kernel_rfl) (by kernel_rfl) (by kernel_rfl) (fun _ _ _ h => h) (fun _ => hS0) (Or.inl ⟨by rfl, ?hg2_10⟩) ?_
          case hg2_10 => intro w _; go_simp; (try with_reducible rfl)
          try simp only [Act.put, List.setIfInBounds_toArray, List.set_cons_zero, List.set_cons_succ]
          refine wpAnyG_step (i := 6) (oi := ⟨_, _, _, _, _, _⟩) rfl (by kernel_rfl) (by rfl) (fun K hK => ?_)
          go_simp
          go_at_call 134
          refine HT.out.mono ?_
          rintro e w' ⟨rfl, hk⟩
          exact ⟨rfl, SymE.no HE.out.1 (HE.out.2.trans (hk.of_drew.mono (by simp)))⟩
    · obtain rfl : n = 15 := by omega
      have h15i : ¬ ((15 : Nat) : Int) < 15 := by omega
      have HE : Hid (one ls bl bit = none ∧ Keep [gl] w wr) := Lib.hid ⟨by rw [hI.out.2.2]; rfl, hI.out.1.kp⟩
      clear hI
      go_wp2
      exact ⟨rfl, SymE.no HE.out.1 HE.out.2⟩
end Go.Proofs.YtdnaahbhfjclpaaGreatDoor

namespace Go.Cod
open Go.Huf
theorem vAt_lt (b : List Nat) (at_ : Nat) : ∀ n, vAt b at_ n < 2 ^ (n + 1)
  | 0 => by simp [vAt]
  | n + 1 => by
    have := vAt_lt b at_ n
    have h2 := bitB_lt b (at_ + n)
    rw [vAt, Nat.pow_succ]
    omega
end Go.Cod
namespace Go.Proofs.YtdnaahbhfjclpaaGreatDoor
open Go.RowKit Go.Sal Go.Huf Go.Cod
theorem agg48 {T : Array Value} {W : World} {rb : Nat} {a b : Int} {x : Nat} {Q : Ending → World → Prop} (h4 : T[6]? = some (.pointer (some ⟨rb, 0, none⟩))) (hB : Blk W rb 143 #[.int .i64 a, .int .i64 b, .int .u8 (x : Nat)])
    (hQ : Q (.returned (.agg #[.int .i64 a, .int .i64 b, .int .u8 (x : Nat)])) W) : bodyPost Tryz.prog Tryz.f92 Q Exit.ret { tmps := T, defers := [] } W := by
  have c0 : W.cell? ⟨rb, 0, none⟩ = some (.int .i64 a) := hB.cell 0
  have c1 : W.cell? ⟨rb, 1, none⟩ = some (.int .i64 b) := hB.cell 1
  have c2 : W.cell? ⟨rb, 2, none⟩ = some (.int .u8 (x : Nat)) := hB.cell 2
  exact bodyPost_ret (v := .agg #[.int .i64 a, .int .i64 b, .int .u8 (x : Nat)]) (by simp [results, Tryz.results92, go_sem, h4, c0, c1, c2]) rfl hQ
def TokE (w : World) (T gl : Nat) (bl : List Nat) (r : Option (Tk × Nat)) (e : Ending) (w' : World) : Prop := match r with
  | some (t, a2) => e = .returned (.agg #[.int .i64 t.1, .int .i64 t.2.1, .int .u8 (t.2.2 : Nat)]) ∧ LF T gl bl a2 w' ∧ Keep [gl] w w'
  | none => e = .panicked PN ∧ Keep [gl] w w'
theorem TokE.no {w w' : World} {T gl : Nat} {bl : List Nat} {r : Option (Tk × Nat)} (h : r = none) (k : Keep [gl] w w') : TokE w T gl bl r (.panicked PN) w' := by
  subst h
  exact ⟨rfl, k⟩
theorem TokE.yes {w w' : World} {T gl a2 : Nat} {bl : List Nat} {r : Option (Tk × Nat)} {a b : Int} {x : Nat} (h : r = some ((a, b, x), a2)) (hl : LF T gl bl a2 w') (k : Keep [gl] w w') : TokE w T gl bl r (.returned (.agg #[.int .i64 a, .int .i64 b, .int .u8 (x : Nat)])) w' := by
  subst h
  exact ⟨rfl, hl, k⟩
structure TkS (w : World) (T gl gm rb : Nat) (lb : List Int) (bl : List Nat) (at_ : Nat) (wr : World) : Prop where
  res : Blk wr rb 143 #[.int .i64 0, .int .i64 0, .int .u8 0]
  left : LF T gl bl at_ wr
  map : BkM wr gm lb
  kp : Keep [gl] w wr
theorem TkS.next {w wr w' : World} {T gl gm rb a1 a2 : Nat} {lb : List Int} {bl : List Nat} (h : TkS w T gl gm rb lb bl a1 wr) (hl : LF T gl bl a2 w') (hk : Keep [gl] wr w') (hrb : gl < rb) (hne : gm ≠ gl) : TkS w T gl gm rb lb bl a2 w' :=
  ⟨h.res.keep hk (by simp; omega), hl, h.map.keep hk (by simpa using hne), h.kp.trans hk⟩
theorem TkS.store {w wr : World} {T gl gm rb at_ : Nat} {lb : List Int} {bl : List Nat} (h : TkS w T gl gm rb lb bl at_ wr) (hrb : w.heap.size ≤ rb) (hgl : gl < w.heap.size) (a b : Int) (x : Nat) :
    Blk (((wr.setCell ⟨rb, 0, none⟩ (.int .i64 a)).setCell ⟨rb, 1, none⟩ (.int .i64 b)).setCell ⟨rb, 2, none⟩ (.int .u8 (x : Nat))) rb 143 #[.int .i64 a, .int .i64 b, .int .u8 (x : Nat)] ∧
    LF T gl bl at_ (((wr.setCell ⟨rb, 0, none⟩ (.int .i64 a)).setCell ⟨rb, 1, none⟩ (.int .i64 b)).setCell ⟨rb, 2, none⟩ (.int .u8 (x : Nat))) ∧
    Keep [gl] w (((wr.setCell ⟨rb, 0, none⟩ (.int .i64 a)).setCell ⟨rb, 1, none⟩ (.int .i64 b)).setCell ⟨rb, 2, none⟩ (.int .u8 (x : Nat))) := by
  have hkc : Keep [rb] wr (((wr.setCell ⟨rb, 0, none⟩ (.int .i64 a)).setCell ⟨rb, 1, none⟩ (.int .i64 b)).setCell ⟨rb, 2, none⟩ (.int .u8 (x : Nat))) := (((Keep.refl [rb] wr).setCell (.inl (by simp)) _).setCell (.inl (by simp)) _).setCell (.inl (by simp)) _
  refine ⟨?_, h.left.keep hkc (fun i hi => by simp at hi; omega), h.kp.step hkc (fun i hi => .inr (by simp at hi; omega))⟩
  have := ((h.res.set_ 0 (.int .i64 a)).set_ 1 (.int .i64 b)).set_ 2 (.int .u8 (x : Nat))
  simpa using this
set_option maxRecDepth 20000 in
set_option maxHeartbeats 4000000 in
theorem token_left (T gl g1 g2 : Nat) (la lb : List Int) (bl : List Nat) (bit : Nat) (w : World) (h : LF T gl bl bit w) (h1 : BkM w g1 la) (h2 : BkM w g2 lb) (n1 : g1 ≠ gl) (n2 : g2 ≠ gl) (hl : bl.length ≤ 1000000) (hb : bit ≤ 8 * bl.length) (hla : la.length ≤ 512) (hlb : lb.length ≤ 32) :
    Calls Tryz.prog 92 #[.pointer (some ⟨gl, 0, none⟩), .map (some g1), .map (some g2)] w fun e w' => TokE w T gl bl (tokR la lb bl bit) e w' := by
  have hgl := h.lt
  have kw : Keep [] w (w.alloc (.cells #[.int .i64 0, .int .i64 0, .int .u8 0] 143)) := (Keep.refl [] w).alloc _
  have hS0 : TkS w T gl g2 w.heap.size lb bl bit (w.alloc (.cells #[.int .i64 0, .int .i64 0, .int .u8 0] 143)) := ⟨Blk.new w 143 _, h.keep0 kw, h2.keep kw (by simp), kw.mono (by simp)⟩
  have HS0 := Lib.hid hS0
  have HY := Lib.hid (symbol_any T gl g1 la bl bit _ (h.keep0 kw) (h1.keep kw (by simp)) n1 hl hb)
  obtain ⟨rb, hrb⟩ : ∃ rb, w.heap.size = rb := ⟨_, rfl⟩
  have hglr : gl < rb := by omega
  have Hrb := Lib.hid hrb
  clear h h1 h2 kw hS0
  cases ho : one la bl bit with
  | none =>
    rw [ho] at HY
    have HR : Hid (tokR la lb bl bit = none) := Lib.hid (by unfold tokR; rw [ho])
    clear ho hrb
    go_enter Tryz.func92, Tryz.ntmps92
    go_wp2_with (go_at_call 133; refine HY.out.mono ?_; rintro e w' ⟨rfl, hk⟩; have Hk := Lib.hid hk; clear hk)
    exact ⟨rfl, TokE.no HR.out (HS0.out.kp.trans Hk.out)⟩
  | some p =>
    obtain ⟨s, k⟩ := p
    rw [ho] at HY
    have hsp := one_spec ho
    rcases Nat.lt_or_ge s 256 with hs | hs
    · have HR : Hid (tokR la lb bl bit = some ((0, 1, s), bit + k)) := Lib.hid (by unfold tokR; rw [ho]; simp only; rw [if_pos hs])
      have hsi : (s : Int) < 256 := by omega
      have hsb : decide ((s : Int) < 256) = true := decide_eq_true hsi
      have hws : IntKind.u8.wrap (s : Int) = (s : Int) := by rw [IntKind.wrap_u8]; omega
      have HN := Lib.hid (fun (w' : World) (hl : LF T gl bl (bit + k) w') hk => (HS0.out.next hl hk hgl n2).store (Nat.le_refl _) hgl 0 1 s)
      clear ho hrb hsp
      go_enter Tryz.func92, Tryz.ntmps92
      go_wp2_with (go_at_call 133; refine HY.out.mono ?_; rintro e w' ⟨rfl, hlf, hk⟩; have b0 := (HS0.out.next hlf hk hgl n2).res; have f0 := b0.free 0; have f1 := b0.free 1; have f2 := b0.free 2; have c0 : w'.cell? ⟨w.heap.size, 0, none⟩ = some (.int .i64 0) := b0.cell 0; have c1 : w'.cell? ⟨w.heap.size, 1, none⟩ = some (.int .i64 0) := b0.cell 1; have c2 : w'.cell? ⟨w.heap.size, 2, none⟩ = some (.int .u8 0) := b0.cell 2; have HX := Lib.hid (HN.out w' hlf hk); clear b0 hlf hk)
      refine agg48 (rb := w.heap.size) ?_ HX.out.1 (TokE.yes HR.out HX.out.2.1 HX.out.2.2)
      rfl
    · have hsi : ¬ (s : Int) < 256 := by omega
      have hsb : decide ((s : Int) < 256) = false := decide_eq_false hsi
      clear hrb
      go_enter Tryz.func92, Tryz.ntmps92
      go_upto_region 1 with fail
      go_upto_region 2 with (go_at_call 133; refine HY.out.mono ?_; rintro e w1 ⟨rfl, hlf, hk⟩; have H1 := Lib.hid (HS0.out.next hlf hk hgl n2); clear hlf hk)
      have HY2 := Lib.hid (symbol_any T gl g2 lb bl (bit + k) w1 H1.out.left H1.out.map n2 hl (by omega))
      cases ho2 : one lb bl (bit + k) with
      | none =>
        rw [ho2] at HY2
        have HR : Hid (tokR la lb bl bit = none) := Lib.hid (by unfold tokR; rw [ho]; simp only; rw [if_neg (by omega), ho2])
        clear ho ho2 hsp
        go_wp2_with (go_at_call 133; refine HY2.out.mono ?_; rintro e w' ⟨rfl, hk⟩; have Hk := Lib.hid hk; clear hk)
        exact ⟨rfl, TokE.no HR.out (H1.out.kp.trans Hk.out)⟩
      | some p2 =>
        obtain ⟨x, k2⟩ := p2
        rw [ho2] at HY2
        have hsp2 := one_spec ho2
        have hx32 : x ≤ 32 := by omega
        have HR : Hid (tokR la lb bl bit = if 8 * bl.length < bit + k + k2 + x then none else some ((((vAt bl (bit + k + k2) x : Nat) : Int), (s : Int) - 252, (0 : Nat)), bit + k + k2 + x)) := Lib.hid (by unfold tokR; rw [ho]; simp only; rw [if_neg (by omega), ho2])
        obtain ⟨a0, ha0⟩ : ∃ a0, bit + k + k2 = a0 := ⟨_, rfl⟩
        have hs5 : s < 512 := by omega
        have ha8 : a0 ≤ 8 * bl.length := by omega
        replace HY2 : Hid (Calls Tryz.prog 133 #[.pointer (some ⟨gl, 0, none⟩), .map (some g2)] w1 fun e w' => e = .returned (.int .i64 (x : Nat)) ∧ LF T gl bl (bit + k + k2) w' ∧ Keep [gl] w1 w') := HY2
        rw [ha0] at HR HY2
        clear ho ho2 hsp hsp2 HY hb
        go_upto_region 5 with (go_at_call 133; refine HY2.out.mono ?_; rintro e w2 ⟨rfl, hlf, hk⟩; have H2 := Lib.hid (H1.out.next hlf hk hgl n2); clear hlf hk)
        clear H1 HY2
        go_wp2_with fail
        go_loopw [9, 22] (fun v9 vk wr => ∃ j v : Nat, v9 = .int .u64 v ∧ vk = .int .i64 j ∧ j ≤ x ∧ v < 8589934592 ∧ a0 + j ≤ 8 * bl.length ∧ Hid (TkS w T gl g2 w.heap.size lb bl (a0 + j) wr ∧ v = vAt bl a0 j)) (fun _ vk _ => x - (intOf vk).toNat)
        case atStart => exact ⟨0, 1, rfl, rfl, by omega, by omega, by omega, Lib.hid ⟨H2.out, rfl⟩⟩
        case round =>
          obtain ⟨j, v, rfl, rfl, hj, hv, haj, hI⟩ := hrel
          clear H2
          rcases Nat.lt_or_ge j x with hjx | hjx
          · have hji : (j : Int) < x := by omega
            have hwj : IntKind.i64.wrap ((j : Int) + 1) = (j : Int) + 1 := by rw [IntKind.wrap_i64]; omega
            obtain ⟨v2, hv2⟩ : ∃ v2, v2 = v * 2 := ⟨_, rfl⟩
            have hw2 : IntKind.u64.wrap ((v : Int) * 2) = (v2 : Int) := by rw [IntKind.wrap_u64]; omega
            by_cases hin : a0 + j < 8 * bl.length
            · have HT := Lib.hid (take_ok T gl bl (a0 + j) wr hI.out.1.left hl hin)
              have HN := Lib.hid (fun (w3 : World) (h : LF T gl bl (a0 + j + 1) w3) (hk : Keep [gl] wr w3) => hI.out.1.next h hk hgl n2)
              have hbl2 := bitB_lt bl (a0 + j)
              obtain ⟨y, hy⟩ : ∃ y, y = v * 2 + bitB bl (a0 + j) := ⟨_, rfl⟩
              have hyc : Hid (y = vAt bl a0 (j + 1)) := Lib.hid (by rw [vAt, ← hI.out.2, hy])
              have hy2 : y < 8589934592 := by
                have h1 := vAt_lt bl a0 (j + 1)
                rw [← hyc.out] at h1
                have : 2 ^ (j + 1 + 1) ≤ 2 ^ 33 := Nat.pow_le_pow_right (by omega) (by omega)
                omega
              have hor : bits BinOp.or IntKind.u64 (v2 : Int) (bitB bl (a0 + j) : Nat) = (y : Int) := by
                rw [hv2, bits_or_u64 (by omega) (by omega) (by rw [or_bit hbl2]; omega), or_bit hbl2, hy]
              generalize bitB bl (a0 + j) = bt at *
              have hlast : j + 1 ≤ x ∧ a0 + (j + 1) ≤ 8 * bl.length := by omega
              clear hI hy hv2 hin
              go_wp2_with (go_at_call 134; refine HT.out.mono ?_; rintro e w3 ⟨rfl, hlf, hk⟩; have HX := Lib.hid (HN.out w3 hlf hk); clear hlf hk)
              go_roundw
              case rel => exact ⟨j + 1, y, rfl, by simp, hlast.1, hy2, hlast.2, Lib.hid ⟨HX.out, hyc.out⟩⟩
              case measure => simp [intOf]; omega
            · have HT := Lib.hid (take_no T gl bl (a0 + j) wr hI.out.1.left hl (by omega) hin)
              have HE : Hid (tokR la lb bl bit = none ∧ Keep [gl] w wr) := Lib.hid ⟨by rw [HR.out, if_pos (by omega)], hI.out.1.kp⟩
              clear hI hv2 hin
              go_wp2_with (go_at_call 134; refine HT.out.mono ?_; rintro e w3 ⟨rfl, hk⟩; have Hk := Lib.hid hk; clear hk)
              exact ⟨rfl, TokE.no HE.out.1 (HE.out.2.trans (Hk.out.mono (by simp)))⟩
          · obtain rfl : j = x := by omega
            have hji : ¬ (j : Int) < j := by omega
            have hws : IntKind.i64.wrap ((s : Int) - 252) = (s : Int) - 252 := by rw [IntKind.wrap_i64]; omega
            have hwv : IntKind.i64.wrap (v : Int) = (v : Int) := by rw [IntKind.wrap_i64]; omega
            have HE : Hid (tokR la lb bl bit = some (((v : Int), (s : Int) - 252, (0 : Nat)), a0 + j)) := Lib.hid (by rw [HR.out, if_neg (by omega), hI.out.2])
            have HX := Lib.hid (hI.out.1.store (Nat.le_refl _) hgl (v : Int) ((s : Int) - 252) 0)
            have b0 := hI.out.1.res
            have f0 := b0.free 0
            have f1 := b0.free 1
            have f2 := b0.free 2
            have c0 : wr.cell? ⟨w.heap.size, 0, none⟩ = some (.int .i64 0) := b0.cell 0
            have c1 : wr.cell? ⟨w.heap.size, 1, none⟩ = some (.int .i64 0) := b0.cell 1
            have c2 : wr.cell? ⟨w.heap.size, 2, none⟩ = some (.int .u8 0) := b0.cell 2
            clear hI b0
            go_wp2
            refine agg48 (rb := w.heap.size) ?_ HX.out.1 (TokE.yes HE.out HX.out.2.1 HX.out.2.2)
            rfl
end Go.Proofs.YtdnaahbhfjclpaaGreatDoor

namespace Go.Proofs.YtdnaahbhfjclpaaGreatDoor
open Go.RowKit Go.Sal Go.Huf Go.Cod
theorem caught_nil (w : World) : Calls Tryz.prog 55 #[.nilIface] w fun e w' => e = .returned (.bool false) ∧ w' = w := by
  go_enter Tryz.func55, Tryz.ntmps55
  go_wp2
  go_ret
  exact ⟨rfl, rfl⟩
theorem as107 (w : World) : (Instr.typeAssert (.iface 129 (.agg #[])) 20 129 true).run Tryz.prog w = .ok (.tuple #[.agg #[], .bool true]) w := by kernel_rfl
set_option maxRecDepth 20000 in
theorem caught_yes (w : World) : Calls Tryz.prog 55 #[.iface 129 (.agg #[])] w fun e w' => e = .returned (.bool true) ∧ Keep [] w w' := by
  have ha := as107
  go_enter Tryz.func55, Tryz.ntmps55
  go_wp2
  go_ret
  exact ⟨rfl, (Keep.refl [] w).alloc _⟩
theorem catch_panicking (a b : Nat) (v1 v2 : Value) (w : World) (hA : Blk w a 96 #[v1]) (hB : Blk w b 24 #[v2]) (hne : b ≠ a) :
    CallsD Tryz.prog 89 #[.pointer (some ⟨a, 0, none⟩), .pointer (some ⟨b, 0, none⟩)] (.panicking PN) w fun e u' w' =>
      e = .returned (.tuple #[]) ∧ u' = .panicking [{ v := .iface 129 (.agg #[]), recovered := true }] ∧ ∃ w1, Keep [] w w1 ∧ w' = (w1.setCell ⟨a, 0, none⟩ (.slice none 0 0)).setCell ⟨b, 0, none⟩ (.int .i64 70) := by
  have HC := Lib.hid caught_yes
  refine callsD_of_wpS Tryz.func89 rfl fun c₀ cs hu => ?_
  unfold PN at hu
  apply wpS_seq
  apply wpS_region
  simp [wpOpsS, go_sem, recoverD, hu, Tryz.ntmps89, Exit.thenS]
  refine (HC.out w).mono ?_
  rintro e w1 ⟨rfl, hk⟩
  have hA1 := hA.keep hk (by simp)
  have hB1 := hB.keep hk (by simp)
  have hB2 : Blk (w1.setCell ⟨a, 0, none⟩ (.slice none 0 0)) b 24 #[v2] := hB1.keep ((Keep.refl [a] w1).setCell (.inl (by simp)) _) (by simpa using hne)
  have c0 : w1.cell? ⟨a, 0, none⟩ = some v1 := hA1.cell 0
  have f0 := hA1.free 0
  have c1 : (w1.setCell ⟨a, 0, none⟩ (.slice none 0 0)).cell? ⟨b, 0, none⟩ = some v2 := hB2.cell 0
  have f1 := hB1.free 0
  refine wpS_cond (t := true) (by simp [Act.eval, Array.replicate]) ?_
  simp only [if_true]
  apply wpS_region
  simp [wpOpsS, go_sem, c0, f0, c1, f1, bodyPostS, results, Tryz.results89]
  exact ⟨w1, hk, rfl⟩
theorem catch_idle (a b : Nat) (w : World) :
    CallsD Tryz.prog 89 #[.pointer (some ⟨a, 0, none⟩), .pointer (some ⟨b, 0, none⟩)] .returning w fun e u' w' => e = .returned (.tuple #[]) ∧ u' = .returning ∧ w' = w := by
  have HC := Lib.hid caught_nil
  refine callsD_of_wpS Tryz.func89 rfl fun c₀ cs hu => ?_
  apply wpS_seq
  apply wpS_region
  simp [wpOpsS, go_sem, recoverD, hu, Tryz.ntmps89, Exit.thenS]
  refine (HC.out w).mono ?_
  rintro e w1 ⟨rfl, rfl⟩
  refine wpS_cond (t := false) (by simp [Act.eval, Array.replicate]) ?_
  simp only [Bool.false_eq_true, if_false]
  refine wpS_of_wp (wp_skip ?_)
  cases c₀
  simp_all [bodyPostS, results, Tryz.results89]
end Go.Proofs.YtdnaahbhfjclpaaGreatDoor

namespace Go.Huf
def Sm (F : Nat → Int) (f : List Nat) : Int := (f.map F).sum
theorem Sm_cons (F : Nat → Int) (x : Nat) (f : List Nat) : Sm F (x :: f) = F x + Sm F f := by simp [Sm]
theorem Sm_snoc (F : Nat → Int) (x : Nat) (f : List Nat) : Sm F (f ++ [x]) = Sm F f + F x := by simp [Sm, List.sum_append]
theorem Sm_perm {F : Nat → Int} {f g : List Nat} (h : f.Perm g) : Sm F f = Sm F g := by
  induction h with
  | nil => rfl
  | cons x _ ih => rw [Sm_cons, Sm_cons, ih]
  | swap x y l => simp only [Sm_cons]; omega
  | trans _ _ h1 h2 => exact h1.trans h2
theorem Sm_congr {F G : Nat → Int} : ∀ {f : List Nat}, (∀ v ∈ f, F v = G v) → Sm F f = Sm G f
  | [], _ => rfl
  | x :: f, h => by rw [Sm_cons, Sm_cons, h x (by simp), Sm_congr (fun v hv => h v (by simp [hv]))]
theorem Sm_nonneg {F : Nat → Int} : ∀ {f : List Nat}, (∀ v ∈ f, 0 ≤ F v) → 0 ≤ Sm F f
  | [], _ => Int.le_refl _
  | x :: f, h => by
    have := h x (by simp)
    have := Sm_nonneg (f := f) (fun v hv => h v (by simp [hv]))
    rw [Sm_cons]; omega
theorem erase_perm : ∀ {f : List Nat} {k : Nat}, k < f.length → f.Perm (f.getD k 0 :: f.eraseIdx k)
  | [], k, h => by simp at h
  | x :: f, 0, _ => by simp
  | x :: f, k + 1, h => by
    have ih := erase_perm (f := f) (k := k) (by simpa using h)
    rw [List.getD_cons_succ, List.eraseIdx_cons_succ]
    exact (ih.cons x).trans (List.Perm.swap _ _ _)
def pk (K m : Nat) : Int := ((2 ^ (K - m) : Nat) : Int)
theorem pk_pos (K m : Nat) : 1 ≤ pk K m := by
  have := Nat.two_pow_pos (K - m)
  unfold pk; omega
theorem pk_two {K m : Nat} (h1 : 1 ≤ m) (h2 : m ≤ K) : pk K m + pk K m = pk K (m - 1) := by
  unfold pk
  rw [show K - (m - 1) = (K - m) + 1 by omega, Nat.pow_succ]
  omega
section
variable {w : Nat → Int} {K : Nat} {lam : Nat → Nat} {free : List Nat}
def cst (w : Nat → Int) (lam : Nat → Nat) (f : List Nat) : Int := Sm (fun v => w v * (lam v : Int)) f
def krf (K : Nat) (lam : Nat → Nat) (f : List Nat) : Int := Sm (fun v => pk K (lam v)) f
theorem two_out (hn : free.Nodup) {a x : Nat} (ha : a ∈ free) (hx : x ∈ free) (hne : a ≠ x) : ∃ r, free.Perm (a :: x :: r) ∧ a ∉ r ∧ x ∉ r := by
  have h1 := List.perm_cons_erase ha
  have hx' : x ∈ free.erase a := (List.mem_erase_of_ne hne.symm).2 hx
  have h2 := List.perm_cons_erase hx'
  have h3 : free.Perm (a :: x :: (free.erase a).erase x) := h1.trans (h2.cons a)
  have h4 := List.nodup_cons.1 (h3.nodup_iff.1 hn)
  have h5 := List.nodup_cons.1 h4.2
  exact ⟨_, h3, fun h => h4.1 (by simp [h]), h5.1⟩
end
end Go.Huf

