/- WindowNobody, walked. -/
import Derived.Test.YtlkpecalkakpeaaNb1
set_option linter.unusedVariables false
set_option linter.unusedSimpArgs false
namespace Go.Proofs.Ytlkpecalkakpeaa
open Go.RowKit Go.Sal

set_option maxRecDepth 20000 in
set_option maxHeartbeats 8000000 in
theorem nobody_any (kd i n m : Int) (A : Option Addr) (len cap : Nat) (w : World) :
    Calls Try.prog 7 #[.agg #[.int .i64 kd, .int .i64 i, .int .i64 n, .int .u64 m, .slice A len cap]] w fun e w' => e = .returned (.bool true) ∧ Keep [] w w' := by
  go_enter Try.func7, Try.ntmps7
  go_wp2_with fail
  generalize hw1 : (World.alloc (World.alloc (World.alloc w _) _) _) = w1
  have hk1 : Keep [] w w1 := by rw [← hw1]; exact (((Keep.refl [] w).alloc _).alloc _).alloc _
  have hP1 : Blk w1 w.heap.size 66 #[.int .i64 kd, .int .i64 i, .int .i64 n, .int .u64 m, .slice A len cap] := by
    rw [← hw1]; exact ((Blk.new w 66 _).alloc _).alloc _
  have hZ1 : Blk w1 (w.heap.size + 1) 77 #[.int .i64 0, .int .i64 0, .int .i64 0, .int .i64 0, .int .i64 0, .slice none 0 0, .int .i64 0] := by
    rw [← hw1]
    have := (Blk.new (w.alloc (.cells #[.int .i64 kd, .int .i64 i, .int .i64 n, .int .u64 m, .slice A len cap] 66)) 77 #[.int .i64 0, .int .i64 0, .int .i64 0, .int .i64 0, .int .i64 0, .slice none 0 0, .int .i64 0]).alloc (.cells #[.pointer none, .pointer (some ⟨w.heap.size + 1, 0, none⟩)] 45)
    simpa using this
  have hS1 : Blk w1 (w.heap.size + 1 + 1) 45 #[.pointer none, .pointer (some ⟨w.heap.size + 1, 0, none⟩)] := by
    rw [← hw1]
    have := Blk.new ((w.alloc (.cells #[.int .i64 kd, .int .i64 i, .int .i64 n, .int .u64 m, .slice A len cap] 66)).alloc (.cells #[.int .i64 0, .int .i64 0, .int .i64 0, .int .i64 0, .int .i64 0, .slice none 0 0, .int .i64 0] 77)) 45 #[.pointer none, .pointer (some ⟨w.heap.size + 1, 0, none⟩)]
    simpa using this
  have HK1 := Lib.hid hk1
  have HP1 := Lib.hid hP1
  have HZ1 := Lib.hid hZ1
  have HS1 := Lib.hid hS1
  clear hw1 hk1 hP1 hZ1 hS1
  go_loopw [26] (fun c wr => ∃ k : Nat, c = .int .i64 k ∧ k ≤ 2 ∧ Keep [] w1 wr) (fun c _ => 2 - (intOf c).toNat)
  case atStart => exact ⟨0, rfl, by omega, Keep.refl _ _⟩
  case round =>
    obtain ⟨k, rfl, hk2, hkr⟩ := hrel
    have c2 : wr.cell? ⟨w.heap.size, 2, none⟩ = some (.int .i64 n) := (HP1.out.keep hkr (by simp)).cell 2
    have c3 : wr.cell? ⟨w.heap.size, 3, none⟩ = some (.int .u64 m) := (HP1.out.keep hkr (by simp)).cell 3
    have c4 : wr.cell? ⟨w.heap.size, 4, none⟩ = some (.slice A len cap) := (HP1.out.keep hkr (by simp)).cell 4
    have s0 : wr.cell? ⟨w.heap.size + 1 + 1, 0, none⟩ = some (.pointer none) := (HS1.out.keep hkr (by simp)).cell 0
    have s1 : wr.cell? ⟨w.heap.size + 1 + 1, 1, none⟩ = some (.pointer (some ⟨w.heap.size + 1, 0, none⟩)) := (HS1.out.keep hkr (by simp)).cell 1
    have hz : wr.cell? ⟨w.heap.size + 1, 0, none⟩ = some (.int .i64 0) := (HZ1.out.keep hkr (by simp)).cell 0
    have HZ := Lib.hid hz
    have Hkr := Lib.hid hkr
    have HN : Hid (∀ W, Keep [] wr W → NoOne none W ∧ NoOne (some ⟨w.heap.size + 1, 0, none⟩) W) := Lib.hid (fun W k => ⟨.inl rfl, .inr ⟨_, rfl, (HZ1.out.keep (hkr.trans k) (by simp)).cell 0⟩⟩)
    have HC : Hid (∀ W, Keep [] wr W → W.cell? ⟨w.heap.size, 2, none⟩ = some (.int .i64 n) ∧ W.cell? ⟨w.heap.size, 3, none⟩ = some (.int .u64 m)) := Lib.hid (fun W k => ⟨(HP1.out.keep (hkr.trans k) (by simp)).cell 2, (HP1.out.keep (hkr.trans k) (by simp)).cell 3⟩)
    clear hkr hz
    match k, hk2 with
    | 0, _ =>
      go_wp2_with (first
        | (go_at_call 18; refine (nb_push _ _ _ ?_).mono ?_; exact (HN.out _ (Keep.refl _ _)).1; rintro e w' ⟨rfl, rfl⟩)
        | (go_at_call 20; refine (nb_due _ _ _ ?_).mono ?_; exact (HN.out _ (Keep.refl _ _)).1; rintro e w9 ⟨rfl, hk'⟩; obtain ⟨d2, d3⟩ := HC.out _ hk')
        | (go_at_call 21; refine (nb_ack _ _ _ _ ?_).mono ?_; exact (HN.out _ hk').1; rintro e w' ⟨rfl, rfl⟩)
        | (go_at_call 22; refine (nb_state _ _ ?_).mono ?_; exact (HN.out _ hk').1; rintro e w' ⟨rfl, rfl⟩)
        | (go_at_call 28; refine (nb_svoid _ _ ?_).mono ?_; exact (HN.out _ hk').1; rintro e w' ⟨rfl, rfl⟩))
      go_roundw
      case rel => exact ⟨1, by go_num, by omega, Hkr.out.trans hk'⟩
      case measure => simp [intOf]
    | 1, _ =>
      go_wp2_with (first
        | (go_at_call 18; refine (nb_push _ _ _ ?_).mono ?_; exact (HN.out _ (Keep.refl _ _)).2; rintro e w' ⟨rfl, rfl⟩)
        | (go_at_call 20; refine (nb_due _ _ _ ?_).mono ?_; exact (HN.out _ (Keep.refl _ _)).2; rintro e w9 ⟨rfl, hk'⟩; obtain ⟨d2, d3⟩ := HC.out _ hk')
        | (go_at_call 21; refine (nb_ack _ _ _ _ ?_).mono ?_; exact (HN.out _ hk').2; rintro e w' ⟨rfl, rfl⟩)
        | (go_at_call 22; refine (nb_state _ _ ?_).mono ?_; exact (HN.out _ hk').2; rintro e w' ⟨rfl, rfl⟩)
        | (go_at_call 28; refine (nb_svoid _ _ ?_).mono ?_; exact (HN.out _ hk').2; rintro e w' ⟨rfl, rfl⟩))
      go_roundw
      case rel => exact ⟨2, by go_num, by omega, Hkr.out.trans hk'⟩
      case measure => simp [intOf]
    | 2, _ =>
      rw [show ((2 : Nat) : Int) = (2 : Int) from rfl]
      go_wp2_with fail
      clear c3 s0 s1
      generalize hw2 : (World.alloc (World.alloc wr _) _) = w2
      have hk2 : Keep [] wr w2 := by rw [← hw2]; exact ((Keep.refl [] wr).alloc _).alloc _
      have hZ2 : Blk w2 wr.heap.size 81 #[.int .i64 0, .int .i64 0, .map none] := by
        rw [← hw2]; exact (Blk.new wr 81 _).alloc _
      have hS2 : Blk w2 (wr.heap.size + 1) 23 #[.pointer none, .pointer (some ⟨wr.heap.size, 0, none⟩)] := by
        rw [← hw2]
        have := Blk.new (wr.alloc (.cells #[.int .i64 0, .int .i64 0, .map none] 81)) 23 #[.pointer none, .pointer (some ⟨wr.heap.size, 0, none⟩)]
        simpa using this
      have hP2 := (HP1.out.keep Hkr.out (by simp)).keep hk2 (by simp)
      have HK2 := Lib.hid ((HK1.out.trans Hkr.out).trans hk2)
      have HP2 := Lib.hid hP2
      have HZ2 := Lib.hid hZ2
      have HS2 := Lib.hid hS2
      clear hw2 hk2 hP2 hZ2 hS2 c2 c4 HZ HN HC
      obtain ⟨wo, rfl⟩ : ∃ wo : World, wo = wr := ⟨_, rfl⟩
      go_loopw [92] (fun c wr' => ∃ k : Nat, c = .int .i64 k ∧ k ≤ 2 ∧ Keep [] w2 wr') (fun c _ => 2 - (intOf c).toNat)
      case atStart => exact ⟨0, rfl, by omega, Keep.refl _ _⟩
      case round =>
        obtain ⟨k, rfl, hk2, hkr⟩ := hrel
        have c2 : wr.cell? ⟨w.heap.size, 2, none⟩ = some (.int .i64 n) := (HP2.out.keep hkr (by simp)).cell 2
        have c4 : wr.cell? ⟨w.heap.size, 4, none⟩ = some (.slice A len cap) := (HP2.out.keep hkr (by simp)).cell 4
        have s0 : wr.cell? ⟨wo.heap.size + 1, 0, none⟩ = some (.pointer none) := (HS2.out.keep hkr (by simp)).cell 0
        have s1 : wr.cell? ⟨wo.heap.size + 1, 1, none⟩ = some (.pointer (some ⟨wo.heap.size, 0, none⟩)) := (HS2.out.keep hkr (by simp)).cell 1
        have HN : Hid (∀ W, Keep [] wr W → NoOne none W ∧ NoOne (some ⟨wo.heap.size, 0, none⟩) W) := Lib.hid (fun W k => ⟨.inl rfl, .inr ⟨_, rfl, (HZ2.out.keep (hkr.trans k) (by simp)).cell 0⟩⟩)
        have Hkr2 := Lib.hid hkr
        clear hkr
        match k, hk2 with
        | 0, _ =>
          go_wp2_with (first
            | (go_at_call 12; refine (nb_take _ _ _ _ _ _ ?_).mono ?_; exact (HN.out _ (Keep.refl _ _)).1; rintro e w9 ⟨rfl, hk'⟩)
            | (go_at_call 14; refine (nb_acks _ _ ?_).mono ?_; exact (HN.out _ hk').1; rintro e w' ⟨rfl, rfl⟩)
            | (go_at_call 30; refine (nb_tvoid _ _ ?_).mono ?_; exact (HN.out _ hk').1; rintro e w' ⟨rfl, rfl⟩))
          go_roundw
          case rel => exact ⟨1, by go_num, by omega, Hkr2.out.trans hk'⟩
          case measure => simp [intOf]
        | 1, _ =>
          go_wp2_with (first
            | (go_at_call 12; refine (nb_take _ _ _ _ _ _ ?_).mono ?_; exact (HN.out _ (Keep.refl _ _)).2; rintro e w9 ⟨rfl, hk'⟩)
            | (go_at_call 14; refine (nb_acks _ _ ?_).mono ?_; exact (HN.out _ hk').2; rintro e w' ⟨rfl, rfl⟩)
            | (go_at_call 30; refine (nb_tvoid _ _ ?_).mono ?_; exact (HN.out _ hk').2; rintro e w' ⟨rfl, rfl⟩))
          go_roundw
          case rel => exact ⟨2, by go_num, by omega, Hkr2.out.trans hk'⟩
          case measure => simp [intOf]
        | 2, _ =>
          go_wp2_with (go_at_call 10; refine (alive_any _).mono ?_; rintro e w' ⟨rfl, hk⟩)
          go_ret
          exact ⟨rfl, (HK2.out.trans Hkr2.out).trans hk⟩
end Go.Proofs.Ytlkpecalkakpeaa
