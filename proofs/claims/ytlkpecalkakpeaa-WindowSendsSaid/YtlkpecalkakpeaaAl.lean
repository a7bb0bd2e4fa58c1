/- alive: a payload that came ahead of its turn. -/
import Derived.Test.YtlkpecalkakpeaaSm
import Derived.Test.YtlkpecalkakpeaaRk3
import Derived.Lib.SlBytesConst
set_option linter.unusedVariables false
set_option linter.unusedSimpArgs false
namespace Go.Proofs.Ytlkpecalkakpeaa
open Go.RowKit Go.Sal

theorem MapIs.made (w : World) : MapIs (w.alloc (.map #[] 0)) w.heap.size [] #[] 0 :=
  ⟨heap_alloc_new w _, rfl, by simp, by simp⟩
theorem _root_.Go.Sal.MapIs.alloc {w : World} {b : Nat} {l : List (Int × Value)} {es : Array MapEntry} {cl : Nat} (h : MapIs w b l es cl) (o : Obj) : MapIs (w.alloc o) b l es cl :=
  h.keep ((Keep.refl [] w).alloc o) (by simp)

theorem take_one (v : Value) : ttake 2 1 [] 2 v = (0, 1, [(2, v)], []) := by
  simp [ttake, tdrain, mlook]
theorem take_two (v u : Value) : ttake 2 1 [(2, v)] 1 u = (0, 3, [], [(1, u), (2, v)]) := by
  simp [ttake, tdrain, mlook, mdrop]
theorem bits_one (v : Value) (M : Nat) (h : AckBits 1 [(2, v)] M) : M = 1 := by
  apply Nat.eq_of_testBit_eq
  intro k
  have := h.2 k
  simp at this
  rw [show (1 : Nat) = 2 ^ 0 from rfl, Nat.testBit_two_pow]
  cases hb : M.testBit k
  · rw [hb] at this
    simp at this ⊢
    omega
  · rw [hb] at this
    simp at this ⊢
    omega
theorem reads_lit (base : Nat) (w : World) (c : UInt8) (fr : Nat × Nat) : Reads base 5 (w.alloc (.cells #[.int .u8 c.toNat] 5 fr)) (.slice (some ⟨w.heap.size, 0, none⟩) 1 1) [c] :=
  ⟨_, 1, rfl, by simp, by simp [maxLen], fun _ => ⟨_, rfl, ⟨by simp, .inr ⟨_, _, heap_alloc_new w _⟩⟩, fun i hi => by
    obtain rfl : i = 0 := by simpa using hi
    rw [add_mk, cell_of_row _ _ _ _ _ _ (heap_alloc_new w _)]
    rfl⟩⟩

set_option maxRecDepth 20000 in
set_option maxHeartbeats 4000000 in
theorem alive_any (w : World) : Calls Try.prog 10 #[] w fun e w' => e = .returned (.bool true) ∧ Keep [] w w' := by
  have hcv := fun (w : World) (C : Array Value) (n c : Nat) => Lib.run_convert_bytes_const (P := Try.prog) w 31 5 C n c Try.underlying31 Try.underlying5
  have hcv1 := hcv ((w.alloc (.map #[] 0)).alloc (.cells #[.int .i64 2, .int .i64 1, .map (some w.heap.size)] 81)) #[.int .u8 98] 1 1
  have hz1 : ((w.alloc (.map #[] 0)).alloc (.cells #[.int .i64 2, .int .i64 1, .map (some w.heap.size)] 81)).heap.size = w.heap.size + 1 + 1 := by simp
  rw [hz1] at hcv1
  clear hz1
  go_enter Try.func10, Try.ntmps10
  go_wp2_with (first | (go_at_call 8; refine (wnewTaker_ok 2 _ (by omega) (by omega)).mono ?_; rintro e w1 ⟨rfl, rfl⟩))
  generalize hw2 : (World.alloc _ _) = w2
  have hk2 : Keep [] w w2 := by rw [← hw2]; exact (((Keep.refl [] w).alloc _).alloc _).alloc _
  have hT2 : Blk w2 (w.heap.size + 1) 81 #[.int .i64 2, .int .i64 1, .map (some w.heap.size)] := by
    rw [← hw2]
    have := (Blk.new (w.alloc (.map #[] 0)) 81 #[.int .i64 2, .int .i64 1, .map (some w.heap.size)]).alloc (.cells #[.int .u8 98] 5 (1, 2))
    simpa using this
  have hM2 : MapIs w2 w.heap.size [] #[] 0 := by
    rw [← hw2]
    exact ((MapIs.made w).alloc _).alloc _
  have hv2 : Reads w.heap.size 5 w2 (.slice (some ⟨w.heap.size + 1 + 1, 0, none⟩) 1 1) [98] := by
    rw [← hw2]
    have := reads_lit w.heap.size ((w.alloc (.map #[] 0)).alloc (.cells #[.int .i64 2, .int .i64 1, .map (some w.heap.size)] 81)) 98 (1, 2)
    simpa using this
  have hz2 := hk2.size
  refine (take_any w.heap.size (w.heap.size + 1) w.heap.size 2 1 [] #[] 0 2 _ [98] w2 hT2 hM2 hv2 hz2 (by simp) (by omega) (by omega) (by omega) (by omega) (by omega) (by simp) (by simp) (by simp) (by omega) (by omega)).mono ?_
  rintro e w3 ⟨v3, ro3, es3, cl3, hr3, he3, hT3, hM3, hown3, hk3⟩
  rw [take_one] at he3 hT3 hM3 hown3
  obtain ⟨A3, c3, rfl, _⟩ := own_slice hown3
  subst he3
  have HT3 := Lib.hid hT3
  have HM3 := Lib.hid hM3
  have Hr3 := Lib.hid hr3
  have Hk3 := Lib.hid hk3
  have Hk2 := Lib.hid hk2
  clear hw2 hT2 hM2 hv2 hT3 hM3 hown3 hr3 hk3 hk2
  go_wp2_with (first | (go_at_call 14; refine (acks_any _ _ _ _ _ _ _ _ HT3.out HM3.out (by omega) (by omega) (by omega) (by intro p hp; simp at hp; subst hp; simp)).mono ?_; rintro e w4 ⟨M, hM, rfl, hk4⟩))
  have hM1 := bits_one _ _ hM
  subst hM1
  generalize hw5 : (World.alloc _ _) = w5
  have hk5 : Keep [] w4 w5 := by rw [← hw5]; exact (Keep.refl [] w4).alloc _
  have hv5 : Reads w.heap.size 5 w5 (.slice (some ⟨w4.heap.size, 0, none⟩) 1 1) [97] := by
    rw [← hw5]
    have := reads_lit w.heap.size w4 97 (1, 2)
    simpa using this
  have hk35 := hk4.trans hk5
  have hz5 : w.heap.size ≤ w5.heap.size := by have := Hk2.out.size; have := Hk3.out.size; have := hk35.size; omega
  refine (take_any w.heap.size (w.heap.size + 1) w.heap.size 2 1 _ es3 cl3 1 _ [97] w5 (HT3.out.keep hk35 (by simp)) (HM3.out.keep hk35 (by simp)) hv5 hz5 (by simp) (by omega) (by omega) (by omega) (by omega) (by omega) (by simp) (by
    intro p hp
    simp at hp
    subst hp
    obtain ⟨A, c, rfl, _⟩ := Hr3.out
    exact ⟨_, _, _, rfl⟩) (by simp) (by omega) (by omega)).mono ?_
  rintro e w6 ⟨v6, ro6, es6, cl6, hr6, he6, hT6, hM6, hown6, hk6⟩
  rw [take_two] at he6 hT6 hM6 hown6
  obtain ⟨A6, c6, rfl, _⟩ := own_slice hown6
  subst he6
  obtain ⟨g, cap, hvg, hbg, hgl⟩ := hown6.form (by simp)
  injection hvg with hvg1 hvgn hvg2
  subst hvg1
  clear hvg2 hvgn
  have hr63 : Reads w.heap.size 5 w6 v3 [98] := (Hr3.out.keep hk35 noByte_nil).keep hk6 (noByte_cons (HT3.out.keep hk35 (by simp)) (by decide) (by omega) (noByte_map (HM3.out.keep hk35 (by simp)).heap (by omega) noByte_nil))
  have hstr := str_of_reads (P := Try.prog) hr63 31 9 5 Try.underlying31 Try.underlying5 Try.underlying9
  have hc := hown6.cells (g := g) rfl 3 v3 rfl
  rw [add_mk, Nat.zero_add] at hc
  obtain ⟨A, c, rfl, _⟩ := Hr3.out
  have Hk6 := Lib.hid (Keep.trans (hk35.mono (by simp)) hk6)
  clear hw5 hk5 hv5 hk35 hr6 hT6 hM6 hown6 hk6 hr63 hM hk4
  simp only [List.length_singleton] at hstr hc
  go_wp2
  go_ret
  refine ⟨rfl, ?_⟩
  exact (Hk2.out.step Hk3.out (by intro i hi; simp at hi; right; omega)).step Hk6.out (by intro i hi; simp at hi; right; omega)
end Go.Proofs.Ytlkpecalkakpeaa
