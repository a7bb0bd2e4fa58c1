/- The document's digests: a state behind a block. -/
import Derived.Test.YtdnaahbhfjclpaaGreatDoorReg3
import Derived.Test.YtdnaahbhfjclpaaGreatDoorXd
import Derived.StillTailTactics
set_option linter.unusedVariables false
set_option linter.unusedSimpArgs false
namespace Go.Pck
theorem byte_get {l : List Nat} (h : ∀ x ∈ l, x < 256) (i : Nat) : l.getD i 0 < 256 := by
  rw [List.getD_eq_getElem?_getD]
  cases hi : l[i]? with
  | none => simp
  | some y => exact h y (List.mem_of_getElem? hi)
theorem drop_getD (b : List Nat) (i j : Nat) : (b.drop i).getD j 0 = b.getD (i + j) 0 := by
  simp [List.getD, List.getElem?_drop]
theorem word_at (b : List Nat) {k : Nat} (hk : k < 16) : (sched b).getD k 0 = ((b.getD (4 * k) 0 * 256 + b.getD (4 * k + 1) 0) * 256 + b.getD (4 * k + 2) 0) * 256 + b.getD (4 * k + 3) 0 := by
  rw [sched_words b hk]
  have : (words b).getD k 0 = be32 (b.drop (4 * k)) := by simp [words, List.getD, hk]
  rw [this]
  unfold be32
  rw [drop_getD, drop_getD, drop_getD, drop_getD]
  rfl
end Go.Pck
namespace Go.Proofs.YtdnaahbhfjclpaaGreatDoor
open Go.RowKit Go.Sal Go.Huf Go.Pck Go.Cod
theorem moved3 (x : Nat) (w : World) (hx : x < 4294967296) : Calls Tryz.prog 125 #[.int .u32 (x : Nat), .int .i64 3] w fun e w' => e = .returned (.int .u32 ((x : Int) / 8)) ∧ w' = w := by
  have := movedRz_any x 3 w hx (by omega)
  rwa [show ((x / 2 ^ (3 : Int).toNat : Nat) : Int) = (x : Int) / 8 by show ((x / 8 : Nat) : Int) = _; omega] at this
theorem moved10 (x : Nat) (w : World) (hx : x < 4294967296) : Calls Tryz.prog 125 #[.int .u32 (x : Nat), .int .i64 10] w fun e w' => e = .returned (.int .u32 ((x : Int) / 1024)) ∧ w' = w := by
  have := movedRz_any x 10 w hx (by omega)
  rwa [show ((x / 2 ^ (10 : Int).toNat : Nat) : Int) = (x : Int) / 1024 by show ((x / 1024 : Nat) : Int) = _; omega] at this
structure SrS (w : World) (b0 b1 b2 g5 : Nat) (st b S : List Nat) (k : Nat) (wr : World) : Prop where
  r0 : Blk wr b0 115 (inW st).toArray
  r1 : Blk wr b1 120 (inB b).toArray
  r2 : Blk wr b2 115 Z8
  row : Blk wr g5 179 (inW (rowN S k)).toArray
  kp : Keep [] w wr
section
variable {w wr : World} {b0 b1 b2 g5 k : Nat} {st b S : List Nat}
theorem SrS.keep (h : SrS w b0 b1 b2 g5 st b S k wr) {W : World} (kk : Keep [] wr W) : SrS w b0 b1 b2 g5 st b S k W :=
  ⟨h.r0.keep kk (by simp), h.r1.keep kk (by simp), h.r2.keep kk (by simp), h.row.keep kk (by simp), h.kp.trans kk⟩
theorem SrS.get (h : SrS w b0 b1 b2 g5 st b S k wr) {i : Nat} (hi : i < k) (hk : k ≤ S.length) : wr.cell? ⟨g5, i, none⟩ = some (.int .u32 (S.getD i 0 : Nat)) := by
  rw [h.row.cell i]
  simp [inW, rowN_get S hi hk]
theorem SrS.old (h : SrS w b0 b1 b2 g5 st b S k wr) (hk : k < S.length) : wr.cell? ⟨g5, k, none⟩ = some (.int .u32 0) := by
  rw [h.row.cell k]
  simp [inW, rowN_zero S hk]
theorem SrS.set (h : SrS w b0 b1 b2 g5 st b S k wr) (hk : k < S.length) (hne : b0 ≠ g5 ∧ b1 ≠ g5 ∧ b2 ≠ g5 ∧ w.heap.size ≤ g5) (E : Int) (hE : E = (S.getD k 0 : Nat)) : SrS w b0 b1 b2 g5 st b S (k + 1) (wr.setCell ⟨g5, k, none⟩ (.int .u32 E)) := by
  subst hE
  refine ⟨h.r0.far hne.1 _, h.r1.far hne.2.1 _, h.r2.far hne.2.2.1 _, ?_, h.kp.setCell (.inr hne.2.2.2) _⟩
  have := h.row.set_ k (.int .u32 (S.getD k 0 : Nat))
  rw [← rowN_set S hk]
  simpa [inW, List.map_set] using this
end
set_option maxRecDepth 20000 in
set_option maxHeartbeats 1000000 in
theorem stepR_any (st b : List Nat) (w : World) (hst : st.length = 8) (hw : w32 st) (hl : b.length = 64) (hb : ∀ x ∈ b, x < 256) :
    Calls Tryz.prog 80 #[.agg (inW st).toArray, .agg (inB b).toArray] w fun e w' => e = .returned (enc32 (stepS st b)) ∧ Keep [] w w' := by
  have z1 := zero179
  have hZs : Z64.size = 64 := rfl
  have HZE : Hid ((inW (List.replicate 64 0)).toArray = Z64) := Lib.hid rfl
  generalize Z64 = Z at *
  go_enter Tryz.func80, Tryz.ntmps80
  go_upto_region 1 with (fail)
  obtain ⟨w3, hw3⟩ : ∃ w3, (((w.alloc (.cells (inW st).toArray 115)).alloc (.cells (inB b).toArray 120)).alloc (.cells Z8 115)) = w3 := ⟨_, rfl⟩
  have hb0 : Blk w3 w.heap.size 115 (inW st).toArray := by subst hw3; exact ((Blk.new w 115 _).alloc _).alloc _
  have hb1 : Blk w3 (w.heap.size + 1) 120 (inB b).toArray := by subst hw3; exact (blk_at (by rw [size_al]) 120 _).alloc _
  have hb2 : Blk w3 (w.heap.size + 1 + 1) 115 Z8 := by subst hw3; exact blk_at (by rw [size_al, size_al]) 115 _
  have hkp : Keep [] w w3 := by subst hw3; exact (((Keep.refl [] w).alloc _).alloc _).alloc _
  have hsz : w3.heap.size = w.heap.size + 1 + 1 + 1 := by subst hw3; rw [size_al, size_al, size_al]
  change Code.wp _ _ _ _ (((w.alloc (.cells (inW st).toArray 115)).alloc (.cells (inB b).toArray 120)).alloc (.cells Z8 115))
  rw [hw3]
  clear hw3
  obtain ⟨g5, hg5⟩ : ∃ g5, g5 = w3.heap.size := ⟨_, rfl⟩
  obtain ⟨w4, hw4⟩ : ∃ w4, w3.alloc (.cells Z 179) = w4 := ⟨_, rfl⟩
  have kW : Keep [] w3 w4 := by rw [← hw4]; exact (Keep.refl [] w3).alloc _
  have k5 : Blk w4 g5 179 Z := by rw [← hw4, hg5]; exact Blk.new w3 179 _
  have hne : w.heap.size ≠ g5 ∧ w.heap.size + 1 ≠ g5 ∧ w.heap.size + 1 + 1 ≠ g5 ∧ w.heap.size ≤ g5 := by omega
  have h0 : SrS w w.heap.size (w.heap.size + 1) (w.heap.size + 1 + 1) g5 st b (sched b) 0 w4 := ⟨hb0.keep kW (by simp), hb1.keep kW (by simp), hb2.keep kW (by simp), by rw [rowN_start, sched_len, HZE.out]; exact k5, hkp.trans kW⟩
  have Hw4 := Lib.hid hw4
  have Hg5 := Lib.hid hg5
  clear hw4 hg5 kW k5 hb0 hb1 hb2 hkp hsz
  go_upto_region 2 with (fail)
  rw [Hw4.out, ← Hg5.out]
  generalize hb0e : w.heap.size = b0 at *
  generalize hb1e : b0 + 1 = b1 at *
  generalize hb2e : b1 + 1 = b2 at *
  have H0 := Lib.hid h0
  have Hne : Hid (b0 ≠ g5 ∧ b1 ≠ g5 ∧ b2 ≠ g5 ∧ w.heap.size ≤ g5) := Lib.hid ⟨hne.1, hne.2.1, hne.2.2.1, by omega⟩
  have Hbe : Hid (w.heap.size ≤ b0 ∧ w.heap.size ≤ b2 ∧ b0 ≠ b2 ∧ b0 < g5 ∧ b2 < g5) := Lib.hid (by omega)
  have HF : Hid (enc32 (stepS st b) = enc32 (addL (rnds (sched b) st 64) st)) := Lib.hid rfl
  have HS := Lib.hid (sched_w hb)
  have HSl := Lib.hid (sched_len b)
  have Hw := Lib.hid hw
  have HZl := Lib.hid hst
  have Hb := Lib.hid hb
  have Hbl := Lib.hid hl
  have Hn : Hid (∀ i, 16 ≤ i → i < 64 → (sched b).getD i 0 = wNext (sched b) i) := Lib.hid (fun i h1 h2 => sched_next b h1 h2)
  have Hn1 := Lib.hid (fun k (h : k < 16) => word_at b h)
  generalize sched b = S at *
  clear hw hb hst hl h0 hne hb0e hb1e hb2e Hw4 Hg5 HZE
  go_wp2
  go_loopw [6] (fun v6 wr => ∃ k : Nat, v6 = .int .i64 k ∧ k ≤ 16 ∧ Hid (SrS w b0 b1 b2 g5 st b S k wr)) (fun v6 _ => 16 - (intOf v6).toNat)
  case atStart => exact ⟨0, rfl, by omega, H0⟩
  case round =>
    obtain ⟨k, rfl, hk, hI⟩ := hrel
    clear H0
    rcases Nat.lt_or_ge k 16 with hk16 | hk16
    · as_aux_lemma =>
        have hki : (k : Int) < 16 := by omega
        have hki6 : (k : Int) < 64 := by omega
        have hwk : IntKind.i64.wrap ((k : Int) + 1) = (k : Int) + 1 := by rw [IntKind.wrap_i64]; omega
        have hkS : k < S.length := by have := HSl.out; omega
        have hnx := Hn1.out k hk16
        have hvl := w32_get HS.out k
        obtain ⟨p0, hp0⟩ : ∃ p, p = 4 * k := ⟨_, rfl⟩
        obtain ⟨p1, hp1⟩ : ∃ p, p = 4 * k + 1 := ⟨_, rfl⟩
        obtain ⟨p2, hp2⟩ : ∃ p, p = 4 * k + 2 := ⟨_, rfl⟩
        obtain ⟨p3, hp3⟩ : ∃ p, p = 4 * k + 3 := ⟨_, rfl⟩
        have hg0 := byte_get Hb.out p0
        have hg1 := byte_get Hb.out p1
        have hg2 := byte_get Hb.out p2
        have hg3 := byte_get Hb.out p3
        rw [← hp3, ← hp2, ← hp1, ← hp0] at hnx
        have hw0 : IntKind.i64.wrap (4 * (k : Int)) = (p0 : Int) := by rw [IntKind.wrap_i64]; omega
        have hw1 : IntKind.i64.wrap ((p0 : Int) + 1) = (p1 : Int) := by rw [IntKind.wrap_i64]; omega
        have hw2 : IntKind.i64.wrap ((p0 : Int) + 2) = (p2 : Int) := by rw [IntKind.wrap_i64]; omega
        have hw3 : IntKind.i64.wrap ((p0 : Int) + 3) = (p3 : Int) := by rw [IntKind.wrap_i64]; omega
        have l0 : (p0 : Int) < 64 := by omega
        have l1 : (p1 : Int) < 64 := by omega
        have l2 : (p2 : Int) < 64 := by omega
        have l3 : (p3 : Int) < 64 := by omega
        have hcb : ∀ p, p < 64 → (inB b).toArray[p]? = some (.int .u8 (b.getD p 0 : Nat)) := fun p hp => by have := Hbl.out; simp [inB, List.getD, show p < b.length by omega]
        have hall : ∀ W, Keep [] wr W → W.cell? ⟨b1, p0, none⟩ = some (.int .u8 (b.getD p0 0 : Nat)) ∧ W.cell? ⟨b1, p1, none⟩ = some (.int .u8 (b.getD p1 0 : Nat)) ∧ W.cell? ⟨b1, p2, none⟩ = some (.int .u8 (b.getD p2 0 : Nat)) ∧ W.cell? ⟨b1, p3, none⟩ = some (.int .u8 (b.getD p3 0 : Nat)) ∧ W.cell? ⟨g5, k, none⟩ = some (.int .u32 0) ∧ b1 < W.heap.size ∧ g5 < W.heap.size ∧ W.frozen? ⟨g5, k, none⟩ = false ∧ (∀ E : Int, E = (S.getD k 0 : Nat) → SrS w b0 b1 b2 g5 st b S (k + 1) (W.setCell ⟨g5, k, none⟩ (.int .u32 E))) := fun W hk => by
          have hS := hI.out.keep hk
          exact ⟨(hS.r1.cell p0).trans (hcb p0 (by omega)), (hS.r1.cell p1).trans (hcb p1 (by omega)), (hS.r1.cell p2).trans (hcb p2 (by omega)), (hS.r1.cell p3).trans (hcb p3 (by omega)), hS.old hkS, hS.r1.lt, hS.row.lt, hS.row.free k, fun E hE => hS.set hkS Hne.out E hE⟩
        generalize b.getD p0 0 = x0 at *
        generalize b.getD p1 0 = x1 at *
        generalize b.getD p2 0 = x2 at *
        generalize b.getD p3 0 = x3 at *
        generalize S.getD k 0 = v at *
        have Hnx := Lib.hid (And.intro hnx hvl)
        have Hall := Lib.hid hall
        have Hg := Lib.hid (And.intro hg0 (And.intro hg1 (And.intro hg2 hg3)))
        clear hp0 hp1 hp2 hp3 hI HS hkS hnx hvl hall hcb HSl Hn Hn1 Hb Hbl Hw HZl HF Hne Hbe hg0 hg1 hg2 hg3 z1 hZs
        have hg0 := Hg.out.1
        have hg1 := Hg.out.2.1
        have hg2 := Hg.out.2.2.1
        have hg3 := Hg.out.2.2.2
        go_upto_region 5 with (fail)
        refine wp_region_still_tail 30 (by kernel_rfl) (by kernel_rfl) ?_
        simp only [List.take_succ_cons, List.take_zero, List.drop_succ_cons, List.drop_zero]
        change wpStill _ _ wr.drew _ _ _
        have hKW : Keep [] wr wr.drew := (Keep.refl [] wr).drew
        obtain ⟨W, hW⟩ : ∃ W, wr.drew = W := ⟨_, rfl⟩
        rw [hW] at hKW ⊢
        have HW := Lib.hid hW
        clear hW
        obtain ⟨m0, m1, m2, m3, m4, mb, mlt, mfr, hset⟩ := Hall.out W hKW
        have Hset := Lib.hid hset
        clear hset hg0 hg1 hg2 hg3
        repeat still_step
        refine wpStill_nil ?_
        change wpList _ _ _ _ _ wr.drew
        rw [HW.out]
        go_wp2
        refine ⟨⟨k + 1, by simp, by omega, Lib.hid (Hset.out _ ?_)⟩, by simp [intOf]; omega⟩
        have h1 := Hnx.out.1
        have h2 := Hnx.out.2
        have h3 := Hg.out
        omega
    · obtain rfl : k = 16 := by omega
      have hki : ¬ ((16 : Nat) : Int) < 16 := by omega
      have HI1 := hI
      clear hI hk16 hk Hn1 Hb Hbl
      go_wp2
      go_loopw [7, 8, 9, 10, 11] (fun v7 v8 v9 v10 v11 wr => ∃ k : Nat, v7 = .int .i64 k ∧ 16 ≤ k ∧ k ≤ 64 ∧ Hid (SrS w b0 b1 b2 g5 st b S k wr)) (fun v7 _ _ _ _ _ => 64 - (intOf v7).toNat)
      case atStart => exact ⟨16, rfl, by omega, by omega, HI1⟩
      case round =>
        obtain ⟨k, rfl, hk, hk2, hI⟩ := hrel
        clear HI1
        rcases Nat.lt_or_ge k 64 with hk16 | hk16
        · as_aux_lemma =>
            have hki : (k : Int) < 64 := by omega
            have hwk : IntKind.i64.wrap ((k : Int) + 1) = (k : Int) + 1 := by rw [IntKind.wrap_i64]; omega
            have hS := hI.out
            have hkS : k < S.length := by have := HSl.out; omega
            have hnx := Hn.out k hk hk16
            have hx16 := w32_get HS.out (k - 16)
            have hx15 := w32_get HS.out (k - 15)
            have hx7 := w32_get HS.out (k - 7)
            have hx2 := w32_get HS.out (k - 2)
            unfold wNext at hnx
            have m15 := hS.get (i := k - 15) (by omega) (by omega)
            have m2 := hS.get (i := k - 2) (by omega) (by omega)
            have mlt := hS.row.lt
            have hall : ∀ W, Keep [] wr W → W.cell? ⟨g5, k - 16, none⟩ = some (.int .u32 (S.getD (k - 16) 0 : Nat)) ∧ W.cell? ⟨g5, k - 7, none⟩ = some (.int .u32 (S.getD (k - 7) 0 : Nat)) ∧ W.cell? ⟨g5, k, none⟩ = some (.int .u32 0) ∧ g5 < W.heap.size ∧ W.frozen? ⟨g5, k, none⟩ = false ∧ (∀ E : Int, E = (S.getD k 0 : Nat) → SrS w b0 b1 b2 g5 st b S (k + 1) (W.setCell ⟨g5, k, none⟩ (.int .u32 E))) := fun W hk => by
              have hS := hS.keep hk
              exact ⟨hS.get (i := k - 16) (by omega) (by omega), hS.get (i := k - 7) (by omega) (by omega), hS.old hkS, hS.row.lt, hS.row.free k, fun E hE => hS.set hkS Hne.out E hE⟩
            obtain ⟨p16, hp16⟩ : ∃ p, p = k - 16 := ⟨_, rfl⟩
            obtain ⟨p15, hp15⟩ : ∃ p, p = k - 15 := ⟨_, rfl⟩
            obtain ⟨p7, hp7⟩ : ∃ p, p = k - 7 := ⟨_, rfl⟩
            obtain ⟨p2, hp2⟩ : ∃ p, p = k - 2 := ⟨_, rfl⟩
            have hw16 : IntKind.i64.wrap ((k : Int) - 16) = (p16 : Int) := by rw [IntKind.wrap_i64]; omega
            have hw15 : IntKind.i64.wrap ((k : Int) - 15) = (p15 : Int) := by rw [IntKind.wrap_i64]; omega
            have hw7 : IntKind.i64.wrap ((k : Int) - 7) = (p7 : Int) := by rw [IntKind.wrap_i64]; omega
            have hw2 : IntKind.i64.wrap ((k : Int) - 2) = (p2 : Int) := by rw [IntKind.wrap_i64]; omega
            have l16 : (p16 : Int) < 64 := by omega
            have l15 : (p15 : Int) < 64 := by omega
            have l7 : (p7 : Int) < 64 := by omega
            have l2 : (p2 : Int) < 64 := by omega
            rw [← hp16] at hall hnx hx16
            rw [← hp15] at m15 hnx hx15
            rw [← hp7] at hall hnx hx7
            rw [← hp2] at m2 hnx hx2
            generalize S.getD p16 0 = a16 at *
            generalize S.getD p15 0 = a15 at *
            generalize S.getD p7 0 = a7 at *
            generalize S.getD p2 0 = a2 at *
            generalize S.getD k 0 = ak at *
            have Hnx := Lib.hid hnx
            have Hall := Lib.hid hall
            clear hp16 hp15 hp7 hp2 hS hI HSl HS Hn hkS hnx hall Hne Hbe Hw HZl HF z1 hZs
            go_upto_region 9 with (fail)
            go_quiet (fail)
            go_upto_region 11 with (first
              | (go_at_call 124; refine (rightRz_any _ _ _ (by assumption) (by decide)).mono ?_; rintro e w' ⟨rfl, rfl⟩)
              | (go_at_call 125; refine (moved3 a15 _ hx15).mono ?_; rintro e w' ⟨rfl, rfl⟩))
            go_upto_region 12 with (first
              | (go_at_call 124; refine (rightRz_any _ _ _ (by assumption) (by decide)).mono ?_; rintro e w' ⟨rfl, rfl⟩)
              | (go_at_call 125; refine (moved10 a2 _ hx2).mono ?_; rintro e w' ⟨rfl, rfl⟩))
            rw [sg0_walk a15 hx15, sg1_walk a2 hx2]
            have h0 := sg0_lt hx15
            have h1 := sg1_lt hx2
            generalize sg0 a15 = s0 at *
            generalize sg1 a2 = s1 at *
            refine wp_region_still_tail 14 (by kernel_rfl) (by kernel_rfl) ?_
            simp only [List.take_succ_cons, List.take_zero, List.drop_succ_cons, List.drop_zero]
            change wpStill _ _ (wr.drewN nq).drew _ _ _
            have hKW : Keep [] wr (wr.drewN nq).drew := ((Keep.refl [] wr).drewN nq).drew
            obtain ⟨W, hW⟩ : ∃ W, (wr.drewN nq).drew = W := ⟨_, rfl⟩
            rw [hW] at hKW ⊢
            have HW := Lib.hid hW
            clear hW
            obtain ⟨m16, m7, mo, mlt, mfr, hset⟩ := Hall.out W hKW
            have Hset := Lib.hid hset
            clear hset
            repeat still_step
            refine wpStill_nil ?_
            change wpList _ _ _ _ _ (wr.drewN nq).drew
            rw [HW.out]
            go_wp2
            refine ⟨⟨k + 1, by simp, by omega, by omega, Lib.hid (Hset.out _ ?_)⟩, by simp [intOf]; omega⟩
            rw [Hnx.out]; unfold a32; omega
        · obtain rfl : k = 64 := by omega
          have hki : ¬ ((64 : Nat) : Int) < 64 := by omega
          have hS := hI.out
          have hrow := hS.row
          have e1 : rowN S 64 = S := by rw [← HSl.out]; exact rowN_all S
          rw [e1] at hrow
          have hbw : b0 < wr.heap.size ∧ b2 < wr.heap.size ∧ g5 < wr.heap.size := ⟨hS.r0.lt, hS.r2.lt, hrow.lt⟩
          have hKc : Hid (∀ w, Calls Tryz.prog 126 #[] w fun e w' => e = .returned (.agg (inW kTab).toArray) ∧ Keep [] w w') := Lib.hid constsR_any
          have hKs : (inW kTab).toArray.size = 64 := rfl
          have hKo : (inW kTab).toArray.all (·.oneCell') = true := all_oneCell_toArray (inW_one _)
          have hTs : (inW st).toArray.size = 8 := by simp [inW, HZl.out]
          have hTo : (inW st).toArray.all (·.oneCell') = true := all_oneCell_toArray (inW_one _)
          have hz8 : Z8.size = 8 := rfl
          have HL := Lib.hid (And.intro hS (And.intro hrow hbw))
          have hmk : ∀ w6 g6, Keep [] wr w6 → Blk w6 g6 179 (inW kTab).toArray → wr.heap.size ≤ g6 → Hid (StpS w b0 b2 g5 g6 w6.heap.size st S (rnds S st 0) (w6.alloc (.cells (inW st).toArray 115)) ∧ (w.heap.size ≤ w6.heap.size ∧ (w6.heap.size ≠ b0 ∧ w6.heap.size ≠ b2) ∧ (w6.heap.size ≠ g5 ∧ w6.heap.size ≠ g6))) := fun w6 g6 kk hb6 hle => Lib.hid (by
            have k7 : Keep [] wr (w6.alloc (.cells (inW st).toArray 115)) := kk.alloc _
            have h6 := hb6.lt
            have h1 := kk.size
            have h2 := hS.kp.size
            exact ⟨⟨hrow.keep k7 (by simp), hb6.alloc _, Blk.new w6 115 _, hS.r0.keep k7 (by simp), hS.r2.keep k7 (by simp), hS.kp.trans k7⟩, by omega, ⟨by omega, by omega⟩, by omega, by omega⟩)
          have Hmk := Lib.hid hmk
          have h0s := hS.r0
          have H0s : Hid (∀ w6, Keep [] wr w6 → Blk w6 b0 115 (inW st).toArray) := Lib.hid (fun w6 kk => h0s.keep kk (by simp))
          clear hmk hI hS hrow hbw h0s HL hk hk2 hk16 Hn Hne
          generalize hKT : (inW kTab).toArray = KT at *
          generalize hST : (inW st).toArray = ST at *
          have HST := Lib.hid (And.intro hKT hST)
          clear hKT hST e1
          go_upto_region 13 with (fail)
          refine wp_region_lit ?_
          refine wpList_plain rfl (fun K hK => ?_)
          go_simp
          go_at_call 126
          refine (hKc.out _).mono ?_
          rintro e w5 ⟨rfl, hk5⟩
          have H5 := Lib.hid hk5
          refine hK _ _ ?_
          clear hK K hk5
          refine wpList_plain rfl (fun K hK => ?_)
          go_simp
          refine hK _ _ ?_
          clear hK K
          refine wpList_store_rowTo rfl 179 (.tmp 12) (.tmp 98) rfl rfl w5.heap.size KT rfl rfl 179 Z (heap_alloc_last w5 _) (by rw [hKs]; exact size179) (by rw [hKs]; exact hZs) hKo ?_
          rw [World.setRow_alloc_new]
          obtain ⟨g6, hg6⟩ : ∃ g, g = w5.heap.size := ⟨_, rfl⟩
          obtain ⟨w6, hw6⟩ : ∃ W, w5.alloc (.cells KT 179) = W := ⟨_, rfl⟩
          have hb6 : Blk w6 g6 179 KT := by rw [← hw6, hg6]; exact Blk.new w5 179 _
          have hk6 : Keep [] wr w6 := by rw [← hw6]; exact H5.out.alloc _
          have hl6 : wr.heap.size ≤ g6 := by rw [hg6]; exact H5.out.size
          rw [hw6, ← hg6]
          have H7 := Hmk.out w6 g6 hk6 hb6 hl6
          have h0s := H0s.out w6 hk6
          clear hw6 hg6 hb6 hk6 hl6 H5 Hmk H0s hKc
          go_upto_region 14 with (fail)
          refine wp_region_lit ?_
          refine wpList_load_row rfl 115 (.tmp 2) rfl b0 rfl 115 ST (0, 0) _ h0s Tryz.underlying115 rfl (by rw [hTs]; exact size115) ?_
          refine wpList_plain rfl (fun K hK => ?_)
          go_simp
          refine hK _ _ ?_
          clear hK K
          refine wpList_store_rowTo rfl 115 (.tmp 13) (.tmp 99) rfl rfl w6.heap.size ST rfl rfl 115 Z8 (heap_alloc_last w6 _) (by rw [hTs]; exact size115) (by rw [hTs]; exact hz8) hTo ?_
          rw [World.setRow_alloc_new]
          obtain ⟨g7, hg7⟩ : ∃ g, g = w6.heap.size := ⟨_, rfl⟩
          obtain ⟨w7, hw7⟩ : ∃ W, w6.alloc (.cells ST 115) = W := ⟨_, rfl⟩
          rw [← hg7, hw7] at H7
          rw [← hg7, hw7]
          have H0 : Hid (StpS w b0 b2 g5 g6 g7 st S (rnds S st 0) w7) := Lib.hid H7.out.1
          have HH := Lib.hid H7.out.2
          clear hg7 hw7 H7 h0s hTs hTo hKs hKo hz8 z1 hZs HST
          go_wp2
          go_loopw [14, 15, 16, 17, 18] (fun v14 v15 v16 v17 v18 wr => ∃ k : Nat, v14 = .int .i64 k ∧ k ≤ 64 ∧ Hid (StpS w b0 b2 g5 g6 g7 st S (rnds S st k) wr)) (fun v14 _ _ _ _ _ => 64 - (intOf v14).toNat)
          case atStart => exact ⟨0, rfl, by omega, H0⟩
          case round =>
            obtain ⟨k, rfl, hk, hI⟩ := hrel
            clear H0
            rcases Nat.lt_or_ge k 64 with hk16 | hk16
            · as_aux_lemma =>
                have hki : (k : Int) < 64 := by omega
                have hwk : IntKind.i64.wrap ((k : Int) + 1) = (k : Int) + 1 := by rw [IntKind.wrap_i64]; omega
                have hS := hI.out
                have hcw := rnds_w S st Hw.out k
                have hcl := rnds_len S st HZl.out k
                have HN : Hid (rnd (rnds S st k) (kTab.getD k 0) (S.getD k 0) = rnds S st (k + 1)) := Lib.hid rfl
                generalize rnds S st k = cur at *
                generalize hc2 : rnds S st (k + 1) = cur2 at *
                have Hc2 := Lib.hid hc2
                clear hc2
                have hx := w32_get hcw
                have hlk := hS.k7.lt
                have hl5 := hS.k5.lt
                have hl6 := hS.k6.lt
                have c0 := cell_inW hS.k7 (i := 0) (by omega)
                have c1 := cell_inW hS.k7 (i := 1) (by omega)
                have c2 := cell_inW hS.k7 (i := 2) (by omega)
                have c3 := cell_inW hS.k7 (i := 3) (by omega)
                have c4 := cell_inW hS.k7 (i := 4) (by omega)
                have c5 := cell_inW hS.k7 (i := 5) (by omega)
                have c6 := cell_inW hS.k7 (i := 6) (by omega)
                have c7 := cell_inW hS.k7 (i := 7) (by omega)
                have cw := cell_inW hS.k5 (i := k) (by have := HSl.out; omega)
                have ck := cell_inW hS.k6 (i := k) (by show k < 64; exact hk16)
                have hc0 := hx 0
                have hc1 := hx 1
                have hc2 := hx 2
                have hc3 := hx 3
                have hc4 := hx 4
                have hc5 := hx 5
                have hc6 := hx 6
                have hc7 := hx 7
                have hcw2 := w32_get HS.out k
                have hck : kTab.getD k 0 < 4294967296 := w32_get (by unfold w32 kTab; decide) k
                have hall : ∀ W, StpS w b0 b2 g5 g6 g7 st S cur W → W.cell? ⟨g7, 0, none⟩ = some (.int .u32 (cur.getD 0 0 : Nat)) ∧ W.cell? ⟨g7, 1, none⟩ = some (.int .u32 (cur.getD 1 0 : Nat)) ∧ W.cell? ⟨g7, 2, none⟩ = some (.int .u32 (cur.getD 2 0 : Nat)) ∧ W.cell? ⟨g7, 3, none⟩ = some (.int .u32 (cur.getD 3 0 : Nat)) ∧
                    W.cell? ⟨g7, 4, none⟩ = some (.int .u32 (cur.getD 4 0 : Nat)) ∧ W.cell? ⟨g7, 5, none⟩ = some (.int .u32 (cur.getD 5 0 : Nat)) ∧ W.cell? ⟨g7, 6, none⟩ = some (.int .u32 (cur.getD 6 0 : Nat)) ∧ W.cell? ⟨g7, 7, none⟩ = some (.int .u32 (cur.getD 7 0 : Nat)) := fun W h =>
                  ⟨cell_inW h.k7 (by omega), cell_inW h.k7 (by omega), cell_inW h.k7 (by omega), cell_inW h.k7 (by omega), cell_inW h.k7 (by omega), cell_inW h.k7 (by omega), cell_inW h.k7 (by omega), cell_inW h.k7 (by omega)⟩
                have e := HN.out
                unfold rnd tt1 tt2 at e
                generalize cur.getD 0 0 = s0 at *
                generalize cur.getD 1 0 = s1 at *
                generalize cur.getD 2 0 = s2 at *
                generalize cur.getD 3 0 = s3 at *
                generalize cur.getD 4 0 = s4 at *
                generalize cur.getD 5 0 = s5 at *
                generalize cur.getD 6 0 = s6 at *
                generalize cur.getD 7 0 = s7 at *
                generalize kTab.getD k 0 = kk at *
                generalize S.getD k 0 = ww at *
                have He := Lib.hid e
                have Hall := Lib.hid hall
                clear hall
                have HS7 := Lib.hid hS
                clear e HN hx hS hI hcw HS Hw HSl HZl
                go_upto_region 18 with (fail)
                go_quiet ((go_at_call 124; refine (rightRz_any _ _ _ (by assumption) (by decide)).mono ?_; rintro e w' ⟨rfl, rfl⟩; exact ⟨rfl, _, rfl⟩))
                generalize nq = n1 at *
                go_upto_region 19 with (fail)
                go_quiet (fail)
                generalize nq = n2 at *
                go_upto_region 20 with (fail)
                go_quiet ((go_at_call 124; refine (rightRz_any _ _ _ (by assumption) (by decide)).mono ?_; rintro e w' ⟨rfl, rfl⟩; exact ⟨rfl, _, rfl⟩))
                go_upto_region 22 with (fail)
                rw [bs1_walk s4 hc4, bs0_walk s0 hc0, chF_walk s4 s5 s6 hc4 hc5 hc6, mjF_walk s0 s1 s2 hc0 hc1 hc2]
                obtain ⟨q1, hq1⟩ : ∃ q, q = a32 (a32 (a32 (a32 s7 (bs1 s4)) (chF s4 s5 s6)) kk) ww := ⟨_, rfl⟩
                obtain ⟨q2, hq2⟩ : ∃ q, q = a32 (bs0 s0) (mjF s0 s1 s2) := ⟨_, rfl⟩
                have e1 : (((s7 : Int) + (bs1 s4 : Nat) + (chF s4 s5 s6 : Nat) + kk) % 4294967296 + ww) % 4294967296 = (q1 : Int) := by rw [hq1]; unfold a32; omega
                have e2 : (((bs0 s0 : Nat) : Int) + (mjF s0 s1 s2 : Nat)) % 4294967296 = (q2 : Int) := by rw [hq2]; unfold a32; omega
                rw [e1, e2]
                rw [← hq1, ← hq2] at He
                clear hq1 hq2 e1 e2
                have hKW : ∀ n, Keep [] wr (wr.drewN n) := fun n => (Keep.refl [] wr).drewN n
                obtain ⟨w5, hw5, HS8⟩ : ∃ w5, wr.drewN (n1 + n2 + nq) = w5 ∧ StpS w b0 b2 g5 g6 g7 st S cur w5 := ⟨_, rfl, HS7.out.keep (hKW _)⟩
                rw [hw5]
                clear hw5 hKW c0 c1 c2 c3 c4 c5 c6 c7 cw ck HS7 hlk hl5 hl6
                obtain ⟨c0, c1, c2, c3, c4, c5, c6, c7⟩ := Hall.out w5 HS8
                have hk7 := HS8.k7
                have hlk := hk7.lt
                have hsz : (inW cur).toArray.size = 8 := by simp [inW, hcl]
                have HS9 := Lib.hid HS8
                have Hk7 := Lib.hid hk7
                have Hsz := Lib.hid hsz
                have ha3 : IntKind.u32.wrap ((s3 : Int) + q1) = ((a32 s3 q1 : Nat) : Int) := by rw [IntKind.wrap_u32]; unfold a32; omega
                have ha0 : IntKind.u32.wrap ((q1 : Int) + q2) = ((a32 q1 q2 : Nat) : Int) := by rw [IntKind.wrap_u32]; unfold a32; omega
                clear HS8 Hall hk7 hsz
                generalize a32 s3 q1 = x4 at *
                generalize a32 q1 q2 = x0 at *
                refine wp_region_lit ?_
                iterate 19 (refine wpList_plain rfl (fun K hK => ?_); go_simp; refine hK _ _ ?_; clear hK K)
                refine wpList_buildTo rfl 115 _ rfl (some 189) rfl (inW cur2).toArray ?hf ?_
                case hf =>
                  rewrite [← He.out]
                  simp only [List.map_toArray, List.map_cons, List.map_nil]
                  go_simp
                  exact built115 _ _ _ _ _ _ _ _
                have hV8 : (inW cur2).toArray.size = 8 := by rw [← He.out]; rfl
                have hone : (inW cur2).toArray.all (·.oneCell') = true := all_oneCell_toArray (inW_one cur2)
                have HV := Lib.hid (And.intro hV8 hone)
                have HN : Hid (StpS w b0 b2 g5 g6 g7 st S cur2 (w5.setRow g7 (inW cur2).toArray)) := Lib.hid (HS9.out.row hV8 HH.out.1 HH.out.2.1 HH.out.2.2)
                have Hi : Hid ((Tryz.prog.info? 115).map (·.size) = some (inW cur2).toArray.size) := Lib.hid (by rw [hV8]; exact size115)
                clear He hV8 hone
                generalize (inW cur2).toArray = V at *
                simp only [Act.put, List.setIfInBounds_toArray, List.set_cons_zero, List.set_cons_succ]
                refine wpList_store_rowTo rfl 115 (.tmp 13) (.tmp 189) rfl rfl g7 V (by kernel_rfl) (by kernel_rfl) 115 (inW cur).toArray Hk7.out Hi.out (by rw [HV.out.1]; exact Hsz.out) HV.out.2 ?_
                go_wp2
                exact ⟨⟨k + 1, by simp, by omega, by rw [Hc2.out]; exact HN⟩, by simp [intOf]; omega⟩
            · as_aux_lemma =>
                obtain rfl : k = 64 := by omega
                have HI1 := Lib.hid hI.out
                have HR8 := Lib.hid (rnds_len S st HZl.out 64)
                have HRw := Lib.hid (rnds_w S st Hw.out 64)
                have hki : ¬ ((64 : Nat) : Int) < 64 := by omega
                clear hI hk16 hk HS HSl
                generalize rnds S st 64 = R at *
                have H8 : Hid (StpS w b0 b2 g5 g6 g7 st S (addR R st 0) wr) := Lib.hid (by rw [addR_zero HR8.out]; exact HI1.out)
                have HF2 : Hid (enc32 (stepS st b) = enc32 (addR R st 8)) := Lib.hid (by rw [HF.out, addR_all])
                clear HF HI1 HR8
                go_wp2
                go_loopw [19] (fun v19 w2 => ∃ k : Nat, v19 = .int .i64 k ∧ k ≤ 8 ∧ Hid (StpS w b0 b2 g5 g6 g7 st S (addR R st k) w2)) (fun v19 _ => 8 - (intOf v19).toNat)
                case atStart => exact ⟨0, rfl, by omega, H8⟩
                case round =>
                  obtain ⟨k, rfl, hk, hI⟩ := hrel
                  clear H8
                  rcases Nat.lt_or_ge k 8 with hk16 | hk16
                  · as_aux_lemma =>
                      have hki : (k : Int) < 8 := by omega
                      have hwk : IntKind.i64.wrap ((k : Int) + 1) = (k : Int) + 1 := by rw [IntKind.wrap_i64]; omega
                      have hlen := addR_len R st k
                      have hadd := addR_set (R := R) (st := st) hk16
                      have hgk : (addR R st k).getD k 0 = R.getD k 0 := addR_get hk16
                      have hx := w32_get HRw.out k
                      have hy := w32_get Hw.out k
                      have hall : ∀ W, Keep [] wr W → W.cell? ⟨g7, k, none⟩ = some (.int .u32 (R.getD k 0 : Nat)) ∧ W.cell? ⟨b0, k, none⟩ = some (.int .u32 (st.getD k 0 : Nat)) ∧ g7 < W.heap.size ∧ b0 < W.heap.size ∧ W.frozen? ⟨g7, k, none⟩ = false ∧ (∀ E : Int, E = (a32 (R.getD k 0) (st.getD k 0) : Nat) → StpS w b0 b2 g5 g6 g7 st S (addR R st (k + 1)) (W.setCell ⟨g7, k, none⟩ (.int .u32 E))) := fun W kk => by
                        have hS := hI.out.keep kk
                        have c0 := cell_inW hS.k7 (i := k) (by omega)
                        rw [hgk] at c0
                        refine ⟨c0, cell_inW hS.r0 (by rw [HZl.out]; exact hk16), hS.k7.lt, hS.r0.lt, hS.k7.free k, ?_⟩
                        rintro E rfl
                        have hset := hS.set (k := k) (v := a32 (R.getD k 0) (st.getD k 0)) HH.out.1 HH.out.2.1 HH.out.2.2
                        rw [hadd] at hset
                        exact hset
                      have Hall := Lib.hid hall
                      generalize R.getD k 0 = x at *
                      generalize st.getD k 0 = y at *
                      have Hxy := Lib.hid (And.intro hx hy)
                      clear hI hlen hadd hgk HRw Hw HF2 hall HH HZl hx hy
                      go_upto_region 26 with (fail)
                      refine wp_region_still_tail 8 (by kernel_rfl) (by kernel_rfl) ?_
                      simp only [List.take_succ_cons, List.take_zero, List.drop_succ_cons, List.drop_zero]
                      change wpStill _ _ wr.drew _ _ _
                      have hKW : Keep [] wr wr.drew := (Keep.refl [] wr).drew
                      obtain ⟨W, hW⟩ : ∃ W, wr.drew = W := ⟨_, rfl⟩
                      rw [hW] at hKW ⊢
                      have HW := Lib.hid hW
                      clear hW
                      obtain ⟨m0, m1, ml0, ml1, mfr, hset⟩ := Hall.out W hKW
                      have Hset := Lib.hid hset
                      clear hset
                      repeat still_step
                      refine wpStill_nil ?_
                      change wpList _ _ _ _ _ wr.drew
                      rw [HW.out]
                      go_wp2
                      refine ⟨⟨k + 1, by simp, by omega, Lib.hid (Hset.out _ ?_)⟩, by simp [intOf]; omega⟩
                      have h1 := Hxy.out
                      unfold a32
                      first | omega | (rw [IntKind.wrap_u32]; omega)
                  · as_aux_lemma =>
                      obtain rfl : k = 8 := by omega
                      have hki : ¬ ((8 : Nat) : Int) < 8 := by omega
                      have hS := hI.out
                      have hlen := addR_len R st 8
                      have hrow := hS.k7
                      have hres := hS.r2
                      have hszS : (inW (addR R st 8)).toArray.size = 8 := by simp [inW, hlen]
                      have hszZ : Z8.size = 8 := rfl
                      have hone := all_oneCell_toArray (inW_one (addR R st 8))
                      have HR : Hid (enc32 (addR R st 8) = .agg (inW (addR R st 8)).toArray) := Lib.hid rfl
                      have hb2 : Blk (wr.setRow b2 (inW (addR R st 8)).toArray) b2 115 (inW (addR R st 8)).toArray := blk_same hres
                      have HFF := Lib.hid (And.intro hb2 (keep_setRow (c := (inW (addR R st 8)).toArray) hS.kp Hbe.out.2.1 hres))
                      generalize (inW (addR R st 8)).toArray = D at *
                      generalize Z8 = Z at *
                      clear hI hS hlen HRw Hw hb2
                      go_upto_region 27 with (fail)
                      refine wp_region_lit ?_
                      refine wpList_load_row rfl 115 (.tmp 13) rfl g7 rfl 115 D (0, 0) _ hrow Tryz.underlying115 rfl (by rw [hszS]; exact size115) ?_
                      refine wpList_store_row rfl 115 (.tmp 4) (.tmp 203) rfl b2 D rfl rfl 115 Z hres (by rw [hszS]; exact size115) (by rw [hszS, hszZ]) hone ?_
                      go_wp2
                      refine bodyPost_ret (v := .agg D) (results_cell_row (ty := 115) rfl _ _ b2 115 _ (0, 0) _ rfl HFF.out.1 Tryz.underlying115 rfl (by rw [hszS]; exact size115)) rfl ⟨by rw [HF2.out, HR.out], HFF.out.2⟩
end Go.Proofs.YtdnaahbhfjclpaaGreatDoor

