/- An argument that is an array of four bytes, opened. -/
import Derived.Test.YtdnaahbhfjclpaaGreatDoorYa
import Derived.StillTailTactics
import Derived.Laws.BitsAllLaws
import Derived.Laws.IdiomArrays
import Derived.OpenShut
set_option linter.unusedVariables false
set_option linter.unusedSimpArgs false
namespace Go.Pck
def turnK (b M : List Nat) (a k : Nat) : List Nat := (List.range b.length).map fun j => if a ≤ j ∧ j < a + k then b.getD j 0 ^^^ M.getD (j - a) 0 else b.getD j 0
theorem turn_len (b M : List Nat) (a k : Nat) : (turnK b M a k).length = b.length := by simp [turnK]
theorem turn_zero (b M : List Nat) (a : Nat) : turnK b M a 0 = b := by
  apply List.ext_getElem (turn_len _ _ _ _)
  intro i h1 h2
  simp only [turnK, List.getElem_map, List.getElem_range]
  rw [if_neg (by omega)]
  simp [List.getD, h2]
theorem turn_at {b M : List Nat} {a k : Nat} (h : a + k < b.length) : (turnK b M a k).getD (a + k) 0 = b.getD (a + k) 0 := by
  have : a + k < (turnK b M a k).length := by rw [turn_len]; exact h
  rw [List.getD_eq_getElem?_getD, List.getElem?_eq_getElem this]
  simp only [turnK, List.getElem_map, List.getElem_range, Option.getD_some]
  rw [if_neg (by omega)]
theorem turn_set {b M : List Nat} {a k : Nat} (h : a + k < b.length) : (turnK b M a k).set (a + k) (b.getD (a + k) 0 ^^^ M.getD k 0) = turnK b M a (k + 1) := by
  apply List.ext_getElem (by rw [List.length_set, turn_len, turn_len])
  intro i h1 h2
  by_cases hi : a + k = i
  · subst hi
    rw [List.getElem_set_self]
    simp only [turnK, List.getElem_map, List.getElem_range]
    rw [if_pos (by omega), show a + k - a = k by omega]
  · rw [List.getElem_set_ne hi]
    simp only [turnK, List.getElem_map, List.getElem_range]
    by_cases h3 : a ≤ i ∧ i < a + k
    · rw [if_pos h3, if_pos (by omega)]
    · rw [if_neg h3, if_neg (by omega)]
theorem turn_lt {b M : List Nat} {a k : Nat} (hb : ∀ x ∈ b, x < 256) (hM : ∀ x ∈ M, x < 256) : ∀ x ∈ turnK b M a k, x < 256 := by
  intro x hx
  have g : ∀ (l : List Nat) i, (∀ x ∈ l, x < 256) → l.getD i 0 < 256 := fun l i h => by
    rw [List.getD_eq_getElem?_getD]
    cases hi : l[i]? with
    | none => simp
    | some y => exact h y (List.mem_of_getElem? hi)
  unfold turnK at hx
  obtain ⟨j, _, rfl⟩ := List.mem_map.1 hx
  split
  · exact xor8_lt (g b j hb) (g M (j - a) hM)
  · exact g b j hb
theorem turn_win {b M : List Nat} {a k : Nat} (hk : k ≤ 4) : Win a (turnK b M a k) b := by
  refine ⟨turn_len _ _ _ _, ?_, ?_⟩
  · apply List.ext_getElem (by rw [List.length_take, List.length_take, turn_len])
    intro i h1 h2
    rw [List.length_take] at h2
    rw [List.getElem_take, List.getElem_take]
    simp only [turnK, List.getElem_map, List.getElem_range]
    rw [if_neg (by omega)]
    simp [List.getD, show i < b.length by omega]
  · apply List.ext_getElem (by rw [List.length_drop, List.length_drop, turn_len])
    intro i h1 h2
    rw [List.length_drop] at h2
    rw [List.getElem_drop, List.getElem_drop]
    simp only [turnK, List.getElem_map, List.getElem_range]
    rw [if_neg (by omega)]
    simp [List.getD, show a + 4 + i < b.length by omega]
def idle (N : Int) (len : Nat) : Prop := N < 0 ∨ (len : Int) ≤ N ∨ (2 < N ∧ N < 8) ∨ (40 < N ∧ N < 44)
end Go.Pck
namespace Go.Proofs.YtdnaahbhfjclpaaGreatDoor
open Go.RowKit Go.Sal Go.Huf Go.Cod Go.Pck
structure SpS (w : World) (g g4 c4 : Nat) (M b : List Nat) (a k : Nat) (wr : World) : Prop where
  own : OwB w (some ⟨g4, 0, none⟩) c4 (turnK b M a k) wr
  ne : g ≠ g4
  msk : Blk wr g 31 (inB M).toArray
theorem BytArg.keep {w w' : World} {v : Value} {l : List Nat} (h : BytArg w v l) (k : Keep [] w w') : BytArg w' v l := by
  obtain ⟨A, c, h1, h2, h3, h4, h5⟩ := h
  exact ⟨A, c, h1, h2, h3, h4.keep k (fun a _ => by simp), fun a ha => Nat.lt_of_lt_of_le (h5 a ha) k.size⟩
def MskArg (v : Value) (M : List Nat) : Prop := v = .agg (inB M).toArray ∧ M.length = 4 ∧ ∀ x ∈ M, x < 256
theorem SpS.step {w wr : World} {g g4 c4 a k : Nat} {M b : List Nat} (h : SpS w g g4 c4 M b a k wr) (hk : a + k < b.length) : SpS w g g4 c4 M b a (k + 1) (wr.setCell ⟨g4, a + k, none⟩ (.int .u8 ((b.getD (a + k) 0 ^^^ M.getD k 0 : Nat) : Int))) := by
  have hl := turn_len b M a k
  have hs := inB_set h.own.1 (i := a + k) (by omega) (b.getD (a + k) 0 ^^^ M.getD k 0)
  rw [turn_set hk] at hs
  have hg := (h.own.1.lt _ rfl).1
  refine ⟨⟨?_, Keep.setCell (p := ⟨g4, a + k, none⟩) h.own.2 (.inr hg) _⟩, h.ne, h.msk.far h.ne _⟩
  rw [turn_len, ← hl]
  exact hs
theorem getD_lt {l : List Nat} (h : ∀ x ∈ l, x < 256) (i : Nat) : l.getD i 0 < 256 := by
  rw [List.getD_eq_getElem?_getD]
  cases hi : l[i]? with
  | none => simp
  | some y => exact h y (List.mem_of_getElem? hi)
theorem strN_beq {a b : List Nat} (ha : ∀ x ∈ a, x < 256) (hb : ∀ x ∈ b, x < 256) : ((strN a).toList == (strN b).toList) = decide (a = b) := by
  have e : ∀ l : List Nat, (strN l).toList = l.map UInt8.ofNat := fun l => by rw [ByteArray.toList_eq]; simp [strN]
  have back : ∀ l : List Nat, (∀ x ∈ l, x < 256) → (l.map UInt8.ofNat).map UInt8.toNat = l := fun l hl => by
    rw [List.map_map]
    conv => rhs; rw [← List.map_id l]
    apply List.map_congr_left
    intro x hx
    have := hl x hx
    simp
    omega
  rw [e, e, Bool.eq_iff_iff]
  simp only [beq_iff_eq, decide_eq_true_eq]
  refine ⟨fun h => ?_, fun h => by rw [h]⟩
  rw [← back a ha, ← back b hb, h]
theorem cell_mask {M : List Nat} (h : M.length = 4) {k : Nat} (hk : k < 4) : (inB M).toArray[k]? = some (.int .u8 (M.getD k 0 : Nat)) := by
  simp [inB, List.getD, show k < M.length by omega]
theorem SpS.keep {w wr W : World} {g g4 c4 a k : Nat} {M b : List Nat} (h : SpS w g g4 c4 M b a k wr) (kk : Keep [] wr W) : SpS w g g4 c4 M b a k W := ⟨h.own.keep kk, h.ne, h.msk.keep kk (by simp)⟩
set_option maxRecDepth 20000 in
set_option maxHeartbeats 2000000 in
theorem law4_any (N : Int) (v0 v2 : Value) (l0 M : List Nat) (w : World) (h0 : BytArg w v0 l0) (h2 : MskArg v2 M) : Calls Tryz.prog 4 #[v0, .int .i64 N, v2] w fun e w' => e = .returned (.bool true) ∧ Keep [] w w' := by
  obtain ⟨rfl, hM4, hM⟩ := h2
  obtain ⟨g, hg⟩ : ∃ g, g = w.heap.size := ⟨_, rfl⟩
  obtain ⟨w1, hw1⟩ : ∃ w1, w.alloc (.cells (inB M).toArray 31) = w1 := ⟨_, rfl⟩
  have k1 : Keep [] w w1 := by rw [← hw1]; exact (Keep.refl _ w).alloc _
  have hb1 : Blk w1 g 31 (inB M).toArray := by rw [← hw1, hg]; exact Blk.new w 31 _
  have H0 : Hid (Calls Tryz.prog 9 #[v0, .int .i64 900] w1 fun e w' => ∃ A c, e = .returned (.slice A (l0.take 900).length c) ∧ (l0.take 900).length ≤ c ∧ BySrc w1 A (l0.take 900) ∧ (∀ a, A = some a → a.block < w1.heap.size) ∧ w1 = w') := Lib.hid (cut_arg (h0.keep k1) 900)
  have hl0 : (l0.take 900).length ≤ 900 := by rw [List.length_take]; omega
  generalize l0.take 900 = c at *
  have HAl := Lib.hid alive_any
  have HM := Lib.hid (And.intro hM4 (And.intro hM (And.intro hb1 k1)))
  have Hw1 := Lib.hid hw1
  have Hg := Lib.hid hg
  clear h0 hM4 hM hb1 k1 hw1 hg
  generalize hMC : (inB M).toArray = MC at *
  have HMC := Lib.hid hMC
  clear hMC
  go_enter Tryz.func4, Tryz.ntmps4
  go_upto_region 1 with (fail)
  rw [Hw1.out, ← Hg.out]
  go_upto_region 2 with (go_at_call 9; refine H0.out.mono ?_; rintro e w' ⟨A0, c0, rfl, hc0, hs0, ha0, rfl⟩; have HC0 := Lib.hid (And.intro hc0 (And.intro hs0 ha0)); clear hc0 hs0 ha0)
  clear H0
  rcases Nat.eq_zero_or_pos c.length with hz | hz
  · have HB := Lib.hid (pbytes_no A0 c.length c0 w1 (.inl hz) (by omega))
    clear hz HC0
    generalize c.length = n at *
    go_wp2_with (first
      | (go_at_call 13; refine HB.out.mono ?_; rintro e w' ⟨rfl, rfl⟩)
      | (go_at_call 12; refine (HAl.out _).mono ?_; rintro e w' ⟨rfl, hk⟩; have HK := Lib.hid (HM.out.2.2.2.trans hk); clear hk))
    go_ret
    exact ⟨rfl, HK.out⟩
  · have HB := Lib.hid (pbytes_any c A0 c0 w1 HC0.out.2.1 HC0.out.1 HC0.out.2.2 hz (by omega))
    have hblt := blk_lt (c := c) HC0.out.2.1.2 (by omega)
    have hel := enc_len (b := c) (by omega)
    have hbl := blk_len (c := c)
    have hbl2 : (blkB c).length ≤ 1024 ∧ 44 < (blkB c).length := by have := enc_pos c; rw [hbl]; unfold blksP; omega
    have hbk := rd_back (c := c) [] HC0.out.2.1.2 hz (by omega)
    rw [List.append_nil] at hbk
    have hsp := fun (x : List Nat) a => spoilt (c := c) (x := x) (a := a) HC0.out.2.1.2 hz (by omega)
    have HP := Lib.hid (And.intro hblt (And.intro hbk hsp))
    clear hblt hbk hsp hel hbl
    go_upto_region 3 with (go_at_call 13; refine HB.out.mono ?_; rintro e w2 ⟨A2, c2, rfl, ho2, hk2⟩; have H2 := Lib.hid (show OwB w1 A2 c2 (blkB c) w2 from ⟨ho2, hk2⟩); clear ho2 hk2)
    obtain ⟨L, hL⟩ : ∃ L, L = (blkB c).length := ⟨_, rfl⟩
    rw [← hL]
    have HL := Lib.hid hL
    rw [← hL] at hbl2
    have HLL : Hid (44 ≤ L ∧ L ≤ 1024) := Lib.hid ⟨Nat.le_of_lt hbl2.2, hbl2.1⟩
    have HLc := Lib.hid HC0.out.2.1.2
    clear hL
    by_cases hid : idle N L
    · have HK2 := Lib.hid (HM.out.2.2.2.trans H2.out.2)
      have hcase : (N < 0) ∨ (¬ N < 0 ∧ (L : Int) ≤ N) ∨ (¬ N < 0 ∧ ¬ (L : Int) ≤ N ∧ 2 < N ∧ N < 8) ∨ (¬ N < 0 ∧ ¬ (L : Int) ≤ N ∧ 2 < N ∧ ¬ N < 8 ∧ 40 < N ∧ N < 44) := by
        unfold idle at hid
        omega
      clear hid HB hbl2
      rcases hcase with m1 | ⟨m1, m2⟩ | ⟨m1, m2, m3, m4⟩ | ⟨m1, m2, m3, m4, m5, m6⟩
      all_goals
        go_wp2_with (go_at_call 12; refine (HAl.out _).mono ?_; rintro e w' ⟨rfl, hk⟩; have HK := Lib.hid (HK2.out.trans hk); clear hk)
        go_ret
        exact ⟨rfl, HK.out⟩
    · obtain ⟨a, rfl⟩ : ∃ a : Nat, N = a := ⟨N.toNat, by unfold idle at hid; omega⟩
      have ha : a < L ∧ (a ≤ 2 ∨ (8 ≤ a ∧ a ≤ 40) ∨ 44 ≤ a) := by unfold idle at hid; omega
      have n1 : ¬ (a : Int) < 0 := by omega
      have n2 : ¬ (L : Int) ≤ (a : Int) := by omega
      have Ha := Lib.hid ha
      have hcase : (¬ (2 : Int) < (a : Int) ∧ ¬ (40 : Int) < (a : Int)) ∨ ((2 : Int) < (a : Int) ∧ ¬ (a : Int) < 8 ∧ ¬ (40 : Int) < (a : Int)) ∨ ((2 : Int) < (a : Int) ∧ ¬ (a : Int) < 8 ∧ (40 : Int) < (a : Int) ∧ ¬ (a : Int) < 44) := by omega
      have haL : a < L := ha.1
      clear hid HB ha
      have hmk := mke w2
      have He := Lib.hid (owB_empty w2 w2 (Keep.refl [] w2))
      have k3 : Keep [] w2 (w2.alloc (.cells #[] 5)) := (Keep.refl [] w2).alloc _
      obtain ⟨A4, c4, w4, k4, hk4, hrun4, ho4, -, -⟩ := He.out.app (d := c2) (n := 0) ((H2.out.keep k3).src HP.out.1) rfl (by simp) (by have := HL.out; omega)
      rw [List.nil_append, ← HL.out] at hk4
      have hk4' := hk4.symm
      subst hk4'
      rw [List.nil_append] at ho4
      obtain ⟨g4, rfl, hg4, hg42⟩ := own_some ho4.1 (by have := HL.out; omega)
      rw [← HL.out] at hrun4
      have H4 : Hid (SpS w2 g g4 c4 M (blkB c) a 0 w4) := Lib.hid (by
        have hb2 := (HM.out.2.2.1.keep (H2.out.2.trans ho4.2) (by simp))
        refine ⟨by rw [turn_zero]; exact ho4, ?_, by rw [HMC.out]; exact hb2⟩
        have := (HM.out.2.2.1.keep H2.out.2 (by simp)).lt
        omega)
      clear ho4 hg4 hg42 He k3
      rcases hcase with ⟨m1, m2⟩ | ⟨m1, m2, m3⟩ | ⟨m1, m2, m3, m4⟩
      all_goals
        go_wp2_with (at_builtin; refine wpList_append2 (v1 := .slice (some ⟨w2.heap.size, 0, none⟩) 0 0) (v2 := .slice A2 L c2) rfl (.tmp 50) (.tmp 51) rfl rfl rfl hrun4 ?_)
        go_loopw [10] (fun v10 wr => ∃ k : Nat, v10 = .int .i64 k ∧ k ≤ 4 ∧ a + k ≤ L ∧ Hid (SpS w2 g g4 c4 M (blkB c) a k wr)) (fun v10 _ => 4 - (intOf v10).toNat)
        case atStart => exact ⟨0, rfl, by omega, by omega, H4⟩
        case round =>
          obtain ⟨k, rfl, hk, hak, hI⟩ := hrel
          clear H4 hrun4 hmk
          by_cases hgo : k < 4 ∧ a + k < L
          · as_aux_lemma =>
              obtain ⟨hk4, hkL⟩ := hgo
              have hL2 := HL.out
              have hM4 := HM.out.1
              have hki : (k : Int) < 4 := by omega
              have hwL : IntKind.i64.wrap ((L : Int) - (a : Int)) = (L : Int) - (a : Int) := by rw [IntKind.wrap_i64]; omega
              have hki2 : (k : Int) < (L : Int) - (a : Int) := by omega
              have hwk : IntKind.i64.wrap ((k : Int) + 1) = (k : Int) + 1 := by rw [IntKind.wrap_i64]; omega
              obtain ⟨q, hq⟩ : ∃ q, q = a + k := ⟨_, rfl⟩
              have hwq : IntKind.i64.wrap ((a : Int) + (k : Int)) = (q : Int) := by rw [IntKind.wrap_i64]; omega
              have hqL : q < L := by omega
              have hx := getD_lt HP.out.1 q
              have hy := getD_lt HM.out.2.1 k
              have hall : ∀ W, Keep [] wr W → W.cell? ⟨g4, q, none⟩ = some (.int .u8 ((blkB c).getD q 0 : Nat)) ∧ W.cell? ⟨g, k, none⟩ = some (.int .u8 (M.getD k 0 : Nat)) ∧ g4 < W.heap.size ∧ g < W.heap.size ∧ W.frozen? ⟨g4, q, none⟩ = false ∧ SpS w2 g g4 c4 M (blkB c) a (k + 1) (W.setCell ⟨g4, q, none⟩ (.int .u8 (((blkB c).getD q 0 ^^^ M.getD k 0 : Nat) : Int))) := fun W hk => by
                have hS := hI.out.keep hk
                subst hq
                have hl := turn_len (blkB c) M a k
                have m := inB_cell hS.own.1 (i := a + k) (by omega)
                have m2 := (hS.msk.cell k).trans (cell_mask HM.out.1 hk4)
                refine ⟨?_, m2, (hS.own.1.lt _ rfl).2, hS.msk.lt, m.2, hS.step (by omega)⟩
                rw [m.1, ← turn_at (M := M) (by omega), List.getD_eq_getElem?_getD, List.getElem?_eq_getElem (by omega)]
                rfl
              generalize (blkB c).getD q 0 = x at *
              generalize M.getD k 0 = y at *
              have Hall := Lib.hid hall
              have HX := Lib.hid (And.intro hx hy)
              clear hI hall hx hy HM HP H2 HC0 HMC Ha hL2 hM4 hq hkL hak
              go_upto_region 9 with (fail)
              refine wp_region_still_tail 14 (by kernel_rfl) (by kernel_rfl) ?_
              simp only [List.take_succ_cons, List.take_zero, List.drop_succ_cons, List.drop_zero]
              change wpStill _ _ wr.drew _ _ _
              have hKW : Keep [] wr wr.drew := (Keep.refl [] wr).drew
              obtain ⟨W, hW⟩ : ∃ W, wr.drew = W := ⟨_, rfl⟩
              rw [hW] at hKW ⊢
              have HW := Lib.hid hW
              clear hW
              obtain ⟨m1, m2, mlt, mlt2, mfr, hset⟩ := Hall.out W hKW
              repeat still_step
              refine wpStill_nil ?_
              change wpList _ _ _ _ _ wr.drew
              rw [HW.out]
              go_wp2
              have e := u8_xor_nat x y HX.out.1 HX.out.2
              rw [e]
              exact ⟨⟨k + 1, by simp, by omega, by omega, Lib.hid hset⟩, by simp [intOf]; omega⟩
          · have hL2 := HL.out
            have hfor : 44 ≤ L ∧ L ≤ 1024 := HLL.out
            have hstop : (¬ (k : Int) < 4 ∧ k = 4) ∨ ((k : Int) < 4 ∧ a + k = L) := by omega
            obtain ⟨x, hx⟩ : ∃ x, x = turnK (blkB c) M a k := ⟨_, rfl⟩
            have hxl : x.length = L := by rw [hx, turn_len, hL2]
            have hxb : ∀ y ∈ x, y < 256 := by rw [hx]; exact turn_lt HP.out.1 HM.out.2.1
            have hxw : Win a x (blkB c) := by rw [hx]; exact turn_win hk
            have hox : OwB w2 (some ⟨g4, 0, none⟩) c4 x wr := by rw [hx]; exact hI.out.own
            have h2r := H2.out.keep hox.2
            have hKr := Lib.hid (HM.out.2.2.2.trans (H2.out.2.trans hox.2))
            have hpr : Calls Tryz.prog 10 #[.slice (some ⟨g4, 0, none⟩) L c4] wr fun e w' => RowB3 wr (rdP x).1 (rdP x).2.1 (rdP x).2.2 e w' := by
              have h := pread_any x (some ⟨g4, 0, none⟩) c4 wr (hox.src hxb) (own_cap' hox.1) (own_blk_lt hox.1) (by omega)
              rw [hxl] at h
              exact h
            have hcx : ∀ W, Keep [] wr W → (convert 22 9 (.slice (some ⟨g4, 0, none⟩) L c4)).run Tryz.prog W = .ok (.string (strN x)) W := fun W kk => by
              have h := str_src ((hox.keep kk).src hxb) c4
              rw [hxl] at h
              exact h
            have hcb : ∀ W, Keep [] wr W → (convert 22 9 (.slice A2 L c2)).run Tryz.prog W = .ok (.string (strN (blkB c))) W := fun W kk => by
              have h := str_src ((h2r.keep kk).src HP.out.1) c2
              rw [← hL2] at h
              exact h
            have hsrc0 : ∀ W, Keep [] wr W → (convert 22 9 (.slice A0 c.length c0)).run Tryz.prog W = .ok (.string (strN c)) W := fun W kk => str_src (HC0.out.2.1.keep ((H2.out.2.trans hox.2).trans kk) (fun _ _ => by simp)) c0
            have Hcx := Lib.hid hcx
            have Hcb := Lib.hid hcb
            have Hc0 := Lib.hid hsrc0
            by_cases hsame : x = blkB c
            · have HR : Hid (Calls Tryz.prog 10 #[.slice (some ⟨g4, 0, none⟩) L c4] wr fun e w' => ∃ A c' nb, e = .returned (.tuple #[.slice A c.length c', .int .i64 (nb : Nat), .int .i64 0]) ∧ OwB wr A c' c w') := Lib.hid (by
                rw [hsame, HP.out.2.1] at hpr
                refine hpr.mono ?_
                rintro e w' ⟨A, c', rfl, ho, hk⟩
                exact ⟨A, c', _, rfl, ho, hk⟩)
              have hbb : ((strN c).toList == (strN c).toList) = true := by simp
              rw [hsame] at Hcx
              have hbb2 : ((strN (blkB c)).toList == (strN (blkB c)).toList) = true := by simp
              clear hI hL2 hfor hx hxl hxb hxw hox h2r hpr hcx hcb hsrc0 hsame
              generalize strN (blkB c) = S2 at *
              rcases hstop with ⟨m1, rfl⟩ | ⟨m1, m2⟩
              · as_aux_lemma =>
                  go_wp2_with (first
                    | (go_at_call 10; refine HR.out.mono ?_; rintro e w6 ⟨A6, c6, nb, rfl, ho6⟩; have q1 := Hcx.out _ ho6.2; have q2 := Hcb.out _ ho6.2; have q3 := Hc0.out _ ho6.2; have q4 := str_src (ho6.src HLc.out) c6; have H6 := Lib.hid (hKr.out.trans ho6.2); clear ho6)
                    | (go_at_call 12; refine (HAl.out _).mono ?_; rintro e w' ⟨rfl, hk⟩; have HK := Lib.hid (H6.out.trans hk); clear hk))
                  go_ret
                  exact ⟨rfl, HK.out⟩
              · as_aux_lemma =>
                  have hwL : IntKind.i64.wrap ((L : Int) - (a : Int)) = (k : Int) := by rw [IntKind.wrap_i64]; omega
                  have m3 : ¬ (k : Int) < (k : Int) := by omega
                  clear m2
                  go_wp2_with (first
                    | (go_at_call 10; refine HR.out.mono ?_; rintro e w6 ⟨A6, c6, nb, rfl, ho6⟩; have q1 := Hcx.out _ ho6.2; have q2 := Hcb.out _ ho6.2; have q3 := Hc0.out _ ho6.2; have q4 := str_src (ho6.src HLc.out) c6; have H6 := Lib.hid (hKr.out.trans ho6.2); clear ho6)
                    | (go_at_call 12; refine (HAl.out _).mono ?_; rintro e w' ⟨rfl, hk⟩; have HK := Lib.hid (H6.out.trans hk); clear hk))
                  go_ret
                  exact ⟨rfl, HK.out⟩
            · have HR : Hid (∃ E : Int, E ≠ 0 ∧ Calls Tryz.prog 10 #[.slice (some ⟨g4, 0, none⟩) L c4] wr fun e w' => ∃ A c', e = .returned (.tuple #[.slice A 0 c', .int .i64 0, .int .i64 E]) ∧ Keep [] wr w') := Lib.hid (by
                obtain ⟨E, hE, hr⟩ := HP.out.2.2 x a hxb hxw (by have := Ha.out; omega) hsame
                rw [hr] at hpr
                refine ⟨E, hE, hpr.mono ?_⟩
                rintro e w' ⟨A, c', rfl, ho⟩
                exact ⟨A, c', rfl, ho.2⟩)
              obtain ⟨E, hE0, hR⟩ := HR.out
              have hE1 : (E != 0) = true := by simpa using hE0
              have hE2 : (E == 0) = false := by simpa using hE0
              have HR := Lib.hid hR
              have hbb : ((strN x).toList == (strN (blkB c)).toList) = false := by
                rw [strN_beq hxb HP.out.1]
                simpa using hsame
              clear hI hL2 hfor hx hxl hxb hxw hox h2r hpr hcx hcb hsrc0 hsame hR
              generalize strN (blkB c) = S2 at *
              generalize strN x = S1 at *
              rcases hstop with ⟨m1, rfl⟩ | ⟨m1, m2⟩
              · as_aux_lemma =>
                  go_wp2_with (first
                    | (go_at_call 10; refine HR.out.mono ?_; rintro e w6 ⟨A6, c6, rfl, hk6⟩; have q1 := Hcx.out _ hk6; have q2 := Hcb.out _ hk6; have H6 := Lib.hid (hKr.out.trans hk6); clear hk6)
                    | (go_at_call 12; refine (HAl.out _).mono ?_; rintro e w' ⟨rfl, hk⟩; have HK := Lib.hid (H6.out.trans hk); clear hk))
                  go_ret
                  exact ⟨rfl, HK.out⟩
              · as_aux_lemma =>
                  have hwL : IntKind.i64.wrap ((L : Int) - (a : Int)) = (k : Int) := by rw [IntKind.wrap_i64]; omega
                  have m3 : ¬ (k : Int) < (k : Int) := by omega
                  clear m2
                  go_wp2_with (first
                    | (go_at_call 10; refine HR.out.mono ?_; rintro e w6 ⟨A6, c6, rfl, hk6⟩; have q1 := Hcx.out _ hk6; have q2 := Hcb.out _ hk6; have H6 := Lib.hid (hKr.out.trans hk6); clear hk6)
                    | (go_at_call 12; refine (HAl.out _).mono ?_; rintro e w' ⟨rfl, hk⟩; have HK := Lib.hid (H6.out.trans hk); clear hk))
                  go_ret
                  exact ⟨rfl, HK.out⟩
end Go.Proofs.YtdnaahbhfjclpaaGreatDoor

namespace Go.Proofs.YtdnaahbhfjclpaaGreatDoor
open Go.RowKit Go.Sal Go.ChangeShapes
set_option maxRecDepth 20000 in
theorem mskArg_of {H : Type} {enc : TypeId × Value → H} {w : World} {base b0 : Nat} {r : Reach} {spare : Nat → Bool} {held : Bool} {fuel : Nat} {v : Value} {y : DataW H × List MemPlace}
    (ho : Value.okWide Tryz.prog w r b0 31 v) (h : DataW.trod enc Tryz.prog w base spare held fuel 31 v.cells.toList = some y) : ∃ M, MskArg v M := by
  obtain ⟨cs, rfl, hsz, _⟩ : ∃ cs, v = .agg cs ∧ cs.size = Tryz.prog.cellsOf 31 ∧ Row.okWide Tryz.prog w r b0 31 cs := by
    simpa [Value.okWide, Tryz.underlying31] using ho
  have c31 : Tryz.prog.cellsOf 31 = 4 := by kernel_rfl
  have c5 : Tryz.prog.cellsOf 5 = 1 := by kernel_rfl
  rw [c31] at hsz
  obtain ⟨l⟩ := cs
  obtain ⟨c0, c1, c2, c3, rfl⟩ : ∃ a b c d, l = [a, b, c, d] := by
    match l, hsz with
    | [a, b, c, d], _ => exact ⟨a, b, c, d, rfl⟩
  have h' : DataW.trod enc Tryz.prog w base spare held fuel 31 [c0, c1, c2, c3] = some y := h
  obtain ⟨y0, y1, y2, y3, m, hx, hy0, hy1, hy2, hy3⟩ := trod_array4 Tryz.underlying31 c5 h'
  obtain ⟨x0, e0, _, w0⟩ := DataW.trod_int Tryz.underlying5 hy0
  obtain ⟨x1, e1, _, w1⟩ := DataW.trod_int Tryz.underlying5 hy1
  obtain ⟨x2, e2, _, w2⟩ := DataW.trod_int Tryz.underlying5 hy2
  obtain ⟨x3, e3, _, w3⟩ := DataW.trod_int Tryz.underlying5 hy3
  simp at e0 e1 e2 e3
  subst e0 e1 e2 e3
  have b0 := bounds_u8 w0
  have b1 := bounds_u8 w1
  have b2 := bounds_u8 w2
  have b3 := bounds_u8 w3
  obtain ⟨n0, rfl⟩ : ∃ n : Nat, x0 = n := ⟨x0.toNat, by omega⟩
  obtain ⟨n1, rfl⟩ : ∃ n : Nat, x1 = n := ⟨x1.toNat, by omega⟩
  obtain ⟨n2, rfl⟩ : ∃ n : Nat, x2 = n := ⟨x2.toNat, by omega⟩
  obtain ⟨n3, rfl⟩ : ∃ n : Nat, x3 = n := ⟨x3.toNat, by omega⟩
  refine ⟨[n0, n1, n2, n3], rfl, rfl, fun x hx => ?_⟩
  simp at hx
  rcases hx with rfl | rfl | rfl | rfl <;> omega
end Go.Proofs.YtdnaahbhfjclpaaGreatDoor

