/- PackHeads, walked. -/
import Derived.Test.YtdnaahbhfjclpaaGreatDoorYg
import Derived.Test.YtdnaahbhfjclpaaGreatDoorW3
set_option linter.unusedVariables false
set_option linter.unusedSimpArgs false
namespace Go.Proofs.YtdnaahbhfjclpaaGreatDoor
open Go.RowKit Go.Sal Go.Huf Go.Cod Go.Pck
theorem info43 : (Tryz.prog.info? 43).map (fun i => (i.zero, i.size)) = some (some (.agg Z32), 32) := by kernel_rfl
theorem zero43 (w : World) : (zeroValue 43).run Tryz.prog w = .ok (.agg Z32) w := (zero_of_info info43).1 w
theorem size43 : (Tryz.prog.info? 43).map (·.size) = some 32 := (zero_of_info info43).2
structure DigS (w : World) (b2 b3 : Nat) (Z : Array Value) (S : List Nat) (k : Nat) (wr : World) : Prop where
  res : Blk wr b2 43 Z
  row : Blk wr b3 43 (inB (rowN S k)).toArray
  kp : Keep [] w wr
section
variable {w wr : World} {b2 b3 k : Nat} {Z : Array Value} {S : List Nat}
theorem DigS.old (h : DigS w b2 b3 Z S k wr) (hk : k < S.length) : wr.cell? ⟨b3, k, none⟩ = some (.int .u8 0) := by
  rw [h.row.cell k]
  simp [inB, rowN_zero S hk]
theorem DigS.set (h : DigS w b2 b3 Z S k wr) (hk : k < S.length) (h23 : b2 ≠ b3) (h3 : w.heap.size ≤ b3) : DigS w b2 b3 Z S (k + 1) (wr.setCell ⟨b3, k, none⟩ (.int .u8 (S.getD k 0 : Nat))) := by
  refine ⟨h.res.far h23 _, ?_, h.kp.setCell (.inr h3) _⟩
  have := h.row.set_ k (.int .u8 (S.getD k 0 : Nat))
  rw [← rowN_set S hk]
  simpa [inB, List.map_set] using this
theorem DigS.keep (h : DigS w b2 b3 Z S k wr) {w2 : World} (hk : Keep [] wr w2) : DigS w b2 b3 Z S k w2 := ⟨h.res.keep hk (by simp), h.row.keep hk (by simp), h.kp.trans hk⟩
end
set_option maxRecDepth 20000 in
set_option maxHeartbeats 2000000 in
theorem headR_any (b : List Nat) (A : Option Addr) (c : Nat) (w : World) (hs : BySrc w A b) (hc : b.length ≤ c) (hl : b.length ≤ 1000000) :
    Calls Tryz.prog 19 #[.slice A b.length c] w fun e w' => e = .returned (.tuple #[.agg (inB (hedD b)).toArray, .int .i64 (hedN b : Nat), .int .i64 (hedE b)]) ∧ Keep [] w w' := by
  have z1 := zero43
  have hZ32 : Z32.size = 32 := rfl
  have HZE : Hid ((inB D0).toArray = Z32) := Lib.hid rfl
  have hoZ : Z32.all (·.oneCell') = true := by rw [← HZE.out]; exact all_oneCell_toArray (inB_one _)
  have HSz : Hid (∀ k, k ≤ 1000000 → ∀ W, Calls Tryz.prog 39 #[.int .i64 ((44 + k : Nat) : Int)] W fun e w' => e = .returned (.int .i64 (blksP k : Nat)) ∧ w' = W) := Lib.hid (fun k hk W => blksR_any k W hk)
  obtain ⟨b2, hb2⟩ : ∃ b2, b2 = w.heap.size := ⟨_, rfl⟩
  obtain ⟨w1, hw1⟩ : ∃ w1, w.alloc (.cells Z32 43) = w1 := ⟨_, rfl⟩
  obtain ⟨b3, hb3⟩ : ∃ b3, b3 = w1.heap.size := ⟨_, rfl⟩
  obtain ⟨w2, hw2⟩ : ∃ w2, w1.alloc (.cells Z32 43) = w2 := ⟨_, rfl⟩
  have hB2 : Blk w2 b2 43 Z32 := by rw [← hw2, ← hw1, hb2]; exact (Blk.new w 43 _).alloc _
  have hB3 : Blk w2 b3 43 Z32 := by rw [← hw2, hb3]; exact Blk.new w1 43 _
  have k2 : Keep [] w w2 := by rw [← hw2, ← hw1]; exact ((Keep.refl [] w).alloc _).alloc _
  have h23 : b2 ≠ b3 := by
    have : w1.heap.size = w.heap.size + 1 := by rw [← hw1, size_al]
    omega
  have hle : w.heap.size ≤ b2 ∧ w.heap.size ≤ b3 := by
    have : w1.heap.size = w.heap.size + 1 := by rw [← hw1, size_al]
    omega
  have HSi := Lib.hid (sizesR_any b A c w2 (hs.keep k2 (fun _ _ => by simp)) hc hl)
  have Hs2 := Lib.hid hs
  have H2 := Lib.hid (And.intro hB2 (And.intro hB3 (And.intro k2 (And.intro h23 hle))))
  have Hw1 := Lib.hid hw1
  have Hw2 := Lib.hid hw2
  have Hb2 := Lib.hid hb2
  have Hb3 := Lib.hid hb3
  generalize hZ : Z32 = Z at *
  have HZ := Lib.hid hZ
  clear hb2 hb3 hw1 hw2 hB2 hB3 k2 h23 hle hs hZ
  go_enter Tryz.func19, Tryz.ntmps19
  go_upto_region 1 with (fail)
  rw [Hw1.out, ← Hb2.out]
  go_upto_region 2 with (fail)
  rw [Hw2.out, ← Hb3.out]
  go_upto_region 3 with (go_at_call 31; refine HSi.out.mono ?_; rintro e w' ⟨r, k, rfl, hw, hok⟩; have HO := Lib.hid hok; subst hw; clear hok)
  clear HSi
  cases hokb : hdOk b with
  | false =>
    have HV : Hid (hedD b = D0 ∧ hedN b = 0 ∧ hedE b = 110) := Lib.hid (by unfold hedD hedN hedE; rw [hokb]; exact ⟨rfl, rfl, rfl⟩)
    have HF : Hid (Blk (w'.setRow b2 Z) b2 43 Z ∧ Keep [] w (w'.setRow b2 Z)) := Lib.hid ⟨blk_same H2.out.1, keep_setRow H2.out.2.2.1 H2.out.2.2.2.2.1 H2.out.1⟩
    have HE : Hid (Value.agg (inB D0).toArray = .agg Z) := Lib.hid (by rw [HZE.out])
    clear HSz HO HZE Hs2
    go_upto_region 4 with (fail)
    refine wp_region_lit ?_
    refine wpList_load_row rfl 43 (.tmp 5) rfl b3 rfl 43 Z (0, 0) _ H2.out.2.1 Tryz.underlying43 rfl (by rw [hZ32]; exact size43) ?_
    refine wpList_store_row rfl 43 (.tmp 2) (.tmp 18) rfl b2 Z rfl rfl 43 Z H2.out.1 (by rw [hZ32]; exact size43) rfl hoZ ?_
    go_wp2
    refine bodyPost_ret (v := .tuple #[.agg Z, .int .i64 0, .int .i64 110]) (results_row_tmp2 (ty := 43) rfl _ _ b2 43 _ (0, 0) _ rfl HF.out.1 Tryz.underlying43 rfl (by rw [hZ32]; exact size43) _ _ rfl rfl) rfl ?_
    exact ⟨by rw [HV.out.1, HV.out.2.1, HV.out.2.2, HE.out]; rfl, HF.out.2⟩
  | true =>
    obtain ⟨-, rfl, h44, hk1, hk2⟩ := HO.out hokb
    have HV : Hid (hedD b = hdDig b ∧ hedN b = blksP (hdCode b) ∧ hedE b = 0) := Lib.hid (by unfold hedD hedN hedE; rw [hokb]; exact ⟨rfl, rfl, rfl⟩)
    obtain ⟨q, hq⟩ : ∃ q, q = 44 + hdCode b := ⟨_, rfl⟩
    have hsz := HSz.out (hdCode b) (by omega)
    rw [← hq] at hsz
    have HSq := Lib.hid hsz
    have hwq : IntKind.i64.wrap (44 + (hdCode b : Int)) = (q : Int) := by rw [IntKind.wrap_i64]; omega
    have hdl : (hdDig b).length = 32 := by unfold hdDig; rw [List.length_take, List.length_drop]; omega
    obtain ⟨g, o, rfl, hg, hcell⟩ := bsrc_at Hs2.out (by omega)
    have Hce : Hid (∀ W, Keep [] w W → ∀ k, k < 32 → W.cell? ⟨g, o + (8 + k), none⟩ = some (.int .u8 ((hdDig b).getD k 0 : Nat)) ∧ g < W.heap.size) := Lib.hid (fun W kk k hk => by
      have hs := Hs2.out.keep kk (fun _ _ => by simp)
      obtain ⟨g', o', e, hg', hc'⟩ := bsrc_at hs (by omega)
      injection e with e
      injection e with e1 e2
      subst e1 e2
      refine ⟨?_, hg'⟩
      rw [hc' (8 + k) (by omega)]
      unfold hdDig
      congr 3
      simp [List.getD, List.getElem?_take, List.getElem?_drop, hk])
    have HI0 : Hid (DigS w b2 b3 Z (hdDig b) 0 w') := Lib.hid ⟨H2.out.1, by rw [rowN_start, hdl]; have e := HZE.out; unfold D0 at e; rw [e]; exact H2.out.2.1, H2.out.2.2.1⟩
    have HL := Lib.hid hdl
    have hbl : ∀ k, k < 32 → 8 + k < b.length := fun k hk => by omega
    have Hbl := Lib.hid hbl
    have H3 := Lib.hid H2.out.2.2.2
    generalize hdDig b = S at *
    generalize hdCode b = k0 at *
    have hbd : (b.length : Int) ≤ 1000000 := by omega
    generalize b.length = n at *
    clear HO hsz hdl hq hokb hk1 hk2 h44 hl hc hg hcell Hs2 H2 HSz hbl
    go_wp2
    go_loopw [9] (fun v9 wr => ∃ k : Nat, v9 = .int .i64 k ∧ k ≤ 32 ∧ Hid (DigS w b2 b3 Z S k wr)) (fun v9 _ => 32 - (intOf v9).toNat)
    case atStart => exact ⟨0, rfl, by omega, HI0⟩
    case round =>
      obtain ⟨k, rfl, hk, hI⟩ := hrel
      clear HI0
      rcases Nat.lt_or_ge k 32 with hk16 | hk16
      · as_aux_lemma =>
          have hki : (k : Int) < 32 := by omega
          have hwk : IntKind.i64.wrap ((k : Int) + 1) = (k : Int) + 1 := by rw [IntKind.wrap_i64]; omega
          obtain ⟨p, hp⟩ : ∃ p, p = 8 + k := ⟨_, rfl⟩
          have hwp : IntKind.i64.wrap (8 + (k : Int)) = (p : Int) := by rw [IntKind.wrap_i64]; omega
          have hpn : (p : Int) < n := by have := Hbl.out k hk16; omega
          have hS := hI.out
          have hkS : k < S.length := by have := HL.out; omega
          obtain ⟨m1, hg⟩ := Hce.out wr hS.kp k hk16
          rw [← hp] at m1
          have m2 := hS.old hkS
          have m3 := hS.row.lt
          have m4 := hS.row.free k
          have HN := Lib.hid (hS.set hkS H3.out.1 H3.out.2.2)
          generalize S.getD k 0 = x at *
          clear hI hS HL Hbl H3 Hce hkS hp HZE HSq hwq HV hbd
          go_wp2
          exact ⟨⟨k + 1, by simp, by omega, HN⟩, by simp [intOf]; omega⟩
      · as_aux_lemma =>
          obtain rfl : k = 32 := by omega
          have hki : ¬ ((32 : Nat) : Int) < 32 := by omega
          have hS := hI.out
          have hrow := hS.row
          have e1 : rowN S 32 = S := by rw [← HL.out]; exact rowN_all S
          rw [e1] at hrow
          have hres := hS.res
          obtain ⟨DL, hDL⟩ : ∃ DL, DL = inB S := ⟨_, rfl⟩
          rw [← hDL] at hrow
          have hD32 : DL.toArray.size = 32 := by rw [List.size_toArray, hDL, inB_len, HL.out]
          have hD43 : (Tryz.prog.info? 43).map (·.size) = some DL.length := by rw [← List.size_toArray, hD32]; exact size43
          have hoD : DL.toArray.all (·.oneCell') = true := by rw [hDL]; exact all_oneCell_toArray (inB_one _)
          have hr0 : ∀ W, Keep [] wr W → W.rangeAt b3 0 DL := fun W kk => rangeAt_blk0 (R := []) (by rw [List.append_nil]; exact hrow.keep kk (by simp))
          have HZ4 : Hid (∀ W, Keep [] wr W → Blk W b2 43 Z) := Lib.hid (fun W kk => hres.keep kk (by simp))
          have HK4 : Hid (Keep [] w wr ∧ w.heap.size ≤ b2) := Lib.hid ⟨hS.kp, H3.out.2.1⟩
          have HDL : Hid (Value.agg (inB S).toArray = .agg DL.toArray) := Lib.hid (by rw [hDL])
          clear hI hS HL Hbl H3 Hce HZE hk16 hk e1 hDL hrow hres hbd
          generalize blksP k0 = nb at *
          go_upto_region 9 with (fail)
          refine wp_region_G (fun W => Keep [] wr W) [4] #[false, false, false, false, false, false, false] 7 (by kernel_rfl) (by kernel_rfl) (by kernel_rfl) ?_
          refine wpAnyG_take (i := 0) (oi := ⟨_, _, _, _, _, _⟩) (v := (.agg DL.toArray)) [0, 4, 5, 6] rfl (by kernel_rfl) (by kernel_rfl) (by kernel_rfl) (by kernel_rfl) (by kernel_rfl) (fun _ _ _ h => h) (fun _ => ((Keep.refl [] wr).drew)) (Or.inl ⟨by rfl, ?hg1_0⟩) ?_
          case hg1_0 => intro w hSw; (try dsimp only at hSw); exact quiet_load_mid 43 (.tmp 5) rfl b3 0 rfl DL _ (hr0 _ hSw) Tryz.underlying43 rfl hD43
          try simp only [Act.put, List.setIfInBounds_toArray, List.set_cons_zero, List.set_cons_succ]
          refine wpAnyG_take0 (i := 1) (oi := ⟨_, _, _, _, _, _⟩) (v := ?vg1_1) rfl (by kernel_rfl) (by kernel_rfl) (by kernel_rfl) (by kernel_rfl) (fun _ _ _ h => h) (fun _ => ((Keep.refl [] wr).drew)) (Or.inl ⟨by rfl, ?hg1_1⟩) ?_
          case hg1_1 => intro w _; go_simp; (try with_reducible rfl)
          try simp only [Act.put, List.setIfInBounds_toArray, List.set_cons_zero, List.set_cons_succ]
          refine wpAnyG_take0 (i := 2) (oi := ⟨_, _, _, _, _, _⟩) (v := ?vg1_2) rfl (by kernel_rfl) (by kernel_rfl) (by kernel_rfl) (by kernel_rfl) (fun _ _ _ h => h) (fun _ => ((Keep.refl [] wr).drew)) (Or.inl ⟨by rfl, ?hg1_2⟩) ?_
          case hg1_2 => intro w _; go_simp; (try with_reducible rfl)
          try simp only [Act.put, List.setIfInBounds_toArray, List.set_cons_zero, List.set_cons_succ]
          refine wpAnyG_step (i := 3) (oi := ⟨_, _, _, _, _, _⟩) rfl (by kernel_rfl) (by rfl) (fun K hK => ?_)
          go_simp
          go_at_call 39
          refine (HSq.out _).mono ?_
          rintro e w5 ⟨rfl, rfl⟩
          refine hK _ _ ?_ (fun hSg1_3 => ?_)
          · intro _; exact (Keep.refl [] wr).drew
          replace hSg1_3 := hSg1_3 (by kernel_rfl)
          clear hK
          try simp only [Act.put, List.setIfInBounds_toArray, List.set_cons_zero, List.set_cons_succ]
          refine wpAnyG_step (i := 4) (oi := ⟨_, _, _, _, _, _⟩) rfl (by kernel_rfl) (by rfl) (fun K hK => ?_)
          refine wp_store_row 43 (.tmp 2) (.tmp 30) rfl b2 DL.toArray rfl rfl 43 Z (HZ4.out _ hSg1_3) (by rw [hD32]; exact size43) (by rw [hZ32, hD32]) hoD ?_
          refine hK _ _ (fun h => absurd h (Bool.eq_false_iff.1 (by kernel_rfl))) (fun _ => ?_)
          clear hK
          try simp only [Act.put, List.setIfInBounds_toArray, List.set_cons_zero, List.set_cons_succ]
          refine wpAnyG_take0 (i := 5) (oi := ⟨_, _, _, _, _, _⟩) (v := ?vg1_5) rfl (by kernel_rfl) (by kernel_rfl) (by kernel_rfl) (by kernel_rfl) (fun _ _ _ h => h) (fun h => absurd h (Bool.eq_false_iff.1 (by kernel_rfl))) (Or.inl ⟨by rfl, ?hg1_5⟩) ?_
          case hg1_5 => intro w _; go_simp; (try with_reducible rfl)
          try simp only [Act.put, List.setIfInBounds_toArray, List.set_cons_zero, List.set_cons_succ]
          refine wpAnyG_take0 (i := 6) (oi := ⟨_, _, _, _, _, _⟩) (v := ?vg1_6) rfl (by kernel_rfl) (by kernel_rfl) (by kernel_rfl) (by kernel_rfl) (fun _ _ _ h => h) (fun h => absurd h (Bool.eq_false_iff.1 (by kernel_rfl))) (Or.inl ⟨by rfl, ?hg1_6⟩) ?_
          case hg1_6 => intro w _; go_simp; (try with_reducible rfl)
          try simp only [Act.put, List.setIfInBounds_toArray, List.set_cons_zero, List.set_cons_succ]
          refine wpAnyG_done (by kernel_rfl) ?_ _
          have HFF := Lib.hid (And.intro (blk_same (c := DL.toArray) (HZ4.out _ hSg1_3)) (keep_setRow (c := DL.toArray) (HK4.out.1.trans hSg1_3) HK4.out.2 (HZ4.out _ hSg1_3)))
          go_wp2
          refine bodyPost_ret (v := .tuple #[.agg DL.toArray, .int .i64 nb, .int .i64 0]) (results_row_tmp2 (ty := 43) rfl _ _ b2 43 _ (0, 0) _ rfl HFF.out.1 Tryz.underlying43 rfl (by rw [hD32]; exact size43) _ _ rfl rfl) rfl ?_
          exact ⟨by rw [HV.out.1, HV.out.2.1, HV.out.2.2, HDL.out], HFF.out.2⟩
end Go.Proofs.YtdnaahbhfjclpaaGreatDoor

namespace Go.Proofs.YtdnaahbhfjclpaaGreatDoor
open Go.RowKit Go.Sal Go.Huf Go.Cod Go.Pck
theorem hedD_len (b : List Nat) : (hedD b).length = 32 := by
  unfold hedD
  split
  · rename_i h
    unfold hdOk hdIs at h
    simp at h
    unfold hdDig
    rw [List.length_take, List.length_drop]
    omega
  · simp [D0]
theorem hedD_lt {b : List Nat} (hb : ∀ x ∈ b, x < 256) : ∀ x ∈ hedD b, x < 256 := by
  intro x hx
  unfold hedD at hx
  split at hx
  · exact hb x (List.mem_of_mem_drop (List.mem_of_mem_take hx))
  · simp [D0] at hx
    omega
set_option maxRecDepth 20000 in
set_option maxHeartbeats 2000000 in
theorem law6_any (v0 : Value) (l0 : List Nat) (w : World) (h0 : BytArg w v0 l0) : Calls Tryz.prog 6 #[v0] w fun e w' => e = .returned (.bool true) ∧ Keep [] w w' := by
  have H0 : Hid (Calls Tryz.prog 9 #[v0, .int .i64 2100] w fun e w' => ∃ A c, e = .returned (.slice A (l0.take 2100).length c) ∧ (l0.take 2100).length ≤ c ∧ BySrc w A (l0.take 2100) ∧ (∀ a, A = some a → a.block < w.heap.size) ∧ w = w') := Lib.hid (cut_arg h0 2100)
  have hl0 : (l0.take 2100).length ≤ 2100 := by rw [List.length_take]; omega
  generalize l0.take 2100 = c at *
  have HAl := Lib.hid alive_any
  have z1 := zero43
  have z2 := zero44
  have hZ32 : Z32.size = 32 := rfl
  clear h0
  go_enter Tryz.func6, Tryz.ntmps6
  go_upto_region 2 with (go_at_call 9; refine H0.out.mono ?_; rintro e w' ⟨A0, c0, rfl, hc0, hs0, ha0, rfl⟩; have HC0 := Lib.hid (And.intro hc0 (And.intro hs0 ha0)); clear hc0 hs0 ha0)
  clear H0
  have HP := Lib.hid (phead_any c A0 c0 w HC0.out.2.1 HC0.out.1 HC0.out.2.2 (by omega))
  have HR := Lib.hid (fun w' (kk : Keep [] w w') => headR_any c A0 c0 w' (HC0.out.2.1.keep kk (fun _ _ => by simp)) HC0.out.1 (by omega))
  have hl := hedD_len c
  have hlt := hedD_lt HC0.out.2.1.2
  have heq := fun W => eq_dig (x := hedD c) (y := hedD c) hl hl hlt hlt W
  have hbb : (hedD c == hedD c) = true := by simp
  rw [hbb] at heq
  obtain ⟨DL, hDL⟩ : ∃ DL, DL = inB (hedD c) := ⟨_, rfl⟩
  rw [← hDL] at heq HP
  have hD32 : DL.toArray.size = 32 := by rw [List.size_toArray, hDL, inB_len, hl]
  have hoD : DL.toArray.all (·.oneCell') = true := by rw [hDL]; exact all_oneCell_toArray (inB_one _)
  have HDL := Lib.hid hDL
  have H18 : Hid (Calls Tryz.prog 18 #[.slice A0 c.length c0] w fun e w' => e = .returned (.tuple #[.agg DL.toArray, .int .i64 (hedN c : Nat), .int .i64 (hedE c)]) ∧ Keep [] w w') := HP
  have H19 : Hid (∀ w', Keep [] w w' → Calls Tryz.prog 19 #[.slice A0 c.length c0] w' fun e w'' => e = .returned (.tuple #[.agg DL.toArray, .int .i64 (hedN c : Nat), .int .i64 (hedE c)]) ∧ Keep [] w' w'') := Lib.hid (fun w' kk => by rw [hDL]; exact HR.out w' kk)
  have hzs : Z32.all (·.oneCell') = true := by have : Z32 = (inB D0).toArray := rfl; rw [this]; exact all_oneCell_toArray (inB_one _)
  clear hDL HP HR hlt hl hbb
  generalize hedN c = nb at *
  generalize hedE c = E at *
  generalize c.length = n at *
  generalize Z32 = Z at *
  refine wp_region_lit ?_
  refine wpList_plain rfl (fun K hK => ?_)
  go_simp
  refine hK _ _ ?_
  clear hK K
  refine wpList_plain rfl (fun K hK => ?_)
  go_simp
  go_at_call 18
  refine H18.out.mono ?_
  rintro e w7 ⟨rfl, hk7⟩
  have H7 := Lib.hid hk7
  refine hK _ _ ?_
  clear hK K hk7 H18
  iterate 5 (refine wpList_plain rfl (fun K hK => ?_); go_simp; refine hK _ _ ?_; clear hK K)
  refine wpList_store_rowTo rfl 44 (.tmp 3) (.tmp 14) rfl rfl w7.heap.size DL.toArray rfl rfl 44 Z (heap_alloc_last w7 _) (by rw [hD32]; exact size44) (by rw [hD32]; exact hZ32) hoD ?_
  rw [World.setRow_alloc_new]
  obtain ⟨gd, hgd⟩ : ∃ gd, gd = w7.heap.size := ⟨_, rfl⟩
  obtain ⟨w8, hw8⟩ : ∃ w8, w7.alloc (.cells DL.toArray 44) = w8 := ⟨_, rfl⟩
  rw [hw8, ← hgd]
  have k8 : Keep [] w w8 := by rw [← hw8]; exact H7.out.alloc _
  have hb8 : Blk w8 gd 44 DL.toArray := by rw [← hw8, hgd]; exact Blk.new w7 44 _
  have H8 := Lib.hid (And.intro k8 hb8)
  have H19b := Lib.hid (H19.out w8 k8)
  clear hw8 hgd k8 hb8 H19 H7
  go_upto_region 3 with (fail)
  refine wp_region_lit ?_
  refine wpList_plain rfl (fun K hK => ?_)
  go_simp
  refine hK _ _ ?_
  clear hK K
  refine wpList_plain rfl (fun K hK => ?_)
  go_simp
  go_at_call 19
  refine H19b.out.mono ?_
  rintro e w9 ⟨rfl, hk9⟩
  have H9 := Lib.hid hk9
  refine hK _ _ ?_
  clear hK K hk9 H19b
  iterate 5 (refine wpList_plain rfl (fun K hK => ?_); go_simp; refine hK _ _ ?_; clear hK K)
  refine wpList_store_rowTo rfl 43 (.tmp 6) (.tmp 20) rfl rfl w9.heap.size DL.toArray rfl rfl 43 Z (heap_alloc_last w9 _) (by rw [hD32]; exact size43) (by rw [hD32]; exact hZ32) hoD ?_
  rw [World.setRow_alloc_new]
  obtain ⟨ge, hge⟩ : ∃ gd, gd = w9.heap.size := ⟨_, rfl⟩
  obtain ⟨w10, hw10⟩ : ∃ w8, w9.alloc (.cells DL.toArray 43) = w8 := ⟨_, rfl⟩
  rw [hw10, ← hge]
  have k10 : Keep [] w8 w10 := by rw [← hw10]; exact H9.out.alloc _
  have hb10 : Blk w10 ge 43 DL.toArray := by rw [← hw10, hge]; exact Blk.new w9 43 _
  have hb8 : Blk w10 gd 44 DL.toArray := H8.out.2.keep k10 (by simp)
  have HK := Lib.hid (H8.out.1.trans k10)
  have hm := heq w10
  clear hw10 hge k10 H9 H8 heq
  go_upto_region 4 with (fail)
  refine wp_region_lit ?_
  refine wpList_load_row rfl 44 (.tmp 3) rfl gd rfl 44 DL.toArray (0, 0) _ hb8 Tryz.underlying44 rfl (by rw [hD32]; exact size44) ?_
  refine wpList_load_row rfl 43 (.tmp 6) rfl ge rfl 43 DL.toArray (0, 0) _ hb10 Tryz.underlying43 rfl (by rw [hD32]; exact size43) ?_
  go_wp2_with (go_at_call 12; refine (HAl.out _).mono ?_; rintro e w' ⟨rfl, hk⟩; have HF := Lib.hid (HK.out.trans hk); clear hk)
  go_ret
  exact ⟨rfl, HF.out⟩
end Go.Proofs.YtdnaahbhfjclpaaGreatDoor

