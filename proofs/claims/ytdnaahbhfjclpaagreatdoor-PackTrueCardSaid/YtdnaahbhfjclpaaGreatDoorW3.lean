/- Encode, walked. -/
import Derived.Test.YtdnaahbhfjclpaaGreatDoorXk
import Derived.Test.YtdnaahbhfjclpaaGreatDoorXi
import Derived.Test.YtdnaahbhfjclpaaGreatDoorWz
import Derived.Test.YtdnaahbhfjclpaaGreatDoorF6
set_option linter.unusedVariables false
set_option linter.unusedSimpArgs false
namespace Go.Pck
def D0 : List Nat := List.replicate 32 0
def hedD (b : List Nat) : List Nat := if hdOk b = true then hdDig b else D0
def hedN (b : List Nat) : Nat := if hdOk b = true then blksP (hdCode b) else 0
def hedE (b : List Nat) : Int := if hdOk b = true then 0 else 110
theorem numP_bd {l : List Nat} (h : ∀ x ∈ l, x < 256) (n : Nat) (hn : l.length ≤ 2) (o : Nat) : numP o l < 65536 := by
  have h1 := numP_lt o h
  have h2 : 2 ^ (8 * l.length) ≤ 2 ^ 16 := Nat.pow_le_pow_right (by omega) (by omega)
  omega
end Go.Pck
namespace Go.Proofs.YtdnaahbhfjclpaaGreatDoor
open Go.RowKit Go.Sal Go.Pck Go.Huf Go.Cod
theorem built44z : Tryz.prog.built 44 [] = some Z32 := by kernel_rfl
set_option maxRecDepth 20000 in
set_option maxHeartbeats 1000000 in
theorem phead_any (b : List Nat) (AB : Option Addr) (cB : Nat) (w : World) (hs : BySrc w AB b) (hc : b.length ≤ cB) (hA : ∀ a, AB = some a → a.block < w.heap.size) (hl : b.length ≤ 1000000) :
    Calls Tryz.prog 18 #[.slice AB b.length cB] w fun e w' => e = .returned (.tuple #[.agg (inB (hedD b)).toArray, .int .i64 (hedN b : Nat), .int .i64 (hedE b)]) ∧ Keep [] w w' := by
  have z1 := zero44
  have z2 := zero58
  have hb44 := built44z
  have hZ32 : Z32.size = 32 := rfl
  have HZE : Hid ((inB D0).toArray = Z32) := Lib.hid rfl
  have hZC : ((headC 0 0 (List.replicate 32 0)).toArray).size = 34 := rfl
  generalize Z32 = Z at *
  generalize (headC 0 0 (List.replicate 32 0)).toArray = ZC at *
  obtain ⟨b0, hb0⟩ : ∃ b0, b0 = w.heap.size := ⟨_, rfl⟩
  obtain ⟨w2, hw2⟩ : ∃ w2, (w.alloc (.cells Z 44)).alloc (.cells #[.slice AB b.length cB] 56) = w2 := ⟨_, rfl⟩
  have k2 : Keep [] w w2 := by rw [← hw2]; exact ((Keep.refl _ w).alloc _).alloc _
  have hz2 : Blk w2 b0 44 Z := by rw [← hw2, hb0]; exact (Blk.new w 44 Z).alloc _
  have hg2 : Blk w2 (b0 + 1) 56 #[.slice AB b.length cB] := by rw [← hw2, hb0]; exact blk_at (by rw [size_al]) 56 _
  have hL : LfS w2 (b0 + 1) b0 b := ⟨AB, cB, hg2, hs.keep k2 (fun a _ => by simp), fun a ha => by have := hA a ha; omega, hc⟩
  have HR := Lib.hid (rhead_any (b0 + 1) b0 b w2 (by rw [hb0]; exact k2.size) hL hl)
  have HH := Lib.hid (And.intro hb0 (And.intro k2 (And.intro hz2 hs.2)))
  have hg2l := hg2.lt
  have Hw2 := Lib.hid hw2
  have Hb0 := Lib.hid hb0
  have hs1 : (w.alloc (.cells Z 44)).heap.size = b0 + 1 := by rw [size_al, hb0]
  have Hs1 := Lib.hid hs1
  clear hb0 hw2 k2 hz2 hg2 hL hs hc hA hs1
  go_enter Tryz.func18, Tryz.ntmps18
  go_upto_region 2 with (fail)
  rw [Hw2.out, ← Hb0.out]
  refine wp_region_lit ?_
  iterate 1 (refine wpList_plain rfl (fun K hK => ?_); go_simp; refine hK _ _ ?_; clear hK K)
  refine wpList_plain rfl (fun K hK => ?_)
  go_simp
  go_at_call 23
  refine HR.out.mono ?_
  rintro e w3 ⟨r, k, d, rfl, hd1, hd2, hok, hk3⟩
  have HO := Lib.hid (And.intro hd1 (And.intro hd2 (And.intro hok hk3)))
  have hb3 : b0 + 1 < w3.heap.size := Nat.lt_of_lt_of_le hg2l hk3.size
  refine hK _ _ ?_
  clear hK K hd1 hd2 hok hk3
  obtain ⟨CL, hCL⟩ : ∃ CL, CL = headC r k d := ⟨_, rfl⟩
  rw [← hCL]
  have hC34 : CL.toArray.size = 34 := by rw [List.size_toArray, hCL, headC_len HO.out.1]
  have hoC : CL.toArray.all (·.oneCell') = true := by rw [hCL]; exact all_oneCell_toArray (headC_one _ _ _)
  have HCL := Lib.hid hCL
  clear hCL
  cases hokb : hdOk b with
  | false =>
    have HV : Hid (hedD b = D0 ∧ hedN b = 0 ∧ hedE b = 110) := Lib.hid (by unfold hedD hedN hedE; rw [hokb]; exact ⟨rfl, rfl, rfl⟩)
    have HF : Hid (Blk (w3.alloc (.cells CL.toArray 58)) b0 44 Z ∧ Blk ((w3.alloc (.cells CL.toArray 58)).setRow b0 Z) b0 44 Z ∧ Keep [] w ((w3.alloc (.cells CL.toArray 58)).setRow b0 Z)) := Lib.hid (by
      obtain ⟨e0, k2, hz2, -⟩ := HH.out
      have hz3 := (hz2.keep HO.out.2.2.2 (by simp)).alloc (.cells CL.toArray 58)
      have k3 : Keep [] w w3 := k2.step HO.out.2.2.2 (fun i hi => by simp at hi; omega)
      exact ⟨hz3, blk_same hz3, keep_setRow (k3.alloc _) (by omega) hz3⟩)
    have hoZ : Z.all (·.oneCell') = true := by rw [← HZE.out]; exact all_oneCell_toArray (inB_one _)
    have HE : Hid (Value.agg (inB D0).toArray = .agg Z) := Lib.hid (by rw [HZE.out])
    clear HR HH HZE
    iterate 4 (refine wpList_plain rfl (fun K hK => ?_); go_simp; refine hK _ _ ?_; clear hK K)
    refine wpList_store_rowTo rfl 58 (.tmp 6) (.tmp 15) rfl rfl w3.heap.size CL.toArray rfl rfl 58 ZC (heap_alloc_last w3 _) (by rw [hC34]; exact size58) (by rw [hC34]; exact hZC) hoC ?_
    rw [World.setRow_alloc_new]
    go_upto_region 4 with (fail)
    refine wp_region_lit ?_
    refine wpList_buildTo rfl 44 _ rfl (some 19) rfl Z (by simp only [List.map_toArray, List.map_nil]; exact hb44) ?_
    refine wpList_store_row rfl 44 (.tmp 2) (.tmp 19) rfl b0 Z rfl rfl 44 Z HF.out.1 (by rw [hZ32]; exact size44) rfl hoZ ?_
    go_wp2
    refine bodyPost_ret (v := .tuple #[.agg Z, .int .i64 0, .int .i64 110]) (results_row_tmp2 (ty := 44) rfl _ _ b0 44 _ (0, 0) _ rfl HF.out.2.1 Tryz.underlying44 rfl (by rw [hZ32]; exact size44) _ _ rfl rfl) rfl ?_
    exact ⟨by rw [HV.out.1, HV.out.2.1, HV.out.2.2, HE.out]; rfl, HF.out.2.2⟩
  | true =>
    have hq := HO.out.2.2.1 hokb
    have hkd : k ≤ 100000 := by
      rw [hq.2.1]
      have := numP_bd (l := (b.drop 6).take 2) (fun x hx => HH.out.2.2.2 x (List.mem_of_mem_drop (List.mem_of_mem_take hx))) 2 (by rw [List.length_take]; omega) 2
      unfold hdCode
      omega
    have hN : Hid (hedN b = blksP k ∧ hedD b = d ∧ hedE b = 0) := Lib.hid (by unfold hedN hedD hedE; rw [hokb]; exact ⟨by rw [if_pos rfl, hq.2.1], by rw [if_pos rfl, hq.2.2.1], rfl⟩)
    obtain ⟨w4, hw4⟩ : ∃ w4, w3.alloc (.cells CL.toArray 58) = w4 := ⟨_, rfl⟩
    obtain ⟨h, hh⟩ : ∃ h, h = w3.heap.size := ⟨_, rfl⟩
    have hb4 : Blk w4 h 58 CL.toArray := by rw [← hw4, hh]; exact Blk.new w3 58 _
    have hlt4 := hb4.lt
    obtain ⟨DL, hDL⟩ : ∃ DL, DL = inB d := ⟨_, rfl⟩
    have hCD : CL = [Value.int .i64 (r : Int), Value.int .i64 (k : Int)] ++ (DL ++ []) := by rw [HCL.out, List.append_nil, hDL]; rfl
    have hr0 : ∀ W, Keep [] w4 W → W.rangeAt h 0 CL := fun W kk => rangeAt_blk0 (R := []) (by rw [List.append_nil]; exact hb4.keep kk (by simp))
    have hr1 : ∀ W, Keep [] w4 W → W.rangeAt h 2 DL := fun W kk => by
      have h1 := hb4.keep kk (by simp)
      rw [hCD] at h1
      exact rangeAt_blk h1
    have hD32 : DL.toArray.size = 32 := by rw [List.size_toArray, hDL, inB_len, HO.out.1]
    have hD44 : (Tryz.prog.info? 44).map (·.size) = some DL.length := by rw [← List.size_toArray, hD32]; exact size44
    have hC34L : (Tryz.prog.info? 58).map (·.size) = some CL.length := by rw [← List.size_toArray, hC34]; exact size58
    have hoD : DL.toArray.all (·.oneCell') = true := by rw [hDL]; exact all_oneCell_toArray (inB_one _)
    have HB : Hid (∀ W, Calls Tryz.prog 24 #[.agg CL.toArray] W fun e w' => e = .returned (.int .i64 (blksP k : Nat)) ∧ Keep [] W w') := Lib.hid (fun W => by rw [HCL.out]; exact blocks_any r k d W hkd)
    have HZ4 : Hid (∀ W, Keep [] w4 W → Blk W b0 44 Z) := Lib.hid (fun W kk => by
      obtain ⟨e0, k2, hz2, -⟩ := HH.out
      have h3 := (hz2.keep HO.out.2.2.2 (by simp)).alloc (.cells CL.toArray 58)
      rw [hw4] at h3
      exact h3.keep kk (by simp))
    have HK4 : Hid (Keep [] w w4 ∧ w.heap.size ≤ b0) := Lib.hid (by
      obtain ⟨e0, k2, hz2, -⟩ := HH.out
      have k3 : Keep [] w w3 := k2.step HO.out.2.2.2 (fun i hi => by simp at hi; omega)
      exact ⟨by rw [← hw4]; exact k3.alloc _, by omega⟩)
    have HDL := Lib.hid hDL
    have Hw4 := Lib.hid hw4
    have Hh := Lib.hid hh
    clear hq hkd hb4 hCD hDL HR HH HO hh hw4
    generalize blksP k = nb at *
    iterate 4 (refine wpList_plain rfl (fun K hK => ?_); go_simp; refine hK _ _ ?_; clear hK K)
    refine wpList_store_rowTo rfl 58 (.tmp 6) (.tmp 15) rfl rfl w3.heap.size CL.toArray rfl rfl 58 ZC (heap_alloc_last w3 _) (by rw [hC34]; exact size58) (by rw [hC34]; exact hZC) hoC ?_
    rw [World.setRow_alloc_new, Hw4.out, ← Hh.out]
    go_upto_region 5 with (fail)
    refine wp_region_G (fun W => Keep [] w4 W) [4] #[false, false, false, false, false, false, false] 7 (by kernel_rfl) (by kernel_rfl) (by kernel_rfl) ?_
    refine wpAnyG_take0 (i := 0) (oi := ⟨_, _, _, _, _, _⟩) (v := ?vg1_0) rfl (by kernel_rfl) (by kernel_rfl) (by kernel_rfl) (by kernel_rfl) (fun _ _ _ h => h) (fun _ => ((Keep.refl [] w4).drew)) (Or.inl ⟨by rfl, ?hg1_0⟩) ?_
    case hg1_0 => intro w _; go_simp; (try with_reducible rfl)
    try simp only [Act.put, List.setIfInBounds_toArray, List.set_cons_zero, List.set_cons_succ]
    refine wpAnyG_take (i := 1) (oi := ⟨_, _, _, _, _, _⟩) (v := (.agg DL.toArray)) [1, 4, 5, 6] rfl (by kernel_rfl) (by kernel_rfl) (by kernel_rfl) (by kernel_rfl) (by kernel_rfl) (fun _ _ _ h => h) (fun _ => ((Keep.refl [] w4).drew)) (Or.inl ⟨by rfl, ?hg1_1⟩) ?_
    case hg1_1 => intro w hSw; (try dsimp only at hSw); exact quiet_load_mid 44 (.tmp 20) rfl h 2 rfl DL _ (hr1 _ hSw) Tryz.underlying44 rfl hD44
    try simp only [Act.put, List.setIfInBounds_toArray, List.set_cons_zero, List.set_cons_succ]
    refine wpAnyG_take (i := 2) (oi := ⟨_, _, _, _, _, _⟩) (v := (.agg CL.toArray)) [2, 3, 4, 5, 6] rfl (by kernel_rfl) (by kernel_rfl) (by kernel_rfl) (by kernel_rfl) (by kernel_rfl) (fun _ _ _ h => h) (fun _ => ((Keep.refl [] w4).drew)) (Or.inl ⟨by rfl, ?hg1_2⟩) ?_
    case hg1_2 => intro w hSw; (try dsimp only at hSw); exact quiet_load_mid 58 (.tmp 6) rfl h 0 rfl CL _ (hr0 _ hSw) Tryz.underlying58 rfl hC34L
    try simp only [Act.put, List.setIfInBounds_toArray, List.set_cons_zero, List.set_cons_succ]
    refine wpAnyG_step (i := 3) (oi := ⟨_, _, _, _, _, _⟩) rfl (by kernel_rfl) (by rfl) (fun K hK => ?_)
    go_simp
    go_at_call 24
    refine (HB.out _).mono ?_
    rintro e w5 ⟨rfl, hk5⟩
    refine hK _ _ ?_ (fun hSg1_3 => ?_)
    · intro _; exact hk5.of_drew
    replace hSg1_3 := hSg1_3 (by kernel_rfl)
    clear hK
    try simp only [Act.put, List.setIfInBounds_toArray, List.set_cons_zero, List.set_cons_succ]
    refine wpAnyG_step (i := 4) (oi := ⟨_, _, _, _, _, _⟩) rfl (by kernel_rfl) (by rfl) (fun K hK => ?_)
    refine wp_store_row 44 (.tmp 2) (.tmp 21) rfl b0 DL.toArray rfl rfl 44 Z (HZ4.out _ hSg1_3) (by rw [hD32]; exact size44) (by rw [hZ32, hD32]) hoD ?_
    refine hK _ _ (fun h => absurd h (Bool.eq_false_iff.1 (by kernel_rfl))) (fun _ => ?_)
    clear hK
    try simp only [Act.put, List.setIfInBounds_toArray, List.set_cons_zero, List.set_cons_succ]
    refine wpAnyG_take0 (i := 5) (oi := ⟨_, _, _, _, _, _⟩) (v := ?vg1_5) rfl (by kernel_rfl) (by kernel_rfl) (by kernel_rfl) (by kernel_rfl) (fun _ _ _ h => h) (fun h => absurd h (Bool.eq_false_iff.1 (by kernel_rfl))) (Or.inl ⟨by rfl, ?hg1_5⟩) ?_
    case hg1_5 => intro w _; go_simp; (try with_reducible rfl)
    try simp only [Act.put, List.setIfInBounds_toArray, List.set_cons_zero, List.set_cons_succ]
    refine wpAnyG_take0 (i := 6) (oi := ⟨_, _, _, _, _, _⟩) (v := ?vg1_6) rfl (by kernel_rfl) (by kernel_rfl) (by kernel_rfl) (by kernel_rfl) (fun _ _ _ h => h) (fun h => absurd h (Bool.eq_false_iff.1 (by kernel_rfl))) (Or.inl ⟨by rfl, ?hg1_6⟩) ?_
    case hg1_6 => intro w _; go_simp; (try with_reducible rfl)
    try simp only [Act.put, List.setIfInBounds_toArray, List.set_cons_zero, List.set_cons_succ]
    refine wpAnyG_done (by kernel_rfl) ?_ _
    have HFF := Lib.hid (And.intro (blk_same (c := DL.toArray) (HZ4.out _ hSg1_3)) (keep_setRow (c := DL.toArray) (HK4.out.1.trans hSg1_3) HK4.out.2 (HZ4.out _ hSg1_3)))
    go_wp2
    refine bodyPost_ret (v := .tuple #[.agg DL.toArray, .int .i64 nb, .int .i64 0]) (results_row_tmp2 (ty := 44) rfl _ _ b0 44 _ (0, 0) _ rfl HFF.out.1 Tryz.underlying44 rfl (by rw [hD32]; exact size44) _ _ rfl rfl) rfl ?_
    exact ⟨by rw [hN.out.1, hN.out.2.1, hN.out.2.2, HDL.out], HFF.out.2⟩
end Go.Proofs.YtdnaahbhfjclpaaGreatDoor

namespace Go.Pck
def allZ (l : List Nat) : Prop := ∀ x ∈ l, x = 0
def sameZ (r l : List Nat) : Prop := allZ r ↔ allZ l
end Go.Pck
namespace Go.Proofs.YtdnaahbhfjclpaaGreatDoor
open Go.RowKit Go.Sal Go.Pck Go.Huf Go.Cod
def TrL (w : World) (l : List Nat) (e : Ending) (w' : World) : Prop := ∃ A' m c', e = .returned (.slice A' m c') ∧ Keep [] w w' ∧ (m = 0 ↔ allZ l)
set_option maxRecDepth 20000 in
set_option maxHeartbeats 1000000 in
theorem trimr_any (l : List Nat) (A : Option Addr) (c : Nat) (w : World) (hs : BySrc w A l) (hc : l.length ≤ c) (hl : l.length ≤ 1000000) :
    Calls Tryz.prog 48 #[.slice A l.length c, .int .u8 0] w fun e w' => ∃ n, e = .returned (.slice A n c) ∧ w' = w ∧ n ≤ l.length ∧ (allZ (l.take n) ↔ allZ l) := by
  have Hs := Lib.hid hs
  have Hc := Lib.hid hc
  have H0 : Hid (allZ (l.drop l.length)) := Lib.hid (fun x hx => by simp at hx)
  clear hs hc
  go_enter Tryz.func48, Tryz.ntmps48
  go_wp2
  go_loop [0] (fun v0 => ∃ n : Nat, v0 = .slice A n c ∧ n ≤ l.length ∧ Hid (allZ (l.drop n))) (fun v0 => sLen v0)
  case atStart => exact ⟨l.length, rfl, Nat.le_refl _, H0⟩
  case round =>
    obtain ⟨n, rfl, hn, hI⟩ := hrel
    clear H0
    rcases Nat.eq_zero_or_pos n with h0 | h0
    · subst h0
      have HF : Hid (allZ (l.take 0) ↔ allZ l) := Lib.hid ⟨fun _ => by simpa using hI.out, fun _ x hx => by simp at hx⟩
      clear hI
      go_wp2
      go_ret
      exact ⟨0, rfl, rfl, hn, HF.out⟩
    · obtain ⟨m, rfl⟩ : ∃ m, n = m + 1 := ⟨n - 1, by omega⟩
      have hpos : (0 : Int) < ((m + 1 : Nat) : Int) := by omega
      have hwm : IntKind.i64.wrap (((m + 1 : Nat) : Int) - 1) = (m : Int) := by rw [IntKind.wrap_i64]; omega
      have hml : (m : Int) < ((m + 1 : Nat) : Int) := by omega
      obtain ⟨g, o, rfl, hg, d0⟩ := Hs.out.1 m (by omega)
      have hx := Hs.out.2 _ (List.getElem_mem (show m < l.length by omega))
      have hst : ∀ W, (Instr.slice 22 (.slice (some ⟨g, o, none⟩) (m + 1) c) none (some (.int .i64 (m : Int))) none).run Tryz.prog W = .ok (.slice (some ⟨g, o, none⟩) m c) W := fun W =>
        slice_head (P := Tryz.prog) 22 5 Tryz.underlying22 (some ⟨g, o, none⟩) (m + 1) c m (by have := Hc.out; omega) W 1 (by kernel_rfl)
      have hdr : l.drop m = l[m] :: l.drop (m + 1) := List.drop_eq_getElem_cons (by omega)
      have htk : l.take (m + 1) = l.take m ++ [l[m]] := List.take_succ_eq_append_getElem (by omega)
      by_cases hz : l[m] = 0
      · as_aux_lemma =>
          rw [hz] at d0
          have HN : Hid (allZ (l.drop m)) := Lib.hid (fun x hx => by
            rw [hdr] at hx
            rcases List.mem_cons.1 hx with rfl | hx
            · exact hz
            · exact hI.out x hx)
          clear hI hdr htk hx hz
          generalize hq : m + 1 = q at *
          have Hq := Lib.hid hq
          clear hq
          go_wp2
          exact ⟨⟨m, rfl, by have := Hq.out; omega, HN⟩, by have := Hq.out; simp [sLen]; omega⟩
      · as_aux_lemma =>
          have HF : Hid (allZ (l.take (m + 1)) ↔ allZ l) := Lib.hid ⟨fun h => (hz (h _ (by rw [htk]; exact List.mem_append.2 (.inr (List.mem_singleton.2 rfl))))).elim, fun h x hx => h x (List.mem_of_mem_take hx)⟩
          have hne : ¬ ((l[m] : Nat) : Int) = 0 := by omega
          clear hI hdr htk
          generalize l[m] = y at *
          generalize hq : m + 1 = q at *
          have Hq := Lib.hid hq
          clear hq
          go_wp2
          go_ret
          exact ⟨q, rfl, rfl, hn, HF.out⟩
set_option maxRecDepth 20000 in
set_option maxHeartbeats 1000000 in
theorem triml_any (l : List Nat) (A : Option Addr) (c : Nat) (w : World) (hs : BySrc w A l) (hc : l.length ≤ c) (hl : l.length ≤ 1000000) :
    Calls Tryz.prog 47 #[.slice A l.length c, .int .u8 0] w fun e w' => TrL w l e w' ∧ w' = w := by
  have H0 : Hid (BySrc w A l ∧ l.length ≤ c ∧ l.length ≤ 1000000 ∧ sameZ l l) := Lib.hid ⟨hs, hc, hl, Iff.rfl⟩
  clear hs hc hl
  go_enter Tryz.func47, Tryz.ntmps47
  go_wp2
  go_loop [0] (fun v0 => ∃ (r : List Nat) (A' : Option Addr) (c' : Nat), v0 = .slice A' r.length c' ∧ Hid (BySrc w A' r ∧ r.length ≤ c' ∧ r.length ≤ 1000000 ∧ sameZ r l)) (fun v0 => sLen v0)
  case atStart => exact ⟨l, A, c, rfl, H0⟩
  case round =>
    obtain ⟨r, A', c', rfl, hI⟩ := hrel
    clear H0
    cases r with
    | nil =>
      have HF : Hid (allZ l) := Lib.hid (hI.out.2.2.2.1 (fun x hx => by simp at hx))
      clear hI
      simp only [List.length_nil]
      go_wp2
      go_ret
      exact ⟨⟨none, 0, 0, rfl, Keep.refl _ _, by simpa using HF.out⟩, rfl⟩
    | cons x r =>
      obtain ⟨g, o, rfl, hg, d0⟩ := hI.out.1.1 0 (by simp)
      have hx := hI.out.1.2 x (by simp)
      have d0 : w.cell? ⟨g, o, none⟩ = some (.int .u8 (x : Nat)) := by simpa using d0
      have hpos : (0 : Int) < (((x :: r).length : Nat) : Int) := by simp
      have hll := hI.out.2.2.1
      obtain ⟨A2, hA2⟩ : ∃ A2, (if c' = 1 then some (⟨g, o, none⟩ : Addr) else (some (⟨g, o, none⟩ : Addr)).map (·.add (1 * 1))) = A2 := ⟨_, rfl⟩
      have hst : ∀ W, (Instr.slice 22 (.slice (some ⟨g, o, none⟩) (x :: r).length c') (some (.int .i64 1)) none none).run Tryz.prog W = .ok (.slice A2 r.length (c' - 1)) W := fun W => by
        have := slice_tail (P := Tryz.prog) 22 5 Tryz.underlying22 (some ⟨g, o, none⟩) (x :: r).length c' 1 (by simp) W 1 (by kernel_rfl)
        rw [hA2] at this
        exact this
      by_cases hz : x = 0
      · as_aux_lemma =>
          subst hz
          have HN : Hid (BySrc w A2 r ∧ r.length ≤ c' - 1 ∧ r.length ≤ 1000000 ∧ sameZ r l) := Lib.hid (by
            obtain ⟨q1, q2, q3, q4⟩ := hI.out
            have hd := bsrc_drop q1 1 c' (by simp) q2
            rw [hA2] at hd
            refine ⟨hd, by simp at q2; omega, by simp at q3; omega, ⟨fun h => q4.1 (fun y hy => ?_), fun h y hy => q4.2 h y (by simp [hy])⟩⟩
            rcases List.mem_cons.1 hy with rfl | hy
            · rfl
            · exact h y hy)
          clear hI hA2
          generalize hq : (0 :: r).length = q at *
          have Hq := Lib.hid hq
          clear hq
          go_wp2
          exact ⟨⟨r, A2, c' - 1, rfl, HN⟩, by have := Hq.out; simp [sLen]; simp at this; omega⟩
      · as_aux_lemma =>
          have HF : Hid (¬ allZ l) := Lib.hid (fun h => hz (hI.out.2.2.2.2 h x (by simp)))
          have hne : ¬ ((x : Nat) : Int) = 0 := by omega
          have hq0 : ¬ (x :: r).length = 0 := by simp
          clear hI hA2
          generalize (x :: r).length = q at *
          go_wp2
          go_ret
          exact ⟨⟨_, q, c', rfl, Keep.refl _ _, ⟨fun h => (hq0 h).elim, fun h => (HF.out h).elim⟩⟩, rfl⟩
set_option maxRecDepth 20000 in
set_option maxHeartbeats 1000000 in
theorem trim_any (l : List Nat) (A : Option Addr) (c : Nat) (w : World) (hs : BySrc w A l) (hc : l.length ≤ c) (hl : l.length ≤ 1000000) :
    Calls Tryz.prog 29 #[.slice A l.length c, .string ⟨#[0]⟩] w fun e w' => TrL w l e w' := by
  rcases Nat.eq_zero_or_pos l.length with h0 | h0
  · have hz : l = [] := List.eq_nil_of_length_eq_zero h0
    subst hz
    simp only [List.length_nil]
    clear hs hc hl h0
    go_enter Tryz.func29, Tryz.ntmps29
    go_wp2
    go_ret
    exact ⟨none, 0, 0, rfl, Keep.refl _ _, by simp [allZ]⟩
  have HR : Hid (∀ W, Keep [] w W → Calls Tryz.prog 48 #[.slice A l.length c, .int .u8 0] W fun e w' => ∃ n, e = .returned (.slice A n c) ∧ w' = W ∧ n ≤ l.length ∧ (allZ (l.take n) ↔ allZ l)) := Lib.hid (fun W k => trimr_any l A c W (hs.keep k (fun a _ => by simp)) hc hl)
  have HL : Hid (∀ n, n ≤ l.length → ∀ W, Keep [] w W → Calls Tryz.prog 47 #[.slice A n c, .int .u8 0] W fun e w' => TrL W (l.take n) e w' ∧ w' = W) := Lib.hid (fun n hn W k => by
    have e : (l.take n).length = n := by rw [List.length_take]; omega
    have := triml_any (l.take n) A c W (bsrc_head (hs.keep k (fun a _ => by simp)) n) (by omega) (by omega)
    rw [e] at this
    exact this)
  have hne : ¬ l.length = 0 := by omega
  have hne2 : ¬ (l.length : Int) = 0 := by omega
  clear hs hc hl h0
  generalize l.length = q at *
  go_enter Tryz.func29, Tryz.ntmps29
  go_upto_region 6 with (fail)
  refine wp_region_G (fun W => Keep [] w W) [] #[false, false, false, false, false, false, false, false] 8 (by kernel_rfl) (by kernel_rfl) (by kernel_rfl) ?_
  refine wpAnyG_take0 (i := 0) (oi := ⟨_, _, _, _, _, _⟩) (v := ?vg1_0) rfl (by kernel_rfl) (by kernel_rfl) (by kernel_rfl) (by kernel_rfl) (fun _ _ _ h => h) (fun _ => ((Keep.refl [] w).drew)) (Or.inl ⟨by rfl, ?hg1_0⟩) ?_
  case hg1_0 => intro w _; go_simp; (try with_reducible rfl)
  try simp only [Act.put, List.setIfInBounds_toArray, List.set_cons_zero, List.set_cons_succ]
  refine wpAnyG_take0 (i := 1) (oi := ⟨_, _, _, _, _, _⟩) (v := ?vg1_1) rfl (by kernel_rfl) (by kernel_rfl) (by kernel_rfl) (by kernel_rfl) (fun _ _ _ h => h) (fun _ => ((Keep.refl [] w).drew)) (Or.inl ⟨by rfl, ?hg1_1⟩) ?_
  case hg1_1 => intro w _; go_simp; (try with_reducible rfl)
  try simp only [Act.put, List.setIfInBounds_toArray, List.set_cons_zero, List.set_cons_succ]
  refine wpAnyG_take0 (i := 2) (oi := ⟨_, _, _, _, _, _⟩) (v := ?vg1_2) rfl (by kernel_rfl) (by kernel_rfl) (by kernel_rfl) (by kernel_rfl) (fun _ _ _ h => h) (fun _ => ((Keep.refl [] w).drew)) (Or.inl ⟨by rfl, ?hg1_2⟩) ?_
  case hg1_2 => intro w _; go_simp; (try with_reducible rfl)
  try simp only [Act.put, List.setIfInBounds_toArray, List.set_cons_zero, List.set_cons_succ]
  refine wpAnyG_take0 (i := 4) (oi := ⟨_, _, _, _, _, _⟩) (v := ?vg1_4) rfl (by kernel_rfl) (by kernel_rfl) (by kernel_rfl) (by kernel_rfl) (fun _ _ _ h => h) (fun _ => ((Keep.refl [] w).drew)) (Or.inl ⟨by rfl, ?hg1_4⟩) ?_
  case hg1_4 => intro w _; go_simp; (try with_reducible rfl)
  try simp only [Act.put, List.setIfInBounds_toArray, List.set_cons_zero, List.set_cons_succ]
  refine wpAnyG_take0 (i := 5) (oi := ⟨_, _, _, _, _, _⟩) (v := ?vg1_5) rfl (by kernel_rfl) (by kernel_rfl) (by kernel_rfl) (by kernel_rfl) (fun _ _ _ h => h) (fun _ => ((Keep.refl [] w).drew)) (Or.inl ⟨by rfl, ?hg1_5⟩) ?_
  case hg1_5 => intro w _; go_simp; (try with_reducible rfl)
  try simp only [Act.put, List.setIfInBounds_toArray, List.set_cons_zero, List.set_cons_succ]
  refine wpAnyG_step (i := 3) (oi := ⟨_, _, _, _, _, _⟩) rfl (by kernel_rfl) (by rfl) (fun K hK => ?_)
  go_simp
  go_at_call 48
  refine (HR.out _ (Keep.refl [] w).drew).mono ?_
  rintro e w' ⟨n, rfl, rfl, hn1, hn2⟩
  have HN := Lib.hid (And.intro hn1 hn2)
  have HLn := Lib.hid (HL.out n hn1)
  clear hn1 hn2
  refine hK _ _ ?_ (fun hSg1_3 => ?_)
  · intro _; exact (Keep.refl [] w).drew
  replace hSg1_3 := hSg1_3 (by kernel_rfl)
  clear hK
  try simp only [Act.put, List.setIfInBounds_toArray, List.set_cons_zero, List.set_cons_succ]
  refine wpAnyG_step (i := 6) (oi := ⟨_, _, _, _, _, _⟩) rfl (by kernel_rfl) (by rfl) (fun K hK => ?_)
  go_simp
  go_at_call 47
  refine (HLn.out _ (Keep.refl [] w).drew).mono ?_
  rintro e w' ⟨⟨A', m, c', rfl, -, hm⟩, rfl⟩
  have HM := Lib.hid hm
  clear hm
  refine hK _ _ ?_ (fun hSg1_6 => ?_)
  · intro _; exact (Keep.refl [] w).drew
  replace hSg1_6 := hSg1_6 (by kernel_rfl)
  clear hK
  try simp only [Act.put, List.setIfInBounds_toArray, List.set_cons_zero, List.set_cons_succ]
  refine wpAnyG_take0 (i := 7) (oi := ⟨_, _, _, _, _, _⟩) (v := ?vg1_7) rfl (by kernel_rfl) (by kernel_rfl) (by kernel_rfl) (by kernel_rfl) (fun _ _ _ h => h) (fun _ => hSg1_6) (Or.inl ⟨by rfl, ?hg1_7⟩) ?_
  case hg1_7 => intro w _; go_simp; (try with_reducible rfl)
  try simp only [Act.put, List.setIfInBounds_toArray, List.set_cons_zero, List.set_cons_succ]
  refine wpAnyG_done (by kernel_rfl) ?_ _
  have HFF : Hid (m = 0 ↔ allZ l) := Lib.hid (HM.out.trans HN.out.2)
  have HK : Hid (Keep [] w w.drew) := Lib.hid (Keep.refl [] w).drew
  go_wp2
  go_ret
  exact ⟨A', m, c', rfl, HK.out, HFF.out⟩
end Go.Proofs.YtdnaahbhfjclpaaGreatDoor

namespace Go.Proofs.YtdnaahbhfjclpaaGreatDoor
open Go.RowKit Go.Sal Go.Huf Go.Cod
def RowBE (w : World) (l : List Nat) (E : Int) (e : Ending) (w' : World) : Prop := ∃ A c, e = .returned (.tuple #[.slice A l.length c, .int .i64 E]) ∧ w'.ownsRow w.heap.size 5 1 (.slice A l.length c) l.length (inB l) ∧ Keep [] w w'
theorem row_one (w : World) (x base : Nat) (hb : base ≤ w.heap.size) : (w.alloc (.cells #[.int .u8 (x : Nat)] 5)).ownsRow base 5 1 (.slice (some ⟨w.heap.size, 0, none⟩) 1 1) 1 (inB [x]) :=
  ⟨rfl, .inr ⟨w.heap.size, 1, _, rfl, hb, heap_alloc_new w _, Nat.le_refl _, by simp [maxLen], rfl, rfl⟩⟩
theorem two_app {w wr : World} {A6 AP : Option Addr} {c6 cP b6 : Nat} {s p : List Nat} (k : Keep [] w wr) (x : Nat) (h6 : wr.ownsRow b6 5 1 (.slice A6 s.length c6) s.length (inB s)) (hp : BySrc wr AP p) (l1 : s.length ≤ 1000000) (l2 : p.length ≤ 1000000) :
    ∃ A1 c1 w1 k1, (Builtin.append_ #[22, 22] 22 #[.slice (some ⟨wr.heap.size, 0, none⟩) 1 1, .slice A6 s.length c6]).run Tryz.prog (wr.alloc (.cells #[.int .u8 (x : Nat)] 5)) = .ok (.slice A1 k1 c1) w1 ∧
      ∃ A2 c2 w2 k2, (Builtin.append_ #[22, 22] 22 #[.slice A1 k1 c1, .slice AP p.length cP]).run Tryz.prog w1 = .ok (.slice A2 k2 c2) w2 ∧ RowBE w (x :: (s ++ p)) 0 (.returned (.tuple #[.slice A2 k2 c2, .int .i64 0])) w2 := by
  have ka : Keep [] wr (wr.alloc (.cells #[.int .u8 (x : Nat)] 5)) := (Keep.refl [] wr).alloc _
  have h0 := row_one wr x w.heap.size k.size
  obtain ⟨A1, c1, w1, k1, hk1, hr1, ho1, hkp1⟩ := bytes_app' (d := c6) h0 (Src.of_own (ownsRow_keep h6 ka (by simp))) (by omega) (by omega) (k.trans ka).size
  have kw1 : Keep [] wr w1 := ka.step hkp1 (fun i hi => .inr (by simp [Value.ownBlock] at hi; omega))
  obtain ⟨A2, c2, w2, k2, hk2, hr2, ho2, hkp2⟩ := bytes_app' (d := cP) ho1 (bsrc_src (hp.keep kw1 (by simp))) (by omega) (by omega) (k.trans kw1).size
  refine ⟨A1, c1, w1, k1, hr1, A2, c2, w2, k2, hr2, ?_⟩
  have e : k2 = (x :: (s ++ p)).length := by rw [hk2, hk1]; simp; omega
  have e2 : [x] ++ s ++ p = x :: (s ++ p) := by simp
  rw [e2] at ho2
  subst e
  exact ⟨A2, c2, rfl, ho2, (k.trans kw1).step hkp2 (fun i hi => .inr (own_far ho1 i hi))⟩
theorem okT_bd {t : Tk} (h : okT t = true) (h2 : t.2.2 < 256) : bdT t := by
  unfold bdT
  rcases okT_cases h with h | h <;> omega
theorem tokP_bd {b : List Nat} (hb : ∀ x ∈ b, x < 256) : ∀ t ∈ tokP b, bdT t := fun t ht => by
  obtain ⟨h1, h2⟩ := tokF_all hb _ _ t ht
  exact okT_bd h1 h2
set_option maxRecDepth 20000 in
set_option maxHeartbeats 1000000 in
theorem encode_any (bl : List Nat) (AB : Option Addr) (cB : Nat) (w : World) (hs : BySrc w AB bl) (hc : bl.length ≤ cB) (hl : bl.length ≤ 20000) :
    Calls Tryz.prog 35 #[.slice AB bl.length cB] w fun e w' => RowBE w (encP bl) 0 e w' := by
  have hbd := tokP_bd hs.2
  have htl : (tokP bl).length ≤ bl.length := tok_len _ 0
  have HT := Lib.hid (tokens_any bl AB cB w hs hc (by omega))
  have HV := Lib.hid (fun w1 => varint_any bl.length w1 (by omega))
  have HP := Lib.hid (fun (w1 : World) (A : Option Addr) (c : Nat) (h : TSrc w1 A (tokP bl)) => packR_any (tokP bl) A c w1 h (by omega))
  have hpl := packR_lt (l := tokP bl) (by omega)
  have hvl := varP_len bl.length
  have HE : Hid (encP bl = if (packR (tokP bl)).length < bl.length then 1 :: (varP bl.length ++ packR (tokP bl)) else 0 :: (varP bl.length ++ bl)) := Lib.hid rfl
  have Hs := Lib.hid hs
  have Hbd := Lib.hid hbd
  have Hpl := Lib.hid hpl
  have hwl : IntKind.u64.wrap (bl.length : Int) = (bl.length : Int) := by rw [IntKind.wrap_u64]; omega
  clear hs hbd hpl
  generalize tokP bl = tl at *
  generalize varP bl.length = vl at *
  go_enter Tryz.func35, Tryz.ntmps35
  go_upto_region 4 with (go_at_call 67; refine HT.out.mono ?_; rintro e w1 ⟨A1, c1, rfl, ho1, hk1⟩; have H1 := Lib.hid (And.intro ho1 hk1); clear ho1 hk1)
  go_upto_region 5 with (go_at_call 68; refine (HV.out _).mono ?_; rintro e w2 ⟨A2, c2, rfl, ho2, hk2⟩; have H2 := Lib.hid (And.intro (ownsRow_keep H1.out.1 hk2 (by simp)) (And.intro (H1.out.2.trans hk2) ho2)); clear ho2 hk2)
  go_upto_region 6 with (go_at_call 69; refine (HP.out _ _ _ (tsrc_own H2.out.1 rfl Hbd.out)).mono ?_; rintro e w3 ⟨A3, c3, rfl, ho3, hk3⟩; have H3 := Lib.hid (And.intro (ownsRow_keep H2.out.2.2 hk3 (by simp)) (And.intro (H2.out.2.1.trans hk3) ho3)); clear ho3 hk3)
  clear HT HV HP H1 H2
  by_cases h : (packR tl).length < bl.length
  · have hi : ((packR tl).length : Int) < bl.length := by omega
    obtain ⟨A4, c4, w4, k4, ha4, A5, c5, w5, k5, ha5, hR⟩ := two_app (cP := c3) H3.out.2.1 1 H3.out.1 (bsrc_own H3.out.2.2 Hpl.out) (by omega) (by omega)
    have HR := Lib.hid hR
    have HF := HE.out
    rw [if_pos h] at HF
    have HG := Lib.hid HF
    clear hR HF HE
    generalize (packR tl).length = pn at *
    go_wp2_with (first
      | (at_builtin; refine wpList_append2 (v1 := .slice (some ⟨w3.heap.size, 0, none⟩) 1 1) (v2 := .slice A2 vl.length c2) rfl (.tmp 31) (.tmp 32) rfl rfl rfl ha4 ?_)
      | (at_builtin; refine wpList_append2 (v1 := .slice A4 k4 c4) (v2 := .slice A3 pn c3) rfl (.tmp 33) (.tmp 34) rfl rfl rfl ha5 ?_))
    go_ret2
    rw [HG.out]
    exact HR.out
  · have hi : ¬ ((packR tl).length : Int) < bl.length := by omega
    obtain ⟨A4, c4, w4, k4, ha4, A5, c5, w5, k5, ha5, hR⟩ := two_app (cP := cB) H3.out.2.1 0 H3.out.1 (Hs.out.keep H3.out.2.1 (by simp)) (by omega) (by omega)
    have HR := Lib.hid hR
    have HF := HE.out
    rw [if_neg h] at HF
    have HG := Lib.hid HF
    clear hR HF HE
    generalize (packR tl).length = pn at *
    go_wp2_with (first
      | (at_builtin; refine wpList_append2 (v1 := .slice (some ⟨w3.heap.size, 0, none⟩) 1 1) (v2 := .slice A2 vl.length c2) rfl (.tmp 36) (.tmp 37) rfl rfl rfl ha4 ?_)
      | (at_builtin; refine wpList_append2 (v1 := .slice A4 k4 c4) (v2 := .slice AB bl.length cB) rfl (.tmp 38) (.tmp 39) rfl rfl rfl ha5 ?_))
    go_ret2
    rw [HG.out]
    exact HR.out
end Go.Proofs.YtdnaahbhfjclpaaGreatDoor

