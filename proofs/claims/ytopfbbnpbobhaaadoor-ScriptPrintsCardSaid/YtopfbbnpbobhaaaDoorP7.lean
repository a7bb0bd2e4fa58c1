/- many. -/
import Derived.Test.YtopfbbnpbobhaaaDoorP6
set_option linter.unusedVariables false
set_option linter.unusedSimpArgs false
namespace Go.Proofs.YtopfbbnpbobhaaaDoor
open Go.RowKit Go.Sal

def posOf (hb : Nat) (w : World) : Nat := match w.cell? ⟨hb, 1, none⟩ with | some (.int _ q) => q.toNat | _ => 0
structure MSt (base hb : Nat) (s : List UInt8) (h : HS) (v : Value) (i : Nat) (w wr : World) : Prop where
  blk : Blk wr hb 51 (HexA s { h with pos := i } v)
  own : wr.ownsRow base 5 1 v h.out.length (byteCells h.out)
  keep : Keep [hb] w wr
theorem MSt.drewN {base hb : Nat} {s : List UInt8} {h : HS} {v : Value} {i : Nat} {w wr : World} (x : MSt base hb s h v i w wr) (n : Nat) : MSt base hb s h v i w (wr.drewN n) := ⟨x.blk.drewN n, ownsRow_keep x.own ((Keep.refl [] wr).drewN n) (by simp), x.keep.drewN n⟩
theorem MSt.step {base hb : Nat} {s : List UInt8} {h : HS} {v : Value} {i : Nat} {w wr : World} (x : MSt base hb s h v i w wr) (j : Nat) : MSt base hb s h v j w (wr.setCell ⟨hb, 1, none⟩ (.int .i64 (j : Int))) :=
  ⟨hexA_set1 s { h with pos := i } v j ▸ x.blk.set_ 1 (.int .i64 (j : Int)), ownsRow_keep x.own ((Keep.refl [hb] wr).setCell (.inl (by simp)) _) (fun g hg hm => by
    simp only [List.mem_cons, List.not_mem_nil, or_false] at hm
    subst hm
    exact own_ne_blk x.own x.blk (by decide) hg), x.keep.setCell (.inl (by simp)) _⟩
theorem MSt.pos {base hb : Nat} {s : List UInt8} {h : HS} {v : Value} {i : Nat} {w wr : World} (x : MSt base hb s h v i w wr) : posOf hb wr = i := by
  unfold posOf
  rw [(HexA_facts x.blk).2.1]
  simp
theorem MSt.out {base hb : Nat} {s : List UInt8} {h : HS} {v : Value} {i : Nat} {w wr : World} (x : MSt base hb s h v i w wr) (h0 : base ≤ hb) (hB : base ≤ w.heap.size) : HexIs base hb s { h with pos := i } wr ∧ Below base w wr :=
  ⟨⟨h0, v, x.blk, x.own⟩, x.keep.belowB hB (by simp; omega)⟩
theorem mayS_le {k left : Nat} (h : mayS k left = true) : k ≤ left := by
  unfold mayS at h
  split at h <;> simp at h <;> omega
theorem cntG_end {s : List UInt8} {left f n i : Nat} (h : s[i]? = none) : cntG s left (f + 1) n i = (true, n, i) := by simp [cntG, h]
theorem cntG_stop {s : List UInt8} {left f n i : Nat} {c : UInt8} (h : s[i]? = some c) (hd : ¬ (48 ≤ c.toNat ∧ c.toNat ≤ 57)) : cntG s left (f + 1) n i = (true, n, i) := by simp [cntG, h, isDec, hd]
theorem cntG_no {s : List UInt8} {left f n i : Nat} {c : UInt8} (h : s[i]? = some c) (hd : 48 ≤ c.toNat ∧ c.toNat ≤ 57) (hm : mayS (10 * n + (c.toNat - 48)) left = false) : cntG s left (f + 1) n i = (false, n, i) := by simp [cntG, h, isDec, hd, hm]
theorem cntG_go {s : List UInt8} {left f n i : Nat} {c : UInt8} (h : s[i]? = some c) (hd : 48 ≤ c.toNat ∧ c.toNat ≤ 57) (hm : mayS (10 * n + (c.toNat - 48)) left = true) : cntG s left (f + 1) n i = cntG s left f (10 * n + (c.toNat - 48)) (i + 1) := by simp [cntG, h, isDec, hd, hm]
theorem str_at (s : List UInt8) (i : Nat) (h : i < s.length) (W : World) : (Instr.index 9 (.string ⟨s.toArray⟩) (.int .i64 (i : Int))).run Tryd.prog W = .ok (.int .u8 (s[i].toNat : Int)) W := by
  rw [run_index_string _ _ _ _ _ Tryd.underlying9]
  exact dif_pos (show (0 : Int) ≤ (i : Int) ∧ (i : Int) < ((s.length : Nat) : Int) from ⟨by omega, by omega⟩)
theorem src_repl {w : World} {g m : Nat} {x : UInt8} (h : ∀ j, j < m → w.cell? ⟨g, j, none⟩ = some (.int .u8 (x.toNat : Int))) : Src w 1 (some ⟨g, 0, none⟩) m (byteCells (List.replicate m x)) := by
  refine ⟨by simp [byteCells], fun _ => ⟨_, rfl, fun j u hj => ?_⟩⟩
  simp only [byteCells, List.map_replicate, List.getElem?_replicate] at hj
  split at hj
  · cases hj
    rw [add_mk, Nat.zero_add]
    exact h j ‹_›
  · cases hj
set_option maxRecDepth 20000 in
set_option maxHeartbeats 4000000 in
theorem many_any (base hb : Nat) (s : List UInt8) (h : HS) (w : World) (hs : s.length ≤ 1000) (hpos : h.pos < s.length) (hn : h.n ≤ 4) (hol : h.out.length ≤ 1048576) (H : HexIs base hb s h w) (hB : base ≤ w.heap.size) :
    Calls Tryd.prog 17 #[.pointer (some ⟨hb, 0, none⟩)] w fun e w' => e = .returned (.bool (manyS s h).1) ∧ HexIs base hb s (manyS s h).2 w' ∧ Below base w w' := by
  obtain ⟨h0, v, hb1, hown⟩ := H
  obtain ⟨A, cp, rfl⟩ : ∃ A cp, v = .slice A h.out.length cp := by
    rcases hown.2 with ⟨rfl, h1⟩ | ⟨g, cap, cur, rfl, _⟩
    · exact ⟨none, 0, by rw [h1]⟩
    · exact ⟨_, _, rfl⟩
  have M0 : MSt base hb s h (.slice A h.out.length cp) h.pos w w := ⟨hb1, hown, Keep.refl _ _⟩
  have HM0 := Lib.hid M0
  obtain ⟨d0, d1, d2, d3, d4, d5, df⟩ := HexA_facts hb1
  have hl := left_any hb h.out.length cp A w (by omega) d2
  have Hl := Lib.hid hl
  clear hl M0 hown hb1 d5
  by_cases hfirst : h.n ≠ 1 ∨ MF - h.out.length + 1 ≤ 4
  · have e : manyS s h = (false, h) := by unfold manyS; rw [if_pos hfirst]
    rw [e]
    have Hf := Lib.hid hfirst
    clear e hfirst
    by_cases h1 : h.n = 1
    · have hle : (1048576 - (h.out.length : Int)) + 1 ≤ 4 := by
        have := Hf.out.resolve_left (fun x => x h1)
        unfold MF at this
        omega
      rw [h1] at d4
      clear h1
      go_enter Tryd.func17, Tryd.ntmps17
      go_wp2_with (go_at_call 37; refine Hl.out.mono ?_; rintro e w3 ⟨rfl, rfl⟩)
      go_ret
      exact ⟨rfl, HM0.out.out h0 hB⟩
    · have h1b : ((h.n : Int) != 1) = true := by simp; omega
      have h1c : ((h.n : Int) == 1) = false := by rw [beq_eq_false_iff_ne]; omega
      have h1d : ¬ (h.n : Int) = 1 := by omega
      clear h1
      go_enter Tryd.func17, Tryd.ntmps17
      go_wp2_with (go_at_call 37; refine Hl.out.mono ?_; rintro e w3 ⟨rfl, rfl⟩)
      go_ret
      exact ⟨rfl, HM0.out.out h0 hB⟩
  · have h1 : h.n = 1 := by omega
    obtain ⟨left, hleft⟩ : ∃ left : Nat, left = MF - h.out.length + 1 := ⟨_, rfl⟩
    have hl4 : 4 < left := by omega
    have hl5 : left ≤ 1048577 := by rw [hleft]; unfold MF; omega
    have hms : manyS s h = (if (cntG s left (s.length + 1) 0 (h.pos + 1)).1 = true ∧ s[(cntG s left (s.length + 1) 0 (h.pos + 1)).2.2]? = some 44 ∧ 4 < (cntG s left (s.length + 1) 0 (h.pos + 1)).2.1
        then (true, { h with pos := (cntG s left (s.length + 1) 0 (h.pos + 1)).2.2 + 1, out := h.out ++ List.replicate ((cntG s left (s.length + 1) 0 (h.pos + 1)).2.1 - 1) h.last, closed := true })
        else (false, { h with pos := (cntG s left (s.length + 1) 0 (h.pos + 1)).2.2 })) := by
      unfold manyS
      rw [if_neg hfirst, ← hleft]
    have hlv : (1048576 - (h.out.length : Int)) + 1 = (left : Int) := by rw [hleft]; unfold MF; omega
    have Hms := Lib.hid hms
    have Hl2 : Hid (Calls Tryd.prog 37 #[.pointer (some ⟨hb, 0, none⟩)] w fun e w' => e = .returned (.int .i64 ((left : Int) - 1)) ∧ w = w') := Lib.hid (Hl.out.mono (fun e w' ⟨h1, h2⟩ => ⟨by rw [h1, ← hlv]; simp, h2⟩))
    rw [h1] at d4
    clear hms hleft hfirst h1 hlv
    have hp1 : (h.pos : Int) < 1000 := by omega
    have hl4' : ¬ (left : Int) ≤ 4 := by omega
    have hl5' : (left : Int) ≤ 1048577 := by omega
    have HM1 := Lib.hid (HM0.out.step (h.pos + 1))
    go_enter Tryd.func17, Tryd.ntmps17
    go_wp2_with (go_at_call 37; refine Hl2.out.mono ?_; rintro e w3 ⟨rfl, rfl⟩)
    have HM2 : Hid (MSt base hb s h (.slice A h.out.length cp) (h.pos + 1) w (w.setCell ⟨hb, 1, none⟩ (.int .i64 ((h.pos : Int) + 1)))) := HM1
    clear HM1 d0 d1 d2 d3 d4 df
    go_loopw [4] (fun nv wr => ∃ (n i f : Nat), nv = .int .i64 n ∧ n ≤ 1048577 ∧ i ≤ s.length ∧ s.length - i < f ∧ Hid (cntG s left (s.length + 1) 0 (h.pos + 1) = cntG s left f n i) ∧ Hid (MSt base hb s h (.slice A h.out.length cp) i w wr)) (fun _ wr => s.length - posOf hb wr)
    case atStart => exact ⟨0, h.pos + 1, s.length + 1, rfl, by omega, by omega, by omega, Lib.hid rfl, HM2⟩
    case round =>
      obtain ⟨n, i, f, rfl, hn1, hi, hf, hC, hM⟩ := hrel
      obtain ⟨f, rfl⟩ : ∃ f', f = f' + 1 := ⟨f - 1, by omega⟩
      have hn1' : (n : Int) ≤ 1048577 := by omega
      have hi' : (i : Int) ≤ 1000 := by omega
      obtain ⟨d0, d1, d2, d3, d4, d5, df⟩ := HexA_facts hM.out.blk
      simp only at d0 d1 d2 d3 d4 d5
      rcases Nat.lt_or_ge i s.length with hlt | hge
      · have hil : (i : Int) < (s.length : Int) := by omega
        have hil2 : decide (i < s.length) = true := by simpa using hlt
        have hil3 : decide (s.length ≤ i) = false := by simp; omega
        have hix := str_at s i hlt
        have hg : s[i]? = some s[i] := by simp [hlt]
        have Hg := Lib.hid hg
        clear hg
        generalize s[i] = c at *
        have hcb := c.toNat_lt
        by_cases hd : 48 ≤ c.toNat ∧ c.toNat ≤ 57
        · have h48a : (48 : Int) ≤ (c.toNat : Int) := by omega
          have h48b : decide (48 ≤ c.toNat) = true := by simp; omega
          have h48c : decide ((48 : Int) ≤ (c.toNat : Int)) = true := by simp; omega
          have h57a : (c.toNat : Int) ≤ 57 := by omega
          have h57b : decide (c.toNat ≤ 57) = true := by simp; omega
          have h57c : decide ((c.toNat : Int) ≤ 57) = true := by simp; omega
          obtain ⟨k, hk⟩ : ∃ k : Nat, k = 10 * n + (c.toNat - 48) := ⟨_, rfl⟩
          have hkb : k ≤ 10485779 := by omega
          have hkv : IntKind.i64.wrap (10 * (n : Int) + ((c.toNat : Int) - 48)) = (k : Int) := by rw [IntKind.wrap_i64]; omega
          have hkw : IntKind.i64.wrap (10 * (n : Int)) = 10 * (n : Int) := by rw [IntKind.wrap_i64]; omega
          have hku : IntKind.u8.wrap ((c.toNat : Int) - 48) = (c.toNat : Int) - 48 := by rw [IntKind.wrap_u8]; omega
          have Hp := Lib.hid hM.out.pos
          have Hd := Lib.hid hd
          have Hk := Lib.hid hk
          have Hkv := Lib.hid hkv
          have Hkw := Lib.hid hkw
          have Hku := Lib.hid hku
          clear hk hd hkv hkw hku d2 d3 d4 d5
          have hhlt := Lib.hid hlt
          go_wp2
          go_quiet (fail)
          have HM3 := Lib.hid (hM.out.drewN nq)
          clear hM d0 d1 df
          generalize (World.drewN _ _) = w3 at *
          obtain ⟨d0, d1, d2, d3, d4, d5, df⟩ := HexA_facts HM3.out.blk
          simp only at d0 d1 d2 d3 d4 d5
          clear d2 d3 d4 d5
          go_wp2
          have hkv := Hkv.out
          have hkw := Hkw.out
          have hku := Hku.out
          go_quiet (fail)
          have HM5 := Lib.hid (HM3.out.drewN nq)
          clear HM3 d0 d1 df
          generalize (World.drewN _ _) = w4 at *
          obtain ⟨d0, d1, d2, d3, d4, d5, df⟩ := HexA_facts HM5.out.blk
          simp only at d0 d1 d2 d3 d4 d5
          clear hkv hkw hku
          have hmv : ∀ W, Hid (Calls Tryd.prog 38 #[.int .i64 k, .int .i64 left] W fun e w' => e = .returned (.bool (mayS k left)) ∧ W = w') := fun W => Lib.hid (may_any k left (by omega) (by omega) W)
          cases hmy : mayS k left with
          | false =>
            have HC := Lib.hid (hC.out.trans (cntG_no (f := f) Hg.out Hd.out (by rw [← Hk.out]; exact hmy)))
            rw [hmy] at hmv
            clear hmy d2 d3 d4 d5
            go_wp2_with (go_at_call 38; refine (hmv _).out.mono ?_; rintro e w5 ⟨rfl, rfl⟩)
            go_ret
            rw [Hms.out, HC.out, if_neg (by rintro ⟨h, _⟩; simp at h)]
            exact ⟨rfl, HM5.out.out h0 hB⟩
          | true =>
            have HC := Lib.hid (hC.out.trans (cntG_go (f := f) Hg.out Hd.out (by rw [← Hk.out]; exact hmy)))
            have hkl := mayS_le hmy
            rw [hmy] at hmv
            have HM6 := Lib.hid (HM5.out.step (i + 1))
            have HM7 : Hid (MSt base hb s h (.slice A h.out.length cp) (i + 1) w (w4.setCell ⟨hb, 1, none⟩ (.int .i64 ((i : Int) + 1)))) := HM6
            have hpp := HM7.out.pos
            have Hpp := Lib.hid hpp
            clear hmy d2 d3 d4 d5 HM6 hpp
            go_wp2_with (go_at_call 38; refine (hmv _).out.mono ?_; rintro e w5 ⟨rfl, rfl⟩)
            go_roundw
            case rel => exact ⟨k, i + 1, f, rfl, by omega, by omega, by omega, by rw [Hk.out]; exact HC, HM7⟩
            case measure => rw [Hpp.out, Hp.out]; omega
        · have HC := Lib.hid (hC.out.trans (cntG_stop Hg.out hd))
          have hcn : c = 44 ∨ c ≠ 44 := Classical.em _
          by_cases h48 : c.toNat < 48
          · have h48a : ¬ (48 : Int) ≤ (c.toNat : Int) := by omega
            have h48b : decide (48 ≤ c.toNat) = false := by simp; omega
            have h48c : decide ((48 : Int) ≤ (c.toNat : Int)) = false := by simp; omega
            have h48d : ¬ 48 ≤ c.toNat := by omega
            clear d2 d3 d4 d5
            go_wp2
            go_quiet (fail)
            have HM3 := Lib.hid (hM.out.drewN nq)
            clear hM d0 d1 df
            generalize (World.drewN _ _) = w3 at *
            obtain ⟨d0, d1, d2, d3, d4, d5, df⟩ := HexA_facts HM3.out.blk
            simp only at d0 d1 d2 d3 d4 d5
            by_cases h44 : c = 44
            · have h44a : ((c.toNat : Int) != 44) = false := by rw [h44]; rfl
              have h44b : ((c.toNat : Int) == 44) = true := by rw [h44]; rfl
              by_cases hn4 : n ≤ 4
              · have hn4a : (n : Int) ≤ 4 := by omega
                have hn4b : decide (n ≤ 4) = true := by simpa using hn4
                clear d2 d3 d4 d5 h44
                go_wp2
                go_quiet (fail)
                go_wp2
                go_ret
                rw [Hms.out, HC.out, if_neg (by rintro ⟨_, _, h⟩; simp only at h; omega)]
                exact ⟨rfl, (HM3.out.drewN _).out h0 hB⟩
              · have H44 := Lib.hid h44
                obtain ⟨m, hm⟩ : ∃ m, n = m + 1 := ⟨n - 1, by omega⟩
                have hm4 : 4 ≤ m := by omega
                have hn4a : ¬ (n : Int) ≤ 4 := by omega
                have hn4b : decide (n ≤ 4) = false := by simp; omega
                have hnm : IntKind.i64.wrap (m : Int) = (m : Int) := by rw [IntKind.wrap_i64]; omega
                have hnm2 : (n : Int) - 1 = (m : Int) := by omega
                have Hm := Lib.hid hm
                have Hnm := Lib.hid hnm
                have Hnm2 := Lib.hid hnm2
                clear hm hnm hnm2 d2 d3 d4 d5 h44
                go_wp2
                go_quiet (fail)
                have HM5 := Lib.hid (HM3.out.drewN nq)
                clear HM3 d0 d1 df
                generalize (World.drewN _ _) = w4 at *
                obtain ⟨d0, d1, d2, d3, d4, d5, df⟩ := HexA_facts HM5.out.blk
                simp only at d0 d1 d2 d3 d4 d5
                have HM6 := Lib.hid (HM5.out.step (i + 1))
                have HM7 : Hid (MSt base hb s h (.slice A h.out.length cp) (i + 1) w (w4.setCell ⟨hb, 1, none⟩ (.int .i64 ((i : Int) + 1)))) := HM6
                clear HM6 d2 d3 d4 d5
                go_upto_region 15 with (fail)
                obtain ⟨w5, hw5⟩ : ∃ w5, w4.setCell ⟨hb, 1, none⟩ (.int .i64 ((i : Int) + 1)) = w5 := ⟨_, rfl⟩
                rw [hw5] at HM7 ⊢
                clear hw5 HM5 d0 d1 df
                have hnm := Hnm.out
                have hnm2 := Hnm2.out
                have hS15 : (w5.drew).cell? ⟨hb, 2, none⟩ = some (.slice A h.out.length cp) ∧ (w5.drew).cell? ⟨hb, 3, none⟩ = some (.int .u8 (h.last.toNat : Int)) := ⟨HM7.out.blk.drew.cell 2, HM7.out.blk.drew.cell 3⟩
                have HMa : Hid (Blk (w5.alloc (.cells #[.int .u8 (h.last.toNat : Int)] 5)).drew hb 51 (HexA s { h with pos := i + 1 } (.slice A h.out.length cp))) := Lib.hid (HM7.out.blk.alloc _).drew
                have HOa : Hid ((w5.alloc (.cells #[.int .u8 (h.last.toNat : Int)] 5)).drew.ownsRow base 5 1 (.slice A h.out.length cp) h.out.length (byteCells h.out)) := Lib.hid (ownsRow_keep HM7.out.own (((Keep.refl [] w5).alloc _).drew) (by simp))
                have hBk : Hid (Below base w (w5.alloc (.cells #[.int .u8 (h.last.toNat : Int)] 5)).drew) := Lib.hid (((HM7.out.keep.alloc _).drew).belowB hB (by simp; omega))
                have hrp := repeat_any w5.heap.size 0 1 m h.last (w5.alloc (.cells #[.int .u8 (h.last.toNat : Int)] 5)).drew (by omega) (by omega) (by omega) ((Blk.new w5 5 #[.int .u8 (h.last.toNat : Int)]).drew.cell 0)
                have Hrp := Lib.hid hrp
                clear hrp
                refine wp_region_G (fun W => W.cell? ⟨hb, 2, none⟩ = some (.slice A h.out.length cp) ∧ W.cell? ⟨hb, 3, none⟩ = some (.int .u8 (h.last.toNat : Int))) [16] #[false, false, false, false, false, false, false, false, false, false, false, false, false, false, false, false, false] 17 (by kernel_rfl) (by kernel_rfl) (by kernel_rfl) ?_
                refine wpAnyG_take0 (i := 0) (oi := { dst := some 118, op := Go.Op.move (Go.Operand.tmp 0), type := 49, pos := "script.go:128", after := #[], guard := none }) (v := ?vg1_0) rfl (by kernel_rfl) (by kernel_rfl) (by kernel_rfl) (by kernel_rfl) (fun _ _ _ h => h) (fun _ => hS15) (Or.inl ⟨by rfl, ?hg1_0⟩) ?_
                case hg1_0 => intro w _; go_simp; (try with_reducible rfl)
                try simp only [Act.put, List.setIfInBounds_toArray, List.set_cons_zero, List.set_cons_succ]
                refine wpAnyG_take0 (i := 1) (oi := { dst := some 119, op := Go.Op.move (Go.Operand.tmp 0), type := 49, pos := "script.go:128", after := #[], guard := none }) (v := ?vg1_1) rfl (by kernel_rfl) (by kernel_rfl) (by kernel_rfl) (by kernel_rfl) (fun _ _ _ h => h) (fun _ => hS15) (Or.inl ⟨by rfl, ?hg1_1⟩) ?_
                case hg1_1 => intro w _; go_simp; (try with_reducible rfl)
                try simp only [Act.put, List.setIfInBounds_toArray, List.set_cons_zero, List.set_cons_succ]
                refine wpAnyG_take0 (i := 2) (oi := { dst := some 120, op := Go.Op.nilCheck (Go.Operand.tmp 119), type := 0, pos := "script.go:128", after := #[{ on := 1, ground := Go.Ground.data }], guard := none }) (v := ?vg1_2) rfl (by kernel_rfl) (by kernel_rfl) (by kernel_rfl) (by kernel_rfl) (fun _ _ _ h => h) (fun _ => hS15) (Or.inl ⟨by rfl, ?hg1_2⟩) ?_
                case hg1_2 => intro w _; go_simp; (try with_reducible rfl)
                try simp only [Act.put, List.setIfInBounds_toArray, List.set_cons_zero, List.set_cons_succ]
                refine wpAnyG_take0 (i := 3) (oi := { dst := some 121, op := Go.Op.fieldAddr 51 (Go.Operand.tmp 120) 2, type := 0, pos := "script.go:128", after := #[{ on := 2, ground := Go.Ground.data }], guard := none }) (v := ?vg1_3) rfl (by kernel_rfl) (by kernel_rfl) (by kernel_rfl) (by kernel_rfl) (fun _ _ _ h => h) (fun _ => hS15) (Or.inl ⟨by rfl, ?hg1_3⟩) ?_
                case hg1_3 => intro w _; go_simp; (try with_reducible rfl)
                try simp only [Act.put, List.setIfInBounds_toArray, List.set_cons_zero, List.set_cons_succ]
                refine wpAnyG_take (i := 4) (oi := { dst := some 122, op := Go.Op.load 22 (Go.Operand.tmp 121), type := 22, pos := "script.go:128", after := #[{ on := 3, ground := Go.Ground.data }], guard := none }) (v := ?vg1_4) [4, 13, 14, 15, 16] rfl (by kernel_rfl) (by kernel_rfl) (by kernel_rfl) (by kernel_rfl) (by kernel_rfl) (fun _ _ _ h => h) (fun _ => hS15) (Or.inl ⟨by rfl, ?hg1_4⟩) ?_
                case hg1_4 => intro w hSw; (try dsimp only at hSw); go_simp; (try with_reducible rfl)
                try simp only [Act.put, List.setIfInBounds_toArray, List.set_cons_zero, List.set_cons_succ]
                refine wpAnyG_take0 (i := 5) (oi := { dst := some 123, op := Go.Op.move (Go.Operand.tmp 0), type := 49, pos := "script.go:128", after := #[], guard := none }) (v := ?vg1_5) rfl (by kernel_rfl) (by kernel_rfl) (by kernel_rfl) (by kernel_rfl) (fun _ _ _ h => h) (fun _ => hS15) (Or.inl ⟨by rfl, ?hg1_5⟩) ?_
                case hg1_5 => intro w _; go_simp; (try with_reducible rfl)
                try simp only [Act.put, List.setIfInBounds_toArray, List.set_cons_zero, List.set_cons_succ]
                refine wpAnyG_take0 (i := 6) (oi := { dst := some 124, op := Go.Op.nilCheck (Go.Operand.tmp 123), type := 0, pos := "script.go:128", after := #[{ on := 5, ground := Go.Ground.data }], guard := none }) (v := ?vg1_6) rfl (by kernel_rfl) (by kernel_rfl) (by kernel_rfl) (by kernel_rfl) (fun _ _ _ h => h) (fun _ => hS15) (Or.inl ⟨by rfl, ?hg1_6⟩) ?_
                case hg1_6 => intro w _; go_simp; (try with_reducible rfl)
                try simp only [Act.put, List.setIfInBounds_toArray, List.set_cons_zero, List.set_cons_succ]
                refine wpAnyG_take0 (i := 7) (oi := { dst := some 125, op := Go.Op.fieldAddr 51 (Go.Operand.tmp 124) 3, type := 0, pos := "script.go:128", after := #[{ on := 6, ground := Go.Ground.data }], guard := none }) (v := ?vg1_7) rfl (by kernel_rfl) (by kernel_rfl) (by kernel_rfl) (by kernel_rfl) (fun _ _ _ h => h) (fun _ => hS15) (Or.inl ⟨by rfl, ?hg1_7⟩) ?_
                case hg1_7 => intro w _; go_simp; (try with_reducible rfl)
                try simp only [Act.put, List.setIfInBounds_toArray, List.set_cons_zero, List.set_cons_succ]
                refine wpAnyG_take (i := 8) (oi := { dst := some 126, op := Go.Op.load 5 (Go.Operand.tmp 125), type := 5, pos := "script.go:128", after := #[{ on := 7, ground := Go.Ground.data }], guard := none }) (v := ?vg1_8) [8, 9, 12, 13, 14, 15, 16] rfl (by kernel_rfl) (by kernel_rfl) (by kernel_rfl) (by kernel_rfl) (by kernel_rfl) (fun _ _ _ h => h) (fun _ => hS15) (Or.inl ⟨by rfl, ?hg1_8⟩) ?_
                case hg1_8 => intro w hSw; (try dsimp only at hSw); go_simp; (try with_reducible rfl)
                try simp only [Act.put, List.setIfInBounds_toArray, List.set_cons_zero, List.set_cons_succ]
                refine wpAnyG_take0 (i := 10) (oi := { dst := some 128, op := Go.Op.move (Go.Operand.tmp 4), type := 3, pos := "script.go:128", after := #[], guard := none }) (v := ?vg1_10) rfl (by kernel_rfl) (by kernel_rfl) (by kernel_rfl) (by kernel_rfl) (fun _ _ _ h => h) (fun _ => hS15) (Or.inl ⟨by rfl, ?hg1_10⟩) ?_
                case hg1_10 => intro w _; go_simp; (try with_reducible rfl)
                try simp only [Act.put, List.setIfInBounds_toArray, List.set_cons_zero, List.set_cons_succ]
                refine wpAnyG_take0 (i := 11) (oi := { dst := some 129, op := Go.Op.binOp Go.BinOp.sub 3 (Go.Operand.tmp 128) (Go.Operand.const (Go.Value.int Go.IntKind.i64 1)) 3, type := 3, pos := "script.go:128", after := #[{ on := 10, ground := Go.Ground.data }], guard := none }) (v := ?vg1_11) rfl (by kernel_rfl) (by kernel_rfl) (by kernel_rfl) (by kernel_rfl) (fun _ _ _ h => h) (fun _ => hS15) (Or.inl ⟨by rfl, ?hg1_11⟩) ?_
                case hg1_11 => intro w _; go_simp; (try with_reducible rfl)
                try simp only [Act.put, List.setIfInBounds_toArray, List.set_cons_zero, List.set_cons_succ]
                refine wpAnyG_step (i := 9) (oi := { dst := some 127, op := Go.Op.buildSlice 22 1 #[(0, Go.Operand.tmp 126)], type := 22, pos := "script.go:128", after := #[{ on := 8, ground := Go.Ground.data }], guard := none }) rfl (by kernel_rfl) (by rfl) (fun K hK => ?_)
                go_simp
                refine hK _ _ ?_ (fun hSg1_9 => ?_)
                · intro _; exact ⟨HMa.out.cell 2, HMa.out.cell 3⟩
                replace hSg1_9 := hSg1_9 (by kernel_rfl)
                clear hK
                try simp only [Act.put, List.setIfInBounds_toArray, List.set_cons_zero, List.set_cons_succ]
                refine wpAnyG_step (i := 12) (oi := { dst := some 130, op := Go.Op.call { callee := Go.Callee.value (Go.Operand.func 39), args := #[Go.Operand.tmp 127, Go.Operand.tmp 129], argTypes := #[22, 3] }, type := 22, pos := "script.go:128", after := #[{ on := 9, ground := Go.Ground.data }, { on := 11, ground := Go.Ground.data }], guard := none }) rfl (by kernel_rfl) (by rfl) (fun K hK => ?_)
                go_simp
                go_at_call 39
                refine Hrp.out.mono ?_
                rintro e w6 ⟨g', rfl, hg', hk6, hcl⟩
                obtain ⟨A', n', c', w7, hrun, g2, g3, g5, gf, hh, hbb⟩ := hexApp h0 (HMa.out.keep hk6 (by simp)) (ownsRow_keep HOa.out hk6 (by simp)) (Nat.le_trans hB (hBk.out.trans (hk6.belowB (Nat.le_trans hB hBk.out.size) (by simp))).size) (some ⟨g', 0, none⟩) m m (List.replicate m h.last) (src_repl hcl) (by simp; omega)
                have HX := Lib.hid (And.intro hh ((hBk.out.trans (hk6.belowB (Nat.le_trans hB hBk.out.size) (by simp))).trans hbb))
                have hcs : w6.cell? ⟨hb, 2, none⟩ = some (.slice A h.out.length cp) ∧ w6.cell? ⟨hb, 3, none⟩ = some (.int .u8 (h.last.toNat : Int)) := ⟨(HMa.out.keep hk6 (by simp)).cell 2, (HMa.out.keep hk6 (by simp)).cell 3⟩
                clear hh hbb hcl hk6 hg'
                dsimp only
                refine hK _ _ ?_ (fun hSg1_12 => ?_)
                · intro _; exact hcs
                replace hSg1_12 := hSg1_12 (by kernel_rfl)
                clear hK
                try simp only [Act.put, List.setIfInBounds_toArray, List.set_cons_zero, List.set_cons_succ]
                refine wpAnyG_step (i := 13) (oi := { dst := some 131, op := Go.Op.call { callee := Go.Callee.builtin Go.Builtin.append, args := #[Go.Operand.tmp 122, Go.Operand.tmp 130], argTypes := #[22, 22] }, type := 22, pos := "script.go:128", after := #[{ on := 4, ground := Go.Ground.data }, { on := 12, ground := Go.Ground.data }, { on := 12, ground := Go.Ground.chain }], guard := none }) rfl (by kernel_rfl) (by rfl) (fun K hK => ?_)
                refine wp_append2 (.tmp 122) (.tmp 130) rfl rfl rfl hrun ?_
                refine hK _ _ ?_ (fun hSg1_13 => ?_)
                · intro _; exact ⟨g2, g3⟩
                replace hSg1_13 := hSg1_13 (by kernel_rfl)
                clear hK
                try simp only [Act.put, List.setIfInBounds_toArray, List.set_cons_zero, List.set_cons_succ]
                refine wpAnyG_take0 (i := 14) (oi := { dst := some 132, op := Go.Op.nilCheck (Go.Operand.tmp 118), type := 0, pos := "script.go:128", after := #[{ on := 0, ground := Go.Ground.data }, { on := 0, ground := Go.Ground.phase }, { on := 1, ground := Go.Ground.phase }, { on := 2, ground := Go.Ground.phase }, { on := 3, ground := Go.Ground.phase }, { on := 4, ground := Go.Ground.phase }, { on := 5, ground := Go.Ground.phase }, { on := 6, ground := Go.Ground.phase }, { on := 7, ground := Go.Ground.phase }, { on := 8, ground := Go.Ground.phase }, { on := 9, ground := Go.Ground.phase }, { on := 10, ground := Go.Ground.phase }, { on := 11, ground := Go.Ground.phase }, { on := 12, ground := Go.Ground.phase }, { on := 13, ground := Go.Ground.phase }], guard := none }) (v := ?vg1_14) rfl (by kernel_rfl) (by kernel_rfl) (by kernel_rfl) (by kernel_rfl) (fun _ _ _ h => h) (fun _ => hSg1_13) (Or.inl ⟨by rfl, ?hg1_14⟩) ?_
                case hg1_14 => intro w _; go_simp; (try with_reducible rfl)
                try simp only [Act.put, List.setIfInBounds_toArray, List.set_cons_zero, List.set_cons_succ]
                refine wpAnyG_take0 (i := 15) (oi := { dst := some 133, op := Go.Op.fieldAddr 51 (Go.Operand.tmp 132) 2, type := 0, pos := "script.go:128", after := #[{ on := 14, ground := Go.Ground.data }, { on := 0, ground := Go.Ground.phase }, { on := 1, ground := Go.Ground.phase }, { on := 2, ground := Go.Ground.phase }, { on := 3, ground := Go.Ground.phase }, { on := 4, ground := Go.Ground.phase }, { on := 5, ground := Go.Ground.phase }, { on := 6, ground := Go.Ground.phase }, { on := 7, ground := Go.Ground.phase }, { on := 8, ground := Go.Ground.phase }, { on := 9, ground := Go.Ground.phase }, { on := 10, ground := Go.Ground.phase }, { on := 11, ground := Go.Ground.phase }, { on := 12, ground := Go.Ground.phase }, { on := 13, ground := Go.Ground.phase }], guard := none }) (v := ?vg1_15) rfl (by kernel_rfl) (by kernel_rfl) (by kernel_rfl) (by kernel_rfl) (fun _ _ _ h => h) (fun _ => hSg1_13) (Or.inl ⟨by rfl, ?hg1_15⟩) ?_
                case hg1_15 => intro w _; go_simp; (try with_reducible rfl)
                try simp only [Act.put, List.setIfInBounds_toArray, List.set_cons_zero, List.set_cons_succ]
                refine wpAnyG_step (i := 16) (oi := { dst := none, op := Go.Op.store 22 (Go.Operand.tmp 133) (Go.Operand.tmp 131), type := 0, pos := "script.go:128", after := #[{ on := 15, ground := Go.Ground.data }, { on := 13, ground := Go.Ground.data }, { on := 13, ground := Go.Ground.chain }, { on := 0, ground := Go.Ground.phase }, { on := 1, ground := Go.Ground.phase }, { on := 2, ground := Go.Ground.phase }, { on := 3, ground := Go.Ground.phase }, { on := 4, ground := Go.Ground.phase }, { on := 5, ground := Go.Ground.phase }, { on := 6, ground := Go.Ground.phase }, { on := 7, ground := Go.Ground.phase }, { on := 8, ground := Go.Ground.phase }, { on := 9, ground := Go.Ground.phase }, { on := 10, ground := Go.Ground.phase }, { on := 11, ground := Go.Ground.phase }, { on := 12, ground := Go.Ground.phase }, { on := 13, ground := Go.Ground.phase }], guard := none }) rfl (by kernel_rfl) (by rfl) (fun K hK => ?_)
                go_simp
                refine hK _ _ (fun h => absurd h (Bool.eq_false_iff.1 (by kernel_rfl))) (fun _ => ?_)
                clear hK
                try simp only [Act.put, List.setIfInBounds_toArray, List.set_cons_zero, List.set_cons_succ]
                refine wpAnyG_done (by kernel_rfl) ?_ _
                go_wp2
                go_ret
                rw [Hms.out, HC.out, if_pos ⟨rfl, by rw [Hg.out, H44.out], show 4 < n by have := Hm.out; omega⟩]
                refine ⟨rfl, ?_⟩
                have hfin := HX.out
                have e : (i, n).1 + 1 = i + 1 := rfl
                obtain ⟨⟨_, v8, hb8, ho8⟩, hbl8⟩ := hfin
                have hb9 := hexA_set5 s _ v8 true ▸ hb8.set_ 5 (.bool true)
                refine ⟨⟨h0, v8, ?_, ?_⟩, hbl8.setCell (p := ⟨hb, 5, none⟩) h0 _⟩
                · rw [show n - 1 = m by have := Hm.out; omega]
                  exact hb9
                · rw [show n - 1 = m by have := Hm.out; omega]
                  exact ownsRow_keep ho8 ((Keep.refl [hb] _).setCell (.inl (by simp)) _) (fun g hg hm => by
                    simp only [List.mem_cons, List.not_mem_nil, or_false] at hm
                    subst hm
                    exact own_ne_blk ho8 hb8 (by decide) hg)
            · have h44n : c.toNat ≠ 44 := fun e => h44 (UInt8.toNat_inj.1 e)
              have h44a : ((c.toNat : Int) != 44) = true := by simp; omega
              have h44b : ((c.toNat : Int) == 44) = false := by rw [beq_eq_false_iff_ne]; omega
              have h44c : (c.toNat == 44) = false := by simpa using h44n
              have H44 := Lib.hid h44
              clear d2 d3 d4 d5 h44 h44n
              go_wp2
              go_quiet (fail)
              go_wp2
              go_ret
              rw [Hms.out, HC.out, if_neg (by rintro ⟨_, h, _⟩; simp only [Hg.out, Option.some.injEq] at h; exact H44.out h)]
              exact ⟨rfl, (HM3.out.drewN _).out h0 hB⟩
          · have h48a : (48 : Int) ≤ (c.toNat : Int) := by omega
            have h48b : decide (48 ≤ c.toNat) = true := by simp; omega
            have h57a : ¬ (c.toNat : Int) ≤ 57 := by omega
            have h57b : decide (c.toNat ≤ 57) = false := by simp; omega
            clear d2 d3 d4 d5
            go_wp2
            go_quiet (fail)
            have HM3 := Lib.hid (hM.out.drewN nq)
            clear hM d0 d1 df
            generalize (World.drewN _ _) = w3 at *
            obtain ⟨d0, d1, d2, d3, d4, d5, df⟩ := HexA_facts HM3.out.blk
            simp only at d0 d1 d2 d3 d4 d5
            have h44n : c.toNat ≠ 44 := by omega
            have h44a : ((c.toNat : Int) != 44) = true := by simp; omega
            have h44b : ((c.toNat : Int) == 44) = false := by rw [beq_eq_false_iff_ne]; omega
            have h44c : (c.toNat == 44) = false := by simpa using h44n
            have H44 := Lib.hid h44n
            clear d2 d3 d4 d5 h44n
            go_wp2
            go_quiet (fail)
            go_wp2
            go_ret
            rw [Hms.out, HC.out, if_neg (by rintro ⟨_, h, _⟩; simp only [Hg.out, Option.some.injEq] at h; exact H44.out (by rw [h]; rfl))]
            exact ⟨rfl, (HM3.out.drewN _).out h0 hB⟩
      · obtain rfl : i = s.length := by omega
        have hil : ¬ (s.length : Int) < (s.length : Int) := by omega
        have hil2 : decide (s.length < s.length) = false := by simp
        have hil3 : decide (s.length ≤ s.length) = true := by simp
        have HC := Lib.hid (hC.out.trans (cntG_end (s := s) (i := s.length) (by simp)))
        clear d2 d3 d4 d5
        go_wp2
        go_quiet (fail)
        have HM3 := Lib.hid (hM.out.drewN nq)
        clear hM d0 d1 df
        generalize (World.drewN _ _) = w3 at *
        obtain ⟨d0, d1, d2, d3, d4, d5, df⟩ := HexA_facts HM3.out.blk
        simp only at d0 d1 d2 d3 d4 d5
        clear d2 d3 d4 d5
        go_wp2
        go_quiet (fail)
        go_wp2
        go_ret
        rw [Hms.out, HC.out, if_neg (by rintro ⟨_, h, _⟩; simp at h)]
        exact ⟨rfl, (HM3.out.drewN _).out h0 hB⟩
end Go.Proofs.YtopfbbnpbobhaaaDoor
