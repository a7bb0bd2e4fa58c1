/- The reference's Unhex. -/
import Derived.Test.YtopfbbnpbobhaaaDoorQ1
import Derived.Deep.CutBlock
import Derived.Deep.DeepCutAuto
set_option linter.unusedVariables false
set_option linter.unusedSimpArgs false
namespace Go.Proofs.YtopfbbnpbobhaaaDoor
open Go.RowKit Go.Sal

/-- the row in memory: a slice of the call's own -/
def OwnB (base : Nat) (A : Option Addr) (c : Nat) (b : List UInt8) (w : World) : Prop := w.ownsRow base 5 1 (.slice A b.length c) b.length (byteCells b)
/-- append of one byte onto an owned row -/
theorem ownPush {base : Nat} {A : Option Addr} {cp : Nat} {b : List UInt8} {w : World} (h : OwnB base A cp b w) (hB : base ≤ w.heap.size) (c : UInt8) (hl : b.length ≤ 10000000) :
    ∃ A' c' w7, (Builtin.append_ #[22, 22] 22 #[.slice A b.length cp, .slice (some ⟨w.heap.size, 0, none⟩) 1 1]).run Tryd.prog (w.alloc (.cells #[.int .u8 (c.toNat : Int)] 5)) = .ok (.slice A' (b.length + 1) c') w7 ∧ Hid (OwnB base A' c' (b ++ [c]) w7) ∧ Hid (Below base w w7) := by
  obtain ⟨v', w7, hrun, hown, hgr, hor⟩ := run_append_src (P := Tryd.prog) (w.alloc (.cells #[.int .u8 (c.toNat : Int)] 5)) 22 22 5 (.int .u8 0) 1 1 base Tryd.underlying22 info5 rfl (by decide) (.slice A b.length cp) b.length (byteCells b) (World.ownsRow.alloc h _) (some ⟨w.heap.size, 0, none⟩) 1 1 (byteCells [c]) (src_new w 5 1 [.int .u8 (c.toNat : Int)] rfl) (byteCells_one [c]) (by unfold maxLen; omega) (by omega) (by simp; omega)
  obtain ⟨A', c', rfl⟩ : ∃ A' c', v' = .slice A' (b.length + 1) c' := by
    rcases hown.2 with ⟨rfl, h1⟩ | ⟨g, cap, cur, rfl, _⟩
    · omega
    · exact ⟨_, _, rfl⟩
  refine ⟨A', c', w7, hrun, Lib.hid ?_, Lib.hid ?_⟩
  · unfold OwnB
    have e : byteCells (b ++ [c]) = byteCells b ++ byteCells [c] := by simp [byteCells]
    rw [e, List.length_append]
    exact hown
  · exact ((Below.refl base w).alloc hB _).grown hgr (by simp; omega) (fun g hg => (World.ownsRow.lt h g hg).1)
theorem OwnB.nil (base : Nat) (w : World) : OwnB base none 0 [] w := by simpa [OwnB, byteCells] using World.ownsRow_nil w base 5 1
theorem OwnB.drewN {base : Nat} {A : Option Addr} {cp : Nat} {b : List UInt8} {w : World} (h : OwnB base A cp b w) (n : Nat) : OwnB base A cp b (w.drewN n) := ownsRow_keep h ((Keep.refl [] w).drewN n) (by simp)
theorem OwnB.last {base : Nat} {A : Option Addr} {cp : Nat} {b : List UInt8} {w : World} (h : OwnB base A cp b w) (hb : b ≠ []) : ∃ g, A = some ⟨g, 0, none⟩ ∧ w.cell? ⟨g, b.length - 1, none⟩ = some (.int .u8 ((b.getLast?.getD 0).toNat : Int)) := by
  have hp : 0 < b.length := List.length_pos_iff.2 hb
  obtain ⟨g, rfl, _, _⟩ := own_some h hp
  refine ⟨g, rfl, (ownsRow_cell h ?_).1⟩
  rw [List.getLast?_eq_some_getLast hb]
  simp only [byteCells, List.getElem?_map, Option.getD_some]
  rw [List.getElem?_eq_getElem (by omega), List.getLast_eq_getElem]
  rfl
theorem ex_drop (s : List UInt8) (k : Nat) : (⟨s.toArray⟩ : ByteArray).extract k s.length = ⟨(s.drop k).toArray⟩ := by
  apply ByteArray.ext
  rw [ByteArray.data_extract]
  simp [List.extract_eq_take_drop]
  rw [List.take_of_length_le (by simp)]
/-- one step of the reader -/
theorem unR_star1 {s : List UInt8} {g i run : Nat} {b : List UInt8} {cl : Bool} {c : UInt8} (h : s[i]? = some c) (hc : c = 42 ∧ run = 1 ∧ cl = false ∧ 4 ≤ MF - b.length) :
    unR s (g + 1) i b run cl = if (cntR (MF - b.length + 1) (s.drop (i + 1)) 0 0).2.2 = true then unR s g (i + 1 + (cntR (MF - b.length + 1) (s.drop (i + 1)) 0 0).2.1) (b ++ List.replicate ((cntR (MF - b.length + 1) (s.drop (i + 1)) 0 0).1 - 1) (b.getLast?.getD 0)) run true
      else .bad (i + 1 + (cntR (MF - b.length + 1) (s.drop (i + 1)) 0 0).2.1) := by
  rw [unR]
  simp only [h]
  rw [if_pos hc]
theorem unR_byte {s : List UInt8} {g i run : Nat} {b : List UInt8} {cl : Bool} {c : UInt8} (h : s[i]? = some c) (hc : ¬ (c = 42 ∧ run = 1 ∧ cl = false ∧ 4 ≤ MF - b.length)) :
    unR s (g + 1) i b run cl = if dg16 c < 0 ∨ MF ≤ b.length then .bad i
      else if digA s (i + 1) < 0 then .bad (i + 1)
      else if b.getLast? = some (byteOf (dg16 c) (digA s (i + 1))) ∧ (cl = true ∨ run = 4) then .bad (i + 1)
      else unR s g (i + 2) (b ++ [byteOf (dg16 c) (digA s (i + 1))]) (if b.getLast? = some (byteOf (dg16 c) (digA s (i + 1))) then run + 1 else 1) false := by
  have hd : digA s i = dg16 c := by simp [digA, h]
  rw [unR]
  simp only [h]
  rw [if_neg hc, hd]
theorem UnRes.bad {w w' : World} {i : Nat} (h : Below w.heap.size w w') : UnRes w (.bad i) (.returned (.tuple #[.slice none 0 0, .int .i64 (i : Int), .int .i64 250])) w' := ⟨h, rfl⟩
theorem uhS_R {s : List UInt8} (h : s[0]? ≠ some 46) (hne : s ≠ []) : uhS s = unR s (s.length + 2) 0 [] 0 false := by
  rw [uhS_long h]
  have hp : 0 < s.length := List.length_pos_iff.2 hne
  exact unG_eq s (s.length + 1) (s.length + 2) hs0 (HInv0 s) hp (fun _ h => by simp [hs0] at h) (by simp [hs0]) (by simp [hs0])
theorem unR_end {s : List UInt8} {g i : Nat} {b : List UInt8} {run : Nat} {cl : Bool} (h : s[i]? = none) : unR s (g + 1) i b run cl = .ok b := by rw [unR, h]
theorem cntR_bd (most : Nat) : ∀ (t : List UInt8) (n i : Nat), ((cntR most t n i).1 ≤ most ∨ (cntR most t n i).1 = n) ∧ (cntR most t n i).2.1 ≤ i + t.length ∧ ((cntR most t n i).2.2 = true → 5 ≤ (cntR most t n i).1)
  | [], n, i => by simp [cntR]
  | c :: t, n, i => by
    unfold cntR
    split
    · rename_i h
      simp
      omega
    split
    · simp
    split
    · simp
    rename_i h3
    have ih := cntR_bd most t (n * 10 + (c.toNat - 48)) (i + 1)
    refine ⟨?_, by simp only [List.length_cons]; omega, ih.2.2⟩
    rcases ih.1 with h | h
    · exact .inl h
    · left; omega
theorem last_repl (b : List UInt8) (hb : b ≠ []) (j : Nat) : (b ++ List.replicate j (b.getLast?.getD 0)).getLast?.getD 0 = b.getLast?.getD 0 := by
  cases j with
  | zero => simp
  | succ j =>
    rw [List.getLast?_append, List.getLast?_replicate, if_neg (by omega)]
    rfl
/-- the inner loop's word -/
structure RIn (base : Nat) (w : World) (b : List UInt8) (L : UInt8) (A : Option Addr) (m c k : Nat) (wx : World) : Prop where
  len : m = b.length + (k - 1)
  own : OwnB base A c (b ++ List.replicate (k - 1) L) wx
  below : Below base w wx
theorem RIn.slen {base : Nat} {w : World} {b : List UInt8} {L : UInt8} {A : Option Addr} {m c k : Nat} {wx : World} (h : RIn base w b L A m c k wx) : (b ++ List.replicate (k - 1) L).length = m := by
  rw [h.len]; simp
theorem RIn.step {base : Nat} {w : World} {b : List UInt8} {A : Option Addr} {m c k : Nat} {wx : World} (h : RIn base w b (b.getLast?.getD 0) A m c k wx) (hb : b ≠ []) (hk : 1 ≤ k) (hB : base ≤ w.heap.size) (hm : m ≤ 10000000) :
    ∃ g M A' c' w7, A = some ⟨g, 0, none⟩ ∧ m = M + 1 ∧ wx.cell? ⟨g, M, none⟩ = some (.int .u8 ((b.getLast?.getD 0).toNat : Int)) ∧
      (Builtin.append_ #[22, 22] 22 #[.slice A m c, .slice (some ⟨wx.heap.size, 0, none⟩) 1 1]).run Tryd.prog (wx.alloc (.cells #[.int .u8 ((b.getLast?.getD 0).toNat : Int)] 5)) = .ok (.slice A' (m + 1) c') w7 ∧ Hid (RIn base w b (b.getLast?.getD 0) A' (m + 1) c' (k + 1) w7) := by
  have hsl := h.slen
  obtain ⟨g, hA, hc⟩ := h.own.last (by simp [hb])
  rw [last_repl b hb, hsl] at hc
  obtain ⟨A', c', w7, h1, h2, h3⟩ := ownPush h.own (Nat.le_trans hB h.below.size) (b.getLast?.getD 0) (by omega)
  rw [hsl] at h1
  have hbp : 0 < b.length := List.length_pos_iff.2 hb
  have hl := h.len
  refine ⟨g, m - 1, A', c', w7, hA, by omega, hc, h1, Lib.hid ⟨by omega, ?_, h.below.trans h3.out⟩⟩
  have e : List.replicate (k + 1 - 1) (b.getLast?.getD 0) = List.replicate (k - 1) (b.getLast?.getD 0) ++ [b.getLast?.getD 0] := by
    rw [show k + 1 - 1 = (k - 1) + 1 by omega, List.replicate_succ']
  rw [e, ← List.append_assoc]
  exact h2.out
theorem rdigit_q (c : UInt8) (w : World) : Calls Tryd.prog 19 #[.int .u8 (c.toNat : Int)] w fun e w' => e = .returned (.int .i64 (dg16 c)) ∧ w' = w := (rdigit_any c w).mono fun _ _ ⟨h1, h2⟩ => ⟨h1, h2.symm⟩
set_option maxRecDepth 200000 in
set_option maxHeartbeats 8000000 in
theorem runhex_any (s : List UInt8) (w : World) (hs : s.length ≤ 1000) : Calls Tryd.prog 8 #[.string ⟨s.toArray⟩] w fun e w' => UnRes w (uhS s) e w' := by
  have hlen : (s.length : Int) ≤ 1000 := by omega
  by_cases h1 : s = [46]
  · have h1b : (s == [46]) = true := by simp [h1]
    have e : uhS s = .ok [] := by unfold uhS; rw [if_pos h1]
    rw [e]
    clear h1 e
    go_enter Tryd.func8, Tryd.ntmps8
    go_wp2
    go_ret3
    exact ⟨Below.refl _ _, none, 0, rfl, OwnB.nil _ _⟩
  · have h1b : (s == [46]) = false := by simpa using h1
    by_cases h0 : s = []
    · have h0b : s.isEmpty = true := by simp [h0]
      have h0c : (s == []) = true := by simp [h0]
      have e : uhS s = .bad 0 := by subst h0; rfl
      rw [e]
      have hl0 : (s.length : Int) = 0 := by simp [h0]
      clear h0 e h1
      go_enter Tryd.func8, Tryd.ntmps8
      go_wp2
      go_ret3
      exact ⟨Below.refl _ _, rfl⟩
    · have h0b : s.isEmpty = false := by simp [h0]
      have h0c : (s == []) = false := by simp [h0]
      have hp : 0 < s.length := List.length_pos_iff.2 h0
      have hp' : (0 : Int) < (s.length : Int) := by omega
      have hix0 : ∀ W, (Instr.index 9 (.string ⟨s.toArray⟩) (.int .i64 0)).run Tryd.prog W = .ok (.int .u8 (s[0].toNat : Int)) W := fun W => str_at s 0 hp W
      have hg0 : s[0]? = some s[0] := by simp [hp]
      have Hg0 := Lib.hid hg0
      clear hg0
      generalize s[0] = c0 at *
      by_cases hdot : c0 = 46
      · have hda : ((c0.toNat : Int) == 46) = true := by rw [hdot]; rfl
        have hdb : (c0.toNat == 46) = true := by rw [hdot]; rfl
        have e : uhS s = .bad 1 := by unfold uhS; rw [if_neg h1, if_pos (by rw [Hg0.out, hdot])]
        have hmin : min (s.length : Int) 1 = 1 := by omega
        have hmin2 : ¬ (s.length : Int) ≤ 0 := by omega
        rw [e]
        clear h0 e h1 hdot
        go_enter Tryd.func8, Tryd.ntmps8
        go_wp2
        go_ret3
        exact ⟨Below.refl _ _, rfl⟩
      · have hdn : c0.toNat ≠ 46 := fun e => hdot (UInt8.toNat_inj.1 e)
        have hda : ((c0.toNat : Int) == 46) = false := by rw [beq_eq_false_iff_ne]; omega
        have hdb : (c0.toNat == 46) = false := by simpa using hdn
        have HU := Lib.hid (uhS_R (s := s) (by rw [Hg0.out]; simpa using hdot) h0)
        have hOw : Hid (OwnB w.heap.size none 0 [] w) := Lib.hid (OwnB.nil _ _)
        have hBw : Hid (Below w.heap.size w w) := Lib.hid (Below.refl _ _)
        clear h0 h1 hdot hdn
        go_enter Tryd.func8, Tryd.ntmps8
        go_wp2
        clear hix0 hda hdb
        go_loopw [5, 6, 7, 8] (fun v5 v6 v7 v8 wr => ∃ (A : Option Addr) (cp : Nat) (b : List UInt8) (run : Nat) (cl : Bool) (i g : Nat), v5 = .slice A b.length cp ∧ v6 = .int .i64 run ∧ v7 = .bool cl ∧ v8 = .int .i64 i ∧ i ≤ s.length ∧ s.length - i < g ∧ run ≤ 4 ∧ b.length ≤ 1048576 ∧ (0 < run → b ≠ []) ∧
          Hid (OwnB w.heap.size A cp b wr) ∧ Hid (Below w.heap.size w wr) ∧ Hid (uhS s = unR s g i b run cl)) (fun _ _ _ v8 _ => s.length - (intOf v8).toNat)
        case atStart => exact ⟨none, 0, [], 0, false, 0, s.length + 2, rfl, rfl, rfl, rfl, by omega, by omega, by omega, by simp, by simp, hOw, hBw, HU⟩
        case round =>
          obtain ⟨A, cp, b, run, cl, i, g, rfl, rfl, rfl, rfl, hi, hg, hrun, hbl, hrb, hO, hB, hR⟩ := hrel
          obtain ⟨g, rfl⟩ : ∃ g', g = g' + 1 := ⟨g - 1, by omega⟩
          have hi' : (i : Int) ≤ 1000 := by omega
          have hbl' : (b.length : Int) ≤ 1048576 := by omega
          have hrun' : (run : Int) ≤ 4 := by omega
          rcases Nat.lt_or_ge i s.length with hlt | hge
          · have hil : (i : Int) < (s.length : Int) := by omega
            have hix := str_at s i hlt
            have hgt : s[i]? = some s[i] := by simp [hlt]
            have Hg := Lib.hid hgt
            have hdA : digA s i = dg16 s[i] := by simp [digA, hlt]
            clear hgt hdA
            generalize s[i] = c at *
            have hw1 : IntKind.i64.wrap ((i : Int) + 1) = (i : Int) + 1 := by rw [IntKind.wrap_i64]; omega
            by_cases hstar : c = 42 ∧ run = 1 ∧ cl = false ∧ 4 ≤ MF - b.length
            · obtain ⟨h42, hr1, rfl, hmf⟩ := hstar
              have hbne : b ≠ [] := hrb (by omega)
              have hR2 := hR.out.trans (unR_star1 Hg.out ⟨h42, hr1, rfl, hmf⟩)
              have h42a : ((c.toNat : Int) == 42) = true := by rw [h42]; rfl
              have h42b : (c.toNat == 42) = true := by rw [h42]; rfl
              have hr1a : ((run : Int) == 1) = true := by rw [hr1]; rfl
              have hr1b : (run == 1) = true := by rw [hr1]; rfl
              have hmfa : (4 : Int) ≤ 1048576 - (b.length : Int) := by unfold MF at hmf; omega
              obtain ⟨mo, hmo⟩ : ∃ mo : Nat, mo = MF - b.length + 1 := ⟨_, rfl⟩
              have hmoi : 1048576 - (b.length : Int) + 1 = (mo : Int) := by rw [hmo]; unfold MF at hmf ⊢; omega
              have hmob : mo ≤ 1048577 := by rw [hmo]; unfold MF; omega
              have hmol : mo + b.length ≤ 1048577 := by rw [hmo]; unfold MF at hmf ⊢; omega
              rw [← hmo] at hR2
              have hcb := cntR_bd mo (s.drop (i + 1)) 0 0
              have hcc := fun W => rcount_any (s.drop (i + 1)) mo W (by simp; omega) hmob
              obtain ⟨⟨n, u, ok⟩, hr⟩ : ∃ r, cntR mo (s.drop (i + 1)) 0 0 = r := ⟨_, rfl⟩
              simp only [hr, CntV] at hR2 hcb hcc
              obtain ⟨hn1, hu1, hok⟩ := hcb
              have hdl : (s.drop (i + 1)).length = s.length - (i + 1) := by simp
              rw [hdl] at hu1
              have hexd := ex_drop s (i + 1)
              have Hexd := Lib.hid hexd
              have Hmoi := Lib.hid hmoi
              have Hcc := Lib.hid hcc
              have HR := Lib.hid hR2
              have Hbne := Lib.hid hbne
              clear hR hR2 hr hcc hdl hexd hmo hmoi h42 hr1 hbne hrb
              have hu1' : (u : Int) ≤ 1000 := by omega
              cases ok with
              | false =>
                have HX := Lib.hid (HR.out.trans (if_neg (by decide)))
                clear HR hok
                go_wp2_with (go_at_call 18; rw [Hexd.out, Hmoi.out]; refine (Hcc.out _).mono ?_; rintro e w2 ⟨rfl, rfl⟩)
                go_ret3
                rw [HX.out]
                exact ⟨hB.out, rfl⟩
              | true =>
                have hn5 := hok rfl
                have hnb : n ≤ 1048577 := by omega
                have HX := Lib.hid (HR.out.trans (if_pos rfl))
                clear HR hok
                go_wp2_with (go_at_call 18; rw [Hexd.out, Hmoi.out]; refine (Hcc.out _).mono ?_; rintro e w2 ⟨rfl, rfl⟩)
                have HL0 : Hid (RIn w.heap.size w b (b.getLast?.getD 0) A b.length cp 1 wr) := Lib.hid ⟨by simp, by simpa using hO.out, hB.out⟩
                generalize hLv : b.getLast?.getD 0 = L at *
                have HLv := Lib.hid hLv
                clear hLv
                go_loopw [5, 12] (fun v5 v12 wx => ∃ (A2 : Option Addr) (c2 k m : Nat), v5 = .slice A2 m c2 ∧ v12 = .int .i64 k ∧ 1 ≤ k ∧ k ≤ n ∧ m ≤ 3000000 ∧ Hid (RIn w.heap.size w b L A2 m c2 k wx)) (fun _ v12 _ => n - (intOf v12).toNat)
                case atStart => exact ⟨A, cp, 1, b.length, rfl, rfl, by omega, by omega, by omega, HL0⟩
                case round =>
                  obtain ⟨A2, c2, k, m, rfl, rfl, hk1, hk2, hm3, hI⟩ := hrel
                  have hm3' : (m : Int) ≤ 3000000 := by omega
                  have hk2' : (k : Int) ≤ 1048577 := by omega
                  rcases Nat.lt_or_ge k n with hkn | hkn
                  · have hkni : (k : Int) < (n : Int) := by omega
                    have hml := hI.out.len
                    obtain ⟨g2, M, A', c', w7, rfl, rfl, hcell, hap, hI2⟩ := RIn.step (HLv.out ▸ hI.out) Hbne.out hk1 (Nat.le_refl _) (by omega)
                    rw [HLv.out] at hcell hap hI2
                    have hM1 : ((M + 1 : Nat) : Int) - 1 = (M : Int) := by omega
                    have hM2 : IntKind.i64.wrap (M : Int) = (M : Int) := by rw [IntKind.wrap_i64]; omega
                    have hM3 : (0 : Int) ≤ (M : Int) := by omega
                    have hM4 : (M : Int) < ((M + 1 : Nat) : Int) := by omega
                    have hwk : IntKind.i64.wrap ((k : Int) + 1) = (k : Int) + 1 := by rw [IntKind.wrap_i64]; omega
                    have HI3 := Lib.hid (show M + 1 + 1 ≤ 3000000 by omega)
                    clear hml hI HL0
                    go_wp2_with (at_builtin; refine wpList_append2 (v1 := .slice (some ⟨g2, 0, none⟩) (M + 1) c2) (v2 := .slice (some ⟨wr.heap.size, 0, none⟩) 1 1) rfl (.tmp 76) (.tmp 83) rfl rfl rfl hap ?_)
                    go_roundw
                    case rel => exact ⟨A', c', k + 1, M + 1 + 1, rfl, by simp, by omega, by omega, HI3.out, hI2⟩
                    case measure => simp [intOf]; omega
                  · obtain rfl : k = n := by omega
                    have hkni : ¬ (k : Int) < (k : Int) := by omega
                    clear HL0
                    have hkb : 1 ≤ k := hk1
                    go_wp2
                    go_roundw
                    case rel => exact ⟨A2, c2, b ++ List.replicate (k - 1) L, run, true, i + 1 + u, g, by rw [hI.out.slen], rfl, rfl, by simp, by omega, by omega, by omega, by rw [hI.out.slen]; have := hI.out.len; omega, fun _ => by simp [Hbne.out], Lib.hid hI.out.own, Lib.hid hI.out.below, HX⟩
                    case measure => simp [intOf]; omega
            · have HR := Lib.hid (hR.out.trans (unR_byte Hg.out hstar))
              have Hst := Lib.hid hstar
              have Hrb := Lib.hid hrb
              clear hR hstar hrb
              go_upto_region 11 with (fail)
              go_cut [51] (fun v wx => v = .bool false ∧ wr = wx)
              case first =>
                by_cases h42 : c = 42
                · have h42a : ((c.toNat : Int) == 42) = true := by rw [h42]; rfl
                  have h42b : (c.toNat == 42) = true := by rw [h42]; rfl
                  by_cases hr1 : run = 1
                  · have hr1a : ((run : Int) == 1) = true := by rw [hr1]; rfl
                    have hr1b : (run == 1) = true := by rw [hr1]; rfl
                    cases cl with
                    | true =>
                      clear h42 hr1
                      go_wp2
                      go_meet
                      exact ⟨rfl, rfl⟩
                    | false =>
                      have hmf : ¬ (4 : Int) ≤ 1048576 - (b.length : Int) := fun h => Hst.out ⟨h42, hr1, rfl, by unfold MF; omega⟩
                      clear h42 hr1
                      go_wp2
                      go_meet
                      exact ⟨rfl, rfl⟩
                  · have hr1a : ((run : Int) == 1) = false := by rw [beq_eq_false_iff_ne]; omega
                    have hr1b : (run == 1) = false := by simpa using hr1
                    clear h42 hr1
                    go_wp2
                    go_meet
                    exact ⟨rfl, rfl⟩
                · have h42n : c.toNat ≠ 42 := fun e => h42 (UInt8.toNat_inj.1 e)
                  have h42a : ((c.toNat : Int) == 42) = false := by rw [beq_eq_false_iff_ne]; omega
                  have h42b : (c.toNat == 42) = false := by simpa using h42n
                  clear h42 h42n
                  go_wp2
                  go_meet
                  exact ⟨rfl, rfl⟩
              case rest =>
                obtain ⟨rfl, rfl⟩ := hcut
                have hdb := dg16_bd c
                by_cases hlow : dg16 c < 0
                · have HX := Lib.hid (HR.out.trans (if_pos (.inl hlow)))
                  clear HR
                  go_wp2_with (go_at_call 19; refine (rdigit_any _ _).mono ?_; rintro e w2 ⟨rfl, rfl⟩)
                  go_ret3
                  rw [HX.out]
                  exact ⟨hB.out, rfl⟩
                · by_cases hfull : MF ≤ b.length
                  · have HX := Lib.hid (HR.out.trans (if_pos (.inr hfull)))
                    have hfi : (1048576 : Int) ≤ (b.length : Int) := by unfold MF at hfull; omega
                    clear HR hfull
                    go_wp2_with (go_at_call 19; refine (rdigit_any _ _).mono ?_; rintro e w2 ⟨rfl, rfl⟩)
                    go_ret3
                    rw [HX.out]
                    exact ⟨hB.out, rfl⟩
                  · have hfd1 : decide ((1048576 : Int) ≤ (b.length : Int)) = false := decide_eq_false (by unfold MF at hfull; omega)
                    have hfd2 : decide (1048576 ≤ b.length) = false := decide_eq_false (by unfold MF at hfull; omega)
                    have Hbl := Lib.hid (show b.length < 1048576 by unfold MF at hfull; omega)
                    have HR2 := Lib.hid (HR.out.trans (if_neg (by rintro (h | h); exact hlow h; exact hfull h)))
                    clear HR hfull hbl hbl'
                    rcases Nat.lt_or_ge (i + 1) s.length with hlt2 | hge2
                    · have hil2 : decide ((s.length : Int) ≤ (i : Int) + 1) = false := by simp; omega
                      have hix2 : ∀ W, (Instr.index 9 (.string ⟨s.toArray⟩) (.int .i64 ((i : Int) + 1))).run Tryd.prog W = .ok (.int .u8 (s[i + 1].toNat : Int)) W := fun W => str_at s (i + 1) hlt2 W
                      have hd2 : digA s (i + 1) = dg16 s[i + 1] := by simp [digA, hlt2]
                      rw [hd2] at HR2
                      clear hd2
                      generalize s[i + 1] = c2 at *
                      have hdb2 := dg16_bd c2
                      by_cases hlow2 : dg16 c2 < 0
                      · have HX := Lib.hid (HR2.out.trans (if_pos hlow2))
                        clear HR2
                        go_wp2_with (go_at_call 19; refine (rdigit_any _ _).mono ?_; rintro e w2 ⟨rfl, rfl⟩)
                        go_ret3
                        rw [HX.out]
                        exact ⟨hB.out, rfl⟩
                      · have HR3 := Lib.hid (HR2.out.trans (if_neg hlow2))
                        obtain ⟨a, ha⟩ : ∃ a : Nat, dg16 c = (a : Int) := ⟨(dg16 c).toNat, by omega⟩
                        obtain ⟨a2, ha2⟩ : ∃ a : Nat, dg16 c2 = (a : Int) := ⟨(dg16 c2).toNat, by omega⟩
                        rw [ha] at hlow hdb HR3
                        rw [ha2] at hlow2 hdb2 HR3
                        have hwm : IntKind.i64.wrap ((a : Int) * 16) = (a : Int) * 16 := by rw [IntKind.wrap_i64]; omega
                        have hwa : IntKind.i64.wrap ((a : Int) * 16 + (a2 : Int)) = (a : Int) * 16 + (a2 : Int) := by rw [IntKind.wrap_i64]; omega
                        obtain ⟨c3, hc3, hcb⟩ : ∃ c3 : UInt8, ((a : Int) * 16 + (a2 : Int)) % 256 = (c3.toNat : Int) ∧ byteOf (a : Int) (a2 : Int) = c3 := by
                          refine ⟨_, ?_, rfl⟩
                          simp [byteOf]
                          omega
                        have hc3b : IntKind.u8.wrap ((a : Int) * 16 + (a2 : Int)) = (c3.toNat : Int) := by rw [IntKind.wrap_u8]; exact hc3
                        rw [hcb] at HR3
                        clear HR2 hcb
                        go_wp2_with (go_at_call 19; refine (rdigit_any _ _).mono ?_; rintro e w2 ⟨rfl, rfl⟩; try rw [ha]; try rw [ha2])
                        have Ha := Lib.hid ha
                        have Ha2 := Lib.hid ha2
                        have Hhl := Lib.hid hil2
                        clear hlow hlow2 hdb hdb2
                        go_quiet ((go_at_call 19; exact Calls.quiet_of_same (rdigit_q _ _)))
                        clear ha ha2
                        have hO3 : Hid (OwnB w.heap.size A cp b (wr.drewN nq)) := Lib.hid (hO.out.drewN nq)
                        have hB3 : Hid (Below w.heap.size w (wr.drewN nq)) := Lib.hid (hB.out.trans (((Keep.refl [] _).drewN nq).below.mono hB.out.size))
                        clear hO hB
                        generalize (World.drewN _ _) = w3 at *
                        obtain ⟨A', c', w7, hap, hO7, hB7⟩ := ownPush hO3.out hB3.out.size c3 (by have := Hbl.out; omega)
                        have hw2 : IntKind.i64.wrap ((i : Int) + 2) = (i : Int) + 2 := by rw [IntKind.wrap_i64]; omega
                        clear hix hix2 hwm hwa hc3 hc3b hfd1 hfd2
                        by_cases hbn : b = []
                        · have hb0 : (b.length : Int) = 0 := by rw [hbn]; rfl
                          have hb0b : decide (0 < b.length) = false := by rw [hbn]; rfl
                          have hb0c : decide ((0 : Int) < (b.length : Int)) = false := by rw [hbn]; rfl
                          have HX := Lib.hid ((HR3.out.trans (if_neg (by rw [hbn]; simp))).trans (by rw [if_neg (by rw [hbn]; simp)]))
                          clear HR3 hbn hb0
                          go_wp2_with (at_builtin; refine wpList_append2 (v1 := .slice A b.length cp) (v2 := .slice (some ⟨w3.heap.size, 0, none⟩) 1 1) rfl (.tmp 153) (.tmp 155) rfl rfl rfl hap ?_)
                          go_roundw
                          case rel => exact ⟨A', c', b ++ [c3], 1, false, i + 2, g, by simp, rfl, rfl, by simp, by omega, by omega, by omega, by have := Hbl.out; simp; omega, fun _ => by simp, hO7, Lib.hid (hB3.out.trans hB7.out), HX⟩
                          case measure => simp [intOf]; omega
                        · obtain ⟨g2, hA, hcell⟩ := hO3.out.last hbn
                          obtain ⟨M, hM⟩ : ∃ M, b.length = M + 1 := ⟨b.length - 1, by have := List.length_pos_iff.2 hbn; omega⟩
                          have hM0 : b.length - 1 = M := by omega
                          rw [hM0] at hcell
                          have hlast : b.getLast? = some (b.getLast?.getD 0) := by rw [List.getLast?_eq_some_getLast hbn]; rfl
                          have hMb : M < 1048576 := by have := Hbl.out; omega
                          have hM1 : (b.length : Int) - 1 = (M : Int) := by omega
                          have hM2 : IntKind.i64.wrap (M : Int) = (M : Int) := by rw [IntKind.wrap_i64]; omega
                          have hM3 : (0 : Int) ≤ (M : Int) := by omega
                          have hM4 : (M : Int) < (b.length : Int) := by omega
                          have hM5 : decide ((0 : Int) < (b.length : Int)) = true := decide_eq_true (by omega)
                          have hM6 : decide (0 < b.length) = true := decide_eq_true (by omega)
                          have hM7 : M < b.length := by omega
                          rw [hlast] at HR3
                          generalize b.getLast?.getD 0 = L at *
                          have HM := Lib.hid hM
                          have Hbn := Lib.hid hbn
                          subst hA
                          clear hM hM0 hlast hbn hMb
                          by_cases hsame : L = c3
                          · have hsa : ((L.toNat : Int) == (c3.toNat : Int)) = true := by rw [hsame]; simp
                            have hsb : (L.toNat == c3.toNat) = true := by rw [hsame]; simp
                            have Hsame := Lib.hid hsame
                            clear hsame
                            cases cl with
                            | true =>
                              have HX := Lib.hid (HR3.out.trans (if_pos ⟨by rw [Hsame.out], .inl rfl⟩))
                              clear HR3
                              go_wp2
                              go_ret3
                              rw [HX.out]
                              exact ⟨hB3.out, rfl⟩
                            | false =>
                              by_cases hr4 : run = 4
                              · have hr4a : ((run : Int) == 4) = true := by rw [hr4]; rfl
                                have hr4b : (run == 4) = true := by rw [hr4]; rfl
                                have HX := Lib.hid (HR3.out.trans (if_pos ⟨by rw [Hsame.out], .inr hr4⟩))
                                clear HR3 hr4
                                go_wp2
                                go_ret3
                                rw [HX.out]
                                exact ⟨hB3.out, rfl⟩
                              · have hr4a : ((run : Int) == 4) = false := by rw [beq_eq_false_iff_ne]; omega
                                have hr4b : (run == 4) = false := by simpa using hr4
                                have HX := Lib.hid ((HR3.out.trans (if_neg (by rintro ⟨_, h | h⟩; cases h; exact hr4 h))).trans (by rw [if_pos (by rw [Hsame.out])]))
                                have Hr4 := Lib.hid hr4
                                have hwr : IntKind.i64.wrap ((run : Int) + 1) = (run : Int) + 1 := by rw [IntKind.wrap_i64]; omega
                                clear HR3 hr4
                                go_wp2_with (at_builtin; refine wpList_append2 (v1 := .slice (some ⟨g2, 0, none⟩) b.length cp) (v2 := .slice (some ⟨w3.heap.size, 0, none⟩) 1 1) rfl (.tmp 153) (.tmp 155) rfl rfl rfl hap ?_)
                                go_roundw
                                case rel => exact ⟨A', c', b ++ [c3], run + 1, false, i + 2, g, by simp, by simp, rfl, by simp, by omega, by omega, by have := Hr4.out; omega, by have := Hbl.out; simp; omega, fun _ => by simp, hO7, Lib.hid (hB3.out.trans hB7.out), HX⟩
                                case measure => simp [intOf]; omega
                          · have hsn : L.toNat ≠ c3.toNat := fun e => hsame (UInt8.toNat_inj.1 e)
                            have hsa : ((L.toNat : Int) == (c3.toNat : Int)) = false := by rw [beq_eq_false_iff_ne]; omega
                            have hsb : (L.toNat == c3.toNat) = false := by simpa using hsn
                            have hsc : ¬ (some L = some c3) := by simpa using hsame
                            have HX := Lib.hid ((HR3.out.trans (if_neg (fun h => hsc h.1))).trans (by rw [if_neg hsc]))
                            clear HR3 hsame hsn hsc
                            go_wp2_with (at_builtin; refine wpList_append2 (v1 := .slice (some ⟨g2, 0, none⟩) b.length cp) (v2 := .slice (some ⟨w3.heap.size, 0, none⟩) 1 1) rfl (.tmp 153) (.tmp 155) rfl rfl rfl hap ?_)
                            go_roundw
                            case rel => exact ⟨A', c', b ++ [c3], 1, false, i + 2, g, by simp, rfl, rfl, by simp, by omega, by omega, by omega, by have := Hbl.out; simp; omega, fun _ => by simp, hO7, Lib.hid (hB3.out.trans hB7.out), HX⟩
                            case measure => simp [intOf]; omega
                    · have hil2 : decide ((s.length : Int) ≤ (i : Int) + 1) = true := by simp; omega
                      have hd2 : digA s (i + 1) = -1 := by unfold digA; rw [List.getElem?_eq_none_iff.2 hge2]
                      have HX := Lib.hid (HR2.out.trans (if_pos (by rw [hd2]; decide)))
                      clear HR2 hd2
                      go_wp2_with (go_at_call 19; refine (rdigit_any _ _).mono ?_; rintro e w2 ⟨rfl, rfl⟩)
                      go_ret3
                      rw [HX.out]
                      exact ⟨hB.out, rfl⟩
          · obtain rfl : i = s.length := by omega
            have hil : ¬ (s.length : Int) < (s.length : Int) := by omega
            have HX := Lib.hid (hR.out.trans (unR_end (List.getElem?_eq_none_iff.2 (Nat.le_refl _))))
            clear hR hrb
            go_wp2
            go_ret3
            rw [HX.out]
            exact ⟨hB.out, A, cp, rfl, hO.out⟩
end Go.Proofs.YtopfbbnpbobhaaaDoor
