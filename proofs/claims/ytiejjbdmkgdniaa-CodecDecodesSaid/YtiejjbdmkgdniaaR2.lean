/- The reference's depths, walked. -/
import Derived.Test.YtiejjbdmkgdniaaR1b
import Derived.Test.YtiejjbdmkgdniaaHfP
import Derived.Deep.CutBlock
import Derived.Deep.DeepCutAuto
set_option linter.unusedVariables false
set_option linter.unusedSimpArgs false
namespace Go.Proofs.Ytiejjbdmkgdniaa
open Go.RowKit Go.Sal Go.Huf
theorem rr_set {w : World} {base g n cap i : Nat} {r : List RN3} {t : Int} (h : RRow w base g n cap r) (hi : i < r.length) (hn : n = r.length) :
    RRow (w.setCell ⟨g, i * 3 + 1, none⟩ (.int .i64 t)) base g n cap (rlink r i t) := by
  have h1 := ownsRow_set h (i * 3 + 1) (by omega) (.int .i64 t)
  have s1 : (r.flatMap rc3).set (i * 3 + 1) (.int .i64 t) = (rlink r i t).flatMap rc3 :=
    rf_set rc3_len r i 1 hi (by omega) _ _ (by simp [rc3, List.getD, hi])
  rw [s1] at h1
  exact h1
theorem rnode_append {base c : Nat} {A : Option Addr} {l : List RN3} {w : World} (h : w.ownsRow base 139 3 (.slice A l.length c) l.length (l.flatMap rc3)) (x : RN3) (hn : l.length ≤ 100000) (hB : base ≤ w.heap.size) :
    ∃ A' c' w', (Builtin.append_ #[137, 137] 137 #[.slice A l.length c, .slice (some ⟨w.heap.size, 0, none⟩) 1 1]).run Try.prog (w.alloc (.cells #[.int .i64 x.1.1, .int .i64 x.1.2, .int .i64 x.2] 139)) = .ok (.slice A' (l ++ [x]).length c') w' ∧
      w'.ownsRow base 139 3 (.slice A' (l ++ [x]).length c') (l ++ [x]).length ((l ++ [x]).flatMap rc3) ∧ Keep (Value.slice A l.length c).ownBlock.toList w w' := by
  have hka : Keep [] w (w.alloc (.cells #[.int .i64 x.1.1, .int .i64 x.1.2, .int .i64 x.2] 139)) := (Keep.refl [] w).alloc _
  obtain ⟨v', w', hrun, hown, hg, hat⟩ := run_append_src (P := Try.prog) (w.alloc (.cells #[.int .i64 x.1.1, .int .i64 x.1.2, .int .i64 x.2] 139)) 137 137 139 _ 3 24 base Try.underlying137 rndinfo rfl (by omega) (.slice A l.length c) l.length (l.flatMap rc3) (ownsRow_keep h hka (by simp))
    (some ⟨w.heap.size, 0, none⟩) 1 1 (rc3 x) (src_new w 139 3 (rc3 x) rfl) (by simp [Value.oneCell', rc3]) (by unfold maxLen; omega) (by omega) (by simp; omega)
  obtain ⟨A', c', rfl, _⟩ := own_slice hown
  have el : l.length + 1 = (l ++ [x]).length := by simp
  rw [el] at hrun hown
  exact ⟨A', c', w', hrun, by simpa using hown, (hka.mono (by simp)).grown hg (fun k hk => .inl (by simp [hk]))⟩
/-- while the nodes are laid -/
def RA (w : World) (cs : List Int) (k : Nat) (A : Option Addr) (c n : Nat) (wr : World) : Prop :=
  n = (lay cs k).length ∧ wr.ownsRow w.heap.size 139 3 (.slice A n c) n ((lay cs k).flatMap rc3) ∧ Keep [] w wr
/-- while the tree grows -/
structure RT (w : World) (cs : List Int) (A : Option Addr) (c : Nat) (r : List RN3) (m : Nat) (wr : World) : Prop where
  own : wr.ownsRow w.heap.size 139 3 (.slice A r.length c) r.length (r.flatMap rc3)
  kp : Keep [] w wr
  tr : ∃ free h p, TI (r.map Prod.fst) free h p cs.sum ∧ free.length = m ∧ (treeF m (r.map Prod.fst, free)).1 = tree cs
  sy : ∃ q, r.map Prod.snd = (lay cs cs.length).map Prod.snd ++ List.replicate q (-1)
  sz : r.length + m = leaf cs cs.length + leaf cs cs.length
/-- behind it -/
structure RE (w : World) (cs : List Int) (A : Option Addr) (c : Nat) (r : List RN3) (wr : World) : Prop where
  own : wr.ownsRow w.heap.size 139 3 (.slice A r.length c) r.length (r.flatMap rc3)
  kp : Keep [] w wr
  tr : r.map Prod.fst = tree cs
  sy : ∃ q, r.map Prod.snd = (lay cs cs.length).map Prod.snd ++ List.replicate q (-1)
theorem RT.done {w wr : World} {cs : List Int} {A : Option Addr} {c m : Nat} {r : List RN3} (h : RT w cs A c r m wr) (hm : m ≤ 1) : RE w cs A c r wr := by
  refine ⟨h.own, h.kp, ?_, h.sy⟩
  obtain ⟨free, h', p, h1, h2, h3⟩ := h.tr
  rw [← h3]
  cases m with
  | zero => rfl
  | succ f => rw [treeF, if_neg (by show ¬ 1 < free.length; omega)]
/-- what the rows hold while the depths are laid -/
def RO (base go : Nat) (cs : List Int) (w1 : World) (i : Nat) (wr : World) : Prop :=
  wr.ownsRow base 3 1 (.slice (some ⟨go, 0, none⟩) cs.length cs.length) cs.length (inI (oRow cs i)) ∧ Keep [go] w1 wr
/-- while one symbol's way up is gone -/
def RU (cs : List Int) (D : Nat) (kk : Int) (c : Nat) : Prop :=
  ∃ f, (kk = -1 ∨ ∃ t : Nat, kk = t ∧ t < (tree cs).length ∧ (tree cs).length - t ≤ f) ∧ c + upN (tree cs) f kk = D

set_option maxRecDepth 20000 in
set_option maxHeartbeats 16000000 in
theorem rdepths_any (cs : List Int) (A : Option Addr) (c : Nat) (w : World) (hs : ISrc w A cs) (hn : cs.length ≤ 600) (hpos : ∀ n ∈ cs, 0 ≤ n ∧ n ≤ 1073741824) :
    Calls Try.prog 70 #[.slice A cs.length c] w fun e w' => ∃ go, e = .returned (.slice (some ⟨go, 0, none⟩) cs.length cs.length) ∧
      w'.ownsRow w.heap.size 3 1 (.slice (some ⟨go, 0, none⟩) cs.length cs.length) cs.length (inI ((depths cs).map fun (k : Nat) => (k : Int))) ∧ Keep [] w w' := by
  have Hs := Lib.hid hs
  have Hpos := Lib.hid hpos
  have htot := sum_le cs hpos
  have hN1 : leaf cs cs.length ≤ cs.length := Nat.le_trans (leaf_le cs _) (nodes0_le cs)
  have H0 : Hid (RA w cs 0 none 0 0 w) := Lib.hid ⟨rfl, World.ownsRow_nil _ _ _ _, Keep.refl [] w⟩
  clear hs hpos
  go_enter Try.func70, Try.ntmps70
  go_wp2
  go_loopw [3, 4] (fun l i wr => ∃ (k : Nat) (A : Option Addr) (c n : Nat), i = .int .i64 k ∧ k ≤ cs.length ∧ l = .slice A n c ∧ Hid (RA w cs k A c n wr)) (fun _ i _ => cs.length - (intOf i).toNat)
  case atStart => exact ⟨0, none, 0, 0, rfl, by omega, rfl, H0⟩
  case round =>
    obtain ⟨k, AL, cL, nl, rfl, hk, rfl, hI⟩ := hrel
    clear H0
    rcases Nat.lt_or_ge k cs.length with hkl | hkl
    · as_aux_lemma =>
        obtain ⟨hnl, hown, hkp⟩ := hI.out
        obtain ⟨g, o, rfl, hg, hc⟩ := Hs.out k hkl
        have d0 := (hkp.cell (p := ⟨g, o + k, none⟩) hg (by simp)).trans hc
        have hx0 := (Hpos.out _ (List.getElem_mem hkl)).1
        have hlay : lay cs (k + 1) = lay cs k ++ (if 0 < cs.getD k 0 then [((cs.getD k 0, -1), (k : Int))] else []) := rfl
        have e : cs.getD k 0 = cs[k] := by simp [List.getD, hkl]
        rw [e] at hlay
        have hln : (lay cs k).length ≤ 600 := by rw [lay_len cs k hk]; exact Nat.le_trans (leaf_le cs k) (Nat.le_trans (nodes0_le cs) hn)
        have hwk : IntKind.i64.wrap ((k : Int) + 1) = (k : Int) + 1 := by rw [IntKind.wrap_i64]; omega
        generalize cs[k] = x at *
        by_cases hx : x = 0
        · subst hx
          rw [if_neg (by omega), List.append_nil] at hlay
          have HF : Hid (RA w cs (k + 1) AL cL nl wr) := Lib.hid ⟨by rw [hlay]; exact hnl, by rw [hlay]; exact hown, hkp⟩
          clear hI hnl hown hkp hc hlay e hx0
          go_wp2
          exact ⟨⟨k + 1, _, _, _, by simp, by omega, rfl, HF⟩, by simp [intOf]; omega⟩
        · have hxn : (x != 0) = true := by simpa using hx
          rw [if_pos (by omega)] at hlay
          rw [hnl] at hown
          obtain ⟨A2, c2, w2, hap, hown2, hk2⟩ := rnode_append hown ((x, -1), (k : Int)) (by omega) hkp.size
          have HF : Hid (RA w cs (k + 1) A2 c2 (lay cs k ++ [((x, -1), (k : Int))]).length w2) := by
            refine Lib.hid ⟨by rw [hlay], by rw [hlay]; exact hown2, ?_⟩
            exact hkp.step hk2 (fun j hj => .inr (hown.lt j (by simpa using hj)).1)
          rw [← hnl] at hap
          have Hap := Lib.hid hap
          clear hI hnl hown hkp hc hlay e hx0 hown2 hk2 hap hln
          have hap := Hap.out
          generalize (lay cs k ++ [((x, -1), (k : Int))]).length = nl2 at *
          go_wp2_with (at_builtin; refine wpList_append2 (v1 := .slice AL nl cL) (v2 := .slice (some ⟨wr.heap.size, 0, none⟩) 1 1) rfl (.tmp 22) (.tmp 29) rfl rfl rfl hap ?_)
          exact ⟨⟨k + 1, _, _, _, by simp, by omega, rfl, HF⟩, by simp [intOf]; omega⟩
    · obtain rfl : k = cs.length := by omega
      have HT0 : Hid (∃ r, nl = r.length ∧ RT w cs AL cL r (leaf cs cs.length) wr) := by
        obtain ⟨hnl, hown, hkp⟩ := hI.out
        have hf := lay_fst cs cs.length (Nat.le_refl _)
        rw [List.take_length] at hf
        have hl0 : leaf cs cs.length = (nodes0 cs).length := by unfold leaf; rw [List.take_length]
        have hTI := TI.start (cs := cs) (fun n hn => (Hpos.out n hn).1)
        refine Lib.hid ⟨lay cs cs.length, hnl, ⟨by rw [← hnl]; exact hown, hkp, ⟨List.range (nodes0 cs).length, (fun _ => 0), 0, ?_, ?_, ?_⟩, ⟨0, by simp⟩, ?_⟩⟩
        · rw [hf]; exact hTI
        · rw [List.length_range]; exact hl0.symm
        · rw [hf, hl0]; rfl
        · rw [lay_len cs _ (Nat.le_refl _)]
      clear hI
      go_upto_block 2 with fail
      go_cut [3, 5, 6] (fun l _ _ wx => ∃ (A2 : Option Addr) (c2 : Nat) (r : List RN3), l = .slice A2 r.length c2 ∧ Hid (RE w cs A2 c2 r wx))
      case first =>
        go_wp2_with fail
        go_loopg [3] (leaf cs cs.length) (fun gk l wr => ∃ (m : Nat) (A2 : Option Addr) (c2 n2 : Nat), m ≤ gk ∧ l = .slice A2 n2 c2 ∧ Hid (∃ r, n2 = r.length ∧ RT w cs A2 c2 r m wr))
        case atStart => exact ⟨_, AL, cL, nl, Nat.le_refl _, rfl, HT0⟩
        case round =>
          obtain ⟨m, A2, c2, n2, hm, rfl, hI⟩ := hrel
          clear HT0
          obtain ⟨r, rfl, hT⟩ := hI.out
          have hrsz := hT.sz
          have hr1200 : r.length ≤ 1300 := by omega
          rcases Nat.lt_or_ge 1 r.length with hr1 | hr1
          · obtain ⟨g, rfl, hg1, hg2⟩ := own_some hT.own (by omega)
            obtain ⟨free, h, p, hTI, hfl, hfin⟩ := hT.tr
            have hll : (r.map Prod.fst).length = r.length := List.length_map _
            have hcw := hT.kp.size
            have hL1 := fun (W : World) (hW : RRow W w.heap.size g r.length c2 r) (no : Int) (hno : -1 ≤ no ∧ no ≤ 10000) => (rleast_any w.heap.size g r.length c2 r no W hW rfl (by omega) hno).mono (R' := fun e w' => e = .returned (.int .i64 (rl (r.map Prod.fst) no r.length)) ∧ Keep [] W w') (by
              rintro e w' ⟨h1, k, h2⟩
              exact ⟨h1, by rw [h2]; exact (Keep.refl [] W).drewN _⟩)
            have hr1' : (1 : Int) < r.length := by omega
            by_cases hf1 : 1 < free.length
            · as_aux_lemma =>
                obtain ⟨a, b, ha, hb, hal, hbl, hab, wa0, wa1, wb0, wb1, hst⟩ := treeStep_ref hTI hf1
                obtain ⟨h', p', hTI'⟩ := hTI.step hf1
                rw [hll] at ha hb hal hbl hst
                have l1 := hL1 wr hT.own (-1) (by omega)
                rw [ha] at l1
                have L1 := Lib.hid l1
                have l2 := fun (W : World) (hW : RRow W w.heap.size g r.length c2 r) => hL1 W hW (a : Int) (by omega)
                rw [hb] at l2
                have L2 := Lib.hid l2
                have hlen2 : (treeStep (r.map Prod.fst, free)).2.length + 1 = m := by rw [← hfl]; exact treeStep_free (s := (r.map Prod.fst, free)) hf1
                have hfin' : (treeF (treeStep (r.map Prod.fst, free)).2.length ((treeStep (r.map Prod.fst, free)).1, (treeStep (r.map Prod.fst, free)).2)).1 = tree cs := by
                  rw [← hfin, ← hlen2, treeF, if_pos (by show 1 < free.length; exact hf1)]
                obtain ⟨F2, hF2⟩ : ∃ F2, F2 = (treeStep (r.map Prod.fst, free)).2 := ⟨_, rfl⟩
                rw [← hF2] at hlen2 hfin' hTI'
                obtain ⟨WA, hWA⟩ : ∃ WA, WA = wt (r.map Prod.fst) a := ⟨_, rfl⟩
                obtain ⟨WB, hWB⟩ : ∃ WB, WB = wt (r.map Prod.fst) b := ⟨_, rfl⟩
                rw [← hWA] at wa0 wa1
                rw [← hWB] at wb0 wb1
                have HT := Lib.hid hT
                have HW := Lib.hid (And.intro hWA hWB)
                have Hst := Lib.hid (And.intro hst (And.intro hTI' (And.intro hlen2 hfin')))
                have hab0 : 0 ≤ WA + WB := by omega
                have hab1 : WA + WB ≤ 4611686018427387904 := by omega
                have hb0 : ¬ ((b : Int) < 0) := by omega
                have hali : (a : Int) < r.length := by omega
                have hbli : (b : Int) < r.length := by omega
                clear hI hT htot hN1 hTI hfl hfin hll hL1 ha hb hab wa1 wb1 hst hTI' l1 l2 hlen2 hfin' hF2 hWA hWB hf1 wa0 wb0
                go_wp2_with fail
                refine L1.out.mono ?_
                rintro e w1 ⟨rfl, hk1⟩
                have L2b := Lib.hid (L2.out w1 (ownsRow_keep HT.out.own hk1 (by simp)))
                have Hk1 := Lib.hid hk1
                clear hk1 L1 L2
                go_wp2_with fail
                refine L2b.out.mono ?_
                rintro e w2 ⟨rfl, hk2⟩
                have hk12 : Keep [] wr w2 := Hk1.out.trans hk2
                have hown : RRow w2 w.heap.size g r.length c2 r := ownsRow_keep HT.out.own hk12 (by simp)
                have m1 := (rr_cell hown hal).2.1
                have m2 := (rr_cell hown hal).2.2.2
                have hown1 := rr_set (t := (r.length : Int)) hown hal rfl
                have m3 := (rr_cell hown1 (i := b) (by rw [rlink_len]; exact hbl)).2.1
                have m4 := (rr_cell hown1 (i := b) (by rw [rlink_len]; exact hbl)).2.2.2
                have hown2 := rr_set (t := (r.length : Int)) hown1 (i := b) (by rw [rlink_len]; exact hbl) rlink_len.symm
                obtain ⟨w3, hw3⟩ : ∃ w3, w3 = (w2.setCell ⟨g, a * 3 + 1, none⟩ (.int .i64 (r.length : Int))).setCell ⟨g, b * 3 + 1, none⟩ (.int .i64 (r.length : Int)) := ⟨_, rfl⟩
                rw [← hw3] at hown2
                have hk3 : Keep [g] w2 w3 := by rw [hw3]; exact ((Keep.refl [g] w2).setCell (.inl (by simp)) _).setCell (.inl (by simp)) _
                have hw3s : w.heap.size ≤ w3.heap.size := by have := hk3.size; have := hk12.size; have := HT.out.kp.size; omega
                have hfst : (rlink (rlink r a r.length) b r.length).map Prod.fst = link (link (r.map Prod.fst) a r.length) b r.length := by
                  rw [rlink_fst (by rw [rlink_len]; exact hbl), rlink_fst hal]
                have hsnd : (rlink (rlink r a r.length) b r.length).map Prod.snd = r.map Prod.snd := by
                  rw [rlink_snd (by rw [rlink_len]; exact hbl), rlink_snd hal]
                obtain ⟨r2, hr2⟩ : ∃ r2, r2 = rlink (rlink r a r.length) b r.length := ⟨_, rfl⟩
                have hr2l : r2.length = r.length := by rw [hr2, rlink_len, rlink_len]
                rw [← hr2] at hown2 hfst hsnd
                have hown3 : w3.ownsRow w.heap.size 139 3 (.slice (some ⟨g, 0, none⟩) r2.length c2) r2.length (r2.flatMap rc3) := by rw [hr2l]; exact hown2
                have ca := (rr_cell hown2 (i := a) (by omega)).1
                have cb := (rr_cell hown2 (i := b) (by omega)).1
                rw [hfst, link_wt, link_wt] at ca cb
                rw [← HW.out.1] at ca
                rw [← HW.out.2] at cb
                obtain ⟨A4, c4, w4, hap, hown4, hk4⟩ := rnode_append (w := w3.drew) hown3 ((WA + WB, -1), -1) (by omega) hw3s
                have hk4' : Keep [g] w3 w4 := Keep.of_drew hk4
                have hg3 : g < w3.heap.size := by have := hk3.size; have := hk12.size; omega
                have HF : Hid (∃ r', (r2 ++ [((WA + WB, -1), -1)]).length = r'.length ∧ RT w cs A4 c4 r' F2.length w4) := by
                  refine Lib.hid ⟨_, rfl, hown4, ?_, ⟨F2, h', p', ?_, rfl, ?_⟩, ?_, ?_⟩
                  · have e1 : Keep [] w w2 := HT.out.kp.trans hk12
                    have e2 : Keep [] w w3 := e1.step hk3 (by intro i hi; simp at hi; right; omega)
                    exact e2.step hk4' (by intro i hi; simp at hi; right; omega)
                  · rw [List.map_append, hfst]
                    have := Hst.out.2.1
                    rw [Hst.out.1, ← HW.out.1, ← HW.out.2] at this
                    exact this
                  · rw [List.map_append, hfst]
                    have := Hst.out.2.2.2
                    rw [Hst.out.1, ← HW.out.1, ← HW.out.2] at this
                    exact this
                  · obtain ⟨q, hq⟩ := HT.out.sy
                    refine ⟨q + 1, ?_⟩
                    rw [List.map_append, hsnd, hq, List.append_assoc, List.replicate_succ']
                    rfl
                  · have := HT.out.sz
                    have := Hst.out.2.2.1
                    simp only [List.length_append, List.length_singleton]
                    omega
                have hm2 : F2.length + 1 = m := Hst.out.2.2.1
                rw [hr2l] at hap
                have HSk : Hid (∀ W, Keep [] w3 W → W.cell? ⟨g, a * 3, none⟩ = some (.int .i64 WA) ∧ W.cell? ⟨g, b * 3, none⟩ = some (.int .i64 WB)) :=
                  Lib.hid (fun W k => ⟨(k.cell (p := ⟨g, a * 3, none⟩) hg3 (by simp)).trans ca, (k.cell (p := ⟨g, b * 3, none⟩) hg3 (by simp)).trans cb⟩)
                have Hap := Lib.hid hap
                have Hw3 := Lib.hid hw3
                have hap := Hap.out
                clear hk2 hk12 hown hown1 hown2 hw3 hk3 hw3s hfst hsnd hr2 hr2l hown3 ca cb hown4 hk4 hk4' hg3 L2b Hk1 hap
                generalize (r2 ++ [((WA + WB, -1), -1)]).length = nl5 at *
                generalize r.length = nl at *
                go_wp2_with fail
                rw [← Hw3.out]
                clear m1 m2 m3 m4
                have hwab : IntKind.i64.wrap (WA + WB) = WA + WB := by rw [IntKind.wrap_i64]; omega
                have hS12 := HSk.out _ ((Keep.refl [] w3).drew)
                have hap := Hap.out
                refine wp_region_G (fun W => W.cell? ⟨g, a * 3, none⟩ = some (.int .i64 WA) ∧ W.cell? ⟨g, b * 3, none⟩ = some (.int .i64 WB)) [14, 15] #[false, false, false, false, false, false, false, false, false, false, false, false, false, false, false, false] 16 (by kernel_rfl) (by kernel_rfl) (by kernel_rfl) ?_
                refine wpAnyG_take0 (i := 0) (oi := { dst := some 53, op := Go.Op.move (Go.Operand.tmp 3), type := 137, pos := "ref.go:50", after := #[], guard := none }) (v := ?vg1_0) rfl (by kernel_rfl) (by kernel_rfl) (by kernel_rfl) (by kernel_rfl) (fun _ _ _ h => h) (fun _ => hS12) (Or.inl ⟨by rfl, ?hg1_0⟩) ?_
                case hg1_0 => intro w _; go_simp; (try with_reducible rfl)
                try simp only [Act.put, List.setIfInBounds_toArray, List.set_cons_zero, List.set_cons_succ]
                refine wpAnyG_take0 (i := 1) (oi := { dst := some 54, op := Go.Op.move (Go.Operand.tmp 3), type := 137, pos := "ref.go:50", after := #[], guard := none }) (v := ?vg1_1) rfl (by kernel_rfl) (by kernel_rfl) (by kernel_rfl) (by kernel_rfl) (fun _ _ _ h => h) (fun _ => hS12) (Or.inl ⟨by rfl, ?hg1_1⟩) ?_
                case hg1_1 => intro w _; go_simp; (try with_reducible rfl)
                try simp only [Act.put, List.setIfInBounds_toArray, List.set_cons_zero, List.set_cons_succ]
                refine wpAnyG_take0 (i := 2) (oi := { dst := some 55, op := Go.Op.move (Go.Operand.tmp 5), type := 3, pos := "ref.go:50", after := #[], guard := none }) (v := ?vg1_2) rfl (by kernel_rfl) (by kernel_rfl) (by kernel_rfl) (by kernel_rfl) (fun _ _ _ h => h) (fun _ => hS12) (Or.inl ⟨by rfl, ?hg1_2⟩) ?_
                case hg1_2 => intro w _; go_simp; (try with_reducible rfl)
                try simp only [Act.put, List.setIfInBounds_toArray, List.set_cons_zero, List.set_cons_succ]
                refine wpAnyG_take0 (i := 3) (oi := { dst := some 56, op := Go.Op.indexAddr 137 (Go.Operand.tmp 54) (Go.Operand.tmp 55), type := 0, pos := "ref.go:50", after := #[{ on := 1, ground := Go.Ground.data }, { on := 2, ground := Go.Ground.data }], guard := none }) (v := ?vg1_3) rfl (by kernel_rfl) (by kernel_rfl) (by kernel_rfl) (by kernel_rfl) (fun _ _ _ h => h) (fun _ => hS12) (Or.inl ⟨by rfl, ?hg1_3⟩) ?_
                case hg1_3 => intro w _; go_simp; (try with_reducible rfl)
                try simp only [Act.put, List.setIfInBounds_toArray, List.set_cons_zero, List.set_cons_succ]
                refine wpAnyG_take0 (i := 4) (oi := { dst := some 57, op := Go.Op.fieldAddr 139 (Go.Operand.tmp 56) 0, type := 0, pos := "ref.go:50", after := #[{ on := 3, ground := Go.Ground.data }], guard := none }) (v := ?vg1_4) rfl (by kernel_rfl) (by kernel_rfl) (by kernel_rfl) (by kernel_rfl) (fun _ _ _ h => h) (fun _ => hS12) (Or.inl ⟨by rfl, ?hg1_4⟩) ?_
                case hg1_4 => intro w _; go_simp; (try with_reducible rfl)
                try simp only [Act.put, List.setIfInBounds_toArray, List.set_cons_zero, List.set_cons_succ]
                refine wpAnyG_take (i := 5) (oi := { dst := some 58, op := Go.Op.load 3 (Go.Operand.tmp 57), type := 3, pos := "ref.go:50", after := #[{ on := 4, ground := Go.Ground.data }], guard := none }) (v := ?vg1_5) [5, 11, 12, 13, 14, 15] rfl (by kernel_rfl) (by kernel_rfl) (by kernel_rfl) (by kernel_rfl) (by kernel_rfl) (fun _ _ _ h => h) (fun _ => hS12) (Or.inl ⟨by rfl, ?hg1_5⟩) ?_
                case hg1_5 => intro w hSw; (try dsimp only at hSw); go_simp; (try with_reducible rfl)
                try simp only [Act.put, List.setIfInBounds_toArray, List.set_cons_zero, List.set_cons_succ]
                refine wpAnyG_take0 (i := 6) (oi := { dst := some 59, op := Go.Op.move (Go.Operand.tmp 3), type := 137, pos := "ref.go:50", after := #[], guard := none }) (v := ?vg1_6) rfl (by kernel_rfl) (by kernel_rfl) (by kernel_rfl) (by kernel_rfl) (fun _ _ _ h => h) (fun _ => hS12) (Or.inl ⟨by rfl, ?hg1_6⟩) ?_
                case hg1_6 => intro w _; go_simp; (try with_reducible rfl)
                try simp only [Act.put, List.setIfInBounds_toArray, List.set_cons_zero, List.set_cons_succ]
                refine wpAnyG_take0 (i := 7) (oi := { dst := some 60, op := Go.Op.move (Go.Operand.tmp 6), type := 3, pos := "ref.go:50", after := #[], guard := none }) (v := ?vg1_7) rfl (by kernel_rfl) (by kernel_rfl) (by kernel_rfl) (by kernel_rfl) (fun _ _ _ h => h) (fun _ => hS12) (Or.inl ⟨by rfl, ?hg1_7⟩) ?_
                case hg1_7 => intro w _; go_simp; (try with_reducible rfl)
                try simp only [Act.put, List.setIfInBounds_toArray, List.set_cons_zero, List.set_cons_succ]
                refine wpAnyG_take0 (i := 8) (oi := { dst := some 61, op := Go.Op.indexAddr 137 (Go.Operand.tmp 59) (Go.Operand.tmp 60), type := 0, pos := "ref.go:50", after := #[{ on := 6, ground := Go.Ground.data }, { on := 7, ground := Go.Ground.data }], guard := none }) (v := ?vg1_8) rfl (by kernel_rfl) (by kernel_rfl) (by kernel_rfl) (by kernel_rfl) (fun _ _ _ h => h) (fun _ => hS12) (Or.inl ⟨by rfl, ?hg1_8⟩) ?_
                case hg1_8 => intro w _; go_simp; (try with_reducible rfl)
                try simp only [Act.put, List.setIfInBounds_toArray, List.set_cons_zero, List.set_cons_succ]
                refine wpAnyG_take0 (i := 9) (oi := { dst := some 62, op := Go.Op.fieldAddr 139 (Go.Operand.tmp 61) 0, type := 0, pos := "ref.go:50", after := #[{ on := 8, ground := Go.Ground.data }], guard := none }) (v := ?vg1_9) rfl (by kernel_rfl) (by kernel_rfl) (by kernel_rfl) (by kernel_rfl) (fun _ _ _ h => h) (fun _ => hS12) (Or.inl ⟨by rfl, ?hg1_9⟩) ?_
                case hg1_9 => intro w _; go_simp; (try with_reducible rfl)
                try simp only [Act.put, List.setIfInBounds_toArray, List.set_cons_zero, List.set_cons_succ]
                refine wpAnyG_take (i := 10) (oi := { dst := some 63, op := Go.Op.load 3 (Go.Operand.tmp 62), type := 3, pos := "ref.go:50", after := #[{ on := 9, ground := Go.Ground.data }], guard := none }) (v := ?vg1_10) [10, 11, 12, 13, 14, 15] rfl (by kernel_rfl) (by kernel_rfl) (by kernel_rfl) (by kernel_rfl) (by kernel_rfl) (fun _ _ _ h => h) (fun _ => hS12) (Or.inl ⟨by rfl, ?hg1_10⟩) ?_
                case hg1_10 => intro w hSw; (try dsimp only at hSw); go_simp; (try with_reducible rfl)
                try simp only [Act.put, List.setIfInBounds_toArray, List.set_cons_zero, List.set_cons_succ]
                refine wpAnyG_take0 (i := 11) (oi := { dst := some 64, op := Go.Op.binOp Go.BinOp.add 3 (Go.Operand.tmp 58) (Go.Operand.tmp 63) 3, type := 3, pos := "ref.go:50", after := #[{ on := 5, ground := Go.Ground.data }, { on := 10, ground := Go.Ground.data }], guard := none }) (v := ?vg1_11) rfl (by kernel_rfl) (by kernel_rfl) (by kernel_rfl) (by kernel_rfl) (fun _ _ _ h => h) (fun _ => hS12) (Or.inl ⟨by rfl, ?hg1_11⟩) ?_
                case hg1_11 => intro w _; go_simp; (try with_reducible rfl)
                try simp only [Act.put, List.setIfInBounds_toArray, List.set_cons_zero, List.set_cons_succ]
                refine wpAnyG_take0 (i := 12) (oi := { dst := some 65, op := Go.Op.build 139 #[(0, Go.Operand.tmp 64), (1, Go.Operand.const (Go.Value.int Go.IntKind.i64 (-1))), (2, Go.Operand.const (Go.Value.int Go.IntKind.i64 (-1)))], type := 139, pos := "ref.go:50", after := #[{ on := 11, ground := Go.Ground.data }], guard := none }) (v := ?vg1_12) rfl (by kernel_rfl) (by kernel_rfl) (by kernel_rfl) (by kernel_rfl) (fun _ _ _ h => h) (fun _ => hS12) (Or.inl ⟨by rfl, ?hg1_12⟩) ?_
                case hg1_12 => intro w _; go_simp; (try with_reducible rfl)
                try simp only [Act.put, List.setIfInBounds_toArray, List.set_cons_zero, List.set_cons_succ]
                refine wpAnyG_step (i := 13) (oi := { dst := some 66, op := Go.Op.buildSlice 137 1 #[(0, Go.Operand.tmp 65)], type := 137, pos := "ref.go:50", after := #[{ on := 12, ground := Go.Ground.data }], guard := none }) rfl (by kernel_rfl) (by rfl) (fun K hK => ?_)
                go_simp
                refine hK _ _ ?_ (fun hSg1_13 => ?_)
                · intro _; exact HSk.out _ (((Keep.refl [] w3).drew).alloc _)
                replace hSg1_13 := hSg1_13 (by kernel_rfl)
                clear hK
                try simp only [Act.put, List.setIfInBounds_toArray, List.set_cons_zero, List.set_cons_succ]
                refine wpAnyG_step (i := 14) (oi := { dst := some 67, op := Go.Op.call { callee := Go.Callee.builtin Go.Builtin.append, args := #[Go.Operand.tmp 53, Go.Operand.tmp 66], argTypes := #[137, 137] }, type := 137, pos := "ref.go:50", after := #[{ on := 0, ground := Go.Ground.data }, { on := 13, ground := Go.Ground.data }], guard := none }) rfl (by kernel_rfl) (by rfl) (fun K hK => ?_)
                refine wp_append2 (v1 := .slice (some ⟨g, 0, none⟩) nl c2) (v2 := .slice (some ⟨w3.heap.size, 0, none⟩) 1 1) (.tmp 53) (.tmp 66) rfl rfl rfl hap ?_
                refine hK _ _ (fun h => absurd h (Bool.eq_false_iff.1 (by kernel_rfl))) (fun _ => ?_)
                clear hK
                try simp only [Act.put, List.setIfInBounds_toArray, List.set_cons_zero, List.set_cons_succ]
                refine wpAnyG_step (i := 15) (oi := { dst := some 3, op := Go.Op.assign (Go.Operand.tmp 67), type := 137, pos := "ref.go:50", after := #[{ on := 14, ground := Go.Ground.data }, { on := 14, ground := Go.Ground.chain }, { on := 0, ground := Go.Ground.phase }, { on := 1, ground := Go.Ground.phase }, { on := 2, ground := Go.Ground.phase }, { on := 3, ground := Go.Ground.phase }, { on := 4, ground := Go.Ground.phase }, { on := 5, ground := Go.Ground.phase }, { on := 6, ground := Go.Ground.phase }, { on := 7, ground := Go.Ground.phase }, { on := 8, ground := Go.Ground.phase }, { on := 9, ground := Go.Ground.phase }, { on := 10, ground := Go.Ground.phase }, { on := 11, ground := Go.Ground.phase }, { on := 12, ground := Go.Ground.phase }, { on := 13, ground := Go.Ground.phase }, { on := 14, ground := Go.Ground.phase }], guard := none }) rfl (by kernel_rfl) (by rfl) (fun K hK => ?_)
                go_simp
                refine hK _ _ (fun h => absurd h (Bool.eq_false_iff.1 (by kernel_rfl))) (fun _ => ?_)
                clear hK
                try simp only [Act.put, List.setIfInBounds_toArray, List.set_cons_zero, List.set_cons_succ]
                refine wpAnyG_done (by kernel_rfl) ?_ _
                go_wp2_with fail
                obtain ⟨gm, rfl⟩ : ∃ gm, gk = gm + 1 := ⟨gk - 1, by omega⟩
                go_roundg gm
                case measure => omega
                case rel => exact ⟨_, _, _, _, by omega, rfl, HF⟩
            · as_aux_lemma =>
                have hf0 : free.length = 1 := by
                  rcases Nat.lt_or_ge free.length 1 with h0 | h0
                  · have : r.length = 0 ∨ 0 < r.length := by omega
                    exfalso
                    have hnil : free = [] := List.eq_nil_of_length_eq_zero (by omega)
                    rcases hTI.ups (r.length - 1) (by rw [hll]; omega) with ⟨_, h1⟩ | ⟨t, h1, h2, h3, _⟩
                    · rw [hnil] at h1; simp at h1
                    · rw [hll] at h3; omega
                  · omega
                have hno := rl_none hTI hf0
                rw [hll] at hno
                have hrg := rl_range (r.map Prod.fst) (-1) r.length
                have l1 := hL1 wr hT.own (-1) (by omega)
                obtain ⟨av, hav⟩ : ∃ av, av = rl (r.map Prod.fst) (-1) r.length := ⟨_, rfl⟩
                rw [← hav] at l1 hno hrg
                have L1 := Lib.hid l1
                have l2 := fun (W : World) (hW : RRow W w.heap.size g r.length c2 r) => hL1 W hW av (by omega)
                rw [hno] at l2
                have L2 := Lib.hid l2
                have HT := Lib.hid hT
                have hm1 : m ≤ 1 := by omega
                clear hI hT htot hN1 hTI hfl hfin hll hL1 hno hrg l1 l2 hf1 hf0 hav
                go_wp2_with fail
                refine L1.out.mono ?_
                rintro e w1 ⟨rfl, hk1⟩
                have L2b := Lib.hid (L2.out w1 (ownsRow_keep HT.out.own hk1 (by simp)))
                have Hk1 := Lib.hid hk1
                clear hk1 L1 L2
                go_wp2_with fail
                refine L2b.out.mono ?_
                rintro e w2 ⟨rfl, hk2⟩
                have HE : Hid (RE w cs (some ⟨g, 0, none⟩) c2 r w2) := by
                  have h1 := HT.out.done hm1
                  have hk12 : Keep [] wr w2 := Hk1.out.trans hk2
                  exact Lib.hid ⟨ownsRow_keep h1.own hk12 (by simp), h1.kp.trans hk12, h1.tr, h1.sy⟩
                clear hk2 Hk1 L2b
                go_wp2_with fail
                go_meet
                exact ⟨_, _, _, rfl, HE⟩
          · have hm1 : m ≤ 1 := by
              obtain ⟨free, h, p, hTI, hfl, hfin⟩ := hT.tr
              have hll : (r.map Prod.fst).length = r.length := List.length_map _
              apply Classical.byContradiction
              intro hc
              have h0 := hTI.frl (free[0]'(by omega)) (List.getElem_mem _)
              have h1 := hTI.frl (free[1]'(by omega)) (List.getElem_mem _)
              have h2 := List.pairwise_iff_getElem.1 hTI.nod 0 1 (by omega) (by omega) (by omega)
              rw [hll] at h0 h1
              omega
            have HE : Hid (RE w cs A2 c2 r wr) := Lib.hid (hT.done hm1)
            have hr1' : ¬ (1 : Int) < r.length := by omega
            clear hI hT htot hN1
            go_wp2_with fail
            go_meet
            exact ⟨_, _, _, rfl, HE⟩
      case rest =>
        obtain ⟨A2, c2, r, rfl, HE⟩ := hcut
        clear HT0
        obtain ⟨hown, hkp, htr, hsy⟩ := HE.out
        have hrl : r.length = (tree cs).length := by have := congrArg List.length htr; rwa [List.length_map] at this
        have htz := tree_sz cs
        have hwsz := hkp.size
        have HSY : Hid (∀ i (hi : i < r.length), (i < leaf cs cs.length → ∃ j : Nat, r[i].2 = j ∧ j < cs.length ∧ 0 < cs.getD j 0 ∧ leaf cs j = i) ∧ (leaf cs cs.length ≤ i → r[i].2 = -1)) := Lib.hid (fun i hi => by
          obtain ⟨q, hq⟩ := hsy
          have e1 : r[i].2 = (r.map Prod.snd)[i]'(by rw [List.length_map]; exact hi) := by simp
          have hll := lay_len cs cs.length (Nat.le_refl _)
          constructor
          · intro h
            obtain ⟨j, h1, h2⟩ := lay_snd cs cs.length i (Nat.le_refl _) (by omega)
            refine ⟨j, ?_, h2⟩
            rw [e1, ← h1]
            simp only [hq]
            rw [List.getElem_append_left (by rw [List.length_map]; omega)]
            simp
          · intro h
            rw [e1]
            simp only [hq]
            rw [List.getElem_append_right (by rw [List.length_map]; omega)]
            simp)
        have hge : leaf cs cs.length ≤ r.length := by
          obtain ⟨q, hq⟩ := hsy
          have := congrArg List.length hq
          rw [List.length_map, List.length_append, List.length_map, lay_len cs _ (Nat.le_refl _)] at this
          omega
        have Hown := Lib.hid hown
        have Hkp := Lib.hid hkp
        have Htr := Lib.hid htr
        clear hown hkp htr hsy HE
        obtain ⟨RL, hRL⟩ : ∃ RL, RL = r.length := ⟨_, rfl⟩
        have HRL := Lib.hid hRL
        rw [← hRL] at hge hrl ⊢
        clear hRL
        go_wp2_with (at_make; refine wpList_make_ints w.heap.size cs.length rfl (.tmp 69) (.tmp 69) rfl rfl rfl (by omega) hwsz ?_; intro w1 hown1 hk1; have Hown1 := Lib.hid hown1; have Hk1 := Lib.hid hk1; clear hown1 hk1)
        obtain ⟨go, hgo⟩ : ∃ go, go = wc.heap.size := ⟨_, rfl⟩
        rw [← hgo] at Hown1 ⊢
        have hgo1 : w.heap.size ≤ go := by omega
        have HR1 : Hid (w1.ownsRow w.heap.size 139 3 (.slice A2 r.length c2) r.length (r.flatMap rc3)) := Lib.hid (ownsRow_keep Hown.out Hk1.out (by simp))
        have Hkw : Hid (Keep [] w w1) := Lib.hid (Hkp.out.trans Hk1.out)
        have HO0 : Hid (RO w.heap.size go cs w1 0 w1) := Lib.hid ⟨by rw [oRow_zero]; exact Hown1.out, Keep.refl _ _⟩
        have Hne : Hid (∀ i, (Value.slice A2 r.length c2).ownBlock = some i → i ∉ [go]) := Lib.hid (fun i hi => by
          have := own_ne_own HR1.out Hown1.out (by decide) hi
          simp [Value.ownBlock] at this
          simpa using fun e => this e.symm)
        clear Hown Hkp Hk1 Hown1 hgo hwsz
        go_loopw [8, 9, 10] (fun i _ _ wr => ∃ k : Nat, i = .int .i64 k ∧ k ≤ leaf cs cs.length ∧ Hid (RO w.heap.size go cs w1 k wr)) (fun i _ _ _ => leaf cs cs.length - (intOf i).toNat)
        case atStart => exact ⟨0, rfl, by omega, HO0⟩
        case round =>
          obtain ⟨k, rfl, hk, hI⟩ := hrel
          clear HO0
          obtain ⟨hown, hkp⟩ := hI.out
          rcases Nat.lt_or_ge k (leaf cs cs.length) with hkl | hkl
          · as_aux_lemma =>
              have hRLr := HRL.out
              obtain ⟨j, hj1, hj2, hj3, hj4⟩ := (HSY.out k (by omega)).1 hkl
              have hRr := ownsRow_keep HR1.out hkp Hne.out
              obtain ⟨gT, rfl, _, _⟩ := own_some hRr (by omega)
              obtain ⟨_, uL, sL, _⟩ := rr_cell (i := k) hRr (by omega)
              rw [hj1] at sL
              rw [Htr.out] at uL
              have hD : dAt cs j = max (upN (tree cs) (tree cs).length (up1 (tree cs) k)) 1 := by
                unfold dAt
                rw [if_neg (by omega), hj4]
              obtain ⟨D, hDd⟩ : ∃ D, D = upN (tree cs) (tree cs).length (up1 (tree cs) k) := ⟨_, rfl⟩
              rw [← hDd] at hD
              have hDl : D ≤ (tree cs).length := by rw [hDd]; exact upN_le _ _ _
              have hup0 := tree_ups (cs := cs) (fun n hn => (Hpos.out n hn).1) k (by omega)
              have H1 : Hid (RU cs D (up1 (tree cs) k) 0) := by
                refine Lib.hid ⟨(tree cs).length, ?_, by rw [hDd]; simp⟩
                rcases hup0 with h | ⟨t, h1, h2, h3⟩
                · exact .inl h
                · exact .inr ⟨t, h1, h3, by omega⟩
              have hset := oRow_succ (cs := cs) (i := k) (j := j) (fun n hn => (Hpos.out n hn).1) hj2 hj3 hj4
              have hiset := inI_set hown hj2 (dAt cs j : Int)
              rw [hset] at hiset
              have HF : Hid (RO w.heap.size go cs w1 (k + 1) (wr.setCell ⟨go, j, none⟩ (.int .i64 (dAt cs j : Int)))) := Lib.hid ⟨hiset, hkp.setCell (.inl (by simp)) _⟩
              obtain ⟨c1, z1⟩ := inI_cell hown (i := j) (by rw [oRow_len]; exact hj2)
              have HR := Lib.hid hRr
              have HD := Lib.hid hD
              have hkR : (k : Int) < RL := by omega
              have hkR2 : k < RL := by omega
              have hj0 : ¬ ((j : Int) < 0) := by omega
              have hji : (j : Int) < cs.length := by omega
              have dg : decide ((0 : Int) ≤ (j : Int)) = true := by simp
              have dl : decide ((k : Int) < (RL : Int)) = true := by simpa using hkR2
              generalize (oRow cs k)[j]'(by rw [oRow_len]; exact hj2) = ov at *
              clear hI hown hkp hj1 hj3 hj4 hRr hup0 hDd hset hiset hD HSY
              generalize up1 (tree cs) k = u0 at *
              go_wp2_with fail
              clear uL
              go_loop [9, 10] (fun nv kv => ∃ (kk : Int) (cc : Nat), nv = .int .i64 cc ∧ kv = .int .i64 kk ∧ (kk = -1 ∨ 0 ≤ kk) ∧ cc ≤ D ∧ Hid (RU cs D kk cc)) (fun _ kv => mUp (tree cs).length (intOf kv))
              case atStart => exact ⟨u0, 0, rfl, rfl, by obtain ⟨f, h, _⟩ := H1.out; rcases h with h | ⟨t, h, _⟩ <;> omega, by omega, H1⟩
              case round =>
                obtain ⟨kk, cc, rfl, rfl, hkk, hcc, hU⟩ := hrel
                clear H1
                obtain ⟨f, hu, hsum⟩ := hU.out
                by_cases hneg : kk = -1
                · subst hneg
                  have hDc : cc = D := by
                    cases f with
                    | zero => simpa [upN] using hsum
                    | succ f => simpa [upN] using hsum
                  subst hDc
                  have hmx : max (cc : Int) 1 = (dAt cs j : Int) := by rw [HD.out]; omega
                  clear hU hu hsum
                  go_wp2
                  exact ⟨⟨k + 1, by simp, by omega, HF⟩, by simp [intOf]; omega⟩
                · rcases hu with hu | ⟨t, rfl, ht1, ht2⟩
                  · exact absurd hu hneg
                  · have uT := (rr_cell (i := t) HR.out (by have := HRL.out; omega)).2.1
                    rw [Htr.out] at uT
                    obtain ⟨f', rfl⟩ : ∃ f', f = f' + 1 := ⟨f - 1, by omega⟩
                    rw [upN, if_neg (by omega), Int.toNat_natCast] at hsum
                    have hupT := tree_ups (cs := cs) (fun n hn => (Hpos.out n hn).1) t ht1
                    have HF2 : Hid (RU cs D (up1 (tree cs) t) (cc + 1)) := by
                      refine Lib.hid ⟨f', ?_, by omega⟩
                      rcases hupT with h | ⟨t', h1, h2, h3⟩
                      · exact .inl h
                      · exact .inr ⟨t', h1, h3, by omega⟩
                    have hmu : Hid (mUp (tree cs).length (up1 (tree cs) t) < mUp (tree cs).length (t : Int)) := Lib.hid (by
                      unfold mUp
                      rcases hupT with h | ⟨t', h1, h2, h3⟩
                      · rw [h, if_pos (by omega), if_neg (by omega)]; simp; omega
                      · rw [h1, if_neg (by omega), if_neg (by omega)]; simp; omega)
                    have hk2 : up1 (tree cs) t = -1 ∨ 0 ≤ up1 (tree cs) t := by
                      rcases hupT with h | ⟨t', h1, h2, h3⟩
                      · exact .inl h
                      · right; omega
                    have hcD : cc + 1 ≤ D := by omega
                    have htR : (t : Int) < RL := by omega
                    have htR2 : t < RL := by omega
                    have hwc : IntKind.i64.wrap ((cc : Int) + 1) = (cc : Int) + 1 := by rw [IntKind.wrap_i64]; omega
                    clear hU hsum hupT
                    generalize up1 (tree cs) t = u1 at *
                    generalize hTl : (tree cs).length = TL at *
                    go_wp2
                    exact ⟨⟨u1, cc + 1, by simp, rfl, hk2, hcD, HF2⟩, by simpa [intOf] using hmu.out⟩
          · obtain rfl : k = leaf cs cs.length := by omega
            have HI : Hid (RO w.heap.size go cs w1 (leaf cs cs.length) wr) := hI
            have hfin : Hid (∃ go, (Value.slice (some ⟨go, 0, none⟩) cs.length cs.length) = (Value.slice (some ⟨go, 0, none⟩) cs.length cs.length)) := Lib.hid ⟨go, rfl⟩
            have hpost : Hid (wr.ownsRow w.heap.size 3 1 (.slice (some ⟨go, 0, none⟩) cs.length cs.length) cs.length (inI ((depths cs).map fun (k : Nat) => (k : Int))) ∧ Keep [] w wr) := by
              refine Lib.hid ⟨?_, ?_⟩
              · rw [← oRow_all (fun n hn => (Hpos.out n hn).1)]; exact hown
              · exact Hkw.out.step hkp (by intro i hi; simp at hi; right; omega)
            rcases Nat.lt_or_ge (leaf cs cs.length) RL with hlt | hlt
            · have hRLr := HRL.out
              have hsn := (HSY.out (leaf cs cs.length) (by omega)).2 (Nat.le_refl _)
              have hRr := ownsRow_keep HR1.out hkp Hne.out
              obtain ⟨gT, rfl, _, _⟩ := own_some hRr (by omega)
              obtain ⟨_, _, sL, _⟩ := rr_cell (i := leaf cs cs.length) hRr (by omega)
              rw [hsn] at sL
              have dl : decide ((leaf cs cs.length : Int) < (RL : Int)) = true := by simpa using hlt
              have hlt2 : (leaf cs cs.length : Int) < RL := by omega
              have dg : decide ((0 : Int) ≤ (-1 : Int)) = false := by decide
              clear hI hown hkp hsn hRr HI hfin hRLr HSY
              generalize leaf cs cs.length = lf at *
              go_wp2
              go_ret
              exact ⟨go, rfl, hpost.out.1, hpost.out.2⟩
            · have dl : decide ((leaf cs cs.length : Int) < (RL : Int)) = false := by simp; omega
              have hlt2 : ¬ (leaf cs cs.length : Int) < RL := by omega
              clear hI hown hkp HI hfin HSY
              generalize leaf cs cs.length = lf at *
              go_wp2
              go_ret
              exact ⟨go, rfl, hpost.out.1, hpost.out.2⟩
end Go.Proofs.Ytiejjbdmkgdniaa
set_option linter.unusedVariables false
set_option linter.unusedSimpArgs false
namespace Go.Proofs.Ytiejjbdmkgdniaa
open Go.RowKit Go.Sal Go.Huf
/-- an int behind a row of ints -/
theorem int_append {base n c : Nat} {A : Option Addr} {f : List Int} {w : World} (h : w.ownsRow base 3 1 (.slice A n c) n (inI f)) (hn : n = f.length) (x : Int) (hn2 : n ≤ 100000) (hB : base ≤ w.heap.size) :
    ∃ A' c' w', (Builtin.append_ #[49, 49] 49 #[.slice A n c, .slice (some ⟨w.heap.size, 0, none⟩) 1 1]).run Try.prog (w.alloc (.cells #[.int .i64 x] 3)) = .ok (.slice A' (n + 1) c') w' ∧
      w'.ownsRow base 3 1 (.slice A' (n + 1) c') (n + 1) (inI (f ++ [x])) ∧ Keep (Value.slice A n c).ownBlock.toList w w' := by
  have hka : Keep [] w (w.alloc (.cells #[.int .i64 x] 3)) := (Keep.refl [] w).alloc _
  obtain ⟨v', w', hrun, hown, hg, hat⟩ := run_append_src (P := Try.prog) (w.alloc (.cells #[.int .i64 x] 3)) 49 49 3 (.int .i64 0) 1 8 base Try.underlying49 intinfo rfl (by omega) (.slice A n c) n (inI f) (ownsRow_keep h hka (by simp))
    (some ⟨w.heap.size, 0, none⟩) 1 1 [.int .i64 x] (src_new w 3 1 [.int .i64 x] rfl) (by simp [Value.oneCell']) (by unfold maxLen; omega) (by omega) (by simp; omega)
  obtain ⟨A', c', rfl, _⟩ := own_slice hown
  exact ⟨A', c', w', hrun, by simpa [inI] using hown, (hka.mono (by simp)).grown hg (fun k hk => .inl (by simp [hk]))⟩
theorem rlengths_bad (cs : List Int) (A : Option Addr) (c : Nat) (w : World) (hs : ISrc w A cs) (hn : cs.length ≤ 100000000) (h : ¬ okC cs) :
    Calls Try.prog 35 #[.slice A cs.length c] w fun e w' => e = .returned (.tuple #[.slice none 0 0, .int .i64 50]) ∧ w = w' := by
  have hb := (rcounted_any cs A c w hs hn).mono (R' := fun e w' => e = .returned (.bool false) ∧ w = w') (by
    rintro e w' ⟨b, h1, h2, h3⟩
    cases b with
    | false => exact ⟨h1, h3⟩
    | true => exact absurd (h2.1 rfl) h)
  have hb := Lib.hid hb
  clear hs h
  go_enter Try.func35, Try.ntmps35
  go_wp2_with (go_at_call 69; refine hb.out.mono ?_; rintro e w' ⟨rfl, rfl⟩)
  go_ret2
  exact ⟨rfl, rfl⟩
structure LnR (w : World) (cs : List Int) (A : Option Addr) (A4 : Option Addr) (c4 : Nat) (f : Nat) (cs' : List Int) (wr : World) : Prop where
  src : ISrc wr A cs'
  own : wr.ownsRow w.heap.size 3 1 (.slice A4 cs.length c4) cs.length (inI (toI (depths cs')))
  kp : Keep [] w wr
  fin : lensF f cs' = lens cs
  sum : cs'.sum.toNat ≤ f
  len : cs'.length = cs.length
  ok : okC cs'
def HfI (w2 : World) (cs' : List Int) (A : Option Addr) (c k : Nat) (wr : World) : Prop :=
  wr.ownsRow w2.heap.size 3 1 (.slice A k c) k (inI ((cs'.take k).map half)) ∧ Keep [] w2 wr

set_option maxRecDepth 20000 in
set_option maxHeartbeats 4000000 in
theorem rlengths_ok (cs : List Int) (A : Option Addr) (c : Nat) (w : World) (hs : ISrc w A cs) (h : okC cs) :
    Calls Try.prog 35 #[.slice A cs.length c] w fun e w' => ∃ AO cO, e = .returned (.tuple #[.slice AO cs.length cO, .int .i64 0]) ∧
      w'.ownsRow w.heap.size 3 1 (.slice AO cs.length cO) cs.length (inI (toI (lens cs))) ∧ Keep [] w w' := by
  have hl512 := h.1
  have hb := (rcounted_any cs A c w hs (by omega)).mono (R' := fun e w' => e = .returned (.bool true) ∧ w = w') (by
    rintro e w' ⟨b, h1, h2, h3⟩
    cases b with
    | true => exact ⟨h1, h3⟩
    | false => exact absurd (h2.2 h) (by simp))
  have Hb := Lib.hid hb
  have Hd0 := Lib.hid (rdepths_any cs A c w hs (by omega) h.2)
  have H := Lib.hid h
  have Hs := Lib.hid hs
  clear hs h hb
  go_enter Try.func35, Try.ntmps35
  go_wp2_with (first
    | (go_at_call 69; refine Hb.out.mono ?_; rintro e w' ⟨rfl, rfl⟩)
    | (go_at_call 70; refine Hd0.out.mono ?_; rintro e w1 ⟨g4, rfl, hown1, hk1⟩))
  have H0 : Hid (LnR w cs A (some ⟨g4, 0, none⟩) cs.length cs.sum.toNat cs w1) := Lib.hid ⟨Hs.out.keep hk1 (by simp), hown1, hk1, rfl, Nat.le_refl _, rfl, H.out⟩
  clear hown1 hk1 Hb Hd0 Hs
  go_loopg [0, 4] cs.sum.toNat (fun gk v0 v4 wr => ∃ (f : Nat) (cs' : List Int) (A : Option Addr) (c4 : Nat) (A4 : Option Addr) (c0 : Nat), f ≤ gk ∧ v0 = .slice A cs.length c0 ∧ v4 = .slice A4 cs.length c4 ∧ Hid (LnR w cs A A4 c4 f cs' wr))
  case atStart => exact ⟨_, _, _, _, _, _, Nat.le_refl _, rfl, rfl, H0⟩
  case round =>
    obtain ⟨f, cs', A0, c4, A4, c0, hf, rfl, rfl, hI⟩ := hrel
    clear H0
    obtain ⟨hsrc, hown, hkp, hfin, hsum, hlen, hok⟩ := hI.out
    have hcw := hkp.size
    have hdl : (toI (depths cs')).length = cs.length := by simp [toI, depths, hlen]
    have hd := rdeep_any (toI (depths cs')) A4 c4 wr (ISrc.of_own hown) (by rw [hdl]; omega)
    rw [hdl] at hd
    have HI := Lib.hid hI.out
    by_cases hdeep : ∃ d ∈ toI (depths cs'), 15 < d
    · as_aux_lemma =>
        have hd' := hd.mono (R' := fun e w' => e = .returned (.bool true) ∧ wr = w') (by
          rintro e w' ⟨b, h1, h2, h3⟩
          cases b with
          | true => exact ⟨h1, h3⟩
          | false => exact absurd (h2.2 hdeep) (by simp))
        have Hd := Lib.hid hd'
        have hd15 : 15 < dMost cs' cs'.length := by
          obtain ⟨d, hd1, hd2⟩ := hdeep
          unfold toI depths at hd1
          simp only [List.map_map, List.mem_map, List.mem_range, Function.comp] at hd1
          obtain ⟨i, hi, rfl⟩ := hd1
          have := dMost_ge cs' cs'.length i hi
          omega
        have hlt := deep_half (fun n hn => (hok.2 n hn).1) hok.1 hd15
        have hs0 := (sum_half cs' (fun n hn => (hok.2 n hn).1)).1
        have hs1 := (sum_half (cs'.map half) (fun n hn => ((okC_half hok).2 n hn).1)).1
        obtain ⟨f', rfl⟩ : ∃ f', f = f' + 1 := ⟨f - 1, by omega⟩
        have hfin' : lensF f' (cs'.map half) = lens cs := by
          rw [← hfin, lensF, if_neg (by omega)]
        have Hfin := Lib.hid hfin'
        have Hsum := Lib.hid (show (cs'.map half).sum.toNat ≤ f' by omega)
        have Hok := Lib.hid hok
        generalize wr = w2 at *
        have HJ0 : Hid (HfI w2 cs' none 0 0 w2) := Lib.hid ⟨World.ownsRow_nil _ _ _ _, Keep.refl _ _⟩
        clear hI hsrc hown hkp hfin hsum hok hd15 hlt hs0 hs1 hfin' hd hd' hdl hdeep
        go_wp2_with (go_at_call 71; refine Hd.out.mono ?_; rintro e w' ⟨rfl, rfl⟩)
        go_loopw [5, 6] (fun v5 i wr => ∃ (k : Nat) (A5 : Option Addr) (c5 : Nat), i = .int .i64 k ∧ k ≤ cs.length ∧ v5 = .slice A5 k c5 ∧ Hid (HfI w2 cs' A5 c5 k wr)) (fun _ i _ => cs.length - (intOf i).toNat)
        case atStart => exact ⟨0, _, _, rfl, by omega, rfl, HJ0⟩
        case round =>
          obtain ⟨k, A5, c5, rfl, hk, rfl, hJ⟩ := hrel
          clear HJ0
          rcases Nat.lt_or_ge k cs.length with hkl | hkl
          · as_aux_lemma =>
              obtain ⟨hown, hkp⟩ := hJ.out
              have hkl' : k < cs'.length := by omega
              obtain ⟨g, o, rfl, hg, hc⟩ := HI.out.src k hkl'
              have d0 := (hkp.cell (p := ⟨g, o + k, none⟩) hg (by simp)).trans hc
              have hx := Hok.out.2 _ (List.getElem_mem hkl')
              have hwk : IntKind.i64.wrap ((k : Int) + 1) = (k : Int) + 1 := by rw [IntKind.wrap_i64]; omega
              have htk : (cs'.take k).map half ++ [half cs'[k]] = (cs'.take (k + 1)).map half := by
                rw [List.take_succ_eq_append_getElem hkl', List.map_append]; rfl
              obtain ⟨A6, c6, w6, hap, hown6, hk6⟩ := int_append hown (by simp; omega) (half cs'[k]) (by omega) hkp.size
              rw [htk] at hown6
              have HN : Hid (HfI w2 cs' A6 c6 (k + 1) w6) := Lib.hid ⟨hown6, hkp.step hk6 (fun j hj => .inr (hown.lt j (by simpa using hj)).1)⟩
              have Hap := Lib.hid hap
              clear hJ hown hkp hc htk hown6 hk6 hap
              have hap := Hap.out
              generalize cs'[k] = x at *
              by_cases hp : x = 0
              · subst hp
                have hh : half 0 = 0 := rfl
                rw [hh] at hap
                go_wp2_with (at_builtin; refine wpList_append2 (v1 := .slice A5 k c5) (v2 := .slice (some ⟨wr.heap.size, 0, none⟩) 1 1) rfl (.tmp 30) (.tmp 32) rfl rfl rfl hap ?_)
                exact ⟨⟨k + 1, _, _, by simp, by omega, rfl, HN⟩, by simp [intOf]; omega⟩
              · have hh : half x = x.tdiv 2 + 1 := by unfold half; rw [if_pos (by omega)]
                rw [hh] at hap
                obtain ⟨y, hy⟩ : ∃ y, y = x.tdiv 2 := ⟨_, rfl⟩
                have hyb : 0 ≤ y ∧ y ≤ 1073741824 := by rw [hy, Int.tdiv_eq_ediv_of_nonneg hx.1]; omega
                have hq : x.tdiv 2 = y := hy.symm
                rw [hq] at hap
                have hw1 : IntKind.i64.wrap y = y := by rw [IntKind.wrap_i64]; omega
                have hw2 : IntKind.i64.wrap (y + 1) = y + 1 := by rw [IntKind.wrap_i64]; omega
                have hxn : (x != 0) = true := by simpa using hp
                clear hh hy hyb
                go_wp2_with (at_builtin; refine wpList_append2 (v1 := .slice A5 k c5) (v2 := .slice (some ⟨wr.heap.size, 0, none⟩) 1 1) rfl (.tmp 30) (.tmp 32) rfl rfl rfl hap ?_)
                exact ⟨⟨k + 1, _, _, by simp, by omega, rfl, HN⟩, by simp [intOf]; omega⟩
          · obtain rfl : k = cs.length := by omega
            obtain ⟨hown, hkp⟩ := hJ.out
            have htl : cs'.take cs.length = cs' := by rw [← hlen]; exact List.take_length
            rw [htl] at hown
            have hml : (cs'.map half).length = cs.length := by rw [List.length_map]; exact hlen
            have hdd := rdepths_any (cs'.map half) A5 c5 wr (ISrc.of_own hown) (by omega) (okC_half Hok.out).2
            rw [hml] at hdd
            have Hdd := Lib.hid (hdd.mono (R' := fun e w' => ∃ go, e = .returned (.slice (some ⟨go, 0, none⟩) cs.length cs.length) ∧ Hid (LnR w cs A5 (some ⟨go, 0, none⟩) cs.length f' (cs'.map half) w')) (by
              rintro e w' ⟨go, h1, h2, h3⟩
              have hk2 := HI.out.kp.trans hkp
              exact ⟨go, h1, Lib.hid ⟨(ISrc.of_own hown).keep h3 (by simp), own_le h2 hk2.size, hk2.trans h3, Hfin.out, Hsum.out, hml, okC_half Hok.out⟩⟩))
            clear hJ hown hkp htl hml hdd
            go_wp2_with (go_at_call 70; refine Hdd.out.mono ?_; rintro e w' ⟨go, rfl, HN⟩)
            obtain ⟨gm, rfl⟩ : ∃ gm, gk = gm + 1 := ⟨gk - 1, by omega⟩
            go_roundg gm
            case measure => omega
            case rel => exact ⟨f', _, _, _, _, _, by omega, rfl, rfl, HN⟩
    · have hd' := hd.mono (R' := fun e w' => e = .returned (.bool false) ∧ wr = w') (by
        rintro e w' ⟨b, h1, h2, h3⟩
        cases b with
        | false => exact ⟨h1, h3⟩
        | true => exact absurd (h2.1 rfl) hdeep)
      have Hd := Lib.hid hd'
      have hres : lens cs = depths cs' := by
        rw [← hfin]
        cases f with
        | zero => rfl
        | succ f =>
          rw [lensF, if_pos]
          refine dMost_le cs' 15 (fun i hi => ?_) _ (Nat.le_refl _)
          apply Classical.byContradiction
          intro hc
          refine hdeep ⟨(dAt cs' i : Int), ?_, by omega⟩
          unfold toI depths
          simp only [List.map_map, List.mem_map, List.mem_range, Function.comp]
          exact ⟨i, hi, rfl⟩
      have Hres := Lib.hid hres
      clear hI hsrc hown hkp hfin hsum hok hd hd' hdeep hres
      go_wp2_with (go_at_call 71; refine Hd.out.mono ?_; rintro e w' ⟨rfl, rfl⟩)
      go_ret2
      exact ⟨A4, c4, rfl, by rw [Hres.out]; exact HI.out.own, HI.out.kp⟩
end Go.Proofs.Ytiejjbdmkgdniaa
