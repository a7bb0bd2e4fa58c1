/- The tree of counts, walked: the nodes laid, the free ones listed, the least two made one. -/
import Derived.Test.YtdnaahbhfjclpaaGreatDoorH4
set_option linter.unusedVariables false
set_option linter.unusedSimpArgs false
namespace Go.Proofs.YtdnaahbhfjclpaaGreatDoor
open Go.RowKit Go.Sal Go.Huf
def TA (w : World) (cs : List Int) (i : Nat) (wr : World) : Prop :=
  ∃ AL cL, NB w.heap.size w.heap.size AL cL (nodes0 (cs.take i)) wr ∧ Keep [] w wr
def TB (w : World) (bf : Nat) (cs : List Int) (AL : Option Addr) (cL : Nat) (i : Nat) (wr : World) : Prop :=
  NB w.heap.size w.heap.size AL cL (nodes0 cs) wr ∧ Keep [] w wr ∧ ∃ AF cF, FB bf w.heap.size AF cF (List.range i) wr
def TC (w : World) (bf : Nat) (N : Nat) (tot : Int) (FIN : List (Int × Int)) (k : Nat) (wr : World) : Prop :=
  ∃ nodes free AL cL AF cF h p, NB w.heap.size w.heap.size AL cL nodes wr ∧ FB bf w.heap.size AF cF free wr ∧ Keep [] w wr ∧ TI nodes free h p tot ∧ free.length = k ∧ (treeF free.length (nodes, free)).1 = FIN ∧ nodes.length + free.length = N + N
theorem NB.far {bl bf base cL cF gf : Nat} {AL : Option Addr} {nodes : List (Int × Int)} {free : List Nat} {w w' : World} (h : NB bl base AL cL nodes w) (hF : FB bf base (some ⟨gf, 0, none⟩) cF free w) (k : Keep [bf, gf] w w') : NB bl base AL cL nodes w' := by
  refine ⟨h.1.keep k ?_, ownsRow_keep h.2 k ?_⟩
  · simp only [List.mem_cons, List.not_mem_nil, or_false, not_or]
    exact ⟨Blk.ne_ h.1 hF.1 (by decide), fun e => own_ne_blk hF.2 h.1 (by decide) (by rw [e]; rfl)⟩
  · intro i hi
    simp only [List.mem_cons, List.not_mem_nil, or_false, not_or]
    exact ⟨fun e => own_ne_blk h.2 hF.1 (by decide) (e ▸ hi), fun e => own_ne_own h.2 hF.2 (by decide) hi (by rw [e]; rfl)⟩
theorem FB.far {bl bf base cL cF : Nat} {AL AF : Option Addr} {nodes : List (Int × Int)} {free : List Nat} {w w' : World} {F : List Nat} (h : FB bf base AF cF free w) (hN : NB bl base AL cL nodes w) (k : Keep F w w') (hF : ∀ i ∈ F, i = bl ∨ (Value.slice AL nodes.length cL).ownBlock = some i) : FB bf base AF cF free w' := by
  refine ⟨h.1.keep k ?_, ownsRow_keep h.2 k ?_⟩
  · intro hm
    rcases hF _ hm with h1 | h1
    · exact Blk.ne_ h.1 hN.1 (by decide) h1
    · exact own_ne_blk hN.2 h.1 (by decide) h1
  · intro i hi hm
    rcases hF _ hm with h1 | h1
    · subst h1; exact own_ne_blk h.2 hN.1 (by decide) hi
    · exact own_ne_own h.2 hN.2 (by decide) hi h1
theorem sum_le : ∀ (cs : List Int), (∀ n ∈ cs, 0 ≤ n ∧ n ≤ 1073741824) → cs.sum ≤ 1073741824 * cs.length
  | [], _ => by simp
  | n :: cs, h => by
    have ih := sum_le cs (fun m hm => h m (by simp [hm]))
    have := h n (by simp)
    simp only [List.sum_cons, List.length_cons]
    omega
set_option maxRecDepth 20000 in
set_option maxHeartbeats 8000000 in
theorem tree_any (cs : List Int) (A : Option Addr) (c : Nat) (w : World) (hs : ISrc w A cs) (hn : cs.length ≤ 600) (hpos : ∀ n ∈ cs, 0 ≤ n ∧ n ≤ 1073741824) :
    Calls Tryz.prog 155 #[.slice A cs.length c] w fun e w' => ∃ AL cL, e = .returned (.slice AL (tree cs).length cL) ∧ w'.ownsRow w.heap.size 224 2 (.slice AL (tree cs).length cL) (tree cs).length ((tree cs).flatMap ncells) ∧ Keep [] w w' := by
  have Hs := Lib.hid hs
  have Hpos := Lib.hid hpos
  have hnl := nodes0_len cs
  have htot := sum_le cs hpos
  have H0 : Hid (TA w cs 0 (w.alloc (.cells #[.slice none 0 0] 221 (0, 0)))) := Lib.hid ⟨none, 0, ⟨Blk.new w 221 _, World.ownsRow_nil _ _ _ _⟩, (Keep.refl [] w).alloc _⟩
  clear hs hpos
  go_enter Tryz.func155, Tryz.ntmps155
  go_wp2
  go_loopw [14] (fun i wr => ∃ k : Nat, i = .int .i64 k ∧ k ≤ cs.length ∧ Hid (TA w cs k wr)) (fun i _ => cs.length - (intOf i).toNat)
  case atStart => exact ⟨0, rfl, by omega, H0⟩
  case round =>
    obtain ⟨k, rfl, hk, hI⟩ := hrel
    clear H0
    rcases Nat.lt_or_ge k cs.length with hkl | hkl
    · as_aux_lemma =>
        obtain ⟨AL, cL, hN, hkp⟩ := hI.out
        obtain ⟨g, o, rfl, hg, hc⟩ := Hs.out k hkl
        have d0 := (hkp.cell (p := ⟨g, o + k, none⟩) hg (by simp)).trans hc
        have hnt := nodes0_take hkl
        generalize cs[k] = x at *
        by_cases hx : 0 < x
        · rw [if_pos hx] at hnt
          have hlen : (nodes0 (cs.take k)).length ≤ 600 := Nat.le_trans (nodes0_len _) (by rw [List.length_take]; omega)
          obtain ⟨A2, c2, w2, hap, hown2, hk2⟩ := node_append hN.2 (x, -1) (by omega) hkp.size
          have r0 : wr.cell? ⟨w.heap.size, 0, none⟩ = some (.slice AL (nodes0 (cs.take k)).length cL) := hN.1.cell 0
          have hT2 := hN.1.keep hk2 (by have := own_ne_blk hN.2 hN.1 (by decide); simpa using this)
          have f2 : w2.cell? ⟨w.heap.size, 0, none⟩ = some (.slice AL (nodes0 (cs.take k)).length cL) := hT2.cell 0
          have z2 : w2.frozen? ⟨w.heap.size, 0, none⟩ = false := hT2.free 0
          have HF : Hid (TA w cs (k + 1) (w2.setCell ⟨w.heap.size, 0, none⟩ (.slice A2 (nodes0 (cs.take k) ++ [(x, -1)]).length c2))) := by
            refine Lib.hid ⟨A2, c2, ⟨?_, ?_⟩, ?_⟩
            · rw [hnt]; exact hT2.set_ 0 _
            · rw [hnt]
              have hks : Keep [w.heap.size] w2 (w2.setCell ⟨w.heap.size, 0, none⟩ (.slice A2 (nodes0 (cs.take k) ++ [(x, -1)]).length c2)) := (Keep.refl _ w2).setCell (.inl (by simp)) _
              exact ownsRow_keep hown2 hks (by intro j hj; simp; rintro rfl; exact own_ne_blk hown2 hT2 (by decide) hj)
            · refine (hkp.step hk2 (fun j hj => .inr ?_)).setCell (.inr (Nat.le_refl _)) _
              exact (hN.2.lt j (by simpa using hj)).1
          have Hap := Lib.hid hap
          clear hI hN hkp hnt hown2 hk2 hT2 hlen hap hc
          have hap := Hap.out
          generalize (nodes0 (cs.take k)).length = nl at *
          generalize (nodes0 (cs.take k) ++ [(x, -1)]).length = nl2 at *
          go_wp2_with (at_builtin; refine wpList_append2 (v1 := .slice AL nl cL) (v2 := .slice (some ⟨wr.heap.size, 0, none⟩) 1 1) rfl (.tmp 20) (.tmp 23) rfl rfl rfl hap ?_)
          exact ⟨⟨k + 1, by simp, by omega, HF⟩, by simp [intOf]; omega⟩
        · rw [if_neg hx, List.append_nil] at hnt
          have HF : Hid (TA w cs (k + 1) wr) := Lib.hid ⟨AL, cL, by rw [hnt]; exact hN, hkp⟩
          clear hI hN hkp hnt hc
          go_wp2
          exact ⟨⟨k + 1, by simp, by omega, HF⟩, by simp [intOf]; omega⟩
    · obtain rfl : k = cs.length := by omega
      obtain ⟨AL, cL, hN, hkp⟩ := hI.out
      rw [List.take_length] at hN
      obtain ⟨N, hNd⟩ : ∃ N, N = (nodes0 cs).length := ⟨_, rfl⟩
      have HTI := Lib.hid (TI.start (cs := cs) (fun n hn => (Hpos.out n hn).1))
      have r0 : (wr.alloc (.cells #[.slice none 0 0] 140 (0, 0))).cell? ⟨w.heap.size, 0, none⟩ = some (.slice AL N cL) := by
        have := (hN.keep ((Keep.refl [] wr).alloc (.cells #[.slice none 0 0] 140 (0, 0)))).1.cell 0
        rw [hNd]; exact this
      have HB0 : Hid (TB w wr.heap.size cs AL cL 0 (wr.alloc (.cells #[.slice none 0 0] 140 (0, 0)))) :=
        Lib.hid ⟨hN.keep ((Keep.refl [] wr).alloc _), hkp.alloc _, none, 0, Blk.new wr 140 _, World.ownsRow_nil _ _ _ _⟩
      have hwz : w.heap.size < wr.heap.size := hN.1.lt
      have HNd := Lib.hid hNd
      have hN600 : N ≤ 600 := by omega
      clear hI hN hkp hnl hNd
      go_wp2
      obtain ⟨bf, hbf⟩ : ∃ bf, bf = wr.heap.size := ⟨_, rfl⟩
      simp only [← hbf] at HB0 hwz ⊢
      generalize (wr.alloc (.cells #[.slice none 0 0] 140 (0, 0))) = w3 at HB0 r0 ⊢
      have Hbf := Lib.hid hbf
      clear hbf r0
      go_loopw [28] (fun i wr => ∃ k : Nat, i = .int .i64 k ∧ k ≤ N ∧ Hid (TB w bf cs AL cL k wr)) (fun i _ => N - (intOf i).toNat)
      case atStart => exact ⟨0, rfl, by omega, HB0⟩
      case round =>
        obtain ⟨k, rfl, hk, hI⟩ := hrel
        clear HB0
        rcases Nat.lt_or_ge k N with hkl | hkl
        · as_aux_lemma =>
            obtain ⟨hN, hkp, AF, cF, hF1, hF2⟩ := hI.out
            obtain ⟨A2, c2, w2, hap, hown2, hk2, _⟩ := free_append hF2 k (by simp; omega) (by have := hkp.size; omega)
            have hbb : w.heap.size ≠ bf := by omega
            have hT2 := hF1.keep hk2 (by have := own_ne_blk hF2 hF1 (by decide); simpa using this)
            have hN1 := hN.1.keep hk2 (by have := own_ne_blk hF2 hN.1 (by decide); simpa using this)
            have hN2 := ownsRow_keep hN.2 hk2 (by intro j hj; have := own_ne_own hN.2 hF2 (by decide) hj; simpa using this)
            have r0 : wr.cell? ⟨bf, 0, none⟩ = some (.slice AF (List.range k).length cF) := hF1.cell 0
            have f2 : w2.cell? ⟨bf, 0, none⟩ = some (.slice AF (List.range k).length cF) := hT2.cell 0
            have z2 : w2.frozen? ⟨bf, 0, none⟩ = false := hT2.free 0
            have HF : Hid (TB w bf cs AL cL (k + 1) (w2.setCell ⟨bf, 0, none⟩ (.slice A2 (List.range k ++ [k]).length c2))) := by
              have hks : Keep [bf] w2 (w2.setCell ⟨bf, 0, none⟩ (.slice A2 (List.range k ++ [k]).length c2)) := (Keep.refl _ w2).setCell (.inl (by simp)) _
              refine Lib.hid ⟨⟨hN1.keep hks (by simpa using hbb), ownsRow_keep hN2 hks (by intro j hj; simp; rintro rfl; exact own_ne_blk hN2 hT2 (by decide) hj)⟩, ?_, A2, c2, ?_, ?_⟩
              · refine (hkp.step hk2 (fun j hj => .inr ?_)).setCell (.inr (by show w.heap.size ≤ bf; omega)) _
                exact (hF2.lt j (by simpa using hj)).1
              · rw [List.range_succ]; exact hT2.set_ 0 _
              · rw [List.range_succ]
                exact ownsRow_keep hown2 hks (by intro j hj; simp; rintro rfl; exact own_ne_blk hown2 hT2 (by decide) hj)
            rw [List.length_range] at r0 f2 hap
            have e1 : (List.range k ++ [k]).length = k + 1 := by simp
            rw [e1] at HF hap
            have Hap := Lib.hid hap
            clear hI hN hkp hF1 hF2 hown2 hk2 hT2 hN1 hN2 hap e1
            have hap := Hap.out
            go_wp2_with (at_builtin; refine wpList_append2 (v1 := .slice AF k cF) (v2 := .slice (some ⟨wr.heap.size, 0, none⟩) 1 1) rfl (.tmp 31) (.tmp 33) rfl rfl rfl hap ?_)
            exact ⟨⟨k + 1, by simp, by omega, HF⟩, by simp [intOf]; omega⟩
        · obtain rfl : k = N := by omega
          obtain ⟨hN, hkp, AF, cF, hF1, hF2⟩ := hI.out
          have HC0 : Hid (TC w bf k cs.sum (tree cs) k wr) := by
            refine Lib.hid ⟨nodes0 cs, List.range k, AL, cL, AF, cF, _, _, hN, ⟨hF1, hF2⟩, hkp, by rw [HNd.out]; exact HTI.out, by simp, ?_, by rw [HNd.out]; simp⟩
            rw [List.length_range]
            unfold tree
            rw [← HNd.out]
          clear hI hN hkp hF1 hF2 HTI Hs
          go_wp2_with fail
          go_loopg [9] k (fun gk a wr => ∃ m, m ≤ gk ∧ Hid (TC w bf k cs.sum (tree cs) m wr))
          case atStart => exact ⟨k, Nat.le_refl _, HC0⟩
          case round =>
            obtain ⟨m, hm, hI⟩ := hrel
            clear HC0
            obtain ⟨nodes, free, AL, cL, AF, cF, h, p, hN, hF, hkp, hT, hfl, hfin, hnf⟩ := hI.out
            have r0 : wr.cell? ⟨bf, 0, none⟩ = some (.slice AF free.length cF) := hF.1.cell 0
            by_cases hf1 : 1 < free.length
            · as_aux_lemma =>
                have hsz := hkp.size
                obtain ⟨gf, rfl, hgf1, hgf2⟩ := own_some hF.2 (by omega)
                have hvl : ∀ v ∈ free, v < nodes.length := fun v hv => (hT.frl v hv).1
                have hnpos : 0 < nodes.length := Nat.lt_of_le_of_lt (Nat.zero_le _) (hvl _ (getD_mem (k := 0) (by omega)))
                obtain ⟨gl, rfl, hgl1, hgl2⟩ := own_some hN.2 hnpos
                obtain ⟨k1, hk1d⟩ : ∃ k1, k1 = leastK nodes free := ⟨_, rfl⟩
                obtain ⟨a, had⟩ : ∃ a, a = free.getD k1 0 := ⟨_, rfl⟩
                obtain ⟨f1, hf1d⟩ : ∃ f1, f1 = free.eraseIdx k1 := ⟨_, rfl⟩
                obtain ⟨k2, hk2d⟩ : ∃ k2, k2 = leastK nodes f1 := ⟨_, rfl⟩
                obtain ⟨b, hbd⟩ : ∃ b, b = f1.getD k2 0 := ⟨_, rfl⟩
                obtain ⟨f2, hf2d⟩ : ∃ f2, f2 = f1.eraseIdx k2 := ⟨_, rfl⟩
                have hst : treeStep (nodes, free) = (link (link (nodes ++ [(wt nodes a + wt nodes b, -1)]) a nodes.length) b nodes.length, f2 ++ [nodes.length]) := by
                  unfold treeStep
                  simp only [← hk1d, ← had, ← hf1d, ← hk2d, ← hbd, ← hf2d]
                have q1 : k1 < free.length := by rw [hk1d]; exact leastK_lt (by omega)
                have ql1 : f1.length = free.length - 1 := by rw [hf1d, List.length_eraseIdx, if_pos q1]
                have q2 : k2 < f1.length := by rw [hk2d]; exact leastK_lt (by omega)
                have ql2 : f2.length = f1.length - 1 := by rw [hf2d, List.length_eraseIdx, if_pos q2]
                have am : a ∈ free := by rw [had]; exact getD_mem q1
                have bm : b ∈ free := by
                  have : b ∈ f1 := by rw [hbd]; exact getD_mem q2
                  rw [hf1d] at this
                  exact (List.eraseIdx_sublist _ _).mem this
                have hal := hvl a am
                have hbl := hvl b bm
                have hvl1 : ∀ v ∈ f1, v < nodes.length := fun v hv => hvl v (by rw [hf1d] at hv; exact (List.eraseIdx_sublist _ _).mem hv)
                have hpw : ∀ v ∈ free, 0 ≤ wt nodes v := fun v hv => by have := hT.wts v (hvl v hv); have := fib_pos (h v); omega
                have ha0 := hpw a am
                have hb0 := hpw b bm
                have ha1 := wt_le_sum (l := nodes) free hpw a am
                have hb1 := wt_le_sum (l := nodes) free hpw b bm
                rw [hT.tots] at ha1 hb1
                obtain ⟨h', p', hT'⟩ := hT.step hf1
                rw [hst] at hT'
                have hfin' : (treeF (f2 ++ [nodes.length]).length (link (link (nodes ++ [(wt nodes a + wt nodes b, -1)]) a nodes.length) b nodes.length, f2 ++ [nodes.length])).1 = tree cs := by
                  obtain ⟨fl, hfl2⟩ : ∃ fl, free.length = fl + 1 := ⟨free.length - 1, by omega⟩
                  rw [hfl2, treeF, if_pos (by show 1 < free.length; exact hf1), hst] at hfin
                  rw [← hfin]
                  congr 2
                  simp
                  omega
                have l1 := least_any w.heap.size bf w.heap.size gf cF gl cL free nodes wr hF.1 hN.1 hF.2 hN.2 (by omega) hvl (by omega) (by omega)
                rw [← hk1d, ← had, ← hf1d, ← ql1] at l1
                have L1 := Lib.hid l1
                have l2 : ∀ W, NB w.heap.size w.heap.size (some ⟨gl, 0, none⟩) cL nodes W → FB bf w.heap.size (some ⟨gf, 0, none⟩) cF f1 W → Calls Tryz.prog 164 #[.pointer (some ⟨bf, 0, none⟩), .pointer (some ⟨w.heap.size, 0, none⟩)] W fun e w' => e = .returned (.int .i64 (b : Nat)) ∧
                    FB bf w.heap.size (some ⟨gf, 0, none⟩) cF f2 w' ∧ Keep [bf, gf] W w' := fun W hN1 hF1 => by
                  have l2 := least_any w.heap.size bf w.heap.size gf cF gl cL f1 nodes W hF1.1 hN1.1 hF1.2 hN1.2 (by omega) hvl1 (by omega) (by omega)
                  rw [← hk2d, ← hbd, ← hf2d, ← ql2] at l2
                  exact l2.mono (fun _ _ h => ⟨h.1, ⟨h.2.1, h.2.2.1⟩, h.2.2.2⟩)
                have L2 := Lib.hid l2
                have hfl1 : (1 : Int) < free.length := by omega
                have hlen2 : (f2 ++ [nodes.length]).length + 1 = free.length := by simp; omega
                have HN := Lib.hid hN
                have HF := Lib.hid hF
                have Hkp := Lib.hid hkp
                have HT' := Lib.hid hT'
                have Hfin := Lib.hid hfin'
                have Hlen2 := Lib.hid hlen2
                have Hnf := Lib.hid hnf
                have Hfm := Lib.hid (show f2.length + 2 = free.length by omega)
                have hab : wt nodes a + wt nodes b ≤ 4611686018427387904 := by omega
                have hab0 : 0 ≤ wt nodes a + wt nodes b := by omega
                have hn1300 : nodes.length ≤ 1300 := by omega
                have hf600 : f2.length ≤ 1300 := by omega
                clear hI hN hF hkp hT hfin hnf hst hk1d had hf1d hk2d hbd hf2d q1 q2 ql1 ql2 am bm hvl hvl1 hpw hT' hfin' l1 l2 hlen2 ha1 hb1
                go_wp2_with fail
                refine L1.out.mono ?_
                rintro e w1 ⟨rfl, hb1, ho1, hk1⟩
                have hF1 : FB bf w.heap.size (some ⟨gf, 0, none⟩) cF f1 w1 := ⟨hb1, ho1⟩
                have hN1 := NB.far HN.out HF.out hk1
                have L2b := Lib.hid (L2.out w1 hN1 hF1)
                have HN1 := Lib.hid hN1
                have HF1 := Lib.hid hF1
                have Hk1 := Lib.hid hk1
                clear hb1 ho1 hk1 hF1 hN1 r0
                go_wp2_with fail
                refine L2b.out.mono ?_
                rintro e w2 ⟨rfl, hF2, hk2⟩
                have hN2 := NB.far HN1.out HF1.out hk2
                have hk12 : Keep [bf, gf] wr w2 := Hk1.out.trans hk2
                have hw2 : w.heap.size ≤ w2.heap.size := by have := hk12.size; omega
                obtain ⟨A3, c3, w3, hap, hown3, hk3⟩ := node_append (w := w2.drew) hN2.2 (wt nodes a + wt nodes b, -1) (by omega) hw2
                obtain ⟨g3, rfl, hg3, hg3b⟩ := own_some hown3 (by simp)
                have hk3' : Keep [gl] w2 w3 := Keep.of_drew hk3
                have cB2 : w2.cell? ⟨w.heap.size, 0, none⟩ = some (.slice (some ⟨gl, 0, none⟩) nodes.length cL) := hN2.1.cell 0
                have ca := (nd_cell hN2.2 hal).1
                have cb := (nd_cell hN2.2 hbl).1
                have hbg : w.heap.size ≠ gl := fun e => own_ne_blk hN2.2 hN2.1 (by decide) (by rw [e]; rfl)
                have hT3 := hN2.1.keep hk3' (by simpa using hbg)
                have f3 : w3.cell? ⟨w.heap.size, 0, none⟩ = some (.slice (some ⟨gl, 0, none⟩) nodes.length cL) := hT3.cell 0
                have z3 : w3.frozen? ⟨w.heap.size, 0, none⟩ = false := hT3.free 0
                have hF3 := FB.far hF2 hN2 hk3' (fun i hi => .inr (by simp at hi; rw [hi]; rfl))
                have hblt := hN2.1.lt
                have hglt : gl < w2.heap.size := (hN2.2.lt gl rfl).2
                have HSk : Hid (∀ W, Keep [] w2 W → W.cell? ⟨w.heap.size, 0, none⟩ = some (.slice (some ⟨gl, 0, none⟩) nodes.length cL) ∧ W.cell? ⟨gl, a * 2, none⟩ = some (.int .i64 (wt nodes a)) ∧ W.cell? ⟨gl, b * 2, none⟩ = some (.int .i64 (wt nodes b))) :=
                  Lib.hid (fun W k => ⟨(k.cell (p := ⟨w.heap.size, 0, none⟩) hblt (by simp)).trans cB2, (k.cell (p := ⟨gl, a * 2, none⟩) hglt (by simp)).trans ca, (k.cell (p := ⟨gl, b * 2, none⟩) hglt (by simp)).trans cb⟩)
                have hS18 := HSk.out _ ((Keep.refl [] w2).drew)
                have hwab : IntKind.i64.wrap (wt nodes a + wt nodes b) = wt nodes a + wt nodes b := by rw [IntKind.wrap_i64]; omega
                have el : (nodes ++ [(wt nodes a + wt nodes b, -1)]).length = nodes.length + 1 := by simp
                rw [el] at hap hown3
                -- behind the store of the nodes
                obtain ⟨w4, hw4⟩ : ∃ w4, w4 = w3.setCell ⟨w.heap.size, 0, none⟩ (.slice (some ⟨g3, 0, none⟩) (nodes.length + 1) c3) := ⟨_, rfl⟩
                have hks4 : Keep [w.heap.size] w3 w4 := by rw [hw4]; exact (Keep.refl _ w3).setCell (.inl (by simp)) _
                have hb3 : w.heap.size ≠ g3 := fun e => own_ne_blk hown3 hT3 (by decide) (by rw [e]; rfl)
                have hB4 : Blk w4 w.heap.size 221 #[.slice (some ⟨g3, 0, none⟩) (nodes.length + 1) c3] := by rw [hw4]; exact hT3.set_ 0 _
                have hown4 := ownsRow_keep hown3 hks4 (by intro i hi; simp [Value.ownBlock] at hi; subst hi; simpa using fun e => hb3 e.symm)
                have hF4 : FB bf w.heap.size (some ⟨gf, 0, none⟩) cF f2 w4 := by
                  refine ⟨hF3.1.keep hks4 ?_, ownsRow_keep hF3.2 hks4 ?_⟩
                  · have := Blk.ne_ hF3.1 hT3 (by decide); simpa using this
                  · intro i hi; simp; rintro rfl; exact own_ne_blk hF3.2 hT3 (by decide) hi
                have hal' : a < (nodes ++ [(wt nodes a + wt nodes b, -1)]).length := by rw [el]; omega
                have hbl' : b < (nodes ++ [(wt nodes a + wt nodes b, -1)]).length := by rw [el]; omega
                obtain ⟨_, m1, m2⟩ := nd_cell hown4 hal'
                -- behind the first link
                have hown5 := nd_set (t := (nodes.length : Int)) (w := w4.drew) hown4 hal' el.symm
                obtain ⟨_, m3, m4⟩ := nd_cell hown5 (show b < (link (nodes ++ [(wt nodes a + wt nodes b, -1)]) a nodes.length).length by rw [link_len]; exact hbl')
                have hown6 := nd_set (t := (nodes.length : Int)) hown5 (show b < (link (nodes ++ [(wt nodes a + wt nodes b, -1)]) a nodes.length).length by rw [link_len]; exact hbl') (by rw [link_len]; exact el.symm)
                obtain ⟨w6, hw6⟩ : ∃ w6, w6 = ((w4.setCell ⟨g3, a * 2 + 1, none⟩ (.int .i64 (nodes.length : Int))).setCell ⟨g3, b * 2 + 1, none⟩ (.int .i64 (nodes.length : Int))).drew := ⟨_, rfl⟩
                have hks6 : Keep [g3] w4 w6 := by rw [hw6]; exact (((Keep.refl [g3] w4).setCell (.inl (by simp)) _).setCell (.inl (by simp)) _).drew
                have hown6 : w6.ownsRow w.heap.size 224 2 (.slice (some ⟨g3, 0, none⟩) (nodes.length + 1) c3) (nodes.length + 1) ((link (link (nodes ++ [(wt nodes a + wt nodes b, -1)]) a nodes.length) b nodes.length).flatMap ncells) := by rw [hw6]; exact hown6
                have hB6 := hB4.keep hks6 (by simpa using hb3)
                have hF6 : FB bf w.heap.size (some ⟨gf, 0, none⟩) cF f2 w6 := by
                  refine ⟨hF4.1.keep hks6 ?_, ownsRow_keep hF4.2 hks6 ?_⟩
                  · simp; rintro rfl; exact own_ne_blk hown4 hF4.1 (by decide) rfl
                  · intro i hi; simp; rintro rfl; exact own_ne_own hF4.2 hown4 (by decide) hi rfl
                have hB5 : (w4.drew.setCell ⟨g3, a * 2 + 1, none⟩ (.int .i64 (nodes.length : Int))).cell? ⟨w.heap.size, 0, none⟩ = some (.slice (some ⟨g3, 0, none⟩) (nodes.length + 1) c3) := by
                  have hk : Keep [g3] w4 (w4.drew.setCell ⟨g3, a * 2 + 1, none⟩ (.int .i64 (nodes.length : Int))) := ((Keep.refl [g3] w4).drew).setCell (.inl (by simp)) _
                  exact (hB4.keep hk (by simpa using hb3)).cell 0
                have hS20 : w4.drew.cell? ⟨w.heap.size, 0, none⟩ = some (.slice (some ⟨g3, 0, none⟩) (nodes.length + 1) c3) := hB4.cell 0
                have r4 : w4.cell? ⟨w.heap.size, 0, none⟩ = some (.slice (some ⟨g3, 0, none⟩) (nodes.length + 1) c3) := hB4.cell 0
                -- the free ones' new row
                have hw6s : w.heap.size ≤ w6.heap.size := by have := hks6.size; have := hks4.size; have := hk3'.size; omega
                obtain ⟨A7, c7, w7, hap7, hown7, hk7, _⟩ := free_append hF6.2 nodes.length (by omega) hw6s
                have hk7' : Keep [gf] w6 w7 := hk7
                have hbfg : bf ≠ gf := fun e => own_ne_blk hF6.2 hF6.1 (by decide) (by rw [e]; rfl)
                have hT7 := hF6.1.keep hk7' (by simpa using hbfg)
                have r6 : w6.cell? ⟨bf, 0, none⟩ = some (.slice (some ⟨gf, 0, none⟩) f2.length cF) := hF6.1.cell 0
                have r7 : w7.cell? ⟨bf, 0, none⟩ = some (.slice (some ⟨gf, 0, none⟩) f2.length cF) := hT7.cell 0
                have z7 : w7.frozen? ⟨bf, 0, none⟩ = false := hT7.free 0
                have HTC : Hid (TC w bf k cs.sum (tree cs) (f2 ++ [nodes.length]).length (w7.setCell ⟨bf, 0, none⟩ (.slice A7 (f2 ++ [nodes.length]).length c7))) := by
                  have hks8 : Keep [bf] w7 (w7.setCell ⟨bf, 0, none⟩ (.slice A7 (f2 ++ [nodes.length]).length c7)) := (Keep.refl _ w7).setCell (.inl (by simp)) _
                  have hel2 : (link (link (nodes ++ [(wt nodes a + wt nodes b, -1)]) a nodes.length) b nodes.length).length = nodes.length + 1 := by rw [link_len, link_len, el]
                  have hN6 : NB w.heap.size w.heap.size (some ⟨g3, 0, none⟩) c3 (link (link (nodes ++ [(wt nodes a + wt nodes b, -1)]) a nodes.length) b nodes.length) w6 := ⟨by rw [hel2]; exact hB6, by rw [hel2]; exact hown6⟩
                  have hN7 : NB w.heap.size w.heap.size (some ⟨g3, 0, none⟩) c3 (link (link (nodes ++ [(wt nodes a + wt nodes b, -1)]) a nodes.length) b nodes.length) w7 := by
                    refine NB.far hN6 hF6 (hk7'.mono (by simp))
                  refine Lib.hid ⟨_, _, _, _, A7, c7, h', p', ⟨hN7.1.keep hks8 ?_, ownsRow_keep hN7.2 hks8 ?_⟩, ⟨hT7.set_ 0 _, ownsRow_keep hown7 hks8 ?_⟩, ?_, HT'.out, rfl, Hfin.out, ?_⟩
                  · have := Blk.ne_ hN7.1 hT7 (by decide); simpa using this
                  · intro i hi; simp; rintro rfl; exact own_ne_blk hN7.2 hT7 (by decide) hi
                  · intro i hi; simp; rintro rfl; exact own_ne_blk hown7 hT7 (by decide) hi
                  · have e1 : Keep [] w w2 := Hkp.out.step hk12 (by intro i hi; simp at hi; right; rcases hi with rfl | rfl <;> omega)
                    have e2 : Keep [] w w3 := e1.step hk3' (by intro i hi; simp at hi; right; omega)
                    have e3 : Keep [] w w4 := e2.step hks4 (by intro i hi; simp at hi; right; omega)
                    have e4 : Keep [] w w6 := e3.step hks6 (by intro i hi; simp at hi; right; omega)
                    have e5 : Keep [] w w7 := e4.step hk7' (by intro i hi; simp at hi; right; omega)
                    exact e5.setCell (.inr (by show w.heap.size ≤ bf; omega)) _
                  · rw [hel2]; have := Hnf.out; have := Hlen2.out; omega
                have Hap := Lib.hid hap
                have Hap7 := Lib.hid hap7
                have Hw4 := Lib.hid hw4
                have Hw6 := Lib.hid hw6
                have HB5 := Lib.hid hB5
                have HS20 := Lib.hid hS20
                have R4 := Lib.hid r4
                have M := Lib.hid (And.intro m1 (And.intro m2 (And.intro m3 m4)))
                have R67 := Lib.hid (And.intro r6 (And.intro r7 z7))
                have Fbg := Lib.hid (And.intro hbg hb3)
                have hap := Hap.out
                clear hF2 hN2 hk12 hown3 hk3 hk3' cB2 ca cb hbg hT3 hF3 hblt hglt hap7 hks4 hb3 hB4 hown4 hF4 m1 m2 m3 m4 hown5 hown6 hks6 hB6 hF6 hB5 hS20 r4 hw6s hown7 hk7 hk7' hbfg hT7 r6 r7 z7 hw4 hw6 hal' hbl' hk2 el
                generalize (f2 ++ [nodes.length]).length = fl8 at *
                generalize nodes.length = nl at *
                generalize wt nodes a = wa at *
                generalize wt nodes b = wb at *
                go_wp2_with fail
                refine wp_region_G (fun W => W.cell? ⟨w.heap.size, 0, none⟩ = some (.slice (some ⟨gl, 0, none⟩) nl cL) ∧ W.cell? ⟨gl, a * 2, none⟩ = some (.int .i64 wa) ∧ W.cell? ⟨gl, b * 2, none⟩ = some (.int .i64 wb)) [14, 15] #[false, false, false, false, false, false, false, false, false, false, false, false, false, false, false, false] 16 (by kernel_rfl) (by kernel_rfl) (by kernel_rfl) ?_
                refine wpAnyG_take (i := 0) (oi := ⟨_, _, _, _, _, _⟩) (v := ?vg1_0) [0, 14, 15] rfl (by kernel_rfl) (by kernel_rfl) (by kernel_rfl) (by kernel_rfl) (by kernel_rfl) (fun _ _ _ h => h) (fun _ => hS18) (Or.inl ⟨by rfl, ?hg1_0⟩) ?_
                case hg1_0 => intro w hSw; (try dsimp only at hSw); go_simp; (try with_reducible rfl)
                try simp only [Act.put, List.setIfInBounds_toArray, List.set_cons_zero, List.set_cons_succ]
                refine wpAnyG_take (i := 1) (oi := ⟨_, _, _, _, _, _⟩) (v := ?vg1_1) [1, 3, 4, 5, 11, 12, 13, 14, 15] rfl (by kernel_rfl) (by kernel_rfl) (by kernel_rfl) (by kernel_rfl) (by kernel_rfl) (fun _ _ _ h => h) (fun _ => hS18) (Or.inl ⟨by rfl, ?hg1_1⟩) ?_
                case hg1_1 => intro w hSw; (try dsimp only at hSw); go_simp; (try with_reducible rfl)
                try simp only [Act.put, List.setIfInBounds_toArray, List.set_cons_zero, List.set_cons_succ]
                refine wpAnyG_take0 (i := 2) (oi := ⟨_, _, _, _, _, _⟩) (v := ?vg1_2) rfl (by kernel_rfl) (by kernel_rfl) (by kernel_rfl) (by kernel_rfl) (fun _ _ _ h => h) (fun _ => hS18) (Or.inl ⟨by rfl, ?hg1_2⟩) ?_
                case hg1_2 => intro w _; go_simp; (try with_reducible rfl)
                try simp only [Act.put, List.setIfInBounds_toArray, List.set_cons_zero, List.set_cons_succ]
                refine wpAnyG_take0 (i := 3) (oi := ⟨_, _, _, _, _, _⟩) (v := ?vg1_3) rfl (by kernel_rfl) (by kernel_rfl) (by kernel_rfl) (by kernel_rfl) (fun _ _ _ h => h) (fun _ => hS18) (Or.inl ⟨by rfl, ?hg1_3⟩) ?_
                case hg1_3 => intro w _; go_simp; (try with_reducible rfl)
                try simp only [Act.put, List.setIfInBounds_toArray, List.set_cons_zero, List.set_cons_succ]
                refine wpAnyG_take0 (i := 4) (oi := ⟨_, _, _, _, _, _⟩) (v := ?vg1_4) rfl (by kernel_rfl) (by kernel_rfl) (by kernel_rfl) (by kernel_rfl) (fun _ _ _ h => h) (fun _ => hS18) (Or.inl ⟨by rfl, ?hg1_4⟩) ?_
                case hg1_4 => intro w _; go_simp; (try with_reducible rfl)
                try simp only [Act.put, List.setIfInBounds_toArray, List.set_cons_zero, List.set_cons_succ]
                refine wpAnyG_take (i := 5) (oi := ⟨_, _, _, _, _, _⟩) (v := ?vg1_5) [5, 11, 12, 13, 14, 15] rfl (by kernel_rfl) (by kernel_rfl) (by kernel_rfl) (by kernel_rfl) (by kernel_rfl) (fun _ _ _ h => h) (fun _ => hS18) (Or.inl ⟨by rfl, ?hg1_5⟩) ?_
                case hg1_5 => intro w hSw; (try dsimp only at hSw); go_simp; (try with_reducible rfl)
                try simp only [Act.put, List.setIfInBounds_toArray, List.set_cons_zero, List.set_cons_succ]
                refine wpAnyG_take (i := 6) (oi := ⟨_, _, _, _, _, _⟩) (v := ?vg1_6) [6, 8, 9, 10, 11, 12, 13, 14, 15] rfl (by kernel_rfl) (by kernel_rfl) (by kernel_rfl) (by kernel_rfl) (by kernel_rfl) (fun _ _ _ h => h) (fun _ => hS18) (Or.inl ⟨by rfl, ?hg1_6⟩) ?_
                case hg1_6 => intro w hSw; (try dsimp only at hSw); go_simp; (try with_reducible rfl)
                try simp only [Act.put, List.setIfInBounds_toArray, List.set_cons_zero, List.set_cons_succ]
                refine wpAnyG_take0 (i := 7) (oi := ⟨_, _, _, _, _, _⟩) (v := ?vg1_7) rfl (by kernel_rfl) (by kernel_rfl) (by kernel_rfl) (by kernel_rfl) (fun _ _ _ h => h) (fun _ => hS18) (Or.inl ⟨by rfl, ?hg1_7⟩) ?_
                case hg1_7 => intro w _; go_simp; (try with_reducible rfl)
                try simp only [Act.put, List.setIfInBounds_toArray, List.set_cons_zero, List.set_cons_succ]
                refine wpAnyG_take0 (i := 8) (oi := ⟨_, _, _, _, _, _⟩) (v := ?vg1_8) rfl (by kernel_rfl) (by kernel_rfl) (by kernel_rfl) (by kernel_rfl) (fun _ _ _ h => h) (fun _ => hS18) (Or.inl ⟨by rfl, ?hg1_8⟩) ?_
                case hg1_8 => intro w _; go_simp; (try with_reducible rfl)
                try simp only [Act.put, List.setIfInBounds_toArray, List.set_cons_zero, List.set_cons_succ]
                refine wpAnyG_take0 (i := 9) (oi := ⟨_, _, _, _, _, _⟩) (v := ?vg1_9) rfl (by kernel_rfl) (by kernel_rfl) (by kernel_rfl) (by kernel_rfl) (fun _ _ _ h => h) (fun _ => hS18) (Or.inl ⟨by rfl, ?hg1_9⟩) ?_
                case hg1_9 => intro w _; go_simp; (try with_reducible rfl)
                try simp only [Act.put, List.setIfInBounds_toArray, List.set_cons_zero, List.set_cons_succ]
                refine wpAnyG_take (i := 10) (oi := ⟨_, _, _, _, _, _⟩) (v := ?vg1_10) [10, 11, 12, 13, 14, 15] rfl (by kernel_rfl) (by kernel_rfl) (by kernel_rfl) (by kernel_rfl) (by kernel_rfl) (fun _ _ _ h => h) (fun _ => hS18) (Or.inl ⟨by rfl, ?hg1_10⟩) ?_
                case hg1_10 => intro w hSw; (try dsimp only at hSw); go_simp; (try with_reducible rfl)
                try simp only [Act.put, List.setIfInBounds_toArray, List.set_cons_zero, List.set_cons_succ]
                refine wpAnyG_take0 (i := 11) (oi := ⟨_, _, _, _, _, _⟩) (v := ?vg1_11) rfl (by kernel_rfl) (by kernel_rfl) (by kernel_rfl) (by kernel_rfl) (fun _ _ _ h => h) (fun _ => hS18) (Or.inl ⟨by rfl, ?hg1_11⟩) ?_
                case hg1_11 => intro w _; go_simp; (try with_reducible rfl)
                try simp only [Act.put, List.setIfInBounds_toArray, List.set_cons_zero, List.set_cons_succ]
                refine wpAnyG_take0 (i := 12) (oi := ⟨_, _, _, _, _, _⟩) (v := ?vg1_12) rfl (by kernel_rfl) (by kernel_rfl) (by kernel_rfl) (by kernel_rfl) (fun _ _ _ h => h) (fun _ => hS18) (Or.inl ⟨by rfl, ?hg1_12⟩) ?_
                case hg1_12 => intro w _; go_simp; (try with_reducible rfl)
                try simp only [Act.put, List.setIfInBounds_toArray, List.set_cons_zero, List.set_cons_succ]
                refine wpAnyG_step (i := 13) (oi := ⟨_, _, _, _, _, _⟩) rfl (by kernel_rfl) (by rfl) (fun K hK => ?_)
                go_simp
                refine hK _ _ ?_ (fun hSg1_13 => ?_)
                · intro _; exact HSk.out _ (((Keep.refl [] w2).drew).alloc _)
                replace hSg1_13 := hSg1_13 (by kernel_rfl)
                clear hK
                try simp only [Act.put, List.setIfInBounds_toArray, List.set_cons_zero, List.set_cons_succ]
                refine wpAnyG_step (i := 14) (oi := ⟨_, _, _, _, _, _⟩) rfl (by kernel_rfl) (by rfl) (fun K hK => ?_)
                refine wp_append2 (v1 := .slice (some ⟨gl, 0, none⟩) nl cL) (v2 := .slice (some ⟨w2.heap.size, 0, none⟩) 1 1) (.tmp 44) (.tmp 57) rfl rfl rfl hap ?_
                refine hK _ _ (fun h => absurd h (Bool.eq_false_iff.1 (by kernel_rfl))) (fun _ => ?_)
                clear hK
                try simp only [Act.put, List.setIfInBounds_toArray, List.set_cons_zero, List.set_cons_succ]
                refine wpAnyG_step (i := 15) (oi := ⟨_, _, _, _, _, _⟩) rfl (by kernel_rfl) (by rfl) (fun K hK => ?_)
                go_simp
                refine hK _ _ (fun h => absurd h (Bool.eq_false_iff.1 (by kernel_rfl))) (fun _ => ?_)
                clear hK
                try simp only [Act.put, List.setIfInBounds_toArray, List.set_cons_zero, List.set_cons_succ]
                refine wpAnyG_done (by kernel_rfl) ?_ _
                clear hap hS18 f3 z3
                rw [← Hw4.out]
                have hwn1 : IntKind.i64.wrap ((nl : Int) + 1 - 1) = (nl : Int) := by rw [IntKind.wrap_i64]; omega
                have r4 := R4.out
                go_wp2_with fail
                have hS20 := HS20.out
                obtain ⟨m1, m2, m3, m4⟩ := M.out
                have m3' := (show (w4.setCell ⟨g3, a * 2 + 1, none⟩ (.int .i64 (nl : Int))).cell? ⟨g3, b * 2 + 1, none⟩ = _ from m3)
                have m4' := (show (w4.setCell ⟨g3, a * 2 + 1, none⟩ (.int .i64 (nl : Int))).frozen? ⟨g3, b * 2 + 1, none⟩ = _ from m4)
                have ha2 : a < nl + 1 := by omega
                have hb2 : b < nl + 1 := by omega
                have ha3 : (a : Int) < (nl : Int) + 1 := by omega
                have hb3 : (b : Int) < (nl : Int) + 1 := by omega
                refine wp_region_G (fun W => W.cell? ⟨w.heap.size, 0, none⟩ = some (.slice (some ⟨g3, 0, none⟩) (nl + 1) c3)) [11] #[false, false, false, false, false, false, false, false, false, false, false, false] 12 (by kernel_rfl) (by kernel_rfl) (by kernel_rfl) ?_
                refine wpAnyG_take (i := 0) (oi := ⟨_, _, _, _, _, _⟩) (v := ?vg2_0) [0, 6, 7, 8, 9, 10, 11] rfl (by kernel_rfl) (by kernel_rfl) (by kernel_rfl) (by kernel_rfl) (by kernel_rfl) (fun _ _ _ h => h) (fun _ => hS20) (Or.inl ⟨by rfl, ?hg2_0⟩) ?_
                case hg2_0 => intro w hSw; (try dsimp only at hSw); go_simp; (try with_reducible rfl)
                try simp only [Act.put, List.setIfInBounds_toArray, List.set_cons_zero, List.set_cons_succ]
                refine wpAnyG_take0 (i := 1) (oi := ⟨_, _, _, _, _, _⟩) (v := ?vg2_1) rfl (by kernel_rfl) (by kernel_rfl) (by kernel_rfl) (by kernel_rfl) (fun _ _ _ h => h) (fun _ => hS20) (Or.inl ⟨by rfl, ?hg2_1⟩) ?_
                case hg2_1 => intro w _; go_simp; (try with_reducible rfl)
                try simp only [Act.put, List.setIfInBounds_toArray, List.set_cons_zero, List.set_cons_succ]
                refine wpAnyG_take (i := 2) (oi := ⟨_, _, _, _, _, _⟩) (v := ?vg2_2) [2, 9, 10, 11] rfl (by kernel_rfl) (by kernel_rfl) (by kernel_rfl) (by kernel_rfl) (by kernel_rfl) (fun _ _ _ h => h) (fun _ => hS20) (Or.inl ⟨by rfl, ?hg2_2⟩) ?_
                case hg2_2 => intro w hSw; (try dsimp only at hSw); go_simp; (try with_reducible rfl)
                try simp only [Act.put, List.setIfInBounds_toArray, List.set_cons_zero, List.set_cons_succ]
                refine wpAnyG_take0 (i := 3) (oi := ⟨_, _, _, _, _, _⟩) (v := ?vg2_3) rfl (by kernel_rfl) (by kernel_rfl) (by kernel_rfl) (by kernel_rfl) (fun _ _ _ h => h) (fun _ => hS20) (Or.inl ⟨by rfl, ?hg2_3⟩) ?_
                case hg2_3 => intro w _; go_simp; (try with_reducible rfl)
                try simp only [Act.put, List.setIfInBounds_toArray, List.set_cons_zero, List.set_cons_succ]
                refine wpAnyG_take0 (i := 4) (oi := ⟨_, _, _, _, _, _⟩) (v := ?vg2_4) rfl (by kernel_rfl) (by kernel_rfl) (by kernel_rfl) (by kernel_rfl) (fun _ _ _ h => h) (fun _ => hS20) (Or.inl ⟨by rfl, ?hg2_4⟩) ?_
                case hg2_4 => intro w _; go_simp; (try with_reducible rfl)
                try simp only [Act.put, List.setIfInBounds_toArray, List.set_cons_zero, List.set_cons_succ]
                refine wpAnyG_take0 (i := 5) (oi := ⟨_, _, _, _, _, _⟩) (v := ?vg2_5) rfl (by kernel_rfl) (by kernel_rfl) (by kernel_rfl) (by kernel_rfl) (fun _ _ _ h => h) (fun _ => hS20) (Or.inl ⟨by rfl, ?hg2_5⟩) ?_
                case hg2_5 => intro w _; go_simp; (try with_reducible rfl)
                try simp only [Act.put, List.setIfInBounds_toArray, List.set_cons_zero, List.set_cons_succ]
                refine wpAnyG_take0 (i := 6) (oi := ⟨_, _, _, _, _, _⟩) (v := ?vg2_6) rfl (by kernel_rfl) (by kernel_rfl) (by kernel_rfl) (by kernel_rfl) (fun _ _ _ h => h) (fun _ => hS20) (Or.inl ⟨by rfl, ?hg2_6⟩) ?_
                case hg2_6 => intro w _; go_simp; (try with_reducible rfl)
                try simp only [Act.put, List.setIfInBounds_toArray, List.set_cons_zero, List.set_cons_succ]
                refine wpAnyG_take0 (i := 7) (oi := ⟨_, _, _, _, _, _⟩) (v := ?vg2_7) rfl (by kernel_rfl) (by kernel_rfl) (by kernel_rfl) (by kernel_rfl) (fun _ _ _ h => h) (fun _ => hS20) (Or.inl ⟨by rfl, ?hg2_7⟩) ?_
                case hg2_7 => intro w _; go_simp; (try with_reducible rfl)
                try simp only [Act.put, List.setIfInBounds_toArray, List.set_cons_zero, List.set_cons_succ]
                refine wpAnyG_step (i := 8) (oi := ⟨_, _, _, _, _, _⟩) rfl (by kernel_rfl) (by rfl) (fun K hK => ?_)
                go_simp
                refine hK _ _ ?_ (fun hSg2_8 => ?_)
                · intro _; exact HB5.out
                replace hSg2_8 := hSg2_8 (by kernel_rfl)
                clear hK
                try simp only [Act.put, List.setIfInBounds_toArray, List.set_cons_zero, List.set_cons_succ]
                refine wpAnyG_take0 (i := 9) (oi := ⟨_, _, _, _, _, _⟩) (v := ?vg2_9) rfl (by kernel_rfl) (by kernel_rfl) (by kernel_rfl) (by kernel_rfl) (fun _ _ _ h => h) (fun _ => hSg2_8) (Or.inl ⟨by rfl, ?hg2_9⟩) ?_
                case hg2_9 => intro w _; go_simp; (try with_reducible rfl)
                try simp only [Act.put, List.setIfInBounds_toArray, List.set_cons_zero, List.set_cons_succ]
                refine wpAnyG_take0 (i := 10) (oi := ⟨_, _, _, _, _, _⟩) (v := ?vg2_10) rfl (by kernel_rfl) (by kernel_rfl) (by kernel_rfl) (by kernel_rfl) (fun _ _ _ h => h) (fun _ => hSg2_8) (Or.inl ⟨by rfl, ?hg2_10⟩) ?_
                case hg2_10 => intro w _; go_simp; (try with_reducible rfl)
                try simp only [Act.put, List.setIfInBounds_toArray, List.set_cons_zero, List.set_cons_succ]
                refine wpAnyG_step (i := 11) (oi := ⟨_, _, _, _, _, _⟩) rfl (by kernel_rfl) (by rfl) (fun K hK => ?_)
                go_simp
                refine hK _ _ (fun h => absurd h (Bool.eq_false_iff.1 (by kernel_rfl))) (fun _ => ?_)
                clear hK
                try simp only [Act.put, List.setIfInBounds_toArray, List.set_cons_zero, List.set_cons_succ]
                refine wpAnyG_done (by kernel_rfl) ?_ _
                clear hS20 m1 m2 m3 m4 m3' m4' r4
                rw [← Hw6.out]
                obtain ⟨r6, r7, z7⟩ := R67.out
                have hap7 := Hap7.out
                obtain ⟨gm, rfl⟩ : ∃ gm, gk = gm + 1 := ⟨gk - 1, by have := Hlen2.out; omega⟩
                go_wp2_with (at_builtin; refine wpList_append2 (v1 := .slice (some ⟨gf, 0, none⟩) f2.length cF) (v2 := .slice (some ⟨w6.heap.size, 0, none⟩) 1 1) rfl (.tmp 72) (.tmp 74) rfl rfl rfl hap7 ?_)
                go_roundg gm
                case measure => omega
                case rel => exact ⟨fl8, by have := Hlen2.out; omega, HTC⟩
            · have hfl1 : ¬ (1 : Int) < free.length := by omega
              have hsm : (treeF free.length (nodes, free)).1 = nodes := by
                cases hfe : free.length with
                | zero => rfl
                | succ f => rw [treeF, if_neg (by show ¬ 1 < free.length; exact hf1)]
              rw [hsm] at hfin
              have r1 : wr.cell? ⟨w.heap.size, 0, none⟩ = some (.slice AL nodes.length cL) := hN.1.cell 0
              have HN2 := Lib.hid hN.2
              have Hkp := Lib.hid hkp
              have Hfin := Lib.hid hfin
              clear hI hN hF hkp hT hfl hfin hnf hsm
              go_wp2
              go_ret
              exact ⟨AL, cL, by rw [← Hfin.out]; rfl, by rw [← Hfin.out]; exact HN2.out, Hkp.out⟩
end Go.Proofs.YtdnaahbhfjclpaaGreatDoor

