/- The tree of counts, walked. -/
import Derived.Test.YtdnaahbhfjclpaaGreatDoorH2
set_option linter.unusedVariables false
set_option linter.unusedSimpArgs false
namespace Go.Proofs.YtdnaahbhfjclpaaGreatDoor
open Go.RowKit Go.Sal Go.Huf
theorem nd_cell {w : World} {base g n cap i : Nat} {l : List (Int × Int)} (h : w.ownsRow base 224 2 (.slice (some ⟨g, 0, none⟩) n cap) n (l.flatMap ncells)) (hi : i < l.length) :
    w.cell? ⟨g, i * 2, none⟩ = some (.int .i64 (wt l i)) ∧ w.cell? ⟨g, i * 2 + 1, none⟩ = some (.int .i64 (up1 l i)) ∧ w.frozen? ⟨g, i * 2 + 1, none⟩ = false := by
  have e : l.getD i (0, -1) = l[i] := by simp [List.getD, hi]
  have q0 := ownsRow_cell h (show (l.flatMap ncells)[i * 2]? = some (.int .i64 (wt l i)) by
    have := rf_get ncells_len l i 0 hi (by omega)
    rw [Nat.add_zero] at this
    rw [this, wt, e]; rfl)
  have q1 := ownsRow_cell h (show (l.flatMap ncells)[i * 2 + 1]? = some (.int .i64 (up1 l i)) by
    rw [rf_get ncells_len l i 1 hi (by omega), up1, e]; rfl)
  exact ⟨q0.1, q1.1, q1.2⟩
theorem inN_cell {w : World} {base g n cap i : Nat} {l : List Nat} (h : w.ownsRow base 3 1 (.slice (some ⟨g, 0, none⟩) n cap) n (inN l)) (hi : i < l.length) :
    w.cell? ⟨g, i, none⟩ = some (.int .i64 (l.getD i 0 : Nat)) := by
  have e : l.getD i 0 = l[i] := by simp [List.getD, hi]
  exact (ownsRow_cell h (show (inN l)[i]? = some (.int .i64 (l.getD i 0 : Nat)) by rw [e]; simp [inN, hi])).1
theorem own_cap {w : World} {base n size cap g : Nat} {e : TypeId} {xs : List Value} (h : w.ownsRow base e size (.slice (some ⟨g, 0, none⟩) n cap) n xs) : n ≤ cap ∧ cap ≤ maxLen := by
  rcases h.2 with ⟨h0, _⟩ | ⟨g', cap', cur, hv, hb, hh, h1, h2, _⟩
  · cases h0
  · injection hv with _ _ hv2
    subst hv2
    exact ⟨h1, h2⟩
set_option maxRecDepth 20000 in
set_option maxHeartbeats 2000000 in
theorem least_any (base bf bl gf cf gl cl : Nat) (free : List Nat) (nodes : List (Int × Int)) (w : World) (hF : Blk w bf 140 #[.slice (some ⟨gf, 0, none⟩) free.length cf]) (hL : Blk w bl 221 #[.slice (some ⟨gl, 0, none⟩) nodes.length cl])
    (hof : w.ownsRow base 3 1 (.slice (some ⟨gf, 0, none⟩) free.length cf) free.length (inN free)) (hol : w.ownsRow base 224 2 (.slice (some ⟨gl, 0, none⟩) nodes.length cl) nodes.length (nodes.flatMap ncells))
    (h0 : 0 < free.length) (hin : ∀ v ∈ free, v < nodes.length) (hn : nodes.length ≤ 10000) (hfl : free.length ≤ 10000) :
    Calls Tryz.prog 164 #[.pointer (some ⟨bf, 0, none⟩), .pointer (some ⟨bl, 0, none⟩)] w fun e w' => e = .returned (.int .i64 (free.getD (leastK nodes free) 0 : Nat)) ∧
      Blk w' bf 140 #[.slice (some ⟨gf, 0, none⟩) (free.length - 1) cf] ∧ w'.ownsRow base 3 1 (.slice (some ⟨gf, 0, none⟩) (free.length - 1) cf) (free.length - 1) (inN (free.eraseIdx (leastK nodes free))) ∧ Keep [bf, gf] w w' := by
  have cF : w.cell? ⟨bf, 0, none⟩ = some (.slice (some ⟨gf, 0, none⟩) free.length cf) := hF.cell 0
  have cL : w.cell? ⟨bl, 0, none⟩ = some (.slice (some ⟨gl, 0, none⟩) nodes.length cl) := hL.cell 0
  obtain ⟨hc1, hc2⟩ := own_cap hof
  unfold maxLen at hc2
  have hfr : ∀ j, j < free.length → free.getD j 0 < nodes.length := fun j hj => hin _ (getD_mem hj)
  have hcf : ∀ j, j < free.length → w.cell? ⟨gf, j, none⟩ = some (.int .i64 (free.getD j 0 : Nat)) := fun j hj => inN_cell hof hj
  have hcn : ∀ i, i < nodes.length → w.cell? ⟨gl, i * 2, none⟩ = some (.int .i64 (wt nodes i)) := fun i hi => (nd_cell hol hi).1
  have Hfr := Lib.hid hfr
  have Hcf := Lib.hid hcf
  have Hcn := Lib.hid hcn
  have HF := Lib.hid hF
  have Hof := Lib.hid hof
  have hk := leastK_lt (l := nodes) h0
  obtain ⟨nn, hnn⟩ : ∃ nn, nn = free.length - 1 := ⟨_, rfl⟩
  have hdel : ∀ W : World, W.ownsRow base 3 1 (.slice (some ⟨gf, 0, none⟩) free.length cf) free.length (inN free) → Calls Tryz.prog 165 #[.slice (some ⟨gf, 0, none⟩) free.length cf, .int .i64 (leastK nodes free : Int), .int .i64 ((leastK nodes free : Int) + 1)] W fun e w' => e = .returned (.slice (some ⟨gf, 0, none⟩) nn cf) ∧
      w'.ownsRow base 3 1 (.slice (some ⟨gf, 0, none⟩) nn cf) nn ((inN free).eraseIdx (leastK nodes free)) ∧ Keep [gf] W w' := fun W h => by
    rw [hnn]
    exact delete_any base gf free.length cf (leastK nodes free) (inN free) W h (inN_one free) hk (by omega) hc1 hc2
  have her : (inN free).eraseIdx (leastK nodes free) = inN (free.eraseIdx (leastK nodes free)) := (map_eraseIdx' _ _ _).symm
  rw [← hnn]
  have y0 := hcf _ hk
  obtain ⟨k, hkk⟩ : ∃ k, k = leastK nodes free := ⟨_, rfl⟩
  have Hsk : Hid (scanK nodes free free.length = k) := Lib.hid hkk.symm
  rw [← hkk] at hdel her y0 hk ⊢
  obtain ⟨fk, hfk⟩ : ∃ fk, fk = free.getD k 0 := ⟨_, rfl⟩
  rw [← hfk] at y0 ⊢
  have Hdel := Lib.hid hdel
  have Her := Lib.hid her
  have Y0 := Lib.hid y0
  clear hF hL hof hol hin hfr hcf hcn hdel her hnn hkk hfk y0
  go_enter Tryz.func164, Tryz.ntmps164
  go_wp2
  go_loopw [3, 9] (fun kk i wr => ∃ j q : Nat, i = .int .i64 j ∧ j ≤ free.length ∧ kk = .int .i64 (scanK nodes free j : Nat) ∧ wr = w.drewN q) (fun _ i _ => free.length - (intOf i).toNat)
  case atStart => exact ⟨0, 0, rfl, by omega, rfl, rfl⟩
  case round =>
    obtain ⟨j, q, rfl, hj, rfl, rfl⟩ := hrel
    rcases Nat.lt_or_ge j free.length with hlt | hge
    · have hsk : scanK nodes free j < free.length := by
        rcases Nat.eq_zero_or_pos j with h1 | h1
        · subst h1; simpa [scanK] using h0
        · have := scanK_lt nodes free j h1; omega
      have y1 := Hcf.out j hlt
      have y2 := Hcf.out _ hsk
      have z1 := Hcn.out _ (Hfr.out j hlt)
      have z2 := Hcn.out _ (Hfr.out _ hsk)
      have l1 := Hfr.out j hlt
      have l2 := Hfr.out _ hsk
      have hst : Hid (scanK nodes free (j + 1) = if wt nodes (free.getD j 0) < wt nodes (free.getD (scanK nodes free j) 0) then j else scanK nodes free j) := Lib.hid rfl
      generalize free.getD j 0 = fi at *
      generalize scanK nodes free j = sk at *
      generalize free.getD sk 0 = fk at *
      generalize wt nodes fi = wi at *
      generalize wt nodes fk = wk at *
      have hwj : IntKind.i64.wrap ((j : Int) + 1) = (j : Int) + 1 := by rw [IntKind.wrap_i64]; omega
      by_cases hlt2 : wi < wk
      · have e := hst.out
        rw [if_pos hlt2] at e
        have He := Lib.hid e
        clear e
        go_wp2
        go_quiet (fail)
        go_wp2
        exact ⟨⟨j + 1, _, by simp, by omega, by rw [He.out], rfl⟩, by simp [intOf]; omega⟩
      · have e := hst.out
        rw [if_neg hlt2] at e
        have He := Lib.hid e
        clear e
        go_wp2
        go_quiet (fail)
        go_wp2
        exact ⟨⟨j + 1, _, by simp, by omega, by rw [He.out], rfl⟩, by simp [intOf]; omega⟩
    · obtain rfl : j = free.length := by omega
      rw [Hsk.out]
      have y2 := Y0.out
      have hd := Hdel.out (w.drewN q) Hof.out
      have f1 : w.frozen? ⟨bf, 0, none⟩ = false := HF.out.free 0
      have hwk : IntKind.i64.wrap ((k : Int) + 1) = (k : Int) + 1 := by rw [IntKind.wrap_i64]; omega
      have Hd := Lib.hid hd
      have HT : Hid (Blk (w.drewN q) bf 140 #[.slice (some ⟨gf, 0, none⟩) free.length cf]) := Lib.hid (HF.out.drewN q)
      clear hd
      go_wp2_with fail
      refine Hd.out.mono ?_
      rintro e w1 ⟨rfl, hown1, hk1⟩
      have hne : bf ≠ gf := fun e => own_ne_blk Hof.out HF.out (by decide) (by rw [e]; rfl)
      have hT1 := HT.out.keep hk1 (by simpa using hne)
      have c1 : w1.cell? ⟨bf, 0, none⟩ = some (.slice (some ⟨gf, 0, none⟩) free.length cf) := hT1.cell 0
      have fz : w1.frozen? ⟨bf, 0, none⟩ = false := hT1.free 0
      have HT1 := Lib.hid hT1
      have Hown1 := Lib.hid hown1
      have Hk1 := Lib.hid hk1
      have Hne := Lib.hid hne
      clear hT1 hown1 hk1 hne y2 f1 cF cL
      go_wp2
      go_ret
      have hks : Keep [bf] w1 (w1.setCell ⟨bf, 0, none⟩ (.slice (some ⟨gf, 0, none⟩) nn cf)) := (Keep.refl [bf] w1).setCell (.inl (by simp)) _
      refine ⟨rfl, HT1.out.set_ 0 _, ownsRow_keep (Her.out ▸ Hown1.out) hks (by intro i hi; simp [Value.ownBlock] at hi; subst hi; simpa using fun e => Hne.out e.symm), ?_⟩
      exact ((Keep.refl [] w).drewN q |>.mono (by simp)).trans ((Hk1.out.mono (by simp)).trans (hks.mono (by simp)))
end Go.Proofs.YtdnaahbhfjclpaaGreatDoor

namespace Go.Proofs.YtdnaahbhfjclpaaGreatDoor
open Go.RowKit Go.Sal Go.Huf
theorem own_slice {base n size : Nat} {e : TypeId} {v : Value} {xs : List Value} {w : World} (h : w.ownsRow base e size v n xs) : ∃ A c, v = .slice A n c ∧ n ≤ c ∧ c ≤ 9223372036854775807 := by
  rcases h.2 with ⟨rfl, rfl⟩ | ⟨g, cap, cur, rfl, _, _, h1, h2, _⟩
  · exact ⟨_, _, rfl, by omega, by omega⟩
  · exact ⟨_, _, rfl, h1, by unfold maxLen at h2; omega⟩
theorem own_ne_own {b b' n n' size size' : Nat} {e e' : TypeId} {v v' : Value} {xs xs' : List Value} {w : World} (h : w.ownsRow b e size v n xs) (h' : w.ownsRow b' e' size' v' n' xs') (hne : e ≠ e') {g : Nat} (hg : v.ownBlock = some g) : v'.ownBlock ≠ some g := by
  intro hg'
  rcases h.2 with ⟨rfl, _⟩ | ⟨g1, cap, cur, rfl, _, hh, _⟩
  · simp [Value.ownBlock] at hg
  · rcases h'.2 with ⟨rfl, _⟩ | ⟨g2, cap', cur', rfl, _, hh', _⟩
    · simp [Value.ownBlock] at hg'
    · simp [Value.ownBlock] at hg hg'
      subst hg
      subst hg'
      rw [hh] at hh'
      injection hh' with hh'
      injection hh' with _ hh'
      exact hne hh'
theorem own_le {w : World} {base base' size n : Nat} {e : TypeId} {v : Value} {xs : List Value} (h : w.ownsRow base e size v n xs) (hb : base' ≤ base) : w.ownsRow base' e size v n xs := by
  refine ⟨h.1, ?_⟩
  rcases h.2 with h | ⟨g, cap, cur, h1, h2, h3⟩
  · exact .inl h
  · exact .inr ⟨g, cap, cur, h1, by omega, h3⟩
def ISrc (w : World) (A : Option Addr) (cs : List Int) : Prop := ∀ i (h : i < cs.length), ∃ g o, A = some ⟨g, o, none⟩ ∧ g < w.heap.size ∧ w.cell? ⟨g, o + i, none⟩ = some (.int .i64 cs[i])
theorem ISrc.keep {w w' : World} {A : Option Addr} {cs : List Int} {F : List Nat} (h : ISrc w A cs) (k : Keep F w w') (hF : ∀ a, A = some a → a.block ∉ F) : ISrc w' A cs := fun i hi => by
  obtain ⟨g, o, rfl, h1, h2⟩ := h i hi
  exact ⟨g, o, rfl, Nat.lt_of_lt_of_le h1 k.size, (k.cell (p := ⟨g, o + i, none⟩) h1 (hF ⟨g, o, none⟩ rfl)).trans h2⟩
theorem nodes0_take {cs : List Int} {i : Nat} (h : i < cs.length) : nodes0 (cs.take (i + 1)) = nodes0 (cs.take i) ++ (if 0 < cs[i] then [(cs[i], -1)] else []) := by
  rw [List.take_succ_eq_append_getElem h]
  unfold nodes0
  rw [List.filter_append, List.map_append]
  congr 1
  by_cases hp : 0 < cs[i] <;> simp [hp]
theorem nodes0_len (cs : List Int) : (nodes0 cs).length ≤ cs.length := by
  unfold nodes0
  rw [List.length_map]
  exact List.length_filter_le _ _
theorem nd_set {w : World} {base g n cap i : Nat} {l : List (Int × Int)} {t : Int} (h : w.ownsRow base 224 2 (.slice (some ⟨g, 0, none⟩) n cap) n (l.flatMap ncells)) (hi : i < l.length) (hn : n = l.length) :
    (w.setCell ⟨g, i * 2 + 1, none⟩ (.int .i64 t)).ownsRow base 224 2 (.slice (some ⟨g, 0, none⟩) n cap) n ((link l i t).flatMap ncells) := by
  have h1 := ownsRow_set h (i * 2 + 1) (by omega) (.int .i64 t)
  have e : l.getD i (0, -1) = l[i] := by simp [List.getD, hi]
  have s1 : (l.flatMap ncells).set (i * 2 + 1) (.int .i64 t) = (l.set i (wt l i, t)).flatMap ncells :=
    rf_set ncells_len l i 1 hi (by omega) _ _ (by simp [ncells, wt, List.getD, hi])
  rw [s1] at h1
  exact h1
def NB (bl : Nat) (base : Nat) (AL : Option Addr) (cL : Nat) (l : List (Int × Int)) (w : World) : Prop :=
  Blk w bl 221 #[.slice AL l.length cL] ∧ w.ownsRow base 224 2 (.slice AL l.length cL) l.length (l.flatMap ncells)
def FB (bf : Nat) (base : Nat) (AF : Option Addr) (cF : Nat) (f : List Nat) (w : World) : Prop :=
  Blk w bf 140 #[.slice AF f.length cF] ∧ w.ownsRow base 3 1 (.slice AF f.length cF) f.length (inN f)
theorem NB.keep {bl base cL : Nat} {AL : Option Addr} {l : List (Int × Int)} {w w' : World} (h : NB bl base AL cL l w) (k : Keep [] w w') : NB bl base AL cL l w' := ⟨h.1.keep k (by simp), ownsRow_keep h.2 k (by simp)⟩
theorem FB.keep {bf base cF : Nat} {AF : Option Addr} {f : List Nat} {w w' : World} (h : FB bf base AF cF f w) (k : Keep [] w w') : FB bf base AF cF f w' := ⟨h.1.keep k (by simp), ownsRow_keep h.2 k (by simp)⟩
set_option maxRecDepth 20000 in
theorem free_append {base c : Nat} {A : Option Addr} {f : List Nat} {w : World} (h : w.ownsRow base 3 1 (.slice A f.length c) f.length (inN f)) (x : Nat) (hn : f.length ≤ 100000) (hB : base ≤ w.heap.size) :
    ∃ A' c' w', (Builtin.append_ #[140, 140] 140 #[.slice A f.length c, .slice (some ⟨w.heap.size, 0, none⟩) 1 1]).run Tryz.prog (w.alloc (.cells #[.int .i64 (x : Int)] 3)) = .ok (.slice A' (f ++ [x]).length c') w' ∧
      w'.ownsRow base 3 1 (.slice A' (f ++ [x]).length c') (f ++ [x]).length (inN (f ++ [x])) ∧ Keep (Value.slice A f.length c).ownBlock.toList w w' ∧ (A' = A ∨ ∃ g, A' = some ⟨g, 0, none⟩ ∧ w.heap.size < g) := by
  have hka : Keep [] w (w.alloc (.cells #[.int .i64 (x : Int)] 3)) := (Keep.refl [] w).alloc _
  obtain ⟨v', w', hrun, hown, hg, hat⟩ := run_append_src (P := Tryz.prog) (w.alloc (.cells #[.int .i64 (x : Int)] 3)) 140 140 3 (.int .i64 0) 1 8 base Tryz.underlying140 intinfo rfl (by omega) (.slice A f.length c) f.length (inN f) (ownsRow_keep h hka (by simp))
    (some ⟨w.heap.size, 0, none⟩) 1 1 [.int .i64 (x : Int)] (src_new w 3 1 [.int .i64 (x : Int)] rfl) (by simp [Value.oneCell']) (by unfold maxLen; omega) (by omega) (by simp; omega)
  obtain ⟨A', c', rfl, _⟩ := own_slice hown
  have el : f.length + 1 = (f ++ [x]).length := by simp
  rw [el] at hrun hown hat
  refine ⟨A', c', w', hrun, by simpa [inN] using hown, (hka.mono (by simp)).grown hg (fun k hk => .inl (by simp [hk])), ?_⟩
  obtain ⟨g', hg1, _⟩ := own_some hown (by simp)
  subst hg1
  rcases hat with hat | hat
  · left
    cases A with
    | none => simp [Value.ownBlock] at hat
    | some a =>
      have hs := h.2
      rcases hs with ⟨hs, _⟩ | ⟨g2, cap, cur, hs, _⟩
      · cases hs
      · injection hs with hs1 _ _
        injection hs1 with hs1
        subst hs1
        simp [Value.ownBlock] at hat
        rw [hat]
  · right
    simp [Value.ownBlock] at hat
    exact ⟨g', rfl, by omega⟩
theorem node_append {base c : Nat} {A : Option Addr} {l : List (Int × Int)} {w : World} (h : w.ownsRow base 224 2 (.slice A l.length c) l.length (l.flatMap ncells)) (x : Int × Int) (hn : l.length ≤ 100000) (hB : base ≤ w.heap.size) :
    ∃ A' c' w', (Builtin.append_ #[221, 221] 221 #[.slice A l.length c, .slice (some ⟨w.heap.size, 0, none⟩) 1 1]).run Tryz.prog (w.alloc (.cells #[.int .i64 x.1, .int .i64 x.2] 224)) = .ok (.slice A' (l ++ [x]).length c') w' ∧
      w'.ownsRow base 224 2 (.slice A' (l ++ [x]).length c') (l ++ [x]).length ((l ++ [x]).flatMap ncells) ∧ Keep (Value.slice A l.length c).ownBlock.toList w w' := by
  have hka : Keep [] w (w.alloc (.cells #[.int .i64 x.1, .int .i64 x.2] 224)) := (Keep.refl [] w).alloc _
  obtain ⟨v', w', hrun, hown, hg, hat⟩ := run_append_src (P := Tryz.prog) (w.alloc (.cells #[.int .i64 x.1, .int .i64 x.2] 224)) 221 221 224 _ 2 16 base Tryz.underlying221 ndinfo rfl (by omega) (.slice A l.length c) l.length (l.flatMap ncells) (ownsRow_keep h hka (by simp))
    (some ⟨w.heap.size, 0, none⟩) 1 1 (ncells x) (src_new w 224 2 (ncells x) rfl) (by simp [Value.oneCell', ncells]) (by unfold maxLen; omega) (by omega) (by simp; omega)
  obtain ⟨A', c', rfl, _⟩ := own_slice hown
  have el : l.length + 1 = (l ++ [x]).length := by simp
  rw [el] at hrun hown
  exact ⟨A', c', w', hrun, by simpa using hown, (hka.mono (by simp)).grown hg (fun k hk => .inl (by simp [hk]))⟩
end Go.Proofs.YtdnaahbhfjclpaaGreatDoor

