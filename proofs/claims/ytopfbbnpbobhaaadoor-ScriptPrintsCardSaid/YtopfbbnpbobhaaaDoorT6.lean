/- Same, Text. -/
import Derived.Test.YtopfbbnpbobhaaaDoorT5
set_option linter.unusedVariables false
set_option linter.unusedSimpArgs false
namespace Go.Proofs.YtopfbbnpbobhaaaDoor
open Go.RowKit Go.Sal

/-- are two deeds the same? -/
def sameB (a b : Dd) : Bool := decide (a.kind = b.kind ∧ a.a = b.a ∧ a.path = b.path ∧ a.bs = b.bs ∧ a.frm = b.frm ∧ a.n = b.n ∧ a.keep = b.keep)
theorem same_no {a b : Dd} (h : ¬ (a.kind = b.kind ∧ a.a = b.a ∧ a.path = b.path ∧ a.bs = b.bs ∧ a.frm = b.frm ∧ a.n = b.n ∧ a.keep = b.keep)) : sameB a b = false := decide_eq_false h
theorem bytes_eq {a b : List UInt8} : ((⟨a.toArray⟩ : ByteArray) = ⟨b.toArray⟩) = (a = b) := by
  apply propext
  constructor
  · intro e
    have := congrArg (fun x : ByteArray => x.data.toList) e
    simpa using this
  · rintro rfl; rfl
/-- the same in memory: values of a deed -/
structure DV (w : World) (d : Dd) (bv kv : Value) (Ab Ak : Option Addr) (cb ck : Nat) : Prop where
  b : bv = .slice Ab d.bs.length cb
  k : kv = .slice Ak d.keep.length ck
  rb : RD encB w Ab d.bs
  rk : RD encT w Ak d.keep
  lb : d.bs.length ≤ 3000
  lp : d.path.length ≤ 3000
  lk : d.keep.length ≤ 4000000
set_option maxRecDepth 200000 in
set_option maxHeartbeats 8000000 in
theorem same_any (d x : Dd) (Ab Ak Xb Xk : Option Addr) (cb ck xb xk : Nat) (w : World) (hb : RD encB w Ab d.bs) (hk : RD encT w Ak d.keep) (hxb : RD encB w Xb x.bs) (hxk : RD encT w Xk x.keep) (l1 : d.bs.length ≤ 4000000) (l2 : x.bs.length ≤ 4000000) (l3 : d.keep.length ≤ 4000000) (l4 : x.keep.length ≤ 4000000) :
    Calls Tryd.prog 47 #[.agg (DvA d (.slice Ab d.bs.length cb) (.slice Ak d.keep.length ck)), .agg (DvA x (.slice Xb x.bs.length xb) (.slice Xk x.keep.length xk))] w fun e w' => e = .returned (.bool (sameB d x)) ∧ Below w.heap.size w w' := by
  have hbl : ∀ W, Below w.heap.size w W → RD encB W Ab d.bs ∧ RD encT W Ak d.keep ∧ RD encB W Xb x.bs ∧ RD encT W Xk x.keep := fun W h => ⟨RD.below hb h, RD.below hk h, RD.below hxb h, RD.below hxk h⟩
  have Hbl := Lib.hid hbl
  have hb0 : Hid (Below w.heap.size w ((w.alloc (.cells (DvA d (.slice Ab d.bs.length cb) (.slice Ak d.keep.length ck)) 72)).alloc (.cells (DvA x (.slice Xb x.bs.length xb) (.slice Xk x.keep.length xk)) 72))) := Lib.hid (((Below.refl _ w).alloc (Nat.le_refl _) _).alloc (by simp) _)
  clear hb hk hxb hxk hbl
  have Hfac : Hid (∀ W, Keep [] ((w.alloc (.cells (DvA d (.slice Ab d.bs.length cb) (.slice Ak d.keep.length ck)) 72)).alloc (.cells (DvA x (.slice Xb x.bs.length xb) (.slice Xk x.keep.length xk)) 72)) W → W.cell? ⟨w.heap.size, 4, none⟩ = some (.int .i64 d.frm) ∧ W.cell? ⟨w.heap.size, 5, none⟩ = some (.int .i64 d.n) ∧ W.cell? ⟨w.heap.size, 6, none⟩ = some (.slice Ak d.keep.length ck) ∧ W.cell? ⟨w.heap.size + 1, 4, none⟩ = some (.int .i64 x.frm) ∧ W.cell? ⟨w.heap.size + 1, 5, none⟩ = some (.int .i64 x.n) ∧ W.cell? ⟨w.heap.size + 1, 6, none⟩ = some (.slice Xk x.keep.length xk)) := Lib.hid (fun W k => by
    have h1 := ((Blk.new w 72 (DvA d (.slice Ab d.bs.length cb) (.slice Ak d.keep.length ck))).alloc (.cells (DvA x (.slice Xb x.bs.length xb) (.slice Xk x.keep.length xk)) 72)).keep k (by simp)
    have h2 := (Blk.new (w.alloc (.cells (DvA d (.slice Ab d.bs.length cb) (.slice Ak d.keep.length ck)) 72)) 72 (DvA x (.slice Xb x.bs.length xb) (.slice Xk x.keep.length xk))).keep k (by simp)
    rw [World.size_alloc] at h2
    exact ⟨h1.cell 4, h1.cell 5, h1.cell 6, h2.cell 4, h2.cell 5, h2.cell 6⟩)
  have hz0 : Hid (w.heap.size ≤ (((w.alloc (.cells (DvA d (.slice Ab d.bs.length cb) (.slice Ak d.keep.length ck)) 72)).alloc (.cells (DvA x (.slice Xb x.bs.length xb) (.slice Xk x.keep.length xk)) 72))).heap.size) := Lib.hid (by simp; omega)
  unfold DvA at hb0 Hfac hz0 ⊢
  by_cases h0 : d.kind = x.kind
  · have h0a : (d.kind == x.kind) = true := by simpa using h0
    have H0 := Lib.hid h0
    by_cases h1 : d.a = x.a
    · have h1a : (d.a == x.a) = true := by simpa using h1
      have H1 := Lib.hid h1
      by_cases h2 : d.path = x.path
      · have h2a : (d.path == x.path) = true := by simpa using h2
        have H2 := Lib.hid h2
        by_cases h3 : d.bs = x.bs
        · have h3a : (d.bs == x.bs) = true := by simpa using h3
          have h3b : decide (d.bs = x.bs) = true := decide_eq_true h3
          have H3 := Lib.hid h3
          by_cases h4 : d.frm = x.frm
          · have h4a : (d.frm == x.frm) = true := by simpa using h4
            have H4 := Lib.hid h4
            by_cases h5 : d.n = x.n
            · have h5a : (d.n == x.n) = true := by simpa using h5
              have H5 := Lib.hid h5
              by_cases h6 : d.keep = x.keep
              · have h6a : (d.keep == x.keep) = true := by simpa using h6
                have h6b : decide (d.keep = x.keep) = true := decide_eq_true h6
                have H6 := Lib.hid h6
                rw [show sameB d x = true from decide_eq_true ⟨H0.out, H1.out, H2.out, H3.out, H4.out, H5.out, H6.out⟩]
                clear h0 h1 h2 h3 h4 h5 h6
                go_enter Tryd.func47, Tryd.ntmps47
                go_wp2_with (first
                  | (go_at_call 63; refine (eqB_any d.bs x.bs Ab Xb cb xb _ (Hbl.out _ hb0.out).1 (Hbl.out _ hb0.out).2.2.1 l1 l2).mono ?_; rintro e w2 ⟨rfl, hk2⟩; obtain ⟨f4, f5, f6, g4, g5, g6⟩ := Hfac.out w2 hk2; have Hk2 := Lib.hid (hk2.belowB hz0.out (by simp)); clear hk2)
                  | (go_at_call 64; refine (eqT_any d.keep x.keep Ak Xk ck xk _ (Hbl.out _ (hb0.out.trans Hk2.out)).2.1 (Hbl.out _ (hb0.out.trans Hk2.out)).2.2.2 l3 l4).mono ?_; rintro e w3 ⟨rfl, hk3⟩; have Hk3 := Lib.hid (hk3.belowB (Nat.le_trans hz0.out Hk2.out.size) (by simp)); clear hk3))
                go_ret
                exact ⟨rfl, (hb0.out.trans Hk2.out).trans Hk3.out⟩
              · have h6a : (d.keep == x.keep) = false := by simpa using h6
                have h6b : decide (d.keep = x.keep) = false := decide_eq_false h6
                rw [same_no (fun h => h6 h.2.2.2.2.2.2)]
                clear h0 h1 h2 h3 h4 h5 h6
                go_enter Tryd.func47, Tryd.ntmps47
                go_wp2_with (first
                  | (go_at_call 63; refine (eqB_any d.bs x.bs Ab Xb cb xb _ (Hbl.out _ hb0.out).1 (Hbl.out _ hb0.out).2.2.1 l1 l2).mono ?_; rintro e w2 ⟨rfl, hk2⟩; obtain ⟨f4, f5, f6, g4, g5, g6⟩ := Hfac.out w2 hk2; have Hk2 := Lib.hid (hk2.belowB hz0.out (by simp)); clear hk2)
                  | (go_at_call 64; refine (eqT_any d.keep x.keep Ak Xk ck xk _ (Hbl.out _ (hb0.out.trans Hk2.out)).2.1 (Hbl.out _ (hb0.out.trans Hk2.out)).2.2.2 l3 l4).mono ?_; rintro e w3 ⟨rfl, hk3⟩; have Hk3 := Lib.hid (hk3.belowB (Nat.le_trans hz0.out Hk2.out.size) (by simp)); clear hk3))
                go_ret
                exact ⟨rfl, (hb0.out.trans Hk2.out).trans Hk3.out⟩
            · have h5a : (d.n == x.n) = false := by simpa using h5
              rw [same_no (fun h => h5 h.2.2.2.2.2.1)]
              clear h0 h1 h2 h3 h4 h5
              go_enter Tryd.func47, Tryd.ntmps47
              go_wp2_with (first
                | (go_at_call 63; refine (eqB_any d.bs x.bs Ab Xb cb xb _ (Hbl.out _ hb0.out).1 (Hbl.out _ hb0.out).2.2.1 l1 l2).mono ?_; rintro e w2 ⟨rfl, hk2⟩; obtain ⟨f4, f5, f6, g4, g5, g6⟩ := Hfac.out w2 hk2; have Hk2 := Lib.hid (hk2.belowB hz0.out (by simp)); clear hk2)
                | (go_at_call 64; refine (eqT_any d.keep x.keep Ak Xk ck xk _ (Hbl.out _ (hb0.out.trans Hk2.out)).2.1 (Hbl.out _ (hb0.out.trans Hk2.out)).2.2.2 l3 l4).mono ?_; rintro e w3 ⟨rfl, hk3⟩; have Hk3 := Lib.hid (hk3.belowB (Nat.le_trans hz0.out Hk2.out.size) (by simp)); clear hk3))
              go_ret
              exact ⟨rfl, hb0.out.trans Hk2.out⟩
          · have h4a : (d.frm == x.frm) = false := by simpa using h4
            rw [same_no (fun h => h4 h.2.2.2.2.1)]
            clear h0 h1 h2 h3 h4
            go_enter Tryd.func47, Tryd.ntmps47
            go_wp2_with (first
              | (go_at_call 63; refine (eqB_any d.bs x.bs Ab Xb cb xb _ (Hbl.out _ hb0.out).1 (Hbl.out _ hb0.out).2.2.1 l1 l2).mono ?_; rintro e w2 ⟨rfl, hk2⟩; obtain ⟨f4, f5, f6, g4, g5, g6⟩ := Hfac.out w2 hk2; have Hk2 := Lib.hid (hk2.belowB hz0.out (by simp)); clear hk2)
              | (go_at_call 64; refine (eqT_any d.keep x.keep Ak Xk ck xk _ (Hbl.out _ (hb0.out.trans Hk2.out)).2.1 (Hbl.out _ (hb0.out.trans Hk2.out)).2.2.2 l3 l4).mono ?_; rintro e w3 ⟨rfl, hk3⟩; have Hk3 := Lib.hid (hk3.belowB (Nat.le_trans hz0.out Hk2.out.size) (by simp)); clear hk3))
            go_ret
            exact ⟨rfl, hb0.out.trans Hk2.out⟩
        · have h3a : (d.bs == x.bs) = false := by simpa using h3
          have h3b : decide (d.bs = x.bs) = false := decide_eq_false h3
          rw [same_no (fun h => h3 h.2.2.2.1)]
          clear h0 h1 h2 h3
          go_enter Tryd.func47, Tryd.ntmps47
          go_wp2_with (first
            | (go_at_call 63; refine (eqB_any d.bs x.bs Ab Xb cb xb _ (Hbl.out _ hb0.out).1 (Hbl.out _ hb0.out).2.2.1 l1 l2).mono ?_; rintro e w2 ⟨rfl, hk2⟩; obtain ⟨f4, f5, f6, g4, g5, g6⟩ := Hfac.out w2 hk2; have Hk2 := Lib.hid (hk2.belowB hz0.out (by simp)); clear hk2)
            | (go_at_call 64; refine (eqT_any d.keep x.keep Ak Xk ck xk _ (Hbl.out _ (hb0.out.trans Hk2.out)).2.1 (Hbl.out _ (hb0.out.trans Hk2.out)).2.2.2 l3 l4).mono ?_; rintro e w3 ⟨rfl, hk3⟩; have Hk3 := Lib.hid (hk3.belowB (Nat.le_trans hz0.out Hk2.out.size) (by simp)); clear hk3))
          go_ret
          exact ⟨rfl, hb0.out.trans Hk2.out⟩
      · have h2a : (d.path == x.path) = false := by simpa using h2
        rw [same_no (fun h => h2 h.2.2.1)]
        clear h0 h1 h2
        go_enter Tryd.func47, Tryd.ntmps47
        go_wp2_with (first
          | (go_at_call 63; refine (eqB_any d.bs x.bs Ab Xb cb xb _ (Hbl.out _ hb0.out).1 (Hbl.out _ hb0.out).2.2.1 l1 l2).mono ?_; rintro e w2 ⟨rfl, hk2⟩; obtain ⟨f4, f5, f6, g4, g5, g6⟩ := Hfac.out w2 hk2; have Hk2 := Lib.hid (hk2.belowB hz0.out (by simp)); clear hk2)
          | (go_at_call 64; refine (eqT_any d.keep x.keep Ak Xk ck xk _ (Hbl.out _ (hb0.out.trans Hk2.out)).2.1 (Hbl.out _ (hb0.out.trans Hk2.out)).2.2.2 l3 l4).mono ?_; rintro e w3 ⟨rfl, hk3⟩; have Hk3 := Lib.hid (hk3.belowB (Nat.le_trans hz0.out Hk2.out.size) (by simp)); clear hk3))
        go_ret
        exact ⟨rfl, hb0.out⟩
    · have h1a : (d.a == x.a) = false := by simpa using h1
      rw [same_no (fun h => h1 h.2.1)]
      clear h0 h1
      go_enter Tryd.func47, Tryd.ntmps47
      go_wp2_with (first
        | (go_at_call 63; refine (eqB_any d.bs x.bs Ab Xb cb xb _ (Hbl.out _ hb0.out).1 (Hbl.out _ hb0.out).2.2.1 l1 l2).mono ?_; rintro e w2 ⟨rfl, hk2⟩; obtain ⟨f4, f5, f6, g4, g5, g6⟩ := Hfac.out w2 hk2; have Hk2 := Lib.hid (hk2.belowB hz0.out (by simp)); clear hk2)
        | (go_at_call 64; refine (eqT_any d.keep x.keep Ak Xk ck xk _ (Hbl.out _ (hb0.out.trans Hk2.out)).2.1 (Hbl.out _ (hb0.out.trans Hk2.out)).2.2.2 l3 l4).mono ?_; rintro e w3 ⟨rfl, hk3⟩; have Hk3 := Lib.hid (hk3.belowB (Nat.le_trans hz0.out Hk2.out.size) (by simp)); clear hk3))
      go_ret
      exact ⟨rfl, hb0.out⟩
  · have h0a : (d.kind == x.kind) = false := by simpa using h0
    rw [same_no (fun h => h0 h.1)]
    clear h0
    go_enter Tryd.func47, Tryd.ntmps47
    go_wp2_with (first
      | (go_at_call 63; refine (eqB_any d.bs x.bs Ab Xb cb xb _ (Hbl.out _ hb0.out).1 (Hbl.out _ hb0.out).2.2.1 l1 l2).mono ?_; rintro e w2 ⟨rfl, hk2⟩; obtain ⟨f4, f5, f6, g4, g5, g6⟩ := Hfac.out w2 hk2; have Hk2 := Lib.hid (hk2.belowB hz0.out (by simp)); clear hk2)
      | (go_at_call 64; refine (eqT_any d.keep x.keep Ak Xk ck xk _ (Hbl.out _ (hb0.out.trans Hk2.out)).2.1 (Hbl.out _ (hb0.out.trans Hk2.out)).2.2.2 l3 l4).mono ?_; rintro e w3 ⟨rfl, hk3⟩; have Hk3 := Lib.hid (hk3.belowB (Nat.le_trans hz0.out Hk2.out.size) (by simp)); clear hk3))
    go_ret
    exact ⟨rfl, hb0.out⟩
end Go.Proofs.YtopfbbnpbobhaaaDoor
