/- The reference's Same. -/
import Derived.Test.YtopfbbnpbobhaaaDoorU2
set_option linter.unusedVariables false
set_option linter.unusedSimpArgs false
namespace Go.Proofs.YtopfbbnpbobhaaaDoor
open Go.RowKit Go.Sal

theorem rd_back (A : Option Addr) (c : Nat) (b : List UInt8) (w : World) (h : RD encB w A b) : (convert 22 9 (.slice A b.length c)).run Tryd.prog w = .ok (.string ⟨b.toArray⟩) w := by
  by_cases hb : b = []
  · subst hb
    have : A = none ∨ ∃ a, A = some a := by cases A <;> simp
    rcases this with rfl | ⟨a, rfl⟩
    · exact Lib.run_convert_nil_bytes (P := Tryd.prog) w 22 9 5 c Tryd.underlying22 Tryd.underlying5 Tryd.underlying9
    · exact run_convert_bytes_back (P := Tryd.prog) w 22 9 5 a c [] Tryd.underlying22 Tryd.underlying5 Tryd.underlying9 (fun j hj => by simp at hj)
  · obtain ⟨g, o, rfl, _, hc⟩ := h hb
    exact run_convert_bytes_back (P := Tryd.prog) w 22 9 5 ⟨g, o, none⟩ c b Tryd.underlying22 Tryd.underlying5 Tryd.underlying9 (fun j hj => by
      rw [add_mk]
      exact hc j hj)
set_option maxRecDepth 200000 in
set_option maxHeartbeats 8000000 in
theorem rsame_any (d x : Dd) (Ab Ak Xb Xk : Option Addr) (cb ck xb xk : Nat) (w : World) (hb : RD encB w Ab d.bs) (hk : RD encT w Ak d.keep) (hxb : RD encB w Xb x.bs) (hxk : RD encT w Xk x.keep) (l3 : d.keep.length ≤ 4000000) (l4 : x.keep.length ≤ 4000000) :
    Calls Tryd.prog 50 #[.agg (DvA d (.slice Ab d.bs.length cb) (.slice Ak d.keep.length ck)), .agg (DvA x (.slice Xb x.bs.length xb) (.slice Xk x.keep.length xk))] w fun e w' => e = .returned (.bool (sameB d x)) ∧ Below w.heap.size w w' := by
  obtain ⟨w1, hw1⟩ : ∃ w1, (w.alloc (.cells (DvA d (.slice Ab d.bs.length cb) (.slice Ak d.keep.length ck)) 72)).alloc (.cells (DvA x (.slice Xb x.bs.length xb) (.slice Xk x.keep.length xk)) 72) = w1 := ⟨_, rfl⟩
  have hD : Blk w1 w.heap.size 72 (DvA d (.slice Ab d.bs.length cb) (.slice Ak d.keep.length ck)) := by rw [← hw1]; exact (Blk.new _ _ _).alloc _
  have hX : Blk w1 (w.heap.size + 1) 72 (DvA x (.slice Xb x.bs.length xb) (.slice Xk x.keep.length xk)) := by
    rw [← hw1]
    have := Blk.new (w.alloc (.cells (DvA d (.slice Ab d.bs.length cb) (.slice Ak d.keep.length ck)) 72)) 72 (DvA x (.slice Xb x.bs.length xb) (.slice Xk x.keep.length xk))
    rw [World.size_alloc] at this
    exact this
  have hB1 : Below w.heap.size w w1 := by rw [← hw1]; exact ((Below.refl _ w).alloc (Nat.le_refl _) _).alloc (by simp) _
  obtain ⟨d0, d1, d2, d3, d4, d5, d6⟩ := DvF.of hD
  obtain ⟨x0, x1, x2, x3, x4, x5, x6⟩ := DvF.of hX
  have hc1 := rd_back Ab cb d.bs w1 (RD.below hb hB1)
  have hc2 := rd_back Xb xb x.bs w1 (RD.below hxb hB1)
  have HB1 := Lib.hid hB1
  have Hw1 := Lib.hid hw1
  have Hk := Lib.hid (RD.below hk hB1)
  have Hxk := Lib.hid (RD.below hxk hB1)
  clear hD hX hB1 hw1 hb hk hxb hxk
  unfold DvA at Hw1 ⊢
  by_cases h0 : d.kind = x.kind
  · have h0a : (d.kind == x.kind) = true := by simpa using h0
    have h0b : (d.kind != x.kind) = false := by simpa using h0
    have H0 := Lib.hid h0
    by_cases h1 : d.a = x.a
    · have h1a : (d.a == x.a) = true := by simpa using h1
      have h1b : (d.a != x.a) = false := by simpa using h1
      have H1 := Lib.hid h1
      by_cases h2 : d.path = x.path
      · have h2a : (d.path == x.path) = true := by simpa using h2
        have h2b : (d.path != x.path) = false := by simpa using h2
        have H2 := Lib.hid h2
        by_cases h3 : d.bs = x.bs
        · have h3a : (d.bs == x.bs) = true := by simpa using h3
          have h3b : (d.bs != x.bs) = false := by simpa using h3
          have H3 := Lib.hid h3
          by_cases h4 : d.frm = x.frm
          · have h4a : (d.frm == x.frm) = true := by simpa using h4
            have h4b : (d.frm != x.frm) = false := by simpa using h4
            have H4 := Lib.hid h4
            by_cases h5 : d.n = x.n
            · have h5a : (d.n == x.n) = true := by simpa using h5
              have h5b : (d.n != x.n) = false := by simpa using h5
              have H5 := Lib.hid h5
              have HSM : Hid (sameB d x = decide (d.keep = x.keep)) := Lib.hid (by
                unfold sameB
                by_cases h : d.keep = x.keep
                · rw [decide_eq_true ⟨H0.out, H1.out, H2.out, H3.out, H4.out, H5.out, h⟩, decide_eq_true h]
                · rw [decide_eq_false (fun e => h e.2.2.2.2.2.2), decide_eq_false h])
              clear h0 h1 h2 h3 h4 h5
              by_cases hl : d.keep.length = x.keep.length
              · have hla : ((d.keep.length : Int) != (x.keep.length : Int)) = false := by rw [hl]; simp
                have hlb : (d.keep.length != x.keep.length) = false := by rw [hl]; simp
                have hlc : ((d.keep.length : Int) == (x.keep.length : Int)) = true := by rw [hl]; simp
                have hld : (d.keep.length == x.keep.length) = true := by rw [hl]; simp
                have Hl := Lib.hid hl
                clear hl
                generalize d.keep = l1 at *
                generalize x.keep = l2 at *
                go_enter Tryd.func50, Tryd.ntmps50
                go_upto_region 1 with (fail)
                rw [Hw1.out]
                go_wp2
                go_loopw [5] (fun u wr => ∃ (q i : Nat), u = .int .i64 i ∧ i ≤ l1.length ∧ wr = w1.drewN q ∧ Hid (∀ j, j < i → l1[j]? = l2[j]?)) (fun u _ => l1.length - (intOf u).toNat)
                case atStart => exact ⟨0, 0, rfl, by omega, rfl, Lib.hid (fun j hj => absurd hj (Nat.not_lt_zero j))⟩
                case round =>
                  obtain ⟨q, i, rfl, hi, rfl, hI⟩ := hrel
                  have hi' : (i : Int) ≤ 4000000 := by omega
                  rcases Nat.lt_or_ge i l1.length with hlt | hge
                  · have hil : (i : Int) < (l1.length : Int) := by omega
                    have hlt2 : i < l2.length := by rw [← Hl.out]; exact hlt
                    have hil2 : (i : Int) < (l2.length : Int) := by omega
                    have hi0 : (0 : Int) ≤ (i : Int) := by omega
                    obtain ⟨g1, o1, rfl, _, e1⟩ := Hk.out (by rintro rfl; simp at hlt)
                    obtain ⟨g2, o2, rfl, _, e2⟩ := Hxk.out (by rintro rfl; simp at hlt2)
                    have y1 := e1 i hlt
                    have y2 := e2 i hlt2
                    have hwi : IntKind.i64.wrap ((i : Int) + 1) = (i : Int) + 1 := by rw [IntKind.wrap_i64]; omega
                    have hyes : Hid (l1[i] = l2[i] → ∀ j, j < i + 1 → l1[j]? = l2[j]?) := Lib.hid (fun he j hj => by
                      rcases Nat.lt_succ_iff_lt_or_eq.1 hj with h | rfl
                      · exact hI.out j h
                      · rw [List.getElem?_eq_getElem hlt, List.getElem?_eq_getElem hlt2, he])
                    have hno : Hid (l1[i] ≠ l2[i] → l1 ≠ l2) := Lib.hid (fun he e => he (by subst e; rfl))
                    unfold encT at y1 y2
                    generalize l1[i] = b1 at *
                    generalize l2[i] = b2 at *
                    clear hI e1 e2 hlt2
                    by_cases hy : b1 = b2
                    · have hya : (b1 != b2) = false := by rw [hy]; simp
                      have hyc : (b1 == b2) = true := by rw [hy]; simp
                      have HY := Lib.hid (hyes.out hy)
                      clear hyes hno hy
                      go_wp2
                      go_quiet (fail)
                      go_wp2
                      go_roundw
                      case rel => exact ⟨_, i + 1, by simp, by omega, rfl, HY⟩
                      case measure => simp [intOf]; omega
                    · have hya : (b1 != b2) = true := by simpa using hy
                      have hyc : (b1 == b2) = false := by simpa using hy
                      have HN := Lib.hid (hno.out hy)
                      clear hyes hno hy
                      go_wp2
                      go_quiet (fail)
                      go_wp2
                      go_ret
                      rw [HSM.out, decide_eq_false HN.out]
                      exact ⟨rfl, HB1.out.trans ((((Keep.refl [] w1).drewN _).drewN _).below.mono HB1.out.size)⟩
                  · obtain rfl : i = l1.length := by omega
                    have hil : ¬ (l1.length : Int) < (l1.length : Int) := by omega
                    have HE : Hid (l1 = l2) := Lib.hid (List.ext_getElem? (fun j => by
                      rcases Nat.lt_or_ge j l1.length with h | h
                      · exact hI.out j h
                      · rw [List.getElem?_eq_none_iff.2 h, List.getElem?_eq_none_iff.2 (by rw [← Hl.out]; exact h)]))
                    clear hI
                    go_wp2
                    go_ret
                    rw [HSM.out, decide_eq_true HE.out]
                    exact ⟨rfl, HB1.out.trans (((Keep.refl [] w1).drewN _).below.mono HB1.out.size)⟩
              · have hla : ((d.keep.length : Int) != (x.keep.length : Int)) = true := by simp; omega
                have hlb : (d.keep.length != x.keep.length) = true := by simpa using hl
                have hlc : ((d.keep.length : Int) == (x.keep.length : Int)) = false := by rw [beq_eq_false_iff_ne]; omega
                have hld : (d.keep.length == x.keep.length) = false := by simpa using hl
                have HN : Hid (d.keep ≠ x.keep) := Lib.hid (fun e => hl (by rw [e]))
                clear hl
                go_enter Tryd.func50, Tryd.ntmps50
                go_upto_region 1 with (fail)
                rw [Hw1.out]
                go_wp2
                go_ret
                rw [HSM.out, decide_eq_false HN.out]
                exact ⟨rfl, HB1.out⟩
            · have h5a : (d.n == x.n) = false := by simpa using h5
              have h5b : (d.n != x.n) = true := by simpa using h5
              rw [same_no (fun h => h5 h.2.2.2.2.2.1)]
              clear h0 h1 h2 h3 h4 h5
              go_enter Tryd.func50, Tryd.ntmps50
              go_upto_region 1 with (fail)
              rw [Hw1.out]
              go_wp2
              go_ret
              exact ⟨rfl, HB1.out⟩
          · have h4a : (d.frm == x.frm) = false := by simpa using h4
            have h4b : (d.frm != x.frm) = true := by simpa using h4
            rw [same_no (fun h => h4 h.2.2.2.2.1)]
            clear h0 h1 h2 h3 h4
            go_enter Tryd.func50, Tryd.ntmps50
            go_upto_region 1 with (fail)
            rw [Hw1.out]
            go_wp2
            go_ret
            exact ⟨rfl, HB1.out⟩
        · have h3a : (d.bs == x.bs) = false := by simpa using h3
          have h3b : (d.bs != x.bs) = true := by simpa using h3
          rw [same_no (fun h => h3 h.2.2.2.1)]
          clear h0 h1 h2 h3
          go_enter Tryd.func50, Tryd.ntmps50
          go_upto_region 1 with (fail)
          rw [Hw1.out]
          go_wp2
          go_ret
          exact ⟨rfl, HB1.out⟩
      · have h2a : (d.path == x.path) = false := by simpa using h2
        have h2b : (d.path != x.path) = true := by simpa using h2
        rw [same_no (fun h => h2 h.2.2.1)]
        clear h0 h1 h2
        go_enter Tryd.func50, Tryd.ntmps50
        go_upto_region 1 with (fail)
        rw [Hw1.out]
        go_wp2
        go_ret
        exact ⟨rfl, HB1.out⟩
    · have h1a : (d.a == x.a) = false := by simpa using h1
      have h1b : (d.a != x.a) = true := by simpa using h1
      rw [same_no (fun h => h1 h.2.1)]
      clear h0 h1
      go_enter Tryd.func50, Tryd.ntmps50
      go_upto_region 1 with (fail)
      rw [Hw1.out]
      go_wp2
      go_ret
      exact ⟨rfl, HB1.out⟩
  · have h0a : (d.kind == x.kind) = false := by simpa using h0
    have h0b : (d.kind != x.kind) = true := by simpa using h0
    rw [same_no (fun h => h0 h.1)]
    clear h0
    go_enter Tryd.func50, Tryd.ntmps50
    go_upto_region 1 with (fail)
    rw [Hw1.out]
    go_wp2
    go_ret
    exact ⟨rfl, HB1.out⟩
end Go.Proofs.YtopfbbnpbobhaaaDoor
