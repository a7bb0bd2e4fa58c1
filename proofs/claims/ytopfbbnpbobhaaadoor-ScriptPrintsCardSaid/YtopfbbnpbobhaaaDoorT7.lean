/- Text. -/
import Derived.Test.YtopfbbnpbobhaaaDoorT6
set_option linter.unusedVariables false
set_option linter.unusedSimpArgs false
namespace Go.Proofs.YtopfbbnpbobhaaaDoor
open Go.RowKit Go.Sal

theorem sh_dv (d : Dd) (Ab Ak : Option Addr) (cb ck : Nat) (w : World) (hb : RD encB w Ab d.bs) (hk : RD encT w Ak d.keep) :
    ∃ A3 c3 A6 c6, shA d (.slice Ab d.bs.length cb) (.slice Ak d.keep.length ck) (fieldsOf d.kind) = DvA (shownOf d) (.slice A3 (shownOf d).bs.length c3) (.slice A6 (shownOf d).keep.length c6) ∧
      RD encB w A3 (shownOf d).bs ∧ RD encT w A6 (shownOf d).keep ∧ (shownOf d).bs.length ≤ d.bs.length ∧ (shownOf d).keep.length ≤ d.keep.length := by
  have e1 : ∃ A3 c3, (if 98 ∈ fieldsOf d.kind then Value.slice Ab d.bs.length cb else .slice none 0 0) = .slice A3 (shownOf d).bs.length c3 ∧ RD encB w A3 (shownOf d).bs ∧ (shownOf d).bs.length ≤ d.bs.length := by
    by_cases h : 98 ∈ fieldsOf d.kind
    · have e : (shownOf d).bs = d.bs := by unfold shownOf keepF; simp only; rw [if_pos h]
      rw [e, if_pos h]
      exact ⟨_, _, rfl, hb, Nat.le_refl _⟩
    · have e : (shownOf d).bs = [] := by unfold shownOf keepF; simp only; rw [if_neg h]
      rw [e, if_neg h]
      exact ⟨_, _, rfl, RD.nil _ _ _, by simp⟩
  have e2 : ∃ A3 c3, (if 107 ∈ fieldsOf d.kind then Value.slice Ak d.keep.length ck else .slice none 0 0) = .slice A3 (shownOf d).keep.length c3 ∧ RD encT w A3 (shownOf d).keep ∧ (shownOf d).keep.length ≤ d.keep.length := by
    by_cases h : 107 ∈ fieldsOf d.kind
    · have e : (shownOf d).keep = d.keep := by unfold shownOf keepF; simp only; rw [if_pos h]
      rw [e, if_pos h]
      exact ⟨_, _, rfl, hk, Nat.le_refl _⟩
    · have e : (shownOf d).keep = [] := by unfold shownOf keepF; simp only; rw [if_neg h]
      rw [e, if_neg h]
      exact ⟨_, _, rfl, RD.nil _ _ _, by simp⟩
  obtain ⟨A3, c3, h3, r3, l3⟩ := e1
  obtain ⟨A6, c6, h6, r6, l6⟩ := e2
  refine ⟨A3, c3, A6, c6, ?_, r3, r6, l3, l6⟩
  unfold shA DvA
  rw [h3, h6]
  rfl
/-- a deed's line, or that it has none -/
def txV (d : Dd) : Value := if nameOf d.kind ≠ [] ∧ sameB d (shownOf d) = true then .tuple #[.string ⟨(lineOf d).toArray⟩, .int .i64 0] else .tuple #[.string ⟨#[]⟩, .int .i64 251]
def DvF (W : World) (b : Nat) (x : Dd) (bv kv : Value) : Prop := W.cell? ⟨b, 0, none⟩ = some (.int .i64 x.kind) ∧ W.cell? ⟨b, 1, none⟩ = some (.int .i64 x.a) ∧ W.cell? ⟨b, 2, none⟩ = some (.string ⟨x.path.toArray⟩) ∧ W.cell? ⟨b, 3, none⟩ = some bv ∧ W.cell? ⟨b, 4, none⟩ = some (.int .i64 x.frm) ∧ W.cell? ⟨b, 5, none⟩ = some (.int .i64 x.n) ∧ W.cell? ⟨b, 6, none⟩ = some kv
theorem DvF.of {W : World} {b : Nat} {x : Dd} {bv kv : Value} (h : Blk W b 72 (DvA x bv kv)) : DvF W b x bv kv := ⟨h.cell 0, h.cell 1, h.cell 2, h.cell 3, h.cell 4, h.cell 5, h.cell 6⟩
set_option maxRecDepth 200000 in
set_option maxHeartbeats 8000000 in
theorem text_any (d : Dd) (Ab Ak : Option Addr) (cb ck : Nat) (w : World) (hb : RD encB w Ab d.bs) (hk : RD encT w Ak d.keep) (hcb : d.bs.length ≤ cb) (hlb : d.bs.length ≤ 3000) (hlp : d.path.length ≤ 3000) (hlk : d.keep.length ≤ 4000000)
    (hka : -9223372036854775808 ≤ d.kind ∧ d.kind ≤ 9223372036854775807) (ha : -9223372036854775808 ≤ d.a ∧ d.a ≤ 9223372036854775807) (hf : -9223372036854775808 ≤ d.frm ∧ d.frm ≤ 9223372036854775807) (hn : -9223372036854775808 ≤ d.n ∧ d.n ≤ 9223372036854775807)
    (htab : Lib.TabIs Tryd.prog w "internal/strconv.uint64pow10" .u64 Lib.pow10Tab) :
    Calls Tryd.prog 28 #[.agg (DvA d (.slice Ab d.bs.length cb) (.slice Ak d.keep.length ck))] w fun e w' => e = .returned (txV d) ∧ Below w.heap.size w w' := by
  have HT := Lib.hid (Lib.tabBelow_of_tabIs htab)
  have Hb := Lib.hid hb
  have Hk := Lib.hid hk
  have Hka := Lib.hid hka
  have Ha := Lib.hid ha
  have Hf := Lib.hid hf
  have Hn := Lib.hid hn
  have Hb0 : Hid (Below w.heap.size w (w.alloc (.cells (DvA d (.slice Ab d.bs.length cb) (.slice Ak d.keep.length ck)) 72))) := Lib.hid ((Below.refl _ w).alloc (Nat.le_refl _) _)
  have HD0 : Hid (Blk (w.alloc (.cells (DvA d (.slice Ab d.bs.length cb) (.slice Ak d.keep.length ck)) 72)) w.heap.size 72 (DvA d (.slice Ab d.bs.length cb) (.slice Ak d.keep.length ck))) := Lib.hid (Blk.new _ _ _)
  have hpi : (d.path.length : Int) ≤ 3000 := by omega
  have hbi : (d.bs.length : Int) ≤ 3000 := by omega
  clear htab hb hk hka ha hf hn
  have hz0 : Hid (w.heap.size ≤ (w.alloc (.cells (DvA d (.slice Ab d.bs.length cb) (.slice Ak d.keep.length ck)) 72)).heap.size) := Lib.hid (by simp)
  have HN := fun W => name_any d.kind W Hka.out
  by_cases hnm : nameOf d.kind = []
  · have e : txV d = .tuple #[.string ⟨#[]⟩, .int .i64 251] := by unfold txV; rw [if_neg (fun h => h.1 hnm)]
    rw [e]
    rw [hnm] at HN
    have Hn' := Lib.hid HN
    clear hnm e HN
    unfold DvA at Hb0 HD0 hz0 ⊢
    go_enter Tryd.func28, Tryd.ntmps28
    go_wp2_with (go_at_call 45; refine (Hn'.out _).mono ?_; rintro e w2 ⟨rfl, hk2⟩)
    go_ret2
    exact ⟨rfl, Hb0.out.trans (hk2.belowB hz0.out (by simp))⟩
  · have hnb : (nameOf d.kind).isEmpty = false := by simpa using hnm
    have hnb2 : (nameOf d.kind == []) = false := by simpa using hnm
    have Hnm := Lib.hid hnm
    have HN2 := Lib.hid HN
    clear hnm HN
    have hline : Hid (∀ w2, Below w.heap.size w w2 → ∃ A3 c3 A6 c6, (Calls Tryd.prog 46 #[.agg (DvA d (.slice Ab d.bs.length cb) (.slice Ak d.keep.length ck))] w2 fun e w' => e = .returned (.tuple #[.string ⟨(lineOf d).toArray⟩, .agg (DvA (shownOf d) (.slice A3 (shownOf d).bs.length c3) (.slice A6 (shownOf d).keep.length c6))]) ∧ Below w2.heap.size w2 w') ∧
        RD encB w2 A3 (shownOf d).bs ∧ RD encT w2 A6 (shownOf d).keep ∧ (shownOf d).bs.length ≤ d.bs.length ∧ (shownOf d).keep.length ≤ d.keep.length) := Lib.hid (fun w2 h2 => by
      obtain ⟨A3, c3, A6, c6, h3, r3, r6, l3, l6⟩ := sh_dv d Ab Ak cb ck w2 (RD.below Hb.out h2) (RD.below Hk.out h2)
      have := line_any d Ab Ak cb ck w2 (RD.below Hb.out h2) (RD.below Hk.out h2) hcb hlb hlp hlk Hka.out Ha.out Hf.out Hn.out (HT.out w2 h2)
      rw [h3] at this
      exact ⟨A3, c3, A6, c6, this, r3, r6, l3, l6⟩)
    have htx : Hid (txV d = if sameB d (shownOf d) = true then .tuple #[.string ⟨(lineOf d).toArray⟩, .int .i64 0] else .tuple #[.string ⟨#[]⟩, .int .i64 251]) := Lib.hid (by
      unfold txV
      by_cases h : sameB d (shownOf d) = true
      · rw [if_pos ⟨Hnm.out, h⟩, if_pos h]
      · rw [if_neg (fun e => h e.2), if_neg h])
    unfold DvA at Hb0 HD0 hz0 hline ⊢
    generalize nameOf d.kind = nm at *
    generalize shownOf d = x at *
    go_enter Tryd.func28, Tryd.ntmps28
    go_wp2_with (fail)
    refine (HN2.out _).mono ?_
    rintro e w2 ⟨rfl, hk2⟩
    obtain ⟨f0, f1, f2, f3, f4, f5, f6⟩ := DvF.of (HD0.out.keep hk2 (by simp))
    have hb2 : Below w.heap.size w w2 := Hb0.out.trans (hk2.belowB hz0.out (by simp))
    obtain ⟨A3, c3, A6, c6, hl, r3, r6, l3, l6⟩ := hline.out w2 hb2
    have Hk2 := Lib.hid hk2
    have Hb2 := Lib.hid hb2
    have Hl := Lib.hid hl
    have R3 := Lib.hid r3
    have R6 := Lib.hid r6
    clear hk2 hb2 hl r3 r6 hline HN2
    go_wp2_with (fail)
    refine Hl.out.mono ?_
    rintro e w3 ⟨rfl, hb3⟩
    have hD3 := HD0.out.keep (Hk2.out.trans (Keep.of_below hb3)) (by simp)
    obtain ⟨e0, e1, e2, e3, e4, e5, e6⟩ := DvF.of hD3
    have Hb3 := Lib.hid (Hb2.out.trans (hb3.mono Hb2.out.size))
    have q1 : w.heap.size < w3.heap.size := Nat.lt_of_lt_of_le (by have := Hk2.out.size; simp at this; omega) hb3.size
    have q2 : ¬ w.heap.size = w3.heap.size := by omega
    have hbA : Hid (Below w.heap.size w (w3.alloc (.cells (DvA x (.slice A3 x.bs.length c3) (.slice A6 x.keep.length c6)) 72))) := Lib.hid (Hb3.out.trans ((Below.refl _ _).alloc Hb3.out.size _))
    have hsm := same_any d x Ab Ak A3 A6 cb ck c3 c6 (w3.alloc (.cells (DvA x (.slice A3 x.bs.length c3) (.slice A6 x.keep.length c6)) 72)) (RD.below Hb.out hbA.out) (RD.below Hk.out hbA.out) (RD.below R3.out (hb3.trans ((Below.refl _ _).alloc hb3.size _))) (RD.below R6.out (hb3.trans ((Below.refl _ _).alloc hb3.size _))) (by omega) (by omega) (by omega) (by omega)
    have hzA : Hid (w.heap.size ≤ (w3.alloc (.cells (DvA x (.slice A3 x.bs.length c3) (.slice A6 x.keep.length c6)) 72)).heap.size) := Lib.hid hbA.out.size
    have Hsm := Lib.hid hsm
    clear hsm hb3 hD3 f0 f1 f2 f3 f4 f5 f6
    unfold DvA at Hsm hbA hzA
    cases hs : sameB d x with
    | true =>
      rw [hs] at Hsm
      have HX := Lib.hid (htx.out.trans (if_pos hs))
      clear hs
      go_wp2_with (go_at_call 47; refine Hsm.out.mono ?_; rintro e w4 ⟨rfl, hb4⟩)
      go_ret2
      rw [HX.out]
      exact ⟨rfl, hbA.out.trans (hb4.mono hzA.out)⟩
    | false =>
      rw [hs] at Hsm
      have HX := Lib.hid (htx.out.trans (if_neg (by rw [hs]; decide)))
      clear hs
      go_wp2_with (go_at_call 47; refine Hsm.out.mono ?_; rintro e w4 ⟨rfl, hb4⟩)
      go_ret2
      rw [HX.out]
      exact ⟨rfl, hbA.out.trans (hb4.mono hzA.out)⟩
end Go.Proofs.YtopfbbnpbobhaaaDoor
