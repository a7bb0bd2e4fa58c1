/- Whatever the act, WindowNobody returns true, and its argument reads as it did. No condition. -/
import Derived.Test.YtlkpecalkakpeaaNb2
import Derived.Test.YtlkpecalkakpeaaArg
set_option linter.unusedVariables false
set_option linter.unusedSimpArgs false
namespace Go.Proofs.Ytlkpecalkakpeaa
open Go.ChangeShapes Go.WideShapes Go.ChangeAt Go.RowKit Go.Sal

theorem Try.ownN : ownKnob Try.prog.godebug = none := by kernel_rfl
theorem Try.laidOutN : laidOutB Try.prog = true := by kernel_rfl

set_option maxRecDepth 100000 in
theorem nobody_lifted (os : Os) (started : os.Started) (H : Type) (enc : TypeId × Value → H) :
    ReturnsInHanded {} Try.checked os 7 .any (Rows.windowNobodySpec.pre6 enc Try.prog Try.f7 Rows.windowNobodyRow.domain false) (Rows.windowNobodySpec.post enc Try.prog Try.f7 false true false false) := by
  refine returnsInHanded_of_change (C := Try.checked) Try.ownN started (by kernel_rfl) Try.func7
    (ChangeSpec.witness6 (enc := enc) (C := Try.checked) false ⟨#[], #[.agg #[.int .i64 0, .int .i64 0, .int .i64 0, .int .u64 0, .slice none 0 0]], []⟩ 8 (by kernel_rfl) (by kernel_rfl) (by kernel_rfl) (by kernel_rfl)) ?_
  intro W base args ds gs before hval0 hW hcnd _
  have hval : ∀ (j : Nat) t v, Try.f7.params[j]? = some t → args[j]? = some v → Value.okWide Try.prog W .any base t v := hval0
  have hW' := hW
  obtain ⟨p, q, hA0, hV, rfl, hfz, hnd⟩ := hW
  have hA : DataW.TrodAll enc Try.prog W 0 (fun _ => true) true Try.f7.params.toList args.toList ds p := hA0
  rw [Try.params7] at hA hval
  obtain ⟨v0, d0, rfl, rfl, h0⟩ := trodAll_one hA
  obtain ⟨rfl, rfl⟩ := trodVars_none hV
  have k0 := h0
  simp only [List.append_nil] at hW'
  have hlt0 : ∀ x ∈ p, x.block < W.heap.size := fun x hx => hW'.lt x (by simpa using hx)
  have hfin : ∀ e W', e = Ending.returned (.bool true) ∧ Keep [] W W' → ∃ v, e = .returned v ∧ Rows.windowNobodySpec.post enc Try.prog Try.f7 false true false false W #[v0] v W' := by
    rintro e W' ⟨rfl, hk⟩
    refine ⟨_, rfl, post_of_below (pa := p) (pv := []) hW' (fun _ _ _ => trodAll_mk1 (shut_bool Try.underlying4 true)) (fun sp hsp => ?_) (fun _ _ => rfl) ?_ hk.below (ok_one (by kernel_rfl) rfl (okWide_bool_mk Try.underlying4 true))⟩
    · exact trodAll_mk1 (WideElems.Trod_stays Try.laidOutN (by kernel_rfl) (of_decide_eq_true (by kernel_rfl)) k0 (fun x hx => hk.below.same (hlt0 x hx)) (fun x hx => hsp x (by simpa using hx)))
    · simp
  obtain ⟨cs, rfl, hsz, n, hf⟩ := open_agg Try.underlying66 (by kernel_rfl) (by kernel_rfl) (hval 0 66 v0 rfl rfl) h0
  obtain ⟨u0, y0, e0, t0⟩ := hf 0 _ rfl
  obtain ⟨u1, y1, e1, t1⟩ := hf 1 _ rfl
  obtain ⟨u2, y2, e2, t2⟩ := hf 2 _ rfl
  obtain ⟨u3, y3, e3, t3⟩ := hf 3 _ rfl
  obtain ⟨u4, y4, e4, t4⟩ := hf 4 _ rfl
  obtain ⟨a0, r0, _, _⟩ := DataW.trod_int Try.underlying3 t0
  obtain ⟨a1, r1, _, _⟩ := DataW.trod_int Try.underlying3 t1
  obtain ⟨a2, r2, _, _⟩ := DataW.trod_int Try.underlying3 t2
  obtain ⟨a3, r3, _, _⟩ := DataW.trod_int Try.underlying39 t3
  obtain ⟨b, A, c, r4, _⟩ := reads_of_trod Try.underlying31 Try.underlying5 (by kernel_rfl) t4
  injection r0 with r0
  injection r1 with r1
  injection r2 with r2
  injection r3 with r3
  subst r0; subst r1; subst r2; subst r3; subst r4
  have hcs : cs = #[.int .i64 a0, .int .i64 a1, .int .i64 a2, .int .u64 a3, .slice A b.length c] := by
    apply Array.ext_getElem?
    intro i
    by_cases hi : i < 5
    · match i, hi with
      | 0, _ => exact e0
      | 1, _ => exact e1
      | 2, _ => exact e2
      | 3, _ => exact e3
      | 4, _ => exact e4
    · have h5 : cs.size = 5 := hsz
      rw [Array.getElem?_eq_none (by omega), Array.getElem?_eq_none (by simp; omega)]
  subst hcs
  exact (nobody_any a0 a1 a2 a3 A b.length c W).mono hfin

theorem WindowNobody_holds : Rows.WindowNobodySaid :=
  OpenClaim.holds_of_wide 7 Try.f7 rfl rfl rfl rfl rfl rfl rfl ⟨rfl, rfl, rfl, rfl, rfl⟩ rfl rfl rfl rfl rfl (by kernel_rfl) Try.func7 (by kernel_rfl)
    (of_decide_eq_true (by kernel_rfl)) (by unfold Func.isWrapper; first | (rw [if_pos (by decide +kernel)]; kernel_rfl) | (rw [if_neg (by decide +kernel)]; exact ⟨rfl, rfl⟩))
    (fun os started H enc _ => nobody_lifted os started H enc)
end Go.Proofs.Ytlkpecalkakpeaa
