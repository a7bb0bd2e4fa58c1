/- Whatever the bytes, CodecDecodes returns true, and its argument reads as it did. No condition. -/
import Derived.Test.YtiejjbdmkgdniaaRows
import Derived.Test.YtiejjbdmkgdniaaX8
set_option linter.unusedVariables false
set_option linter.unusedSimpArgs false
namespace Go.Proofs.Ytiejjbdmkgdniaa
open Go.ChangeShapes Go.WideShapes Go.ChangeAt Go.RowKit Go.Sal Go.Huf Go.Cod
set_option maxRecDepth 100000 in
theorem codecDecodes_lifted (os : Os) (started : os.Started) (H : Type) (enc : TypeId × Value → H) :
    ReturnsInHanded {} Try.checked os 8 .any (Rows.codecDecodesSpec.pre6 enc Try.prog Try.f8 Rows.codecDecodesRow.domain false) (Rows.codecDecodesSpec.post enc Try.prog Try.f8 false true false false) := by
  refine returnsInHanded_of_change (C := Try.checked) Try.own started (by kernel_rfl) Try.func8
    (ChangeSpec.witness6 (enc := enc) (C := Try.checked) false ⟨#[], #[.slice none 0 0], []⟩ 8 (by kernel_rfl) (by kernel_rfl) (by kernel_rfl) (by kernel_rfl)) ?_
  intro W base args ds gs before hval0 hW hcnd _
  have hval : ∀ (j : Nat) t v, Try.f8.params[j]? = some t → args[j]? = some v → Value.okWide Try.prog W .any base t v := hval0
  have hW' := hW
  obtain ⟨p, q, hA0, hV, rfl, hfz, hnd⟩ := hW
  have hA : DataW.TrodAll enc Try.prog W 0 (fun _ => true) true Try.f8.params.toList args.toList ds p := hA0
  rw [Try.params8] at hA hval
  obtain ⟨v0, d0, rfl, rfl, h0⟩ := trodAll_one hA
  obtain ⟨rfl, rfl⟩ := trodVars_none hV
  have k0 := h0
  obtain ⟨A0, n0, c0, rfl⟩ := okWide_slice Try.underlying24 (hval 0 24 v0 rfl rfl)
  obtain ⟨f0, t0⟩ := h0
  obtain ⟨l0, a0⟩ := bytArg_of (hval 0 24 _ rfl rfl) t0
  simp only [List.append_nil] at hW'
  have hlt0 : ∀ x ∈ p, x.block < W.heap.size := fun x hx => hW'.lt x (by simp [hx])
  have hfin : ∀ e W', e = Ending.returned (.bool true) ∧ Keep [] W W' → ∃ v, e = .returned v ∧ Rows.codecDecodesSpec.post enc Try.prog Try.f8 false true false false W #[.slice A0 n0 c0] v W' := by
    rintro e W' ⟨rfl, hk⟩
    refine ⟨_, rfl, post_of_below (pa := p) (pv := []) hW' (fun _ _ _ => trodAll_mk1 (shut_bool Try.underlying4 true)) (fun sp hsp => ?_) (fun _ _ => rfl) ?_ hk.below (ok_one (by kernel_rfl) rfl (okWide_bool_mk Try.underlying4 true))⟩
    · exact trodAll_mk1 (WideElems.Trod_stays Try.laidOut (by kernel_rfl) (of_decide_eq_true (by kernel_rfl)) k0 (fun x hx => hk.below.same (hlt0 x hx)) (fun x hx => hsp x (by simp [hx])))
    · simp
  exact (law8_any _ l0 W a0).mono hfin
theorem CodecDecodes_holds : Rows.CodecDecodesSaid :=
  OpenClaim.holds_of_wide 8 Try.f8 rfl rfl rfl rfl rfl rfl rfl ⟨rfl, rfl, rfl, rfl, rfl⟩ rfl rfl rfl rfl rfl (by kernel_rfl) Try.func8 (by kernel_rfl)
    (of_decide_eq_true (by kernel_rfl)) (by unfold Func.isWrapper; first | (rw [if_pos (by decide +kernel)]; kernel_rfl) | (rw [if_neg (by decide +kernel)]; exact ⟨rfl, rfl⟩))
    (fun os started H enc _ => codecDecodes_lifted os started H enc)
end Go.Proofs.Ytiejjbdmkgdniaa
