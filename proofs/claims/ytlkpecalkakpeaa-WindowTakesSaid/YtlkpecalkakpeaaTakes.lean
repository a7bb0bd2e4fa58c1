/- Whatever the size and whatever payloads come, WindowTakes returns true, and its arguments read as they did. No condition. -/
import Derived.Test.YtlkpecalkakpeaaLaw1
import Derived.Test.YtlkpecalkakpeaaArg
set_option linter.unusedVariables false
set_option linter.unusedSimpArgs false
namespace Go.Proofs.Ytlkpecalkakpeaa
open Go.ChangeShapes Go.WideShapes Go.ChangeAt Go.RowKit Go.Sal

theorem Try.own : ownKnob Try.prog.godebug = none := by kernel_rfl
theorem Try.laidOut : laidOutB Try.prog = true := by kernel_rfl

theorem spot_of_cell {w : World} {a : Addr} {v : Value} (h : w.cell? a = some v) : a.spot = none := by
  unfold World.cell? at h
  split at h
  · split at h
    · cases h
    · rename_i h1
      simpa using h1
  · cases h

set_option maxRecDepth 100000 in
theorem takes_lifted (os : Os) (started : os.Started) (H : Type) (enc : TypeId × Value → H) :
    ReturnsInHanded {} Try.checked os 3 .any (Rows.windowTakesSpec.pre6 enc Try.prog Try.f3 Rows.windowTakesRow.domain false) (Rows.windowTakesSpec.post enc Try.prog Try.f3 false true false false) := by
  refine returnsInHanded_of_change (C := Try.checked) Try.own started (by kernel_rfl) Try.func3
    (ChangeSpec.witness6 (enc := enc) (C := Try.checked) false ⟨#[], #[.int .i64 0, .slice none 0 0], []⟩ 8 (by kernel_rfl) (by kernel_rfl) (by kernel_rfl) (by kernel_rfl)) ?_
  intro W base args ds gs before hval0 hW hcnd _
  have hval : ∀ (j : Nat) t v, Try.f3.params[j]? = some t → args[j]? = some v → Value.okWide Try.prog W .any base t v := hval0
  have hW' := hW
  obtain ⟨p, q, hA0, hV, rfl, hfz, hnd⟩ := hW
  have hA : DataW.TrodAll enc Try.prog W 0 (fun _ => true) true Try.f3.params.toList args.toList ds p := hA0
  rw [Try.params3] at hA hval
  obtain ⟨v0, v1, d0, d1, p0, p1, rfl, rfl, rfl, h0, h1⟩ := trodAll_two hA
  obtain ⟨rfl, rfl⟩ := trodVars_none hV
  have k0 := h0
  have k1 := h1
  obtain ⟨size, rfl, rfl, rfl, wa⟩ := open_int Try.underlying3 (hval 0 3 v0 rfl rfl) h0
  simp only [List.append_nil] at hW'
  have hlt0 : ∀ x ∈ ([] : List MemPlace), x.block < W.heap.size := fun x hx => by simp at hx
  have hlt1 : ∀ x ∈ p1, x.block < W.heap.size := fun x hx => hW'.lt x (by simpa using hx)
  have hfin : ∀ e W', e = Ending.returned (.bool true) ∧ Keep [] W W' → ∃ v, e = .returned v ∧ Rows.windowTakesSpec.post enc Try.prog Try.f3 false true false false W #[.int .i64 size, v1] v W' := by
    rintro e W' ⟨rfl, hk⟩
    refine ⟨_, rfl, post_of_below (pa := [] ++ p1) (pv := []) hW' (fun _ _ _ => trodAll_mk1 (shut_bool Try.underlying4 true)) (fun sp hsp => ?_) (fun _ _ => rfl) ?_ hk.below (ok_one (by kernel_rfl) rfl (okWide_bool_mk Try.underlying4 true))⟩
    · exact trodAll_mk2 (WideElems.Trod_stays Try.laidOut (by kernel_rfl) (of_decide_eq_true (by kernel_rfl)) k0 (fun x hx => hk.below.same (hlt0 x hx)) (fun x hx => hsp x (by simp at hx)))
        (WideElems.Trod_stays Try.laidOut (by kernel_rfl) (of_decide_eq_true (by kernel_rfl)) k1 (fun x hx => hk.below.same (hlt1 x hx)) (fun x hx => hsp x (by simpa using hx)))
    · simp
  by_cases hs : size < 1 ∨ 64 < size
  · obtain ⟨A, n, c, rfl⟩ := okWide_slice Try.underlying22 (hval 1 22 v1 rfl rfl)
    exact (takes_bad size A n c W hs).mono hfin
  · obtain ⟨fuel, hf⟩ := h1
    obtain ⟨A, n, c, rfl⟩ := okWide_slice Try.underlying22 (hval 1 22 v1 rfl rfl)
    have hl : n ≤ 9223372036854775807 ∧ ∀ k, k < n → ∃ g o N v b, A = some ⟨g, o, none⟩ ∧ g < W.heap.size ∧ W.cell? ⟨g, o + k * 2, none⟩ = some (.int .i64 N) ∧ W.cell? ⟨g, o + k * 2 + 1, none⟩ = some v ∧
        -9223372036854775808 ≤ N ∧ N ≤ 9223372036854775807 ∧ Reads W.heap.size 5 W v b := by
      rcases open_rows Try.underlying22 Try.underlying33 (by kernel_rfl) (by kernel_rfl) hf with hcs | ⟨a, len, cap, hcs, hl, hm, hi⟩
      · have : Value.slice A n c = .slice none 0 0 := by simpa [Value.cells] using hcs
        injection this with e1 e2 e3
        subst e2
        exact ⟨by omega, fun k hk => by omega⟩
      · have : Value.slice A n c = .slice (some a) len cap := by simpa [Value.cells] using hcs
        injection this with e1 e2 e3
        subst e1; subst e2; subst e3
        refine ⟨by unfold maxLen at hm; omega, fun k hk => ?_⟩
        obtain ⟨m0, hj0⟩ := hi 0 (by omega)
        obtain ⟨u, _, hcu, _⟩ := hj0 0 _ rfl
        have hsp : a.spot = none := spot_of_cell (by simpa [Addr.add] using hcu)
        obtain ⟨g, o, rfl⟩ : ∃ g o, a = ⟨g, o, none⟩ := ⟨a.block, a.off, by cases a; simp_all⟩
        have hgl := World.block_lt_of_cell? _ _ hcu
        rw [add_block] at hgl
        obtain ⟨m, hj⟩ := hi k hk
        obtain ⟨u0, y0, hc0, ht0⟩ := hj 0 _ rfl
        obtain ⟨u1, y1, hc1, ht1⟩ := hj 1 _ rfl
        obtain ⟨N, hN, _, hwN⟩ := DataW.trod_int Try.underlying3 ht0
        injection hN with hN
        subst hN
        obtain ⟨b, hb⟩ := reads_of_trod Try.underlying31 Try.underlying5 (by kernel_rfl) ht1
        rw [add_mk] at hc0 hc1
        simp [Lit.wf, IntKind.min, IntKind.max, IntKind.bits, IntKind.signed] at hwN
        exact ⟨g, o, N, u1, b, rfl, hgl, by simpa using hc0, by simpa [Nat.add_assoc] using hc1, by omega, by omega, hb⟩
    exact (takes_ok size A n c W (by omega) (by omega) (by omega) hl.2).mono hfin

theorem WindowTakes_holds : Rows.WindowTakesSaid :=
  OpenClaim.holds_of_wide 3 Try.f3 rfl rfl rfl rfl rfl rfl rfl ⟨rfl, rfl, rfl, rfl, rfl⟩ rfl rfl rfl rfl rfl (by kernel_rfl) Try.func3 (by kernel_rfl)
    (of_decide_eq_true (by kernel_rfl)) (by unfold Func.isWrapper; first | (rw [if_pos (by decide +kernel)]; kernel_rfl) | (rw [if_neg (by decide +kernel)]; exact ⟨rfl, rfl⟩))
    (fun os started H enc _ => takes_lifted os started H enc)
end Go.Proofs.Ytlkpecalkakpeaa
