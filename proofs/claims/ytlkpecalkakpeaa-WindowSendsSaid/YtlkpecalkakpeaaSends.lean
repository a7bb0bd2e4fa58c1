/- Whatever is pushed, asked and acknowledged, WindowSends returns true, and its arguments read as they did. No condition. -/
import Derived.Test.YtlkpecalkakpeaaSn
import Derived.Test.YtlkpecalkakpeaaArg
set_option linter.unusedVariables false
set_option linter.unusedSimpArgs false
namespace Go.Proofs.Ytlkpecalkakpeaa
open Go.ChangeShapes Go.WideShapes Go.ChangeAt Go.RowKit Go.Sal

theorem Try.own : ownKnob Try.prog.godebug = none := by kernel_rfl
theorem Try.laidOut : laidOutB Try.prog = true := by kernel_rfl

theorem spot_of_cell {w : World} {a : Addr} {v : Value} (h : w.cell? a = some v) : a.spot = none := by
  unfold World.cell? at h
  split at h
  · split at h
    · cases h
    · rename_i h1
      simpa using h1
  · cases h

set_option maxRecDepth 100000 in
theorem sends_lifted (os : Os) (started : os.Started) (H : Type) (enc : TypeId × Value → H) :
    ReturnsInHanded {} Try.checked os 6 .any (Rows.windowSendsSpec.pre6 enc Try.prog Try.f6 Rows.windowSendsRow.domain false) (Rows.windowSendsSpec.post enc Try.prog Try.f6 false true false false) := by
  refine returnsInHanded_of_change (C := Try.checked) Try.own started (by kernel_rfl) Try.func6
    (ChangeSpec.witness6 (enc := enc) (C := Try.checked) false ⟨#[], #[.int .i64 0, .int .i64 0, .slice none 0 0], []⟩ 8 (by kernel_rfl) (by kernel_rfl) (by kernel_rfl) (by kernel_rfl)) ?_
  intro W base args ds gs before hval0 hW hcnd _
  have hval : ∀ (j : Nat) t v, Try.f6.params[j]? = some t → args[j]? = some v → Value.okWide Try.prog W .any base t v := hval0
  have hW' := hW
  obtain ⟨p, q, hA0, hV, rfl, hfz, hnd⟩ := hW
  have hA : DataW.TrodAll enc Try.prog W 0 (fun _ => true) true Try.f6.params.toList args.toList ds p := hA0
  rw [Try.params6] at hA hval
  obtain ⟨v0, v1, v2, d0, d1, d2, p0, p1, p2, rfl, rfl, rfl, h0, h1, h2⟩ := trodAll_three hA
  obtain ⟨rfl, rfl⟩ := trodVars_none hV
  have k0 := h0
  have k1 := h1
  have k2 := h2
  obtain ⟨size, rfl, rfl, rfl, wa⟩ := open_int Try.underlying3 (hval 0 3 v0 rfl rfl) h0
  obtain ⟨again, rfl, rfl, rfl, wb⟩ := open_int Try.underlying3 (hval 1 3 v1 rfl rfl) h1
  simp only [List.append_nil, List.nil_append] at hW'
  have hlt0 : ∀ x ∈ ([] : List MemPlace), x.block < W.heap.size := fun x hx => by simp at hx
  have hlt2 : ∀ x ∈ p2, x.block < W.heap.size := fun x hx => hW'.lt x (by simpa using hx)
  have hfin : ∀ e W', e = Ending.returned (.bool true) ∧ Keep [] W W' → ∃ v, e = .returned v ∧ Rows.windowSendsSpec.post enc Try.prog Try.f6 false true false false W #[.int .i64 size, .int .i64 again, v2] v W' := by
    rintro e W' ⟨rfl, hk⟩
    refine ⟨_, rfl, post_of_below (pa := [] ++ [] ++ p2) (pv := []) hW' (fun _ _ _ => trodAll_mk1 (shut_bool Try.underlying4 true)) (fun sp hsp => ?_) (fun _ _ => rfl) ?_ hk.below (ok_one (by kernel_rfl) rfl (okWide_bool_mk Try.underlying4 true))⟩
    · exact trodAll_mk3 (WideElems.Trod_stays Try.laidOut (by kernel_rfl) (of_decide_eq_true (by kernel_rfl)) k0 (fun x hx => hk.below.same (hlt0 x hx)) (fun x hx => hsp x (by simp at hx)))
        (WideElems.Trod_stays Try.laidOut (by kernel_rfl) (of_decide_eq_true (by kernel_rfl)) k1 (fun x hx => hk.below.same (hlt0 x hx)) (fun x hx => hsp x (by simp at hx)))
        (WideElems.Trod_stays Try.laidOut (by kernel_rfl) (of_decide_eq_true (by kernel_rfl)) k2 (fun x hx => hk.below.same (hlt2 x hx)) (fun x hx => hsp x (by simpa using hx)))
    · simp
  obtain ⟨fuel, hf⟩ := h2
  obtain ⟨A, n, c, rfl⟩ := okWide_slice Try.underlying61 (hval 2 61 v2 rfl rfl)
  by_cases hs : 1 ≤ size ∧ size ≤ 64 ∧ 1 ≤ again ∧ again ≤ 1048576
  · have hl : n ≤ 9223372036854775807 ∧ ∀ k, k < n → ∃ g o kd x N Mo v b, A = some ⟨g, o, none⟩ ∧ g < W.heap.size ∧ W.cell? ⟨g, o + k * 5, none⟩ = some (.int .i64 kd) ∧ W.cell? ⟨g, o + k * 5 + 1, none⟩ = some (.int .i64 x) ∧ W.cell? ⟨g, o + k * 5 + 2, none⟩ = some (.int .i64 N) ∧
      W.cell? ⟨g, o + k * 5 + 3, none⟩ = some (.int .u64 ((Mo : Nat) : Int)) ∧ W.cell? ⟨g, o + k * 5 + 4, none⟩ = some v ∧
      (-9223372036854775808 ≤ x ∧ x ≤ 9223372036854775807) ∧ (-9223372036854775808 ≤ N ∧ N ≤ 9223372036854775807) ∧ Mo < 18446744073709551616 ∧ Reads W.heap.size 5 W v b := by
      rcases open_rows Try.underlying61 Try.underlying66 (by kernel_rfl) (by kernel_rfl) hf with hcs | ⟨a, len, cap, hcs, hl, hm, hi⟩
      · have : Value.slice A n c = .slice none 0 0 := by simpa [Value.cells] using hcs
        injection this with e1 e2 e3
        subst e2
        exact ⟨by omega, fun k hk => by omega⟩
      · have : Value.slice A n c = .slice (some a) len cap := by simpa [Value.cells] using hcs
        injection this with e1 e2 e3
        subst e1; subst e2; subst e3
        refine ⟨by unfold maxLen at hm; omega, fun k hk => ?_⟩
        obtain ⟨m0, hj0⟩ := hi 0 (by omega)
        obtain ⟨u, _, hcu, _⟩ := hj0 0 _ rfl
        have hsp : a.spot = none := spot_of_cell (by simpa [Addr.add] using hcu)
        obtain ⟨g, o, rfl⟩ : ∃ g o, a = ⟨g, o, none⟩ := ⟨a.block, a.off, by cases a; simp_all⟩
        have hgl := World.block_lt_of_cell? _ _ hcu
        rw [add_block] at hgl
        obtain ⟨m, hj⟩ := hi k hk
        obtain ⟨u0, y0, hc0, ht0⟩ := hj 0 _ rfl
        obtain ⟨u1, y1, hc1, ht1⟩ := hj 1 _ rfl
        obtain ⟨u2, y2, hc2, ht2⟩ := hj 2 _ rfl
        obtain ⟨u3, y3, hc3, ht3⟩ := hj 3 _ rfl
        obtain ⟨u4, y4, hc4, ht4⟩ := hj 4 _ rfl
        obtain ⟨a0, r0, _, w0⟩ := DataW.trod_int Try.underlying3 ht0
        obtain ⟨a1, r1, _, w1⟩ := DataW.trod_int Try.underlying3 ht1
        obtain ⟨a2, r2, _, w2⟩ := DataW.trod_int Try.underlying3 ht2
        obtain ⟨a3, r3, _, w3⟩ := DataW.trod_int Try.underlying39 ht3
        injection r0 with r0
        injection r1 with r1
        injection r2 with r2
        injection r3 with r3
        subst r0; subst r1; subst r2; subst r3
        obtain ⟨b, hb⟩ := reads_of_trod Try.underlying31 Try.underlying5 (by kernel_rfl) ht4
        rw [add_mk] at hc0 hc1 hc2 hc3 hc4
        simp [Lit.wf, IntKind.min, IntKind.max, IntKind.bits, IntKind.signed] at w0 w1 w2 w3
        obtain ⟨Mo, rfl⟩ : ∃ Mo : Nat, a3 = Mo := ⟨a3.toNat, by omega⟩
        exact ⟨g, o, a0, a1, a2, Mo, u4, b, rfl, hgl, by simpa using hc0, by simpa [Nat.add_assoc] using hc1, by simpa [Nat.add_assoc] using hc2, by simpa [Nat.add_assoc] using hc3, by simpa [Nat.add_assoc] using hc4, ⟨by omega, by omega⟩, ⟨by omega, by omega⟩, by omega, hb⟩
    exact (sends_ok size again A n c W ⟨hs.1, hs.2.1⟩ ⟨hs.2.2.1, hs.2.2.2⟩ hl.1 hl.2).mono hfin
  · exact (sends_bad size again A n c W hs).mono hfin

theorem WindowSends_holds : Rows.WindowSendsSaid :=
  OpenClaim.holds_of_wide 6 Try.f6 rfl rfl rfl rfl rfl rfl rfl ⟨rfl, rfl, rfl, rfl, rfl⟩ rfl rfl rfl rfl rfl (by kernel_rfl) Try.func6 (by kernel_rfl)
    (of_decide_eq_true (by kernel_rfl)) (by unfold Func.isWrapper; first | (rw [if_pos (by decide +kernel)]; kernel_rfl) | (rw [if_neg (by decide +kernel)]; exact ⟨rfl, rfl⟩))
    (fun os started H enc _ => sends_lifted os started H enc)
end Go.Proofs.Ytlkpecalkakpeaa
