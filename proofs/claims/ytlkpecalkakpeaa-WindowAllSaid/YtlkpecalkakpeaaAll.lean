/- Whatever the size, the rows and the losses, WindowAll returns true, and its arguments read as they did. No condition. -/
import Derived.Test.YtlkpecalkakpeaaAllW
import Derived.Carry
import Derived.Test.YtlkpecalkakpeaaArg
set_option linter.unusedVariables false
set_option linter.unusedSimpArgs false
namespace Go.Proofs.Ytlkpecalkakpeaa
open Go.ChangeShapes Go.WideShapes Go.ChangeAt Go.RowKit Go.Sal

theorem Try.own : ownKnob Try.prog.godebug = none := by kernel_rfl
theorem Try.laidOut : laidOutB Try.prog = true := by kernel_rfl

theorem spot_of_cell {w : World} {a : Addr} {v : Value} (h : w.cell? a = some v) : a.spot = none := by
  unfold World.cell? at h
  split at h
  · split at h
    · cases h
    · rename_i h1
      simpa using h1
  · cases h

set_option maxRecDepth 100000 in
theorem all_lifted (os : Os) (started : os.Started) (H : Type) (enc : TypeId × Value → H) :
    ReturnsInHanded {} Try.checked os 5 .any (Rows.windowAllSpec.pre6 enc Try.prog Try.f5 Rows.windowAllRow.domain false) (Rows.windowAllSpec.post enc Try.prog Try.f5 false true false false) := by
  refine returnsInHanded_of_change (C := Try.checked) Try.own started (by kernel_rfl) Try.func5
    (ChangeSpec.witness6 (enc := enc) (C := Try.checked) false ⟨#[], #[.int .i64 0, .int .i64 0, .slice none 0 0, .slice none 0 0], []⟩ 8 (by kernel_rfl) (by kernel_rfl) (by kernel_rfl) (by kernel_rfl)) ?_
  intro W base args ds gs before hval0 hW hcnd _
  have hval : ∀ (j : Nat) t v, Try.f5.params[j]? = some t → args[j]? = some v → Value.okWide Try.prog W .any base t v := hval0
  have hW' := hW
  obtain ⟨p, q, hA0, hV, rfl, hfz, hnd⟩ := hW
  have hA : DataW.TrodAll enc Try.prog W 0 (fun _ => true) true Try.f5.params.toList args.toList ds p := hA0
  rw [Try.params5] at hA hval
  obtain ⟨v0, v1, v2, v3, d0, d1, d2, d3, p0, p1, p2, p3, rfl, rfl, rfl, h0, h1, h2, h3⟩ := trodAll_four hA
  obtain ⟨rfl, rfl⟩ := trodVars_none hV
  have k0 := h0
  have k1 := h1
  have k2 := h2
  have k3 := h3
  obtain ⟨size, rfl, rfl, rfl, wa⟩ := open_int Try.underlying3 (hval 0 3 v0 rfl rfl) h0
  obtain ⟨again, rfl, rfl, rfl, wb⟩ := open_int Try.underlying3 (hval 1 3 v1 rfl rfl) h1
  simp only [List.append_nil, List.nil_append] at hW'
  have hlt0 : ∀ x ∈ ([] : List MemPlace), x.block < W.heap.size := fun x hx => by simp at hx
  have hlt2 : ∀ x ∈ p2, x.block < W.heap.size := fun x hx => hW'.lt x (by simp [hx])
  have hlt3 : ∀ x ∈ p3, x.block < W.heap.size := fun x hx => hW'.lt x (by simp [hx])
  have hfin : ∀ e W', e = Ending.returned (.bool true) ∧ Keep [] W W' → ∃ v, e = .returned v ∧ Rows.windowAllSpec.post enc Try.prog Try.f5 false true false false W #[.int .i64 size, .int .i64 again, v2, v3] v W' := by
    rintro e W' ⟨rfl, hk⟩
    refine ⟨_, rfl, post_of_below (pa := [] ++ ([] ++ (p2 ++ p3))) (pv := []) hW' (fun _ _ _ => trodAll_mk1 (shut_bool Try.underlying4 true)) (fun sp hsp => ?_) (fun _ _ => rfl) ?_ hk.below (ok_one (by kernel_rfl) rfl (okWide_bool_mk Try.underlying4 true))⟩
    · exact trodAll_mk4 (WideElems.Trod_stays Try.laidOut (by kernel_rfl) (of_decide_eq_true (by kernel_rfl)) k0 (fun x hx => hk.below.same (hlt0 x hx)) (fun x hx => hsp x (by simp at hx)))
        (WideElems.Trod_stays Try.laidOut (by kernel_rfl) (of_decide_eq_true (by kernel_rfl)) k1 (fun x hx => hk.below.same (hlt0 x hx)) (fun x hx => hsp x (by simp at hx)))
        (WideElems.Trod_stays Try.laidOut (by kernel_rfl) (of_decide_eq_true (by kernel_rfl)) k2 (fun x hx => hk.below.same (hlt2 x hx)) (fun x hx => hsp x (by simp [hx])))
        (WideElems.Trod_stays Try.laidOut (by kernel_rfl) (of_decide_eq_true (by kernel_rfl)) k3 (fun x hx => hk.below.same (hlt3 x hx)) (fun x hx => hsp x (by simp [hx])))
    · simp
  obtain ⟨fuel2, hf2⟩ := h2
  obtain ⟨fuel3, hf3⟩ := h3
  obtain ⟨A, n, c, rfl⟩ := okWide_slice Try.underlying56 (hval 2 56 v2 rfl rfl)
  obtain ⟨B, m, d, rfl⟩ := okWide_slice Try.underlying57 (hval 3 57 v3 rfl rfl)
  by_cases hs : 1 ≤ size ∧ size ≤ 64 ∧ 1 ≤ again ∧ again ≤ 1048576
  · have hl : n ≤ 9223372036854775807 ∧ ∀ k, k < n → ∃ g o v b, A = some ⟨g, o, none⟩ ∧ g < W.heap.size ∧ W.cell? ⟨g, o + k, none⟩ = some v ∧ Reads W.heap.size 5 W v b := by
      rcases Go.Deep.open_slice1 Try.underlying56 (by kernel_rfl) hf2 with ⟨hcs, _⟩ | ⟨a, len, cap, m', n', V, D, Pl, hcs, _, hl, hm, hmm, _, hx⟩
      · have : Value.slice A n c = .slice none 0 0 := by simpa [Value.cells] using hcs
        injection this with e1 e2 e3
        subst e2
        exact ⟨by omega, fun k hk => by omega⟩
      · have : Value.slice A n c = .slice (some a) len cap := by simpa [Value.cells] using hcs
        injection this with e1 e2 e3
        subst e1; subst e2; subst e3
        refine ⟨by unfold maxLen at hm; omega, fun k hk => ?_⟩
        have hkm : ∀ j, j < n → j < m' := fun j hj => by rw [hmm]; split <;> omega
        obtain ⟨hc0, _⟩ := hx 0 (hkm 0 (by omega))
        have hsp : a.spot = none := spot_of_cell (by simpa [Addr.add] using hc0)
        obtain ⟨g, o, rfl⟩ : ∃ g o, a = ⟨g, o, none⟩ := ⟨a.block, a.off, by cases a; simp_all⟩
        have hgl := World.block_lt_of_cell? _ _ hc0
        rw [add_block] at hgl
        obtain ⟨hc, ht⟩ := hx k (hkm k hk)
        obtain ⟨b, hb⟩ := reads_of_trod Try.underlying31 Try.underlying5 (by kernel_rfl) ht
        rw [add_mk] at hc
        exact ⟨g, o, _, b, rfl, hgl, hc, hb⟩
    have hl2 : m ≤ 9223372036854775807 ∧ ∀ k, k < m → ∃ g o b, B = some ⟨g, o, none⟩ ∧ g < W.heap.size ∧ W.cell? ⟨g, o + k, none⟩ = some (.bool b) := by
      rcases Go.Deep.open_slice1 Try.underlying57 (by kernel_rfl) hf3 with ⟨hcs, _⟩ | ⟨a, len, cap, m', n', V, D, Pl, hcs, _, hl, hm, hmm, _, hx⟩
      · have : Value.slice B m d = .slice none 0 0 := by simpa [Value.cells] using hcs
        injection this with e1 e2 e3
        subst e2
        exact ⟨by omega, fun k hk => by omega⟩
      · have : Value.slice B m d = .slice (some a) len cap := by simpa [Value.cells] using hcs
        injection this with e1 e2 e3
        subst e1; subst e2; subst e3
        refine ⟨by unfold maxLen at hm; omega, fun k hk => ?_⟩
        have hkm : ∀ j, j < m → j < m' := fun j hj => by rw [hmm]; split <;> omega
        obtain ⟨hc0, _⟩ := hx 0 (hkm 0 (by omega))
        have hsp : a.spot = none := spot_of_cell (by simpa [Addr.add] using hc0)
        obtain ⟨g, o, rfl⟩ : ∃ g o, a = ⟨g, o, none⟩ := ⟨a.block, a.off, by cases a; simp_all⟩
        have hgl := World.block_lt_of_cell? _ _ hc0
        rw [add_block] at hgl
        obtain ⟨hc, ht⟩ := hx k (hkm k hk)
        obtain ⟨bb, hb, _⟩ := DataW.trod_bool Try.underlying4 ht
        injection hb with hb
        rw [add_mk, hb] at hc
        exact ⟨g, o, bb, rfl, hgl, hc⟩
    obtain ⟨z, rfl⟩ : ∃ z : Nat, size = z := ⟨size.toNat, by omega⟩
    exact (all_ok z again A B n c m d W ⟨hs.1, hs.2.1⟩ ⟨hs.2.2.1, hs.2.2.2⟩ hl.1 hl2.1 hl.2 hl2.2).mono hfin
  · exact (all_bad size again A B n c m d W hs).mono hfin

theorem WindowAll_holds : Rows.WindowAllSaid :=
  OpenClaim.holds_of_wide 5 Try.f5 rfl rfl rfl rfl rfl rfl rfl ⟨rfl, rfl, rfl, rfl, rfl⟩ rfl rfl rfl rfl rfl (by kernel_rfl) Try.func5 (by kernel_rfl)
    (of_decide_eq_true (by kernel_rfl)) (by unfold Func.isWrapper; first | (rw [if_pos (by decide +kernel)]; kernel_rfl) | (rw [if_neg (by decide +kernel)]; exact ⟨rfl, rfl⟩))
    (fun os started H enc _ => all_lifted os started H enc)
end Go.Proofs.Ytlkpecalkakpeaa
