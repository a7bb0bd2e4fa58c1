/- HuffDecodes, walked. -/
import Derived.Test.YtknjjodkpknglaaL1
import Derived.Test.YtknjjodkpknglaaS12
import Derived.Test.YtknjjodkpknglaaD4
set_option linter.unusedVariables false
set_option linter.unusedSimpArgs false
namespace Go.Huf
theorem decP_ex (ls : List Int) (b : List Nat) : ∀ n, ∃ l a E, DecP ls b n l a E
  | 0 => ⟨_, _, 0, .inl ⟨fun j hj => by omega, rfl, rfl, rfl⟩⟩
  | n + 1 => by
    obtain ⟨l, a, E, h⟩ := decP_ex ls b n
    rcases h with ⟨h1, _⟩ | ⟨k, hk, h1, h2, h3⟩
    · cases hx : one ls b (dst ls b n).2 with
      | none => exact ⟨[], _, 52, .inr ⟨n, by omega, h1, hx, rfl, rfl, rfl⟩⟩
      | some p =>
        refine ⟨_, _, 0, .inl ⟨fun j hj => ?_, rfl, rfl, rfl⟩⟩
        rcases Nat.lt_succ_iff_lt_or_eq.1 hj with h4 | rfl
        · exact h1 j h4
        · rw [hx]; simp
    · exact ⟨l, a, E, .inr ⟨k, by omega, h1, h2, h3⟩⟩
theorem decP_len {ls : List Int} {b : List Nat} {n : Nat} {l : List Nat} {a : Nat} {E : Int} (h : DecP ls b n l a E) : l.length ≤ 8 * b.length := by
  rcases h with ⟨h1, rfl, _⟩ | ⟨k, _, _, _, rfl, _⟩
  · have := dst_bounds n h1
    omega
  · simp
end Go.Huf
namespace Go.Proofs.Ytknjjodkpknglaa
open Go.ChangeShapes Go.WideShapes Go.ChangeAt Go.RowKit Go.Sal Go.Huf
theorem inN_inI (l : List Nat) : inN l = inI (toI l) := by simp [inN, inI, toI, Function.comp_def]
theorem dec_both (ls : List Int) (bl : List Nat) (z : Int) (hl : ls.length ≤ 60) (hb : bl.length ≤ 10000) (hz : z ≤ 9223372036854775807) : ∃ l a E, l.length ≤ 80000 ∧ ∀ A c AB cB w, ISrc w A ls → BySrc w AB bl →
    Calls Try.prog 29 #[.slice A ls.length c, .slice AB bl.length cB, .int .i64 z] w (fun e w' => DecR w l a E e w') ∧ Calls Try.prog 30 #[.slice A ls.length c, .slice AB bl.length cB, .int .i64 z] w (fun e w' => DecR w l a E e w') := by
  by_cases h : okL ls
  · by_cases hz0 : z < 0
    · exact ⟨[], 0, 1, by simp, fun A c AB cB w hs ht => ⟨decode_neg ls A c _ z w hs h hz0, rdecode_neg ls A c _ z w hs h hz0⟩⟩
    · obtain ⟨n, rfl⟩ : ∃ n : Nat, z = n := ⟨z.toNat, by omega⟩
      obtain ⟨l, a, E, hP⟩ := decP_ex ls bl n
      refine ⟨l, a, E, by have := decP_len hP; omega, fun A c AB cB w hs ht => ⟨(decode_any stab_k (Nat.le_refl _) ls bl A AB c cB n w hs ht h (by omega) hb (by omega)).mono ?_, (rdecode_any ls bl A AB c cB n w hs ht h hb (by omega)).mono ?_⟩⟩
      · rintro e w' ⟨l', a', E', hP', hR⟩
        obtain ⟨rfl, rfl, rfl⟩ := hP.same hP'
        exact hR
      · rintro e w' ⟨l', a', E', hP', hR⟩
        obtain ⟨rfl, rfl, rfl⟩ := hP.same hP'
        exact hR
  · exact ⟨[], 0, 51, by simp, fun A c AB cB w hs ht => ⟨decode_bad ls A c _ _ w hs (by omega) h, rdecode_bad ls A c _ _ w hs (by omega) h⟩⟩
/-- an argument that is a slice of bytes, cut at 120 -/
theorem by_arg {w : World} {v : Value} {b : List UInt8} (h : Reads w.heap.size 5 w v b) : ∃ A c n bl, v = .slice A n c ∧ n ≤ c ∧ c ≤ 9223372036854775807 ∧ BySrc w A bl ∧ bl.length ≤ 120 ∧ ((120 < n ∧ ∃ g o, A = some ⟨g, o, none⟩) ∧ bl.length = 120 ∨ ¬ 120 < n ∧ bl.length = n) := by
  obtain ⟨A, c, rfl, h1, h2, h3⟩ := h
  have hsrc : ∀ i (hi : i < b.length), ∃ g o, A = some ⟨g, o, none⟩ ∧ g < w.heap.size ∧ w.cell? ⟨g, o + i, none⟩ = some (.int .u8 (b[i].toNat : Int)) := fun i hi => by
    obtain ⟨a, rfl, hb, hc⟩ := h3 (fun e => by subst e; simp at hi)
    have hc0 := hc 0 (by omega)
    have hsp : a.spot = none := spot_of_cell (by simpa [Addr.add] using hc0)
    obtain ⟨g, o, rfl⟩ : ∃ g o, a = ⟨g, o, none⟩ := ⟨a.block, a.off, by cases a; simp_all⟩
    refine ⟨g, o, rfl, hb.1, ?_⟩
    have := hc i hi
    rwa [add_mk] at this
  refine ⟨A, c, b.length, (b.take 120).map (·.toNat), rfl, h1, by unfold maxLen at h2; omega, ⟨fun i hi => ?_, fun x hx => ?_⟩, by rw [List.length_map, List.length_take]; omega, ?_⟩
  · rw [List.length_map, List.length_take] at hi
    obtain ⟨g, o, e1, e2, e3⟩ := hsrc i (by omega)
    exact ⟨g, o, e1, e2, by rw [e3, List.getElem_map, List.getElem_take]⟩
  · obtain ⟨y, _, rfl⟩ := List.mem_map.1 hx
    exact y.toNat_lt
  · rw [List.length_map, List.length_take]
    rcases Nat.lt_or_ge 120 b.length with h | h
    · obtain ⟨g, o, e, _⟩ := hsrc 0 (by omega)
      exact .inl ⟨⟨h, g, o, e⟩, by omega⟩
    · exact .inr ⟨by omega, by omega⟩
set_option maxRecDepth 20000 in
set_option maxHeartbeats 2000000 in
theorem law9_any (v0 : Value) (l0 : List Int) (v1 : Value) (b1 : List UInt8) (z : Int) (w : World) (h0 : IntArg w v0 l0) (h1 : Reads w.heap.size 5 w v1 b1) (hz : -9223372036854775808 ≤ z ∧ z ≤ 9223372036854775807) :
    Calls Try.prog 9 #[v0, v1, .int .i64 z] w fun e w' => e = .returned (.bool true) ∧ Keep [] w w' := by
  have Hf := Lib.hid (few_ints h0)
  obtain ⟨AB, cB, n, bl, rfl, a1, a2, hb, hbl, hcase⟩ := by_arg h1
  clear h0 h1
  have hl60 : (l0.take 60).length ≤ 60 := by rw [List.length_take]; omega
  generalize l0.take 60 = ls at *
  obtain ⟨l, a, E, hll, hdec⟩ := dec_both ls bl z hl60 (by omega) hz.2
  have Hd := Lib.hid hdec
  have Hb := Lib.hid hb
  clear hdec hb
  have hti : (toI l).length = l.length := by simp [toI]
  have Hsm : Hid (∀ A1 A2 c1 c2 w, ISrc w A1 (toI l) → ISrc w A2 (toI l) → Calls Try.prog 14 #[.slice A1 l.length c1, .slice A2 l.length c2] w fun e w' => e = .returned (.bool true) ∧ ∃ k, w' = w.drewN k) := Lib.hid (fun A1 A2 c1 c2 w h1 h2 => by
    have := same_any (toI l) (toI l) A1 A2 c1 c2 w h1 h2 (by omega) (by omega)
    rw [hti] at this
    refine this.mono ?_
    rintro e w' ⟨b, rfl, hb, k, rfl⟩
    obtain rfl : b = true := hb.2 rfl
    exact ⟨rfl, k, rfl⟩)
  have Hin := Lib.hid (inN_inI l)
  clear hti
  rcases hcase with ⟨⟨hn, gb, ob, rfl⟩, hln⟩ | ⟨hn, hln⟩
  · rw [hln] at Hd
    have hni : (120 : Int) < n := by omega
    clear hln
    as_aux_lemma =>
      go_enter Try.func9, Try.ntmps9
      go_wp2_with (first
        | (go_at_call 11; refine Hf.out.mono ?_; rintro e w1 ⟨A, c, rfl, _, hs, rfl⟩; have Hs := Lib.hid hs; clear hs)
        | (go_at_call 29; refine (Hd.out A c _ cB _ Hs.out Hb.out).1.mono ?_; rintro e w1 ⟨A1, c1, rfl, hown1, hk1⟩
           have Ho1 := Lib.hid (ISrc.of_own (Hin.out ▸ hown1)); have Hk1 := Lib.hid hk1; clear hown1 hk1)
        | (go_at_call 30; refine (Hd.out A c _ cB _ (Hs.out.keep Hk1.out (by simp)) (Hb.out.keep Hk1.out (by simp))).2.mono ?_; rintro e w2 ⟨A2, c2, rfl, hown2, hk2⟩
           have Hs2 := Lib.hid (Hsm.out A1 A2 c1 c2 w2 (Ho1.out.keep hk2 (by simp)) (ISrc.of_own (Hin.out ▸ hown2))); have Hk2 := Lib.hid (Hk1.out.trans hk2); clear hown2 hk2)
        | (go_at_call 14; refine Hs2.out.mono ?_; rintro e w3 ⟨rfl, k, rfl⟩)
        | (go_at_call 15; refine (alive_any _).mono ?_; rintro e w4 ⟨rfl, hk4⟩; have Hk4 := Lib.hid ((Hk2.out.drewN _).trans hk4); clear hk4))
      go_ret
      exact ⟨rfl, Hk4.out⟩
  · rw [hln] at Hd
    have hni : ¬ (120 : Int) < n := by omega
    clear hln
    as_aux_lemma =>
      go_enter Try.func9, Try.ntmps9
      go_wp2_with (first
        | (go_at_call 11; refine Hf.out.mono ?_; rintro e w1 ⟨A, c, rfl, _, hs, rfl⟩; have Hs := Lib.hid hs; clear hs)
        | (go_at_call 29; refine (Hd.out A c _ cB _ Hs.out Hb.out).1.mono ?_; rintro e w1 ⟨A1, c1, rfl, hown1, hk1⟩
           have Ho1 := Lib.hid (ISrc.of_own (Hin.out ▸ hown1)); have Hk1 := Lib.hid hk1; clear hown1 hk1)
        | (go_at_call 30; refine (Hd.out A c _ cB _ (Hs.out.keep Hk1.out (by simp)) (Hb.out.keep Hk1.out (by simp))).2.mono ?_; rintro e w2 ⟨A2, c2, rfl, hown2, hk2⟩
           have Hs2 := Lib.hid (Hsm.out A1 A2 c1 c2 w2 (Ho1.out.keep hk2 (by simp)) (ISrc.of_own (Hin.out ▸ hown2))); have Hk2 := Lib.hid (Hk1.out.trans hk2); clear hown2 hk2)
        | (go_at_call 14; refine Hs2.out.mono ?_; rintro e w3 ⟨rfl, k, rfl⟩)
        | (go_at_call 15; refine (alive_any _).mono ?_; rintro e w4 ⟨rfl, hk4⟩; have Hk4 := Lib.hid ((Hk2.out.drewN _).trans hk4); clear hk4))
      go_ret
      exact ⟨rfl, Hk4.out⟩
end Go.Proofs.Ytknjjodkpknglaa
