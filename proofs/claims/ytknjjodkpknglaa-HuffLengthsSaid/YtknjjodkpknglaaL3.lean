/- HuffLengths, walked. -/
import Derived.Test.YtknjjodkpknglaaL2
set_option linter.unusedVariables false
set_option linter.unusedSimpArgs false
namespace Go.Proofs.Ytknjjodkpknglaa
open Go.ChangeShapes Go.WideShapes Go.ChangeAt Go.RowKit Go.Sal Go.Huf
def BothE (cs r : List Int) (E : Int) : Prop := ∀ A c w, ISrc w A cs → Calls Try.prog 12 #[.slice A cs.length c] w (fun e w' => RowE w r E e w') ∧ Calls Try.prog 13 #[.slice A cs.length c] w (fun e w' => RowE w r E e w')
theorem both_any {cs : List Int} (h : cs.length ≤ 60) : ∃ r E, BothE cs r E ∧ r.length ≤ 60 :=
  ⟨resL cs, errL cs, fun A c w hs => ⟨lengths_any cs A c w hs (by omega), rlengths_any cs A c w hs (by omega)⟩, by have := resL_len cs; omega⟩
theorem law3_any (v : Value) (cs : List Int) (w : World) (h : IntArg w v cs) : Calls Try.prog 3 #[v] w fun e w' => e = .returned (.bool true) ∧ Keep [] w w' := by
  have Hf := Lib.hid (few_ints h)
  clear h
  have hl60 : (cs.take 60).length ≤ 60 := by rw [List.length_take]; omega
  generalize cs.take 60 = l at *
  obtain ⟨r, E, hb, hr⟩ := both_any hl60
  have Hb := Lib.hid hb
  clear hb
  go_enter Try.func3, Try.ntmps3
  go_wp2_with (first
    | (go_at_call 11; refine Hf.out.mono ?_; rintro e w1 ⟨A, c, rfl, _, hs, rfl⟩; have Hs := Lib.hid hs; clear hs)
    | (go_at_call 12; refine (Hb.out A c _ Hs.out).1.mono ?_; rintro e w1 ⟨A1, c1, rfl, hown1, hk1⟩
       have Hs1 := Lib.hid (ISrc.of_own hown1); have Hk1 := Lib.hid hk1; clear hown1 hk1)
    | (go_at_call 13; refine (Hb.out A c _ (Hs.out.keep Hk1.out (by simp))).2.mono ?_; rintro e w2 ⟨A2, c2, rfl, hown2, hk2⟩
       have Hsm := Lib.hid (same_any r r A1 A2 c1 c2 w2 (Hs1.out.keep hk2 (by simp)) (ISrc.of_own hown2) (by omega) (by omega))
       have Hk2 := Lib.hid (Hk1.out.trans hk2); clear hown2 hk2)
    | (go_at_call 14; refine Hsm.out.mono ?_; rintro e w3 ⟨b, rfl, hb, k, rfl⟩; obtain rfl : b = true := hb.2 (by trivial); clear hb)
    | (go_at_call 15; refine (alive_any _).mono ?_; rintro e w4 ⟨rfl, hk4⟩; have Hk4 := Lib.hid ((Hk2.out.drewN _).trans hk4); clear hk4))
  go_ret
  exact ⟨rfl, Hk4.out⟩
end Go.Proofs.Ytknjjodkpknglaa
