/- HuffEncodes, walked. -/
import Derived.Test.YtknjjodkpknglaaL1
import Derived.Test.YtknjjodkpknglaaS12
import Derived.Test.YtknjjodkpknglaaB3
set_option linter.unusedVariables false
set_option linter.unusedSimpArgs false
namespace Go.Proofs.Ytknjjodkpknglaa
open Go.ChangeShapes Go.WideShapes Go.ChangeAt Go.RowKit Go.Sal Go.Huf
theorem cut_big (A : Option Addr) (n c : Nat) (w : World) (hn : n ≤ c) (hc : c ≤ 9223372036854775807) :
    Calls Try.prog 16 #[.slice A n c] w fun e w' => e = .returned (.slice A (min n 120) c) ∧ w = w' := by
  go_enter Try.func16, Try.ntmps16
  by_cases h : 120 < n
  · have h2 : (120 : Int) < n := by omega
    have hm : min n 120 = 120 := by omega
    rw [hm]
    cases A with
    | none =>
      go_wp2
      go_ret
      exact ⟨rfl, rfl⟩
    | some a =>
      go_wp2
      go_ret
      exact ⟨rfl, rfl⟩
  · have h2 : ¬ (120 : Int) < n := by omega
    have hm : min n 120 = n := by omega
    rw [hm]
    go_wp2
    go_ret
    exact ⟨rfl, rfl⟩
theorem cut_ints {w : World} {v : Value} {cs : List Int} (h : IntArg w v cs) :
    Calls Try.prog 16 #[v] w fun e w' => ∃ A c, e = .returned (.slice A (cs.take 120).length c) ∧ (cs.take 120).length ≤ 120 ∧ ISrc w A (cs.take 120) ∧ w = w' := by
  obtain ⟨A, c, rfl, h1, h2, h3, _⟩ := h
  refine (cut_big A cs.length c w h1 h2).mono ?_
  rintro e w' ⟨rfl, rfl⟩
  have hl : (cs.take 120).length = min cs.length 120 := by rw [List.length_take, Nat.min_comm]
  exact ⟨A, c, by rw [hl], by omega, h3.take 120, rfl⟩
def EncR (w : World) (l : List Nat) (M E : Int) (e : Ending) (w' : World) : Prop := ∃ A c, e = .returned (.tuple #[.slice A l.length c, .int .i64 M, .int .i64 E]) ∧ w'.ownsRow w.heap.size 5 1 (.slice A l.length c) l.length (inB l) ∧ Keep [] w w'
/-- what both encoders answer -/
def EncBoth (ls ss : List Int) (l : List Nat) (M E : Int) : Prop := ∀ A c As cs w, ISrc w A ls → ISrc w As ss →
  Calls Try.prog 17 #[.slice A ls.length c, .slice As ss.length cs] w (fun e w' => EncR w l M E e w') ∧ Calls Try.prog 18 #[.slice A ls.length c, .slice As ss.length cs] w (fun e w' => EncR w l M E e w')
theorem encP_R {w : World} {ls ss : List Int} {e : Ending} {w' : World} (h : EncP w ls ss e w') : if ∀ s ∈ ss, okS ls s then EncR w (pack (bitsOf ls ss)) ((bitsOf ls ss).length : Nat) 0 e w' else EncR w [] 0 53 e w' := by
  rcases h with ⟨h1, A, c, rfl, hown, hk⟩ | ⟨h1, rfl, hk⟩
  · rw [if_pos h1]
    exact ⟨A, c, rfl, hown, hk⟩
  · rw [if_neg h1]
    exact ⟨none, 0, rfl, World.ownsRow_nil _ _ _ _, hk⟩
theorem enc_both (ls ss : List Int) (h1 : ls.length ≤ 60) (h2 : ss.length ≤ 120) : ∃ l M E, EncBoth ls ss l M E ∧
    (E = 0 ∧ okL ls ∧ (∀ s ∈ ss, okS ls s) ∧ l = pack (bitsOf ls ss) ∧ M = ((bitsOf ls ss).length : Nat) ∨ E ≠ 0 ∧ l = [] ∧ M = 0) := by
  by_cases h : okL ls
  · by_cases hall : ∀ s ∈ ss, okS ls s
    · refine ⟨pack (bitsOf ls ss), _, 0, fun A c As cs w hs hss => ⟨?_, ?_⟩, .inl ⟨rfl, h, hall, rfl, rfl⟩⟩
      · refine (encode_any stab_k (Nat.le_refl _) ls ss A As c cs w hs hss (by omega) (by omega) h).mono (fun e w' hP => ?_)
        have := encP_R hP
        rwa [if_pos hall] at this
      · refine (rencode_any ls ss A As c cs w hs hss (by omega) h).mono (fun e w' hP => ?_)
        have := encP_R hP
        rwa [if_pos hall] at this
    · refine ⟨[], 0, 53, fun A c As cs w hs hss => ⟨?_, ?_⟩, .inr ⟨by decide, rfl, rfl⟩⟩
      · refine (encode_any stab_k (Nat.le_refl _) ls ss A As c cs w hs hss (by omega) (by omega) h).mono (fun e w' hP => ?_)
        have := encP_R hP
        rwa [if_neg hall] at this
      · refine (rencode_any ls ss A As c cs w hs hss (by omega) h).mono (fun e w' hP => ?_)
        have := encP_R hP
        rwa [if_neg hall] at this
  · refine ⟨[], 0, 51, fun A c As cs w hs hss => ⟨?_, ?_⟩, .inr ⟨by decide, rfl, rfl⟩⟩
    · refine (encode_bad ls A c _ w hs (by omega) h).mono ?_
      rintro e w' ⟨rfl, hk⟩
      exact ⟨none, 0, rfl, World.ownsRow_nil _ _ _ _, hk⟩
    · refine (rencode_bad ls A c _ w hs (by omega) h).mono ?_
      rintro e w' ⟨rfl, rfl⟩
      exact ⟨none, 0, rfl, World.ownsRow_nil _ _ _ _, Keep.refl _ _⟩
theorem law4_any (v0 : Value) (l0 : List Int) (v1 : Value) (l1 : List Int) (w : World) (h0 : IntArg w v0 l0) (h1 : IntArg w v1 l1) : Calls Try.prog 4 #[v0, v1] w fun e w' => e = .returned (.bool true) ∧ Keep [] w w' := by
  have Hf := Lib.hid (few_ints h0)
  have Hc := Lib.hid (cut_ints h1)
  clear h0 h1
  have hl0 : (l0.take 60).length ≤ 60 := by rw [List.length_take]; omega
  have hl1 : (l1.take 120).length ≤ 120 := by rw [List.length_take]; omega
  generalize l0.take 60 = ls at *
  generalize l1.take 120 = ss at *
  obtain ⟨l, M, E, hb, _⟩ := enc_both ls ss hl0 hl1
  have Hb := Lib.hid hb
  clear hb
  go_enter Try.func4, Try.ntmps4
  go_wp2_with (first
    | (go_at_call 11; refine Hf.out.mono ?_; rintro e w1 ⟨A, c, rfl, _, hs, rfl⟩; have Hs := Lib.hid hs; clear hs)
    | (go_at_call 16; refine Hc.out.mono ?_; rintro e w1 ⟨As, cs, rfl, _, hss, rfl⟩; have Hss := Lib.hid hss; clear hss)
    | (go_at_call 17; refine (Hb.out A c As cs _ Hs.out Hss.out).1.mono ?_; rintro e w1 ⟨A1, c1, rfl, hown1, hk1⟩
       have Ho1 := Lib.hid hown1; have Hk1 := Lib.hid hk1; clear hown1 hk1)
    | (go_at_call 18; refine (Hb.out A c As cs _ (Hs.out.keep Hk1.out (by simp)) (Hss.out.keep Hk1.out (by simp))).2.mono ?_; rintro e w2 ⟨A2, c2, rfl, hown2, hk2⟩
       have hst1 := str_own (ownsRow_keep Ho1.out hk2 (by simp)) rfl; have hst2 := str_own hown2 rfl; have Hk2 := Lib.hid (Hk1.out.trans hk2); clear hown2 hk2
       generalize strN l = S at *; generalize l.length = nl at *)
    | (go_at_call 15; refine (alive_any _).mono ?_; rintro e w4 ⟨rfl, hk4⟩; have Hk4 := Lib.hid (Hk2.out.trans hk4); clear hk4))
  go_ret
  exact ⟨rfl, Hk4.out⟩
end Go.Proofs.Ytknjjodkpknglaa
