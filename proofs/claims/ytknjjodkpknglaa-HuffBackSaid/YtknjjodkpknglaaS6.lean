/- order, walked. -/
import Derived.Test.YtknjjodkpknglaaS5
import Derived.Test.YtknjjodkpknglaaSoP
set_option linter.unusedVariables false
set_option linter.unusedSimpArgs false
namespace Go.Proofs.Ytknjjodkpknglaa
open Go.RowKit Go.Sal Go.Huf
theorem inssort_nil (w : World) (fv : Value) : Calls Try.prog 49 #[.slice none 0 0, .int .i64 0, .int .i64 0, fv] w fun e w' => e = .returned (.tuple #[]) ∧ w = w' := by
  go_enter Try.func49, Try.ntmps49
  go_wp2
  refine wp_loop_rounds 1 ?_
  rw [rounds_succ]
  go_wp2
  refine bodyPost_end (results_none rfl _ _ _) rfl ?_
  exact ⟨rfl, rfl⟩
theorem stab_nil (w : World) (fv : Value) : Calls Try.prog 48 #[.slice none 0 0, .int .i64 0, fv] w fun e w' => e = .returned (.tuple #[]) ∧ w = w' := by
  go_enter Try.func48, Try.ntmps48
  go_wp2
  refine wp_loop_rounds 1 ?_
  rw [rounds_succ]
  go_wp2_with (go_at_call 49; refine (inssort_nil _ _).mono ?_; rintro e w1 ⟨rfl, rfl⟩)
  refine wp_loop_rounds 1 ?_
  rw [rounds_succ]
  go_wp2
  refine bodyPost_end (results_none rfl _ _ _) rfl ?_
  exact ⟨rfl, rfl⟩
theorem sort_nil (w : World) (fv : Value) : Calls Try.prog 42 #[.slice none 0 0, fv] w fun e w' => e = .returned (.tuple #[]) ∧ w = w' := by
  go_enter Try.func42, Try.ntmps42
  go_wp2_with (go_at_call 48; refine (stab_nil _ _).mono ?_; rintro e w1 ⟨rfl, rfl⟩)
  refine bodyPost_end (results_none rfl _ _ _) rfl ?_
  exact ⟨rfl, rfl⟩
def OA (w : World) (ls : List Int) (A : Option Addr) (c : Nat) (k : Nat) (A3 : Option Addr) (c3 : Nat) (wr : World) : Prop :=
  Blk wr w.heap.size 22 #[.slice A ls.length c] ∧ wr.ownsRow w.heap.size 3 1 (.slice A3 (symsK ls k).length c3) (symsK ls k).length (inN (symsK ls k)) ∧ Keep [] w wr

set_option maxRecDepth 20000 in
set_option maxHeartbeats 4000000 in
theorem order_any {N : Nat} (H : StabOK N) (hN : N ≤ 100000) (ls : List Int) (A : Option Addr) (c : Nat) (w : World) (hs : ISrc w A ls) (hl : ls.length ≤ N) (hg : good ls) :
    Calls Try.prog 35 #[.slice A ls.length c] w fun e w' => ∃ AO cO, e = .returned (.slice AO (ord ls).length cO) ∧
      w'.ownsRow w.heap.size 3 1 (.slice AO (ord ls).length cO) (ord ls).length (inN (ord ls)) ∧ Keep [] w w' := by
  have Hs := Lib.hid hs
  have HH := Lib.hid H
  have Hg := Lib.hid hg
  have H0 : Hid (OA w ls A c 0 none 0 (w.alloc (.cells #[.slice A ls.length c] 22 (0, 0)))) := Lib.hid ⟨Blk.new w 22 _, World.ownsRow_nil _ _ _ _, (Keep.refl [] w).alloc _⟩
  have r0 : (w.alloc (.cells #[.slice A ls.length c] 22 (0, 0))).cell? ⟨w.heap.size, 0, none⟩ = some (.slice A ls.length c) := (Blk.new w 22 _).cell 0
  clear hs H hg
  go_enter Try.func35, Try.ntmps35
  go_wp2
  go_loopw [3, 8] (fun v i wr => ∃ (k : Nat) (A3 : Option Addr) (c3 : Nat), i = .int .i64 k ∧ k ≤ ls.length ∧ v = .slice A3 (symsK ls k).length c3 ∧ Hid (OA w ls A c k A3 c3 wr)) (fun _ i _ => ls.length - (intOf i).toNat)
  case atStart => exact ⟨0, none, 0, rfl, by omega, rfl, H0⟩
  case round =>
    obtain ⟨k, A3, c3, rfl, hk, rfl, hI⟩ := hrel
    clear H0 r0
    obtain ⟨hB, hown, hkp⟩ := hI.out
    rcases Nat.lt_or_ge k ls.length with hkl | hkl
    · as_aux_lemma =>
        obtain ⟨g, o, rfl, hg, hc⟩ := Hs.out k hkl
        have d0 := (hkp.cell (p := ⟨g, o + k, none⟩) hg (by simp)).trans hc
        have hsy := symsK_succ ls k
        have e : ls.getD k 0 = ls[k] := by simp [List.getD, hkl]
        rw [e] at hsy
        have hwk : IntKind.i64.wrap ((k : Int) + 1) = (k : Int) + 1 := by rw [IntKind.wrap_i64]; omega
        have hsl := symsK_len ls k
        generalize ls[k] = x at *
        by_cases hx : 0 < x
        · rw [if_pos hx] at hsy
          obtain ⟨A2, c2, w2, hap, hown2, hk2, _⟩ := free_append (w := wr) hown k (by have := HH; omega) hkp.size
          have HF : Hid (OA w ls (some ⟨g, o, none⟩) c (k + 1) A2 c2 w2) := by
            refine Lib.hid ⟨hB.keep hk2 ?_, by rw [hsy]; exact hown2, hkp.step hk2 (fun j hj => .inr (hown.lt j (by simpa using hj)).1)⟩
            have := own_ne_blk hown hB (by decide)
            simpa using this
          have Hap := Lib.hid hap
          have Hsy := Lib.hid hsy
          clear hI hB hown hkp hc hsy hown2 hk2 hap e
          have hap := Hap.out
          go_wp2_with (at_builtin; refine wpList_append2 (v1 := .slice A3 (symsK ls k).length c3) (v2 := .slice (some ⟨wr.heap.size, 0, none⟩) 1 1) rfl (.tmp 15) (.tmp 17) rfl rfl rfl hap ?_)
          exact ⟨⟨k + 1, A2, c2, by simp, by omega, by rw [Hsy.out]; simp, HF⟩, by simp [intOf]; omega⟩
        · rw [if_neg hx, List.append_nil] at hsy
          have HF : Hid (OA w ls (some ⟨g, o, none⟩) c (k + 1) A3 c3 wr) := Lib.hid ⟨hB, by rw [hsy]; exact hown, hkp⟩
          have Hsy := Lib.hid hsy
          clear hI hB hown hkp hc hsy e
          go_wp2
          exact ⟨⟨k + 1, A3, c3, by simp, by omega, by rw [Hsy.out], HF⟩, by simp [intOf]; omega⟩
    · obtain rfl : k = ls.length := by omega
      have HO := Lib.hid hown
      rcases hown.2 with ⟨hv, hnil⟩ | ⟨g3, cap3, cur3, hv, hg3b, hh3, ho1, ho2, ho3, ho4⟩
      · injection hv with e1 e2 e3
        subst e1 e3
        have hoe : ord ls = [] := List.eq_nil_of_length_eq_zero (by rw [ord_len]; exact e2)
        have Hoe := Lib.hid hoe
        have Hkp := Lib.hid hkp
        clear hI hB hown hkp hnil HO hoe
        rw [e2]
        clear e2
        go_wp2_with (go_at_call 42; refine (sort_nil _ _).mono ?_; rintro e w1 ⟨rfl, rfl⟩)
        go_ret
        exact ⟨none, 0, by rw [Hoe.out]; rfl, by rw [Hoe.out]; exact World.ownsRow_nil _ _ _ _, Hkp.out⟩
      · injection hv with e1 e2 e3
        subst e1 e3
        have hg3 : g3 < wr.heap.size := lt_of_some hh3
        clear hh3 ho1 ho2 ho3 ho4 cur3
        have hne : w.heap.size ≠ g3 := fun e => own_ne_blk hown hB (by decide) (by rw [e]; rfl)
        have hsrc : ISrc wr A ls := Hs.out.keep hkp (by simp)
        have hcmp : Cmp g3 wr (fun i => ls.getD i 0) ls.length w.heap.size := by
          rcases Nat.eq_zero_or_pos ls.length with hlz | hlp
          · intro W hk a b ha hb
            omega
          · refine Cmp.of hB hsrc Hg.out hne (fun a ha => ?_)
            subst ha
            obtain ⟨g, o, he, hg, _⟩ := Hs.out 0 hlp
            injection he with he
            subst he
            show g ≠ g3
            omega
        have hso := sort_any HH.out (by omega) (fun i => ls.getD i 0) ls.length w.heap.size g3 (symsK ls ls.length).length c3 w.heap.size (symsK ls ls.length) wr hown hcmp (fun x hx => (symsK_mem.1 hx).1) (fun x hx => by
          have h1 := Hg.out _ (List.getElem_mem hx)
          simp only [List.getD, List.getElem?_eq_getElem hx, Option.getD_some]
          omega) (symsK_inc _ _) (by have := symsK_len ls ls.length; omega)
        have Hso := Lib.hid hso
        have Hkp := Lib.hid hkp
        clear hI hB hown hkp hsrc hcmp hso
        generalize hsl : (symsK ls ls.length).length = sl at *
        go_wp2_with (go_at_call 42; refine Hso.out.mono ?_; rintro e w1 ⟨rfl, hS⟩)
        go_ret
        refine ⟨some ⟨g3, 0, none⟩, c3, by rw [ord_len, hsl]; rfl, by rw [ord_len, hsl]; exact hS.1, ?_⟩
        exact Hkp.out.step hS.2 (by intro i hi; simp at hi; right; omega)
end Go.Proofs.Ytknjjodkpknglaa
