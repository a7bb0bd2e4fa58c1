/- The laws' liveness check, walked. -/
import Derived.Test.YtknjjodkpknglaaE1
import Derived.Laws.BytesArg
set_option linter.unusedVariables false
set_option linter.unusedSimpArgs false
namespace Go.Proofs.Ytknjjodkpknglaa
open Go.RowKit Go.Sal Go.Huf
def strN (l : List Nat) : ByteArray := ⟨(l.map UInt8.ofNat).toArray⟩
theorem str_own {w : World} {base n c : Nat} {A : Option Addr} {l : List Nat} (h : w.ownsRow base 5 1 (.slice A n c) n (inB l)) (hn : n = l.length) :
    (convert 32 9 (.slice A n c)).run Try.prog w = .ok (.string (strN l)) w := by
  subst hn
  cases A with
  | none =>
    have hz : l = [] := by
      rcases Nat.eq_zero_or_pos l.length with h0 | h0
      · exact List.eq_nil_of_length_eq_zero h0
      · obtain ⟨g, e, _⟩ := own_some h h0
        cases e
    subst hz
    exact run_convert_bytes_nil w 32 5 Try.underlying32 Try.underlying5 _ c 9 Try.underlying9
  | some a =>
    rcases Nat.eq_zero_or_pos l.length with h0 | h0
    · have hz : l = [] := List.eq_nil_of_length_eq_zero h0
      subst hz
      have hs := h.2
      rcases hs with ⟨hs, _⟩ | ⟨g, cap, cur, hs, _⟩
      · cases hs
      · injection hs with hs1 _ _
        injection hs1 with hs1
        subst hs1
        exact run_convert_bytes_arg w 32 5 Try.underlying32 Try.underlying5 g 0 0 c [] rfl (fun i hi => by omega) 9 Try.underlying9
    · obtain ⟨g, e, _⟩ := own_some h h0
      injection e with e
      subst e
      have := run_convert_bytes_arg w 32 5 Try.underlying32 Try.underlying5 g 0 l.length c (l.map fun (k : Nat) => (k : Int)) (by simp) (fun i hi => by
        rw [Nat.zero_add, (inB_cell h hi).1]
        simp [List.getD, hi]) 9 Try.underlying9
      rw [this]
      simp [strOfNums, strN, Function.comp_def]
theorem isrc_new (w : World) (l : List Int) (o : Obj) (ho : o = .cells (inI l).toArray 3 (0, 0)) : ISrc (w.alloc o) (some ⟨w.heap.size, 0, none⟩) l := fun i hi => by
  subst ho
  refine ⟨w.heap.size, 0, rfl, by simp, ?_⟩
  rw [Nat.zero_add]
  have := (Blk.new w 3 (inI l).toArray).cell i
  rw [this]
  simp [inI, hi]
theorem lens_alive : lens [5, 2, 1, 0, 1] = [1, 2, 3, 0, 3] := by decide
theorem ok_alive : okL [1, 2, 3, 0, 3] := by decide
theorem bits_alive : bitsOf [1, 2, 3, 0, 3] [0, 4, 1] = [false, true, true, true, true, false] := by decide
theorem pack_alive : pack [false, true, true, true, true, false] = [120] := by decide
theorem okc_alive : okC [5, 2, 1, 0, 1] := ⟨by decide, by decide⟩
theorem oks_alive : ∀ s ∈ ([0, 4, 1] : List Int), okS [1, 2, 3, 0, 3] s := by decide
theorem call12_alive (w : World) : Calls Try.prog 12 #[.slice (some ⟨w.heap.size, 0, none⟩) 5 5] (w.alloc (.cells #[.int .i64 5, .int .i64 2, .int .i64 1, .int .i64 0, .int .i64 1] 3 (0, 0))) fun e w' =>
    ∃ AO cO, e = .returned (.tuple #[.slice AO 5 cO, .int .i64 0]) ∧ ISrc w' AO [1, 2, 3, 0, 3] ∧ Keep [] w w' := by
  have h1 := isrc_new w [5, 2, 1, 0, 1] _ rfl
  refine (lengths_ok [5, 2, 1, 0, 1] (some ⟨w.heap.size, 0, none⟩) 5 _ h1 okc_alive).mono ?_
  rintro e w' ⟨AO, cO, rfl, hown, hk⟩
  rw [lens_alive] at hown
  exact ⟨AO, cO, rfl, ISrc.of_own hown, ((Keep.refl [] w).alloc _).trans hk⟩
theorem call17_alive (w : World) : Calls Try.prog 17 #[.slice (some ⟨w.heap.size, 0, none⟩) 5 5, .slice (some ⟨w.heap.size + 1, 0, none⟩) 3 3]
    ((w.alloc (.cells #[.int .i64 1, .int .i64 2, .int .i64 3, .int .i64 0, .int .i64 3] 3 (0, 0))).alloc (.cells #[.int .i64 0, .int .i64 4, .int .i64 1] 3 (0, 0))) fun e w' =>
    ∃ AO cO, e = .returned (.tuple #[.slice AO 1 cO, .int .i64 6, .int .i64 0]) ∧ w'.ownsRow w.heap.size 5 1 (.slice AO 1 cO) 1 (inB [120]) ∧ Keep [] w w' := by
  have h1 := isrc_new w [1, 2, 3, 0, 3] _ rfl
  have h2 := isrc_new (w.alloc (.cells #[.int .i64 1, .int .i64 2, .int .i64 3, .int .i64 0, .int .i64 3] 3 (0, 0))) [0, 4, 1] _ rfl
  have hsz : (w.alloc (.cells #[.int .i64 1, .int .i64 2, .int .i64 3, .int .i64 0, .int .i64 3] 3 (0, 0))).heap.size = w.heap.size + 1 := by simp
  rw [hsz] at h2
  have hk0 : Keep [] w ((w.alloc (.cells #[.int .i64 1, .int .i64 2, .int .i64 3, .int .i64 0, .int .i64 3] 3 (0, 0))).alloc (.cells #[.int .i64 0, .int .i64 4, .int .i64 1] 3 (0, 0))) := ((Keep.refl [] w).alloc _).alloc _
  refine (encode_any stab_small (by omega) [1, 2, 3, 0, 3] [0, 4, 1] (some ⟨w.heap.size, 0, none⟩) (some ⟨w.heap.size + 1, 0, none⟩) 5 3 _ (h1.keep ((Keep.refl [] _).alloc _) (by simp)) h2 (by decide) (by decide) ok_alive).mono ?_
  rintro e w' (⟨_, AO, cO, rfl, hown, hk⟩ | ⟨h, _⟩)
  · rw [bits_alive, pack_alive] at hown ⊢
    refine ⟨AO, cO, rfl, own_le hown ?_, hk0.trans hk⟩
    exact hk0.size
  · exact absurd oks_alive h
theorem str_alive : strN [120] = { data := #[120] } := rfl
theorem call14_alive (w w2 : World) (AO AE : Option Addr) (cO cE : Nat) (h1 : ISrc w2 AO [1, 2, 3, 0, 3]) (h2 : w2.ownsRow w.heap.size 5 1 (.slice AE 1 cE) 1 (inB [120])) (hk : Keep [] w w2) :
    Calls Try.prog 14 #[.slice AO 5 cO, .slice (some ⟨w2.heap.size, 0, none⟩) 5 5] (w2.alloc (.cells #[.int .i64 1, .int .i64 2, .int .i64 3, .int .i64 0, .int .i64 3] 3 (0, 0))) fun e w' =>
    e = .returned (.bool true) ∧ (convert 32 9 (.slice AE 1 cE)).run Try.prog w' = .ok (.string { data := #[120] }) w' ∧ Keep [] w w' := by
  have h3 := isrc_new w2 [1, 2, 3, 0, 3] _ rfl
  have hk0 : Keep [] w2 (w2.alloc (.cells #[.int .i64 1, .int .i64 2, .int .i64 3, .int .i64 0, .int .i64 3] 3 (0, 0))) := (Keep.refl [] w2).alloc _
  refine (same_any [1, 2, 3, 0, 3] [1, 2, 3, 0, 3] AO (some ⟨w2.heap.size, 0, none⟩) cO 5 _ (h1.keep hk0 (by simp)) h3 (by decide) (by decide)).mono ?_
  rintro e w' ⟨b, rfl, hb, k, rfl⟩
  obtain rfl : b = true := hb.2 rfl
  refine ⟨rfl, ?_, (hk.trans hk0).drewN k⟩
  exact str_own (ownsRow_keep h2 (hk0.drewN k) (by simp)) rfl
theorem alive_any (w : World) : Calls Try.prog 15 #[] w fun e w' => e = .returned (.bool true) ∧ Keep [] w w' := by
  go_enter Try.func15, Try.ntmps15
  go_wp2_with (first
    | (go_at_call 12; refine (call12_alive _).mono ?_; rintro e w1 ⟨AO, cO, rfl, hs1, hk1⟩; have Hs1 := Lib.hid hs1; have Hk1 := Lib.hid hk1; clear hs1 hk1)
    | (go_at_call 17; refine (call17_alive _).mono ?_; rintro e w2 ⟨AE, cE, rfl, hs2, hk2⟩; have Hs2 := Lib.hid (And.intro (Hs1.out.keep hk2 (by simp)) (own_le hs2 Hk1.out.size)); have Hk2 := Lib.hid (Hk1.out.trans hk2); clear hs2 hk2)
    | (go_at_call 14; refine (call14_alive w _ _ _ _ _ Hs2.out.1 Hs2.out.2 Hk2.out).mono ?_; rintro e w3 ⟨rfl, hst, hk3⟩; have Hk3 := Lib.hid hk3; clear hk3))
  go_ret
  exact ⟨rfl, Hk3.out⟩
end Go.Proofs.Ytknjjodkpknglaa
