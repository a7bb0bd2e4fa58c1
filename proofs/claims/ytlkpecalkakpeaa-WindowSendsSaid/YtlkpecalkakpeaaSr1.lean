/- The reference's sender: made, its state, what was sent last, the places of a number's bits. -/
import Derived.Test.YtlkpecalkakpeaaOr2
set_option linter.unusedVariables false
set_option linter.unusedSimpArgs false
namespace Go.Sal
/-- a payload of the reference's sender -/
structure Snr (α : Type) where
  b : α
  done : Bool
  tm : Int
def rcells (x : Snr Value) : List Value := [x.b, .bool x.done, .int .i64 x.tm]
theorem rcells_len (x : Snr Value) : (rcells x).length = 3 := rfl
def rdone {α : Type} (l : List (Snr α)) : Nat := (l.takeWhile (·.done)).length
theorem rdone_of {α : Type} {l : List (Snr α)} {j : Nat} (hj : j ≤ l.length) (h1 : ∀ i (h : i < l.length), i < j → l[i].done = true) (h2 : ∀ h : j < l.length, l[j].done = false) : rdone l = j := by
  unfold rdone
  induction l generalizing j with
  | nil => simp at hj; simp [hj]
  | cons x l ih =>
    cases j with
    | zero =>
      have := h2 (by simp)
      simp at this
      simp [List.takeWhile_cons, this]
    | succ j =>
      have h0 := h1 0 (by simp) (by omega)
      simp at h0
      rw [List.takeWhile_cons, h0, if_pos rfl, List.length_cons, ih (by simpa using hj) (fun i h hi => h1 (i + 1) (by simpa using h) (by omega)) (fun h => h2 (by simpa using h))]
theorem rdone_le {α : Type} {l : List (Snr α)} : rdone l ≤ l.length := (List.takeWhile_sublist _).length_le
/-- the greatest number of one that was sent -/
def sentN {α : Type} (l : List (Snr α)) : Nat → Nat
  | 0 => 0
  | k + 1 => if 0 ≤ ((l[k]?.map (·.tm)).getD (-1)) then k + 1 else sentN l k
theorem sentN_yes {α : Type} {l : List (Snr α)} {k : Nat} (hk : k < l.length) (h : 0 ≤ l[k].tm) : sentN l (k + 1) = k + 1 := by
  unfold sentN
  rw [List.getElem?_eq_getElem hk]
  simp [h]
theorem sentN_no {α : Type} {l : List (Snr α)} {k : Nat} (hk : k < l.length) (h : ¬ 0 ≤ l[k].tm) : sentN l (k + 1) = sentN l k := by
  rw [sentN, List.getElem?_eq_getElem hk]
  simp [h]
theorem sentN_le {α : Type} (l : List (Snr α)) : ∀ k, sentN l k ≤ k
  | 0 => Nat.le_refl _
  | k + 1 => by
    unfold sentN
    have := sentN_le l k
    split <;> omega
/-- the places of a number's bits, from place k on; fuel -/
def bitsF : Nat → Nat → Nat → List Nat
  | 0, _, _ => []
  | f + 1, k, x => if x = 0 then [] else if x % 2 = 1 then k :: bitsF f (k + 1) (x / 2) else bitsF f (k + 1) (x / 2)
theorem mem_bitsF : ∀ (f k x j : Nat), x < 2 ^ f → (j ∈ bitsF f k x ↔ k ≤ j ∧ x.testBit (j - k) = true)
  | 0, k, x, j, h => by
    have : x = 0 := by simpa using h
    subst this
    simp [bitsF]
  | f + 1, k, x, j, h => by
    unfold bitsF
    by_cases h0 : x = 0
    · subst h0; simp
    · rw [if_neg h0]
      have hx2 : x / 2 < 2 ^ f := by rw [Nat.pow_succ] at h; omega
      have ih := mem_bitsF f (k + 1) (x / 2) j hx2
      have hb : ∀ n, x.testBit (n + 1) = (x / 2).testBit n := fun n => Nat.testBit_succ x n
      have h00 : x.testBit 0 = decide (x % 2 = 1) := Nat.testBit_zero x
      by_cases h1 : x % 2 = 1
      · rw [if_pos h1, List.mem_cons, ih]
        constructor
        · rintro (rfl | ⟨h2, h3⟩)
          · simp [h00, h1]
          · refine ⟨by omega, ?_⟩
            rw [show j - k = (j - (k + 1)) + 1 by omega, hb]
            exact h3
        · rintro ⟨h2, h3⟩
          rcases Nat.eq_or_lt_of_le h2 with h4 | h4
          · exact .inl h4.symm
          · right
            refine ⟨by omega, ?_⟩
            rw [show j - k = (j - (k + 1)) + 1 by omega, hb] at h3
            exact h3
      · rw [if_neg h1, ih]
        constructor
        · rintro ⟨h2, h3⟩
          refine ⟨by omega, ?_⟩
          rw [show j - k = (j - (k + 1)) + 1 by omega, hb]
          exact h3
        · rintro ⟨h2, h3⟩
          rcases Nat.eq_or_lt_of_le h2 with h4 | h4
          · subst h4
            rw [Nat.sub_self, h00] at h3
            simp [h1] at h3
          · refine ⟨by omega, ?_⟩
            rw [show j - k = (j - (k + 1)) + 1 by omega, hb] at h3
            exact h3
theorem bitsF_len : ∀ (f k x : Nat), (bitsF f k x).length ≤ f
  | 0, _, _ => by simp [bitsF]
  | f + 1, k, x => by
    unfold bitsF
    have := bitsF_len f (k + 1) (x / 2)
    split
    · simp
    · split
      · simp; omega
      · omega
theorem bitsF_sorted : ∀ (f k x : Nat), (bitsF f k x).Pairwise (· < ·) ∧ ∀ j ∈ bitsF f k x, k ≤ j
  | 0, _, _ => by simp [bitsF]
  | f + 1, k, x => by
    unfold bitsF
    obtain ⟨h1, h2⟩ := bitsF_sorted f (k + 1) (x / 2)
    split
    · simp
    · split
      · refine ⟨List.pairwise_cons.2 ⟨fun j hj => by have := h2 j hj; omega, h1⟩, fun j hj => ?_⟩
        rcases List.mem_cons.1 hj with rfl | hj
        · exact Nat.le_refl _
        · have := h2 j hj; omega
      · exact ⟨h1, fun j hj => by have := h2 j hj; omega⟩
end Go.Sal
namespace Go.Proofs.Ytlkpecalkakpeaa
open Go.RowKit Go.Sal
theorem snrinfo : (Try.prog.info? 98).map (fun i => (i.zero, i.size, i.bytes)) = some (some (.agg #[.slice none 0 0, .bool false, .int .i64 0]), 3, 40) := by kernel_rfl
/-- the reference's sender in memory -/
def RS (base br : Nat) (sz ag now : Int) (AL : Option Addr) (cL : Nat) (l : List (Snr Value)) (w : World) : Prop :=
  Blk w br 70 #[.int .i64 sz, .int .i64 ag, .int .i64 now, .slice AL l.length cL] ∧ w.ownsRow base 98 3 (.slice AL l.length cL) l.length (l.flatMap rcells)
theorem RS.cells {base br : Nat} {sz ag now : Int} {AL : Option Addr} {cL : Nat} {l : List (Snr Value)} {w : World} (h : RS base br sz ag now AL cL l w) {j : Nat} (hj : j < l.length) :
    ∃ g, AL = some ⟨g, 0, none⟩ ∧ g ≠ br ∧ base ≤ g ∧ w.cell? ⟨g, j * 3, none⟩ = some l[j].b ∧ w.cell? ⟨g, j * 3 + 1, none⟩ = some (.bool l[j].done) ∧ w.cell? ⟨g, j * 3 + 2, none⟩ = some (.int .i64 l[j].tm) ∧
      w.frozen? ⟨g, j * 3, none⟩ = false ∧ w.frozen? ⟨g, j * 3 + 1, none⟩ = false ∧ w.frozen? ⟨g, j * 3 + 2, none⟩ = false := by
  obtain ⟨g, rfl, hg1, hg2⟩ := own_some h.2 (by omega)
  have q0 := ownsRow_cell h.2 (show (l.flatMap rcells)[j * 3]? = some l[j].b from rf_get rcells_len l j 0 hj (by omega))
  have q1 := ownsRow_cell h.2 (show (l.flatMap rcells)[j * 3 + 1]? = some (.bool l[j].done) from rf_get rcells_len l j 1 hj (by omega))
  have q2 := ownsRow_cell h.2 (show (l.flatMap rcells)[j * 3 + 2]? = some (.int .i64 l[j].tm) from rf_get rcells_len l j 2 hj (by omega))
  exact ⟨g, rfl, fun e => own_ne_blk h.2 h.1 (by decide) (by rw [← e]; rfl), hg2, q0.1, q1.1, q2.1, q0.2, q1.2, q2.2⟩

theorem rnewSender_ok (sz ag : Int) (w : World) (h : 1 ≤ sz ∧ sz ≤ 64) (h' : 1 ≤ ag ∧ ag ≤ 1048576) :
    Calls Try.prog 23 #[.int .i64 sz, .int .i64 ag] w fun e w' => e = .returned (.tuple #[.pointer (some ⟨w.heap.size, 0, none⟩), .int .i64 0]) ∧
      w' = w.alloc (.cells #[.int .i64 sz, .int .i64 ag, .int .i64 0, .slice none 0 0] 70 (0, 0)) := by
  obtain ⟨h1, h2⟩ := h
  obtain ⟨h3, h4⟩ := h'
  have hd : (decide (1 ≤ sz) && decide (sz ≤ 64)) = true := by simp [h1, h2]
  have d3 : decide (ag < 1) = false := by simp; omega
  have d4 : decide (1048576 < ag) = false := by simp; omega
  go_enter Try.func23, Try.ntmps23
  go_wp2_with (go_at_call 31; refine (sized_any _ _).mono ?_; rintro e w' ⟨rfl, rfl⟩; rw [hd])
  go_ret2
  exact ⟨rfl, rfl⟩
theorem rnewSender_bad (sz ag : Int) (w : World) (h : ¬ (1 ≤ sz ∧ sz ≤ 64 ∧ 1 ≤ ag ∧ ag ≤ 1048576)) :
    Calls Try.prog 23 #[.int .i64 sz, .int .i64 ag] w fun e w' => e = .returned (.tuple #[.pointer none, .int .i64 190]) ∧ w = w' := by
  by_cases h1 : 1 ≤ sz ∧ sz ≤ 64
  · have hd : (decide (1 ≤ sz) && decide (sz ≤ 64)) = true := by simp [h1.1, h1.2]
    by_cases h3 : ag < 1
    · go_enter Try.func23, Try.ntmps23
      go_wp2_with (go_at_call 31; refine (sized_any _ _).mono ?_; rintro e w' ⟨rfl, rfl⟩; rw [hd])
      go_ret2
      exact ⟨rfl, rfl⟩
    · have h4 : 1048576 < ag := by omega
      go_enter Try.func23, Try.ntmps23
      go_wp2_with (go_at_call 31; refine (sized_any _ _).mono ?_; rintro e w' ⟨rfl, rfl⟩; rw [hd])
      go_ret2
      exact ⟨rfl, rfl⟩
  · have hd : (decide (1 ≤ sz) && decide (sz ≤ 64)) = false := by
      by_cases h2 : 1 ≤ sz
      · have : decide (sz ≤ 64) = false := by simp; omega
        rw [this, Bool.and_false]
      · have : decide (1 ≤ sz) = false := by simpa using h2
        rw [this]; rfl
    go_enter Try.func23, Try.ntmps23
    go_wp2_with (go_at_call 31; refine (sized_any _ _).mono ?_; rintro e w' ⟨rfl, rfl⟩; rw [hd])
    go_ret2
    exact ⟨rfl, rfl⟩

theorem rstate_any (base br : Nat) (sz ag now : Int) (AL : Option Addr) (cL : Nat) (l : List (Snr Value)) (w : World) (h : RS base br sz ag now AL cL l w) (hl : l.length ≤ 100000) :
    Calls Try.prog 29 #[.pointer (some ⟨br, 0, none⟩)] w fun e w' => e = .returned (.tuple #[.int .i64 ((rdone l : Int) + 1), .int .i64 l.length]) ∧ ∃ k, w' = w.drewN k := by
  have c3 : w.cell? ⟨br, 3, none⟩ = some (.slice AL l.length cL) := h.1.cell 3
  have H := Lib.hid h
  clear h
  go_enter Try.func29, Try.ntmps29
  go_wp2
  go_loop [4] (fun i => ∃ j : Nat, i = .int .i64 ((j : Int) + 1) ∧ j ≤ l.length ∧ Hid (∀ i (h : i < l.length), i < j → l[i].done = true)) (fun i => l.length + 1 - (intOf i).toNat)
  case atStart => exact ⟨0, by simp, by omega, Lib.hid (fun i h hi => by omega)⟩
  case round =>
    obtain ⟨j, rfl, hj, hall⟩ := hrel
    rcases Nat.lt_or_ge j l.length with hlt | hge
    · obtain ⟨g, rfl, _, _, _, q1, _⟩ := H.out.cells hlt
      have hwj : IntKind.i64.wrap ((j : Int) + 1 - 1) = (j : Int) := by rw [IntKind.wrap_i64]; omega
      have hwj1 : IntKind.i64.wrap ((j : Int) + 1 + 1) = (j : Int) + 1 + 1 := by rw [IntKind.wrap_i64]; omega
      have d1 : decide ((j : Int) + 1 ≤ l.length) = true := by simp; omega
      cases hd : l[j].done with
      | true =>
        rw [hd] at q1
        have Hd := Lib.hid hd
        clear hd
        go_wp2
        exact ⟨⟨j + 1, by simp, by omega, Lib.hid (fun i h hi => by
          rcases Nat.lt_succ_iff_lt_or_eq.1 hi with h1 | rfl
          · exact hall.out i h h1
          · exact Hd.out)⟩, by simp [intOf]; omega⟩
      | false =>
        rw [hd] at q1
        have Hd := Lib.hid (rdone_of (by omega) hall.out (fun h => hd))
        clear hd
        go_wp2
        clear q1
        go_quiet (fail)
        go_wp2
        go_ret2
        exact ⟨by rw [Hd.out]; rfl, _, rfl⟩
    · obtain rfl : j = l.length := by omega
      have Hd := Lib.hid (rdone_of (Nat.le_refl _) hall.out (fun h => by omega))
      have d1 : decide ((l.length : Int) + 1 ≤ l.length) = false := by simp; omega
      go_wp2
      go_quiet (fail)
      go_wp2
      go_ret2
      exact ⟨by rw [Hd.out]; rfl, _, rfl⟩

theorem rsent_any (base br : Nat) (sz ag now : Int) (AL : Option Addr) (cL : Nat) (l : List (Snr Value)) (w : World) (h : RS base br sz ag now AL cL l w) (hl : l.length ≤ 100000) :
    Calls Try.prog 41 #[.pointer (some ⟨br, 0, none⟩)] w fun e w' => e = .returned (.int .i64 (sentN l l.length : Nat)) ∧ w = w' := by
  have c3 : w.cell? ⟨br, 3, none⟩ = some (.slice AL l.length cL) := h.1.cell 3
  have H := Lib.hid h
  clear h
  go_enter Try.func41, Try.ntmps41
  go_wp2
  go_loop [3, 4] (fun m i => ∃ j : Nat, i = .int .i64 j ∧ j ≤ l.length ∧ m = .int .i64 (sentN l j : Nat)) (fun _ i => l.length - (intOf i).toNat)
  case atStart => exact ⟨0, rfl, by omega, rfl⟩
  case round =>
    obtain ⟨j, rfl, hj, rfl⟩ := hrel
    rcases Nat.lt_or_ge j l.length with hlt | hge
    · obtain ⟨g, rfl, _, _, _, _, q2, _⟩ := H.out.cells hlt
      have hwj : IntKind.i64.wrap ((j : Int) + 1) = (j : Int) + 1 := by rw [IntKind.wrap_i64]; omega
      by_cases ht : 0 ≤ l[j].tm
      · have e := sentN_yes hlt ht
        generalize l[j].tm = t at *
        have He := Lib.hid e
        clear e
        go_wp2
        exact ⟨⟨j + 1, by simp, by omega, by rw [He.out]; simp⟩, by simp [intOf]; omega⟩
      · have e := sentN_no hlt ht
        generalize l[j].tm = t at *
        have He := Lib.hid e
        clear e
        go_wp2
        exact ⟨⟨j + 1, by simp, by omega, by rw [He.out]⟩, by simp [intOf]; omega⟩
    · obtain rfl : j = l.length := by omega
      go_wp2
      go_ret
      exact ⟨rfl, rfl⟩
end Go.Proofs.Ytlkpecalkakpeaa
