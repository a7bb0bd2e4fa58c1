/- The taker of the reference, walked: NewTaker, find, Acks. -/
import Derived.Test.YtlkpecalkakpeaaTk3
import Derived.Test.YtlkpecalkakpeaaA1
set_option linter.unusedVariables false
set_option linter.unusedSimpArgs false
namespace Go.Proofs.Ytlkpecalkakpeaa
open Go.RowKit Go.Sal

theorem ret_i64 {a b : Int} (h : a = b) : Ending.returned (.int .i64 a) = .returned (.int .i64 b) := by rw [h]

/-- where a number stands first; -1: nowhere -/
def fidx {α : Type} (l : List (Int × α)) (n : Int) : Int := match l.findIdx? (fun p => p.1 == n) with
  | some i => i
  | none => -1
theorem fidx_at {α : Type} {l : List (Int × α)} {n : Int} {k : Nat} (hk : k < l.length) (h : l[k].1 = n) (hb : ∀ j (hj : j < l.length), j < k → l[j].1 ≠ n) : fidx l n = k := by
  have : l.findIdx? (fun p => p.1 == n) = some k := by
    rw [List.findIdx?_eq_some_iff_getElem]
    exact ⟨hk, by simpa using h, fun j hj => by simpa using hb j (by omega) hj⟩
  unfold fidx
  rw [this]
theorem fidx_none {α : Type} {l : List (Int × α)} {n : Int} (hb : ∀ j (hj : j < l.length), l[j].1 ≠ n) : fidx l n = -1 := by
  have : l.findIdx? (fun p => p.1 == n) = none := by
    rw [List.findIdx?_eq_none_iff]
    intro x hx
    obtain ⟨j, hj, rfl⟩ := List.getElem_of_mem hx
    simpa using hb j hj
  unfold fidx
  rw [this]
theorem flat_get (l : List (Int × Value)) (k : Nat) (hk : k < l.length) : (flat l)[k * 2]? = some (.int .i64 l[k].1) ∧ (flat l)[k * 2 + 1]? = some l[k].2 := by
  unfold flat
  induction l generalizing k with
  | nil => simp at hk
  | cons p l ih =>
    cases k with
    | zero => simp
    | succ k =>
      have := ih k (by simpa using hk)
      have e1 : (k + 1) * 2 = k * 2 + 2 := by omega
      have e2 : (k + 1) * 2 + 1 = k * 2 + 1 + 2 := by omega
      rw [e1, List.flatMap_cons]
      simpa using this

theorem fidx_mlook {α : Type} {l : List (Int × α)} {n : Int} {k : Nat} (h : fidx l n = (k : Int)) : ∃ hk : k < l.length, l[k].1 = n ∧ mlook l n = some l[k].2 ∧ mdrop l n = l.take k ++ l.drop (k + 1) := by
  unfold fidx at h
  cases hf : l.findIdx? (fun p => p.1 == n) with
  | none => rw [hf] at h; simp at h
  | some i =>
    rw [hf] at h
    obtain rfl : i = k := by
      have h' : (i : Int) = (k : Int) := h
      omega
    have h1 := hf
    rw [List.findIdx?_eq_some_iff_getElem] at h1
    obtain ⟨hi, hp, hb⟩ := h1
    refine ⟨hi, by simpa using hp, ?_, ?_⟩
    · unfold mlook
      have : l.find? (fun p => p.1 == n) = some l[i] := by
        rw [List.find?_eq_some_iff_getElem]
        exact ⟨hp, i, hi, rfl, fun j hj => by simpa using hb j hj⟩
      rw [this]
      rfl
    · unfold mdrop
      rw [← eraseIdx_findIdx _ l i hf, List.eraseIdx_eq_take_drop_succ]
theorem flat_append (a b : List (Int × Value)) : flat (a ++ b) = flat a ++ flat b := by simp [flat]
theorem flat_take (l : List (Int × Value)) (k : Nat) : flat (l.take k) = (flat l).take (k * 2) := by
  induction l generalizing k with
  | nil => simp [flat]
  | cons p l ih =>
    cases k with
    | zero => simp [flat]
    | succ k =>
      have := ih k
      have e1 : (k + 1) * 2 = k * 2 + 2 := by omega
      rw [e1]
      simp only [flat, List.take_succ_cons, List.flatMap_cons] at this ⊢
      simpa using this
theorem flat_drop (l : List (Int × Value)) (k : Nat) : flat (l.drop k) = (flat l).drop (k * 2) := by
  induction l generalizing k with
  | nil => simp [flat]
  | cons p l ih =>
    cases k with
    | zero => simp [flat]
    | succ k =>
      have := ih k
      have e1 : (k + 1) * 2 = k * 2 + 2 := by omega
      rw [e1]
      simp only [flat, List.drop_succ_cons, List.flatMap_cons] at this ⊢
      simpa using this

set_option maxRecDepth 20000 in
theorem find_some (br g cap : Nat) (sz wt : Int) (l : List (Int × Value)) (n : Int) (w : World)
    (hT : Blk w br 86 #[.int .i64 sz, .int .i64 wt, .slice (some ⟨g, 0, none⟩) l.length cap]) (hc : ∀ k (hk : k < l.length), w.cell? ⟨g, k * 2, none⟩ = some (.int .i64 l[k].1)) (hl : l.length ≤ 1000000) :
    Calls Try.prog 34 #[.pointer (some ⟨br, 0, none⟩), .int .i64 n] w fun e w' => e = .returned (.int .i64 (fidx l n)) ∧ w = w' := by
  have c2 : w.cell? ⟨br, 2, none⟩ = some (.slice (some ⟨g, 0, none⟩) l.length cap) := hT.cell 2
  have HC := Lib.hid hc
  clear hc hT
  go_enter Try.func34, Try.ntmps34
  go_wp2_with fail
  go_loop [5] (fun i => ∃ k : Nat, i = .int .i64 k ∧ k ≤ l.length ∧ Hid (∀ j (hj : j < l.length), j < k → l[j].1 ≠ n)) (fun i => l.length - (intOf i).toNat)
  case atStart => exact ⟨0, rfl, by omega, Lib.hid (fun j _ h => by omega)⟩
  case round =>
    obtain ⟨k, rfl, hk, hb⟩ := hrel
    by_cases hlt : k < l.length
    · have hck := HC.out k hlt
      by_cases he : l[k].1 = n
      · have he' : (l[k].1 == n) = true := by simpa using he
        have Hf := Lib.hid (fidx_at hlt he hb.out)
        clear he
        go_wp2
        go_ret
        exact ⟨ret_i64 Hf.out.symm, rfl⟩
      · have he' : (l[k].1 == n) = false := by simpa using he
        have Hb : Hid (∀ j (hj : j < l.length), j < k + 1 → l[j].1 ≠ n) := Lib.hid (fun j hj hjk => by
          by_cases h : j = k
          · subst h; exact he
          · exact hb.out j hj (by omega))
        clear he
        go_wp2
        go_round
        case rel => exact ⟨k + 1, by go_num, by omega, Hb⟩
        case measure => simp [intOf]; omega
    · have Hf := Lib.hid (fidx_none (l := l) (n := n) (fun j hj => hb.out j hj (by omega)))
      go_wp2
      go_ret
      exact ⟨ret_i64 Hf.out.symm, rfl⟩

theorem find_nil (br : Nat) (sz wt : Int) (n : Int) (w : World) (hT : Blk w br 86 #[.int .i64 sz, .int .i64 wt, .slice none 0 0]) :
    Calls Try.prog 34 #[.pointer (some ⟨br, 0, none⟩), .int .i64 n] w fun e w' => e = .returned (.int .i64 (-1)) ∧ w = w' := by
  have c2 : w.cell? ⟨br, 2, none⟩ = some (.slice none 0 0) := hT.cell 2
  go_enter Try.func34, Try.ntmps34
  go_wp2_with fail
  go_loop [5] (fun i => i = .int .i64 0) (fun _ => 0)
  case atStart => rfl
  case round =>
    subst hrel
    go_wp2
    go_ret
    exact ⟨rfl, rfl⟩

/-- the reference's taker: its block, its row -/
def RTk (base br : Nat) (sz wt : Int) (l : List (Int × Value)) (w : World) : Prop :=
  ∃ lv, Blk w br 86 #[.int .i64 sz, .int .i64 wt, lv] ∧ w.ownsRow base 33 2 lv l.length (flat l)

theorem find_any (base br : Nat) (sz wt : Int) (l : List (Int × Value)) (n : Int) (w : World) (h : RTk base br sz wt l w) (hl : l.length ≤ 1000000) :
    Calls Try.prog 34 #[.pointer (some ⟨br, 0, none⟩), .int .i64 n] w fun e w' => e = .returned (.int .i64 (fidx l n)) ∧ w = w' := by
  obtain ⟨lv, hT, hown⟩ := h
  rcases hown.2 with ⟨rfl, h0⟩ | ⟨g, cap, cur, rfl, _, hh, _⟩
  · have : l = [] := List.eq_nil_of_length_eq_zero h0
    subst this
    exact find_nil br sz wt n w hT
  · refine find_some br g cap sz wt l n w hT (fun k hk => ?_) hl
    have := hown.cells (g := g) rfl (k * 2) _ (flat_get l k hk).1
    rwa [add_mk, Nat.zero_add] at this

theorem rnewTaker_ok (a : Int) (w : World) (h : 1 ≤ a) (h' : a ≤ 64) :
    Calls Try.prog 9 #[.int .i64 a] w fun e w' => e = .returned (.tuple #[.pointer (some ⟨w.heap.size, 0, none⟩), .int .i64 0]) ∧
      w' = (w.alloc (.cells #[.int .i64 a, .int .i64 1, .slice none 0 0] 86 (0, 0))) := by
  go_enter Try.func9, Try.ntmps9
  go_wp2_with (go_at_call 31; refine (sized_any _ _).mono ?_; rintro e w' ⟨rfl, rfl⟩)
  go_ret2
  exact ⟨rfl, rfl⟩

/-- the bits so far: of k below n -/
def LowBits (wt : Int) (l : List (Int × Value)) (n : Nat) (M : Nat) : Prop := M < 2 ^ n ∧ ∀ k : Nat, M.testBit k = true ↔ k < n ∧ ∃ p ∈ l, p.1 = wt + 1 + k
theorem fidx_nonneg {l : List (Int × Value)} {n : Int} : 0 ≤ fidx l n ↔ ∃ p ∈ l, p.1 = n := by
  unfold fidx
  cases h : l.findIdx? (fun p => p.1 == n) with
  | none =>
    rw [List.findIdx?_eq_none_iff] at h
    simp
    intro a hab
    simpa using h (n, a) hab
  | some i =>
    rw [List.findIdx?_eq_some_iff_getElem] at h
    obtain ⟨hi, hp, _⟩ := h
    constructor
    · intro _
      exact ⟨l[i], List.getElem_mem hi, by simpa using hp⟩
    · intro _
      exact Int.natCast_nonneg i

theorem low_yes {wt : Int} {l : List (Int × Value)} {k M : Nat} (h : LowBits wt l k M) (hf : 0 ≤ fidx l (wt + 1 + k)) : LowBits wt l (k + 1) (M + 2 ^ k) := by
  have hlt := h.1
  refine ⟨by rw [Nat.pow_succ]; omega, fun j => ?_⟩
  have e : M + 2 ^ k = 2 ^ k * 1 ||| M := by rw [← Nat.two_pow_add_eq_or_of_lt hlt 1]; omega
  rw [e, Nat.mul_one, Nat.testBit_or, Bool.or_eq_true, h.2 j, Nat.testBit_two_pow, decide_eq_true_eq]
  constructor
  · rintro (rfl | ⟨h1, h2⟩)
    · exact ⟨by omega, fidx_nonneg.1 hf⟩
    · exact ⟨by omega, h2⟩
  · rintro ⟨h1, h2⟩
    by_cases hjk : k = j
    · exact .inl hjk
    · exact .inr ⟨by omega, h2⟩
theorem low_no {wt : Int} {l : List (Int × Value)} {k M : Nat} (h : LowBits wt l k M) (hf : fidx l (wt + 1 + k) < 0) : LowBits wt l (k + 1) M := by
  have hlt := h.1
  refine ⟨by rw [Nat.pow_succ]; omega, fun j => ?_⟩
  rw [h.2 j]
  constructor
  · rintro ⟨h1, h2⟩
    exact ⟨by omega, h2⟩
  · rintro ⟨h1, h2⟩
    by_cases hjk : k = j
    · subst hjk
      have := fidx_nonneg.2 h2; omega
    · exact ⟨by omega, h2⟩
theorem pow_lt64 {k : Nat} (h : k < 64) : (2 : Int) ^ k = ((2 ^ k : Nat) : Int) ∧ 2 ^ k < 18446744073709551616 := ⟨by simp, Nat.pow_lt_pow_right (by omega) (by omega : k < 64)⟩
theorem low_sum {M k : Nat} (hM : M < 2 ^ k) (h : k < 64) : IntKind.u64.wrap ((M : Int) + IntKind.u64.wrap ((2 : Int) ^ k)) = ((M + 2 ^ k : Nat) : Int) := by
  have h1 := Nat.pow_le_pow_right (n := 2) (by omega) (by omega : k ≤ 63)
  rw [(pow_lt64 h).1, IntKind.wrap_u64, IntKind.wrap_u64]
  generalize 2 ^ k = q at *
  have h2 : q ≤ 9223372036854775808 := h1
  omega
theorem low_dbl {k : Nat} : IntKind.u64.wrap (IntKind.u64.wrap ((2 : Int) ^ k) * 2) = IntKind.u64.wrap ((2 : Int) ^ (k + 1)) := by
  rw [IntKind.wrap_u64, IntKind.wrap_u64, IntKind.wrap_u64, Int.pow_succ]
  generalize (2 : Int) ^ k = q
  omega
theorem low_bits {wt : Int} {l : List (Int × Value)} {M : Nat} (h : LowBits wt l 64 M) : AckBits wt l M := h

set_option maxRecDepth 20000 in
theorem racks_any (base br : Nat) (sz wt : Int) (l : List (Int × Value)) (w : World) (h : RTk base br sz wt l w) (hl : l.length ≤ 1000000) (hwt : 1 ≤ wt) (hwl : wt ≤ 4611686018427387904) :
    Calls Try.prog 15 #[.pointer (some ⟨br, 0, none⟩)] w fun e w' => ∃ M : Nat, AckBits wt l M ∧ e = .returned (.tuple #[.int .i64 (wt - 1), .int .u64 (M : Int)]) ∧ w = w' := by
  obtain ⟨lv, hT, hown⟩ := id h
  have c1 : w.cell? ⟨br, 1, none⟩ = some (.int .i64 wt) := hT.cell 1
  have H := Lib.hid h
  clear h hT hown
  go_enter Try.func15, Try.ntmps15
  go_wp2_with fail
  go_loop [4, 5, 6] (fun a b i => ∃ k M : Nat, i = .int .i64 k ∧ k ≤ 64 ∧ a = .int .u64 (M : Int) ∧ b = .int .u64 (IntKind.u64.wrap ((2 : Int) ^ k)) ∧ LowBits wt l k M) (fun _ _ i => 64 - (intOf i).toNat)
  case atStart => exact ⟨0, 0, rfl, by omega, rfl, rfl, by omega, fun k => by simp⟩
  case round =>
    obtain ⟨k, M, rfl, hk, rfl, rfl, hb⟩ := hrel
    have Hb := Lib.hid hb
    clear hb
    by_cases hlt : k < 64
    · by_cases hf : 0 ≤ fidx l (wt + 1 + k)
      · have Hs := Lib.hid (low_sum Hb.out.1 hlt)
        go_wp2_with (go_at_call 34; refine (find_any base br sz wt l _ _ H.out hl).mono ?_; rintro e w' ⟨rfl, rfl⟩)
        go_round
        case rel => exact ⟨k + 1, M + 2 ^ k, by go_num, by omega, congrArg (Value.int IntKind.u64) Hs.out, congrArg (Value.int IntKind.u64) low_dbl, low_yes Hb.out hf⟩
        case measure => simp [intOf]; omega
      · go_wp2_with (go_at_call 34; refine (find_any base br sz wt l _ _ H.out hl).mono ?_; rintro e w' ⟨rfl, rfl⟩)
        go_round
        case rel => exact ⟨k + 1, M, by go_num, by omega, rfl, congrArg (Value.int IntKind.u64) low_dbl, low_no Hb.out hf⟩
        case measure => simp [intOf]; omega
    · obtain rfl : k = 64 := by omega
      go_wp2
      go_ret2
      exact ⟨M, low_bits Hb.out, rfl, rfl⟩
end Go.Proofs.Ytlkpecalkakpeaa
