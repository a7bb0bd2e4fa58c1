/- count, slices.Clone of ints, Lengths. -/
import Derived.Test.YtknjjodkpknglaaH7
set_option linter.unusedVariables false
set_option linter.unusedSimpArgs false
namespace Go.Huf
def badC (n : Int) : Bool := decide (n < 0) || decide (1073741824 < n)
def okC (cs : List Int) : Prop := cs.length ≤ 512 ∧ ∀ n ∈ cs, 0 ≤ n ∧ n ≤ 1073741824
theorem badC_iff {n : Int} : badC n = true ↔ ¬ (0 ≤ n ∧ n ≤ 1073741824) := by
  simp [badC]; omega
def lensF : Nat → List Int → List Nat
  | 0, cs => depths cs
  | f + 1, cs => if dMost cs cs.length ≤ 15 then depths cs else lensF f (cs.map half)
def lens (cs : List Int) : List Nat := lensF cs.sum.toNat cs
/-- the first k of a row turned -/
def mapK {α : Type} (f : α → α) (k : Nat) (l : List α) : List α := (l.take k).map f ++ l.drop k
section
variable {α : Type} {f : α → α} {k : Nat} {l : List α}
theorem mapK_len : (mapK f k l).length = l.length := by
  simp [mapK]; omega
theorem mapK_zero : mapK f 0 l = l := by simp [mapK]
theorem mapK_all : mapK f l.length l = l.map f := by simp [mapK]
theorem mapK_at (hk : k < l.length) (h : k < (mapK f k l).length) : (mapK f k l)[k] = l[k] := by
  have e : (mapK f k l)[k]? = some l[k] := by
    unfold mapK
    rw [List.getElem?_append_right (by simp; omega)]
    simp [Nat.min_eq_left (Nat.le_of_lt hk), hk]
  exact Option.some.inj ((List.getElem?_eq_getElem h).symm.trans e)
theorem mapK_succ (hk : k < l.length) : mapK f (k + 1) l = (l.take k).map f ++ f l[k] :: l.drop (k + 1) := by
  unfold mapK
  rw [List.take_succ_eq_append_getElem hk, List.map_append]
  simp
theorem mapK_set (hk : k < l.length) : (mapK f k l).set k (f l[k]) = mapK f (k + 1) l := by
  rw [mapK_succ hk]
  unfold mapK
  rw [List.set_append_right _ _ (by simp; omega)]
  simp only [List.length_map, List.length_take, Nat.min_eq_left (Nat.le_of_lt hk), Nat.sub_self]
  rw [List.drop_eq_getElem_cons hk]
  rfl
theorem mapK_skip (hk : k < l.length) (h : f l[k] = l[k]) : mapK f (k + 1) l = mapK f k l := by
  rw [mapK_succ hk, h]
  unfold mapK
  rw [List.drop_eq_getElem_cons hk]
end
end Go.Huf
namespace Go.Proofs.Ytknjjodkpknglaa
open Go.RowKit Go.Sal Go.Huf
theorem badc_any (n : Int) (w : World) : Calls Try.prog 40 #[.int .i64 n] w fun e w' => e = .returned (.bool (badC n)) ∧ w = w' := by
  by_cases h : n < 0
  · have hb : Hid (badC n = true) := Lib.hid (by simp [badC, h])
    go_enter Try.func40, Try.ntmps40
    go_wp2
    go_ret
    exact ⟨by rw [hb.out]; rfl, rfl⟩
  · by_cases h2 : 1073741824 < n
    · have hb : Hid (badC n = true) := Lib.hid (by simp [badC, h2])
      go_enter Try.func40, Try.ntmps40
      go_wp2
      go_ret
      exact ⟨by rw [hb.out]; simp [h2], rfl⟩
    · have hb : Hid (badC n = false) := Lib.hid (by simp [badC, h, h2])
      go_enter Try.func40, Try.ntmps40
      go_wp2
      go_ret
      exact ⟨by rw [hb.out]; simp [h2], rfl⟩
theorem indexf_any (cs : List Int) (A : Option Addr) (c : Nat) (w : World) (hs : ISrc w A cs) (hn : cs.length ≤ 100000000) :
    Calls Try.prog 45 #[.slice A cs.length c, .func (.func 40) #[] #[]] w fun e w' => ∃ r : Int, e = .returned (.int .i64 r) ∧ (0 ≤ r ↔ ∃ n ∈ cs, badC n = true) ∧ w = w' := by
  have Hs := Lib.hid hs
  clear hs
  go_enter Try.func45, Try.ntmps45
  go_wp2
  go_loop [8] (fun i => ∃ k : Nat, i = .int .i64 k ∧ k ≤ cs.length ∧ Hid (∀ j (h : j < cs.length), j < k → badC cs[j] = false)) (fun i => cs.length - (intOf i).toNat)
  case atStart => exact ⟨0, rfl, by omega, Lib.hid (fun j h hj => by omega)⟩
  case round =>
    obtain ⟨k, rfl, hk, hall⟩ := hrel
    rcases Nat.lt_or_ge k cs.length with hkl | hkl
    · obtain ⟨g, o, rfl, hg, hc⟩ := Hs.out k hkl
      have hmem : Hid (cs[k] ∈ cs) := Lib.hid (List.getElem_mem hkl)
      have hstep : Hid (badC cs[k] = false → ∀ j (h : j < cs.length), j < k + 1 → badC cs[j] = false) := Lib.hid (fun hb j h hj => by
        rcases Nat.lt_succ_iff_lt_or_eq.1 hj with h1 | rfl
        · exact hall.out j h h1
        · exact hb)
      generalize cs[k] = x at *
      have hwk : IntKind.i64.wrap ((k : Int) + 1) = (k : Int) + 1 := by rw [IntKind.wrap_i64]; omega
      cases hb : badC x with
      | true =>
        have Hb := Lib.hid hb
        clear hb
        go_wp2_with (go_at_call 40; refine (badc_any _ _).mono ?_; rintro e w' ⟨rfl, rfl⟩; rw [Hb.out])
        go_ret
        exact ⟨k, rfl, ⟨fun _ => ⟨x, hmem.out, Hb.out⟩, fun _ => by omega⟩, rfl⟩
      | false =>
        have Hb := Lib.hid hb
        clear hb
        go_wp2_with (go_at_call 40; refine (badc_any _ _).mono ?_; rintro e w' ⟨rfl, rfl⟩; rw [Hb.out])
        exact ⟨⟨k + 1, by simp, by omega, Lib.hid (hstep.out Hb.out)⟩, by simp [intOf]; omega⟩
    · obtain rfl : k = cs.length := by omega
      go_wp2
      go_ret
      refine ⟨-1, rfl, ⟨fun h => by omega, ?_⟩, rfl⟩
      rintro ⟨n, hn, hb⟩
      obtain ⟨j, hj, rfl⟩ := List.mem_iff_getElem.1 hn
      rw [hall.out j hj hj] at hb
      cases hb
theorem containsf_any (cs : List Int) (A : Option Addr) (c : Nat) (w : World) (hs : ISrc w A cs) (hn : cs.length ≤ 100000000) :
    Calls Try.prog 39 #[.slice A cs.length c, .func (.func 40) #[] #[]] w fun e w' => ∃ b : Bool, e = .returned (.bool b) ∧ (b = true ↔ ∃ n ∈ cs, badC n = true) ∧ w = w' := by
  have hi := Lib.hid (indexf_any cs A c w hs hn)
  clear hs
  go_enter Try.func39, Try.ntmps39
  go_wp2_with (go_at_call 45; refine hi.out.mono ?_; rintro e w' ⟨r, rfl, hr, rfl⟩; have Hr := Lib.hid hr; clear hr)
  go_ret
  exact ⟨decide (0 ≤ r), rfl, by rw [decide_eq_true_eq]; exact Hr.out, rfl⟩
theorem count_ok (cs : List Int) (A : Option Addr) (c : Nat) (w : World) (hs : ISrc w A cs) (h : okC cs) :
    Calls Try.prog 31 #[.slice A cs.length c] w fun e w' => e = .returned (.int .i64 0) ∧ w = w' := by
  have hl := h.1
  have hi := Lib.hid (containsf_any cs A c w hs (by omega))
  have H := Lib.hid h.2
  clear hs h
  go_enter Try.func31, Try.ntmps31
  go_wp2_with (go_at_call 39; refine hi.out.mono ?_; rintro e w' ⟨b, rfl, hb, rfl⟩; obtain rfl : b = false := (by cases b with
    | false => rfl
    | true =>
      obtain ⟨n, hn, hx⟩ := hb.1 rfl
      exact absurd (H.out n hn) (badC_iff.1 hx)); clear hb)
  go_ret
  exact ⟨rfl, rfl⟩
theorem count_bad (cs : List Int) (A : Option Addr) (c : Nat) (w : World) (hs : ISrc w A cs) (hn : cs.length ≤ 100000000) (h : ¬ okC cs) :
    Calls Try.prog 31 #[.slice A cs.length c] w fun e w' => e = .returned (.int .i64 50) ∧ w = w' := by
  have hi := Lib.hid (containsf_any cs A c w hs hn)
  clear hs
  by_cases hl : 512 < cs.length
  · clear h
    go_enter Try.func31, Try.ntmps31
    go_wp2
    go_ret
    exact ⟨rfl, rfl⟩
  · have H : Hid (∃ n ∈ cs, badC n = true) := Lib.hid (by
      apply Classical.byContradiction
      intro hc
      exact h ⟨by omega, fun n hn => by
        apply Classical.byContradiction
        intro hx
        exact hc ⟨n, hn, badC_iff.2 hx⟩⟩)
    clear h
    go_enter Try.func31, Try.ntmps31
    go_wp2_with (go_at_call 39; refine hi.out.mono ?_; rintro e w' ⟨b, rfl, hb, rfl⟩; obtain rfl : b = true := hb.2 H.out; clear hb)
    go_ret
    exact ⟨rfl, rfl⟩
theorem ISrc.src {w : World} {A : Option Addr} {cs : List Int} (h : ISrc w A cs) : Src w 1 A cs.length (inI cs) := by
  refine ⟨by rw [inI_len]; omega, fun h0 => ?_⟩
  obtain ⟨g, o, rfl, _, _⟩ := h 0 h0
  refine ⟨_, rfl, fun j u hu => ?_⟩
  have hj : j < cs.length := by
    rcases Nat.lt_or_ge j cs.length with h1 | h1
    · exact h1
    · rw [List.getElem?_eq_none (by rw [inI_len]; exact h1)] at hu; cases hu
  obtain ⟨g', o', e, _, hc⟩ := h j hj
  injection e with e
  injection e with e1 e2
  subst e1; subst e2
  rw [add_mk, hc, ← hu]
  simp [inI, hj]
theorem ISrc.of_own {w : World} {base n c : Nat} {A : Option Addr} {cs : List Int} (h : w.ownsRow base 3 1 (.slice A n c) n (inI cs)) : ISrc w A cs := fun i hi => by
  have hl : n = cs.length := by have := h.1; rw [inI_len] at this; omega
  obtain ⟨g, rfl, hg, _⟩ := own_some h (by omega)
  exact ⟨g, 0, rfl, hg, by rw [Nat.zero_add]; exact (inI_cell h hi).1⟩
theorem clone_ints (cs : List Int) (A : Option Addr) (c : Nat) (w : World) (hs : ISrc w A cs) (hn : cs.length ≤ 1000000) :
    Calls Try.prog 32 #[.slice A cs.length c] w fun e w' => ∃ A' c', e = .returned (.slice A' cs.length c') ∧ w'.ownsRow w.heap.size 3 1 (.slice A' cs.length c') cs.length (inI cs) ∧ Keep [] w w' := by
  cases A with
  | none =>
    have h0 : cs = [] := by
      cases cs with
      | nil => rfl
      | cons x l => obtain ⟨g, o, e, _⟩ := hs 0 (by simp); cases e
    subst h0
    have hq := fun W => Lib.run_eql_slice_nil (P := Try.prog) W 22 3 none 0 c 0 0 Try.underlying22
    clear hs hn
    go_enter Try.func32, Try.ntmps32
    go_wp2
    go_ret
    exact ⟨none, 0, rfl, World.ownsRow_nil _ _ _ _, Keep.refl _ _⟩
  | some a =>
    have hq := fun W n => Lib.run_eql_slice_nil (P := Try.prog) W 22 3 (some a) n c 0 0 Try.underlying22
    have hka : Keep [] w (w.alloc (.cells #[] 3)) := (Keep.refl [] w).alloc _
    have hs' := (ISrc.keep hs hka (fun _ _ => by simp)).src
    obtain ⟨v', w', hrun, hown, hg, hat⟩ := run_append_src (P := Try.prog) (w.alloc (.cells #[] 3)) 22 22 3 (.int .i64 0) 1 8 w.heap.size Try.underlying22 intinfo rfl (by omega) (.slice (some ⟨w.heap.size, 0, none⟩) 0 0) 0 []
      (World.ownsRow_made w #[] 0 (Nat.le_refl _) (by simp [maxLen]) (by simp)) (some a) cs.length c _ hs' (inI_one cs) (by unfold maxLen; omega) (by omega) (by simp)
    rw [Nat.zero_add] at hown
    obtain ⟨A', c', rfl, _⟩ := own_slice hown
    have Hown := Lib.hid hown
    have Hg := Lib.hid hg
    have hb := run_empty_slice (P := Try.prog) 22 3 _ _ _ Try.underlying22 intinfo
    clear hs hs' hown hat hg hka
    go_enter Try.func32, Try.ntmps32
    go_wp2_with (at_builtin; refine wpList_append2 rfl (.tmp 5) (.tmp 6) rfl rfl rfl hrun ?_)
    go_ret
    refine ⟨A', c', rfl, by simpa using Hown.out, ?_⟩
    exact ((Keep.refl [] w).alloc _).grown Hg.out (fun k hk => by simp [Value.ownBlock] at hk; omega)
end Go.Proofs.Ytknjjodkpknglaa
