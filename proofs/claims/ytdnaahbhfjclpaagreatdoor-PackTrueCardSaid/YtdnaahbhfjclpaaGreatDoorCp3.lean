/- Rows of bytes as tokens, and back: on lists alone. -/
import Derived.Test.YtdnaahbhfjclpaaGreatDoorK1
import Derived.Test.YtdnaahbhfjclpaaGreatDoorCp1
import Derived.Test.YtdnaahbhfjclpaaGreatDoorShelf
set_option linter.unusedVariables false
set_option linter.unusedSimpArgs false
namespace Go.Proofs.YtdnaahbhfjclpaaGreatDoor
open Go.RowKit Go.Sal Go.Huf Go.Cod
theorem check_lit (d n : Int) (x : Nat) (w : World) (hn : n = 1) :
    Calls Tryz.prog 94 #[.agg #[.int .i64 0, .int .i64 n, .int .u8 (x : Nat)]] w fun e w' => e = .returned (.int .i64 0) ∧ Keep [] w w' := by
  subst hn
  go_enter Tryz.func94, Tryz.ntmps94
  go_wp2
  go_ret
  exact ⟨rfl, (Keep.refl [] _).alloc _⟩
theorem check_dn (d n : Int) (x : Nat) (w : World) (hn : n ≠ 1) :
    Calls Tryz.prog 94 #[.agg #[.int .i64 0, .int .i64 n, .int .u8 (x : Nat)]] w fun e w' => e = .returned (.int .i64 60) ∧ Keep [] w w' := by
  have hnf : (n == 1) = false := by simpa using hn
  clear hn
  go_enter Tryz.func94, Tryz.ntmps94
  go_wp2
  go_ret
  exact ⟨rfl, (Keep.refl [] _).alloc _⟩
theorem check_neg (d n : Int) (x : Nat) (w : World) (hd : d < 0) :
    Calls Tryz.prog 94 #[.agg #[.int .i64 d, .int .i64 n, .int .u8 (x : Nat)]] w fun e w' => e = .returned (.int .i64 60) ∧ Keep [] w w' := by
  have hd0 : (d == 0) = false := by simp; omega
  have hd1 : ¬ 1 ≤ d := by omega
  go_enter Tryz.func94, Tryz.ntmps94
  go_wp2
  go_ret
  exact ⟨rfl, (Keep.refl [] _).alloc _⟩
theorem check_far (d n : Int) (x : Nat) (w : World) (hd : 4096 < d) :
    Calls Tryz.prog 94 #[.agg #[.int .i64 d, .int .i64 n, .int .u8 (x : Nat)]] w fun e w' => e = .returned (.int .i64 60) ∧ Keep [] w w' := by
  have hd0 : (d == 0) = false := by simp; omega
  have hd1 : 1 ≤ d := by omega
  have hd2 : ¬ d < 0 := by omega
  have hd3 : ¬ d ≤ 4096 := by omega
  go_enter Tryz.func94, Tryz.ntmps94
  go_wp2
  go_ret
  exact ⟨rfl, (Keep.refl [] _).alloc _⟩
theorem check_short (d n : Int) (x : Nat) (w : World) (hd : 1 ≤ d) (hd3 : d ≤ 4096) (hn : n < 4) :
    Calls Tryz.prog 94 #[.agg #[.int .i64 d, .int .i64 n, .int .u8 (x : Nat)]] w fun e w' => e = .returned (.int .i64 60) ∧ Keep [] w w' := by
  have hd0 : (d == 0) = false := by simp; omega
  have hd2 : ¬ d < 0 := by omega
  have hd4 : ¬ 4096 < d := by omega
  have hn2 : ¬ 4 ≤ n := by omega
  go_enter Tryz.func94, Tryz.ntmps94
  go_wp2
  go_ret
  exact ⟨rfl, (Keep.refl [] _).alloc _⟩
theorem check_long (d n : Int) (x : Nat) (w : World) (hd : 1 ≤ d) (hd3 : d ≤ 4096) (hn : 258 < n) :
    Calls Tryz.prog 94 #[.agg #[.int .i64 d, .int .i64 n, .int .u8 (x : Nat)]] w fun e w' => e = .returned (.int .i64 60) ∧ Keep [] w w' := by
  have hd0 : (d == 0) = false := by simp; omega
  have hd2 : ¬ d < 0 := by omega
  have hd4 : ¬ 4096 < d := by omega
  have hn2 : 4 ≤ n := by omega
  have hn3 : ¬ n < 4 := by omega
  have hn4 : ¬ n ≤ 258 := by omega
  go_enter Tryz.func94, Tryz.ntmps94
  go_wp2
  go_ret
  exact ⟨rfl, (Keep.refl [] _).alloc _⟩
theorem check_byte (d n : Int) (x : Nat) (w : World) (hd : 1 ≤ d) (hd3 : d ≤ 4096) (hn2 : 4 ≤ n) (hn5 : n ≤ 258) (hx : x ≠ 0) :
    Calls Tryz.prog 94 #[.agg #[.int .i64 d, .int .i64 n, .int .u8 (x : Nat)]] w fun e w' => e = .returned (.int .i64 60) ∧ Keep [] w w' := by
  have hd0 : (d == 0) = false := by simp; omega
  have hd2 : ¬ d < 0 := by omega
  have hd4 : ¬ 4096 < d := by omega
  have hn3 : ¬ n < 4 := by omega
  have hn4 : ¬ 258 < n := by omega
  have hxf : ((x : Int) == 0) = false := by simpa using hx
  have hxn : ((x : Int) != 0) = true := by simpa using hx
  clear hx
  go_enter Tryz.func94, Tryz.ntmps94
  go_wp2
  go_ret
  exact ⟨rfl, (Keep.refl [] _).alloc _⟩
theorem check_copy (d n : Int) (x : Nat) (w : World) (hd : 1 ≤ d) (hd3 : d ≤ 4096) (hn2 : 4 ≤ n) (hn5 : n ≤ 258) (hx : x = 0) :
    Calls Tryz.prog 94 #[.agg #[.int .i64 d, .int .i64 n, .int .u8 (x : Nat)]] w fun e w' => e = .returned (.int .i64 0) ∧ Keep [] w w' := by
  subst hx
  have hd0 : (d == 0) = false := by simp; omega
  have hd2 : ¬ d < 0 := by omega
  have hd4 : ¬ 4096 < d := by omega
  have hn3 : ¬ n < 4 := by omega
  have hn4 : ¬ 258 < n := by omega
  go_enter Tryz.func94, Tryz.ntmps94
  go_wp2
  go_ret
  exact ⟨rfl, (Keep.refl [] _).alloc _⟩
theorem tokcheck_any (t : Tk) (w : World) :
    Calls Tryz.prog 94 #[.agg #[.int .i64 t.1, .int .i64 t.2.1, .int .u8 (t.2.2 : Nat)]] w fun e w' => e = .returned (.int .i64 (if okT t then 0 else 60)) ∧ Keep [] w w' := by
  obtain ⟨d, n, x⟩ := t
  have key : ∀ (r : Int), okT (d, n, x) = decide (r = 0) → (r = 0 ∨ r = 60) → Calls Tryz.prog 94 #[.agg #[.int .i64 d, .int .i64 n, .int .u8 (x : Nat)]] w (fun e w' => e = .returned (.int .i64 r) ∧ Keep [] w w') →
      Calls Tryz.prog 94 #[.agg #[.int .i64 d, .int .i64 n, .int .u8 (x : Nat)]] w (fun e w' => e = .returned (.int .i64 (if okT (d, n, x) then 0 else 60)) ∧ Keep [] w w') := fun r h1 h2 h => by
    rcases h2 with rfl | rfl
    · rw [h1]; exact h
    · rw [h1]; exact h
  by_cases h0 : d = 0
  · subst h0
    by_cases hn : n = 1
    · exact key 0 (by simp [okT, hn]) (.inl rfl) (check_lit 0 n x w hn)
    · exact key 60 (by simp [okT, hn]) (.inr rfl) (check_dn 0 n x w hn)
  · by_cases h1 : d < 0
    · exact key 60 (by simp [okT]; omega) (.inr rfl) (check_neg d n x w h1)
    · by_cases h2 : 4096 < d
      · exact key 60 (by simp [okT]; omega) (.inr rfl) (check_far d n x w h2)
      · by_cases h3 : n < 4
        · exact key 60 (by simp [okT]; omega) (.inr rfl) (check_short d n x w (by omega) (by omega) h3)
        · by_cases h4 : 258 < n
          · exact key 60 (by simp [okT]; omega) (.inr rfl) (check_long d n x w (by omega) (by omega) h4)
          · by_cases hx : x = 0
            · exact key 0 (by simp [okT]; omega) (.inl rfl) (check_copy d n x w (by omega) (by omega) (by omega) (by omega) hx)
            · exact key 60 (by simp [okT]; omega) (.inr rfl) (check_byte d n x w (by omega) (by omega) (by omega) (by omega) hx)
end Go.Proofs.YtdnaahbhfjclpaaGreatDoor

namespace Go.Proofs.YtdnaahbhfjclpaaGreatDoor
open Go.RowKit Go.Sal Go.Huf Go.Cod
def TSrc (w : World) (A : Option Addr) (l : List Tk) : Prop := (∀ i (h : i < l.length), ∃ g o, A = some ⟨g, o, none⟩ ∧ g < w.heap.size ∧
  w.cell? ⟨g, o + i * 3, none⟩ = some (.int .i64 l[i].1) ∧ w.cell? ⟨g, o + i * 3 + 1, none⟩ = some (.int .i64 l[i].2.1) ∧ w.cell? ⟨g, o + i * 3 + 2, none⟩ = some (.int .u8 (l[i].2.2 : Nat))) ∧
  ∀ t ∈ l, (-9223372036854775808 ≤ t.1 ∧ t.1 ≤ 9223372036854775807) ∧ (-9223372036854775808 ≤ t.2.1 ∧ t.2.1 ≤ 9223372036854775807) ∧ t.2.2 < 256
theorem TSrc.keep {w w' : World} {A : Option Addr} {l : List Tk} {F : List Nat} (h : TSrc w A l) (k : Keep F w w') (hF : ∀ a, A = some a → a.block ∉ F) : TSrc w' A l := ⟨fun i hi => by
  obtain ⟨g, o, rfl, h1, h2, h3, h4⟩ := h.1 i hi
  have hn := hF ⟨g, o, none⟩ rfl
  exact ⟨g, o, rfl, Nat.lt_of_lt_of_le h1 k.size, (k.cell (p := ⟨g, o + i * 3, none⟩) h1 hn).trans h2, (k.cell (p := ⟨g, o + i * 3 + 1, none⟩) h1 hn).trans h3, (k.cell (p := ⟨g, o + i * 3 + 2, none⟩) h1 hn).trans h4⟩, h.2⟩
set_option maxRecDepth 20000 in
set_option maxHeartbeats 2000000 in
theorem size_bad (l : List Tk) (A : Option Addr) (c : Nat) (w : World) (hs : TSrc w A l) (hl : l.length ≤ 1000000000) (h : l.all okT = false) :
    Calls Tryz.prog 102 #[.slice A l.length c] w fun e w' => e = .returned (.tuple #[.int .i64 0, .int .i64 60]) ∧ Keep [] w w' := by
  have Hs := Lib.hid hs
  have Hn := Lib.hid h
  clear hs h
  go_enter Tryz.func102, Tryz.ntmps102
  go_wp2
  go_loopw [11] (fun vi wr => ∃ k : Nat, vi = .int .i64 k ∧ k ≤ l.length ∧ Hid ((l.take k).all okT = true ∧ Keep [] w wr)) (fun vi _ => l.length - (intOf vi).toNat)
  case atStart => exact ⟨0, rfl, by omega, Lib.hid ⟨by simp, Keep.refl _ _⟩⟩
  case round =>
    obtain ⟨k, rfl, hk, hI⟩ := hrel
    rcases Nat.lt_or_ge k l.length with hkl | hkl
    · as_aux_lemma =>
        obtain ⟨g, o, rfl, hg, d1, d2, d3⟩ := (Hs.out.keep hI.out.2 (by simp)).1 k hkl
        have htk : l.take (k + 1) = l.take k ++ [l[k]] := List.take_succ_eq_append_getElem hkl
        have hkli : (k : Int) < l.length := by omega
        have hwk : IntKind.i64.wrap ((k : Int) + 1) = (k : Int) + 1 := by rw [IntKind.wrap_i64]; omega
        have Hc := Lib.hid (fun w => tokcheck_any l[k] w)
        have Hst : Hid (okT l[k] = true → (l.take (k + 1)).all okT = true) := Lib.hid (fun h => by
          rw [htk, List.all_append, hI.out.1]; simp [h])
        have HK := Lib.hid hI.out.2
        generalize l[k] = t at *
        obtain ⟨d, n, x⟩ := t
        dsimp only at d1 d2 d3 Hc
        clear hI htk
        cases hb : okT (d, n, x) with
        | true =>
          rw [hb] at Hc Hst
          have HN := Lib.hid (Hst.out rfl)
          clear hb Hst
          go_wp2_with (go_at_call 94; refine (Hc.out _).mono ?_; rintro e w1 ⟨rfl, hk1⟩; have HK1 := Lib.hid hk1; clear hk1)
          go_roundw
          case rel => exact ⟨k + 1, by simp, by omega, Lib.hid ⟨HN.out, (HK.out.alloc _).trans HK1.out⟩⟩
          case measure => simp [intOf]; omega
        | false =>
          rw [hb] at Hc
          clear hb Hst
          go_wp2_with (go_at_call 94; refine (Hc.out _).mono ?_; rintro e w1 ⟨rfl, hk1⟩; have HK1 := Lib.hid hk1; clear hk1)
          go_ret2
          exact ⟨rfl, (HK.out.alloc _).trans HK1.out⟩
    · exfalso
      have := hI.out.1
      rw [List.take_of_length_le hkl, Hn.out] at this
      cases this
end Go.Proofs.YtdnaahbhfjclpaaGreatDoor
namespace Go.Cod
open Go.Huf
theorem sumT_snoc (l : List Tk) (t : Tk) : sumT (l ++ [t]) = sumT l + t.2.1 := by simp [sumT]
theorem sumT_app (l r : List Tk) : sumT (l ++ r) = sumT l + sumT r := by simp [sumT]
theorem sumT_pos {l : List Tk} (h : l.all okT = true) : 0 ≤ sumT l ∧ sumT l ≤ 258 * l.length := by
  induction l with
  | nil => simp [sumT]
  | cons t l ih =>
    simp only [List.all_cons, Bool.and_eq_true] at h
    have h1 := okT_len h.1
    have h2 := ih h.2
    simp only [sumT, List.map_cons, List.sum_cons, List.length_cons] at h2 ⊢
    omega
theorem all_take {l : List Tk} (h : l.all okT = true) (k : Nat) : (l.take k).all okT = true := List.all_eq_true.2 (fun t ht => List.all_eq_true.1 h t (List.mem_of_mem_take ht))
theorem sumT_take {l : List Tk} (h : l.all okT = true) (k : Nat) : sumT (l.take k) ≤ sumT l := by
  have h1 : sumT l = sumT (l.take k) + sumT (l.drop k) := by rw [← sumT_app, List.take_append_drop]
  have h2 := sumT_pos (l := l.drop k) (List.all_eq_true.2 (fun t ht => List.all_eq_true.1 h t (List.mem_of_mem_drop ht)))
  omega
theorem all_get {l : List Tk} (h : l.all okT = true) {k : Nat} (hk : k < l.length) : okT l[k] = true := List.all_eq_true.1 h _ (List.getElem_mem hk)
end Go.Cod
namespace Go.Proofs.YtdnaahbhfjclpaaGreatDoor
open Go.RowKit Go.Sal Go.Huf Go.Cod
set_option maxRecDepth 20000 in
set_option maxHeartbeats 2000000 in
theorem size_ok (l : List Tk) (A : Option Addr) (c : Nat) (w : World) (hs : TSrc w A l) (hl : l.length ≤ 1000000000) (h : l.all okT = true) :
    Calls Tryz.prog 102 #[.slice A l.length c] w fun e w' => e = .returned (.tuple #[.int .i64 (sizeN l), .int .i64 (sizeE l)]) ∧ Keep [] w w' := by
  have Hs := Lib.hid hs
  have Hn := Lib.hid h
  clear hs h
  go_enter Tryz.func102, Tryz.ntmps102
  go_wp2
  go_loopw [11] (fun vi wr => ∃ k : Nat, vi = .int .i64 k ∧ k ≤ l.length ∧ Hid (Keep [] w wr)) (fun vi _ => l.length - (intOf vi).toNat)
  case atStart => exact ⟨0, rfl, by omega, Lib.hid (Keep.refl _ _)⟩
  case round =>
    obtain ⟨k, rfl, hk, hI⟩ := hrel
    rcases Nat.lt_or_ge k l.length with hkl | hkl
    · as_aux_lemma =>
        obtain ⟨g, o, rfl, hg, d1, d2, d3⟩ := (Hs.out.keep hI.out (by simp)).1 k hkl
        have hkli : (k : Int) < l.length := by omega
        have hwk : IntKind.i64.wrap ((k : Int) + 1) = (k : Int) + 1 := by rw [IntKind.wrap_i64]; omega
        have Hc := Lib.hid (fun w => tokcheck_any l[k] w)
        rw [all_get Hn.out hkl] at Hc
        generalize l[k] = t at *
        obtain ⟨d, n, x⟩ := t
        dsimp only at d1 d2 d3 Hc
        go_wp2_with (go_at_call 94; refine (Hc.out _).mono ?_; rintro e w1 ⟨rfl, hk1⟩; have HK1 := Lib.hid hk1; clear hk1)
        go_roundw
        case rel => exact ⟨k + 1, by simp, by omega, Lib.hid ((hI.out.alloc _).trans HK1.out)⟩
        case measure => simp [intOf]; omega
    · have hkli : ¬ (k : Int) < l.length := by omega
      clear hkl
      go_wp2
      go_loopw [21, 6] (fun vi vn w2 => ∃ (j : Nat) (s : Int), vi = .int .i64 j ∧ vn = .int .i64 s ∧ j ≤ l.length ∧ 0 ≤ s ∧ s ≤ 65536 ∧ Hid (s = sumT (l.take j) ∧ Keep [] w w2)) (fun vi _ _ => l.length - (intOf vi).toNat)
      case atStart => exact ⟨0, 0, rfl, rfl, by omega, by omega, by omega, Lib.hid ⟨by simp [sumT], hI.out⟩⟩
      case round =>
        obtain ⟨j, s, rfl, rfl, hj, hs0, hs1, hJ⟩ := hrel
        clear hI
        rcases Nat.lt_or_ge j l.length with hjl | hjl
        · as_aux_lemma =>
            obtain ⟨g, o, rfl, hg, d1, d2, d3⟩ := (Hs.out.keep hJ.out.2 (by simp)).1 j hjl
            have htk : l.take (j + 1) = l.take j ++ [l[j]] := List.take_succ_eq_append_getElem hjl
            have hjli : (j : Int) < l.length := by omega
            have hwj : IntKind.i64.wrap ((j : Int) + 1) = (j : Int) + 1 := by rw [IntKind.wrap_i64]; omega
            have hln := okT_len (all_get Hn.out hjl)
            have HS : Hid (s + l[j].2.1 = sumT (l.take (j + 1))) := Lib.hid (by rw [htk, sumT_snoc, hJ.out.1])
            have HT : Hid (65536 < s + l[j].2.1 → sizeE l = 2 ∧ sizeN l = 0) := Lib.hid (fun h => by
              have h1 := sumT_take Hn.out (j + 1)
              rw [← HS.out] at h1
              have h2 : sizeE l = 2 := by unfold sizeE; rw [if_pos Hn.out, if_pos (by omega)]
              exact ⟨h2, by unfold sizeN; rw [if_neg (by rw [h2]; decide)]⟩)
            have HK := Lib.hid hJ.out.2
            generalize l[j] = t at *
            obtain ⟨d, n, x⟩ := t
            dsimp only at d1 d2 d3 hln HS HT
            have hwn : IntKind.i64.wrap (s + n) = s + n := by rw [IntKind.wrap_i64]; omega
            clear hJ htk
            by_cases h6 : 65536 < s + n
            · obtain ⟨e1, e2⟩ := HT.out h6
              have He := Lib.hid (And.intro e1 e2)
              clear e1 e2
              go_wp2
              go_ret2
              exact ⟨by rw [He.out.1, He.out.2]; rfl, HK.out.alloc _⟩
            · go_wp2
              exact ⟨⟨j + 1, s + n, by simp, rfl, by omega, by omega, by omega, Lib.hid ⟨HS.out, HK.out.alloc _⟩⟩, by simp [intOf]; omega⟩
        · have hjli : ¬ (j : Int) < l.length := by omega
          have hE : Hid (sizeE l = 0 ∧ sizeN l = s) := by
            have h1 : s = sumT l := by rw [hJ.out.1, List.take_of_length_le hjl]
            have h2 : sizeE l = 0 := by unfold sizeE; rw [if_pos Hn.out, if_neg (by omega)]
            exact Lib.hid ⟨h2, by unfold sizeN; rw [if_pos h2, h1]⟩
          have HK := Lib.hid hJ.out.2
          clear hJ hjl
          go_wp2
          go_ret2
          exact ⟨by rw [hE.out.1, hE.out.2]; rfl, HK.out⟩
theorem sizeE_bad {l : List Tk} (h : l.all okT = false) : sizeE l = 60 ∧ sizeN l = 0 := by
  have h1 : sizeE l = 60 := by unfold sizeE; rw [if_neg (by simp [h])]
  exact ⟨h1, by unfold sizeN; rw [if_neg (by rw [h1]; decide)]⟩
theorem size_any (l : List Tk) (A : Option Addr) (c : Nat) (w : World) (hs : TSrc w A l) (hl : l.length ≤ 1000000000) :
    Calls Tryz.prog 102 #[.slice A l.length c] w fun e w' => e = .returned (.tuple #[.int .i64 (sizeN l), .int .i64 (sizeE l)]) ∧ Keep [] w w' := by
  cases h : l.all okT with
  | true => exact size_ok l A c w hs hl h
  | false =>
    obtain ⟨h1, h2⟩ := sizeE_bad h
    rw [h1, h2]
    exact size_bad l A c w hs hl h
end Go.Proofs.YtdnaahbhfjclpaaGreatDoor

namespace Go.Proofs.YtdnaahbhfjclpaaGreatDoor
open Go.RowKit Go.Sal Go.Huf Go.Cod
def ZI (n : Nat) : Obj := .cells (madeCells #[.int .i64 0] (n * 1)) 3 (0, 0)
theorem made_row {w : World} (base n : Nat) (hn : n ≤ 1000000) (hB : base ≤ w.heap.size) (hmk : (Instr.makeSlice 140 (.int .i64 n) (.int .i64 n)).run Tryz.prog w = .ok (.slice (some ⟨w.heap.size, 0, none⟩) n n) (w.alloc (ZI n))) :
    (w.alloc (ZI n)).ownsRow base 3 1 (.slice (some ⟨w.heap.size, 0, none⟩) n n) n (inI (List.replicate n 0)) := by
  obtain ⟨i, hi, hz, hs, hby⟩ : ∃ i, Tryz.prog.info? 3 = some i ∧ i.zero = some (.int .i64 0) ∧ i.size = 1 ∧ i.bytes = 8 := by
    cases hx : Tryz.prog.info? 3 with
    | none => have := intinfo; rw [hx] at this; cases this
    | some i =>
      have := intinfo
      rw [hx] at this
      simp only [Option.map_some, Option.some.injEq, Prod.mk.injEq] at this
      exact ⟨i, rfl, this.1, this.2.1, this.2.2⟩
  obtain ⟨w', hrun, r1, r2⟩ := run_make_full (P := Tryz.prog) w base 140 3 i (.int .i64 0) 1 Tryz.underlying140 hi hz hs .i64 .i64 n (by rw [hby]; omega) (by unfold maxLen; omega) hB
  rw [made_ints] at r1
  rw [hmk] at hrun
  injection hrun with _ hrun
  rw [hrun]
  exact r1
theorem mk511 (w : World) : (Instr.makeSlice 140 (.int .i64 511) (.int .i64 511)).run Tryz.prog w = .ok (.slice (some ⟨w.heap.size, 0, none⟩) 511 511) (w.alloc (ZI 511)) := by kernel_rfl
theorem mk13 (w : World) : (Instr.makeSlice 140 (.int .i64 13) (.int .i64 13)).run Tryz.prog w = .ok (.slice (some ⟨w.heap.size, 0, none⟩) 13 13) (w.alloc (ZI 13)) := by kernel_rfl
theorem bitLen_log : ∀ f x : Nat, 1 ≤ x → x < 2 ^ f → Lib.bitLenAux f x = Nat.log2 x + 1
  | 0, x, h1, h2 => by simp at h2; omega
  | f + 1, x, h1, h2 => by
    rw [Lib.bitLenAux, if_neg (by omega)]
    rw [Nat.pow_succ] at h2
    rw [Nat.log2_def]
    by_cases h : 2 ≤ x
    · rw [if_pos h, bitLen_log f (x / 2) (by omega) (by omega)]; omega
    · rw [if_neg h]
      have : x / 2 = 0 := by omega
      rw [this]
      cases f <;> simp [Lib.bitLenAux]
theorem log_le {x : Nat} (h : x ≤ 4096) : Nat.log2 x ≤ 12 := by
  rcases Nat.eq_zero_or_pos x with h0 | h0
  · subst h0; simp
  · have : x.log2 < 13 := by rw [Nat.log2_lt (by omega)]; omega
    omega
set_option maxHeartbeats 2000000 in
theorem distance_any (d n : Int) (x : Nat) (w : World) (hd : 1 ≤ d) (hd2 : d ≤ 4096) :
    Calls Tryz.prog 109 #[.agg #[.int .i64 d, .int .i64 n, .int .u8 (x : Nat)]] w fun e w' => e = .returned (.int .i64 (Nat.log2 d.toNat : Nat)) ∧ Keep [] w w' := by
  have hwd : IntKind.u64.wrap d = d := by rw [IntKind.wrap_u64]; omega
  have hb : Lib.bitLen d.toNat = Nat.log2 d.toNat + 1 := bitLen_log 64 _ (by omega) (by have := Int.toNat_of_nonneg (show 0 ≤ d by omega); omega)
  have hl := log_le (x := d.toNat) (by omega)
  have HC : Hid (∀ w, Calls Tryz.prog 145 #[.int .u64 d] w fun e w' => e = .returned (.int .i64 ((Nat.log2 d.toNat : Nat) + 1 : Int)) ∧ w = w') := Lib.hid (fun w => (Tryz.bits_Len d w (by omega) (by omega)).mono (fun e w' h => by
    rw [h.1, h.2, hb]; exact ⟨by simp, rfl⟩))
  clear hb
  generalize Nat.log2 d.toNat = q at *
  have hwq : IntKind.i64.wrap ((q : Int) + 1 - 1) = (q : Int) := by rw [IntKind.wrap_i64]; omega
  go_enter Tryz.func109, Tryz.ntmps109
  go_wp2_with (go_at_call 145; refine (HC.out _).mono ?_; rintro e w' ⟨rfl, rfl⟩)
  go_ret
  exact ⟨by first | rfl | (congr 2; omega), (Keep.refl [] _).alloc _⟩
def TCI (w : World) (l : List Tk) (k ga gb : Nat) (wr : World) : Prop :=
  wr.ownsRow w.heap.size 3 1 (.slice (some ⟨ga, 0, none⟩) 511 511) 511 (inI (cntA (l.take k))) ∧ wr.ownsRow w.heap.size 3 1 (.slice (some ⟨gb, 0, none⟩) 13 13) 13 (inI (cntD (l.take k))) ∧
  ga ≠ gb ∧ w.heap.size ≤ ga ∧ w.heap.size ≤ gb ∧ ga < wr.heap.size ∧ gb < wr.heap.size ∧ Keep [] w wr
theorem TCI.start (w : World) (l : List Tk) (ga gb : Nat) (wx : World) (h : ga = w.heap.size ∧ gb = w.heap.size + 1 ∧ wx = ((w.alloc (ZI 511)).alloc (ZI 13)).drew ∨ ga = w.heap.size + 1 ∧ gb = w.heap.size ∧ wx = ((w.alloc (ZI 13)).alloc (ZI 511)).drew) : TCI w l 0 ga gb wx := by
  have hs : ∀ o, (w.alloc o).heap.size = w.heap.size + 1 := fun o => by simp
  have hk1 : ∀ o, Keep [] w (w.alloc o) := fun o => (Keep.refl [] w).alloc _
  rcases h with ⟨rfl, rfl, rfl⟩ | ⟨rfl, rfl, rfl⟩
  · have h1 := made_row w.heap.size 511 (by omega) (Nat.le_refl _) (mk511 w)
    have h2 := made_row (w := w.alloc (ZI 511)) w.heap.size 13 (by omega) (by simp) (mk13 _)
    rw [hs] at h2
    have h1' := ownsRow_keep h1 ((Keep.refl [] (w.alloc (ZI 511))).alloc (ZI 13)) (by simp)
    refine ⟨?_, ?_, by omega, by omega, by omega, by simp; omega, by simp, ((hk1 _).alloc _).drew⟩
    · rw [List.take_zero, cntA_nil]; exact h1'.drew
    · rw [List.take_zero, cntD_nil]; exact h2.drew
  · have h1 := made_row w.heap.size 13 (by omega) (Nat.le_refl _) (mk13 w)
    have h2 := made_row (w := w.alloc (ZI 13)) w.heap.size 511 (by omega) (by simp) (mk511 _)
    rw [hs] at h2
    have h1' := ownsRow_keep h1 ((Keep.refl [] (w.alloc (ZI 13))).alloc (ZI 511)) (by simp)
    refine ⟨?_, ?_, by omega, by omega, by omega, by simp, by simp; omega, ((hk1 _).alloc _).drew⟩
    · rw [List.take_zero, cntA_nil]; exact h2.drew
    · rw [List.take_zero, cntD_nil]; exact h1'.drew
theorem TCI.keep {w wr w1 : World} {l : List Tk} {k ga gb : Nat} (h : TCI w l k ga gb wr) (hk : Keep [] wr w1) : TCI w l k ga gb w1 := by
  obtain ⟨h1, h2, h3, h4, h5, h6, h7, h8⟩ := h
  have := hk.size
  exact ⟨ownsRow_keep h1 hk (by simp), ownsRow_keep h2 hk (by simp), h3, h4, h5, by omega, by omega, h8.trans hk⟩
theorem TCI.step {w wr w1 : World} {l : List Tk} {k ga gb : Nat} (h : TCI w l k ga gb wr) (hk : k < l.length) (hl : l.length ≤ 1000000000) (hok : okT l[k] = true) (hlit : l[k].2.2 < 256) (hk1 : Keep [] wr w1) :
    ∃ v : Int, w1.cell? ⟨ga, symT l[k], none⟩ = some (.int .i64 v) ∧ w1.frozen? ⟨ga, symT l[k], none⟩ = false ∧ IntKind.i64.wrap (v + 1) = v + 1 ∧
      ((l[k].1 = 0 → TCI w l (k + 1) ga gb (w1.setCell ⟨ga, symT l[k], none⟩ (.int .i64 (v + 1)))) ∧
       (0 < l[k].1 → ∀ w2, Keep [] (w1.setCell ⟨ga, symT l[k], none⟩ (.int .i64 (v + 1))) w2 → ∃ u : Int, w2.cell? ⟨gb, dsT l[k], none⟩ = some (.int .i64 u) ∧ w2.frozen? ⟨gb, dsT l[k], none⟩ = false ∧ IntKind.i64.wrap (u + 1) = u + 1 ∧
         TCI w l (k + 1) ga gb (w2.setCell ⟨gb, dsT l[k], none⟩ (.int .i64 (u + 1))))) := by
  have hs := symT_lt hok hlit
  obtain ⟨h1, h2, h3, h4, h5, h6, h7, h8⟩ := h.keep hk1
  have hl1 : symT l[k] < (cntA (l.take k)).length := by rw [cntA_len]; exact hs
  obtain ⟨c1, c2⟩ := inI_cell h1 hl1
  have hb := cntA_bd (l.take k) _ (List.getElem_mem hl1)
  have htl : (l.take k).length ≤ l.length := by rw [List.length_take]; omega
  have htk : l.take (k + 1) = l.take k ++ [l[k]] := List.take_succ_eq_append_getElem hk
  have hset := inI_set h1 (i := symT l[k]) hs ((cntA (l.take k))[symT l[k]] + 1)
  rw [cntA_snoc _ _ hl1 rfl, ← htk] at hset
  generalize (cntA (l.take k))[symT l[k]] = v at *
  refine ⟨v, c1, c2, by rw [IntKind.wrap_i64]; omega, fun h0 => ?_, fun hd w2 hk2 => ?_⟩
  · have hD : cntD (l.take (k + 1)) = cntD (l.take k) := by rw [htk]; exact cntD_same _ _ (by omega)
    refine ⟨hset, ?_, h3, h4, h5, by simpa [World.setCell] using h6, by simpa [World.setCell] using h7, h8.setCell (.inr h4) _⟩
    rw [hD]
    exact ownsRow_keep h2 ((Keep.refl [ga] w1).setCell (.inl (by simp)) _) (by simp [Value.ownBlock]; exact fun e => h3 e.symm)
  · have hds := (dsT_lt hok hd).1
    have hb1 : w2.ownsRow w.heap.size 3 1 (.slice (some ⟨gb, 0, none⟩) 13 13) 13 (inI (cntD (l.take k))) :=
      ownsRow_keep (ownsRow_keep h2 ((Keep.refl [ga] w1).setCell (.inl (by simp)) _) (by simp [Value.ownBlock]; exact fun e => h3 e.symm)) hk2 (by simp)
    have ha1 := ownsRow_keep hset hk2 (by simp)
    have hl2 : dsT l[k] < (cntD (l.take k)).length := by rw [cntD_len]; exact hds
    obtain ⟨e1, e2⟩ := inI_cell hb1 hl2
    have hb2 := cntD_bd (l.take k) _ (List.getElem_mem hl2)
    have hset2 := inI_set hb1 (i := dsT l[k]) hds ((cntD (l.take k))[dsT l[k]] + 1)
    rw [cntD_snoc _ _ hl2 hd rfl, ← htk] at hset2
    generalize (cntD (l.take k))[dsT l[k]] = u at *
    have hz2 := hk2.size
    have hz3 : w1.heap.size ≤ w2.heap.size := by simpa [World.setCell] using hz2
    refine ⟨u, e1, e2, by rw [IntKind.wrap_i64]; omega, ?_, hset2, h3, h4, h5, ?_, ?_, ((h8.setCell (.inr h4) _).trans hk2).setCell (.inr h5) _⟩
    · exact ownsRow_keep ha1 ((Keep.refl [gb] w2).setCell (.inl (by simp)) _) (by simp [Value.ownBlock]; exact h3)
    · simp [World.setCell]; omega
    · simp [World.setCell]; omega
set_option maxRecDepth 20000 in
set_option maxHeartbeats 2000000 in
theorem counts_any (l : List Tk) (A : Option Addr) (c : Nat) (w : World) (hs : TSrc w A l) (hl : l.length ≤ 1000000000) (h : l.all okT = true) :
    Calls Tryz.prog 103 #[.slice A l.length c] w fun e w' => ∃ ga gb, e = .returned (.tuple #[.slice (some ⟨ga, 0, none⟩) 511 511, .slice (some ⟨gb, 0, none⟩) 13 13]) ∧
      Hid (TCI w l l.length ga gb w') := by
  have Hs := Lib.hid hs
  have Hn := Lib.hid h
  clear hs h
  go_enter Tryz.func103, Tryz.ntmps103
  go_wp2
  go_upto_region 1 with (fail)
  go_cut [4, 5] (fun va vb wx => ∃ ga gb, va = .slice (some ⟨ga, 0, none⟩) 511 511 ∧ vb = .slice (some ⟨gb, 0, none⟩) 13 13 ∧ Hid (TCI w l 0 ga gb wx))
  case first =>
    have m1 := mk511
    have m2 := mk13
    have HM : Hid (∀ ga gb wx, _ → Hid (TCI w l 0 ga gb wx)) := Lib.hid (fun ga gb wx h => Lib.hid (TCI.start w l ga gb wx h))
    generalize ZI 511 = Z1 at *
    generalize ZI 13 = Z2 at *
    go_region
    · go_wp2
      go_meet
      exact ⟨_, _, rfl, rfl, HM.out _ _ _ (.inl ⟨rfl, rfl, rfl⟩)⟩
    · go_wp2
      go_meet
      exact ⟨_, _, rfl, rfl, HM.out _ _ _ (.inr ⟨rfl, rfl, rfl⟩)⟩
  case rest =>
    obtain ⟨ga, gb, rfl, rfl, hI0⟩ := hcut
    go_wp2
    go_loopw [12] (fun vi wr => ∃ k : Nat, vi = .int .i64 k ∧ k ≤ l.length ∧ Hid (TCI w l k ga gb wr)) (fun vi _ => l.length - (intOf vi).toNat)
    case atStart => exact ⟨0, rfl, by omega, hI0⟩
    case round =>
      obtain ⟨k, rfl, hk, hI⟩ := hrel
      clear hI0
      rcases Nat.lt_or_ge k l.length with hkl | hkl
      · as_aux_lemma =>
          obtain ⟨g, o, rfl, hg, d1, d2, d3⟩ := (Hs.out.keep hI.out.2.2.2.2.2.2.2 (by simp)).1 k hkl
          have hkli : (k : Int) < l.length := by omega
          have hwk : IntKind.i64.wrap ((k : Int) + 1) = (k : Int) + 1 := by rw [IntKind.wrap_i64]; omega
          have hok := all_get Hn.out hkl
          have hlit := (Hs.out.2 _ (List.getElem_mem hkl)).2.2
          have Hst := Lib.hid (fun w1 (hk1 : Keep [] wr w1) => TCI.step hI.out hkl hl hok hlit hk1)
          have hsz : ga < wr.heap.size ∧ gb < wr.heap.size := ⟨hI.out.2.2.2.2.2.1, hI.out.2.2.2.2.2.2.1⟩
          generalize l[k] = t at *
          obtain ⟨d, n, x⟩ := t
          dsimp only at d1 d2 d3 hlit
          rcases okT_cases hok with ⟨h1, h2⟩ | ⟨h1, h2, h3, h4, h5⟩
          · dsimp only at h1 h2
            subst h1
            subst h2
            have hsy : symT (0, 1, x) = x := rfl
            rw [hsy] at Hst
            clear hok hsy hI
            have HC := Lib.hid (fun w => symbol_lit 1 x w hlit)
            have hxi : (x : Int) < 511 := by omega
            have hxn : x < 511 := by omega
            go_wp2_with (go_at_call 107; refine (HC.out _).mono ?_; rintro e w1 ⟨rfl, hk1⟩; obtain ⟨v, a1, a2, hwv, aN⟩ := Hst.out w1 (((Keep.refl [] wr).alloc _).trans hk1); have AN := Lib.hid aN; clear aN; have b0 := hk1.cell (p := ⟨wr.heap.size, 0, none⟩) (by simp) (by simp); have hz1 := hk1.size; clear hk1)
            exact ⟨⟨k + 1, by simp, by omega, Lib.hid (AN.out.1 (by simp))⟩, by simp [intOf]; omega⟩
          · dsimp only at h1 h2 h3 h4 h5
            subst h5
            obtain ⟨q, rfl⟩ : ∃ q : Nat, n = q := ⟨n.toNat, by omega⟩
            obtain ⟨dn, rfl⟩ : ∃ dn : Nat, d = dn := ⟨d.toNat, by omega⟩
            have hsy : symT ((dn : Int), (q : Int), 0) = 252 + q := by unfold symT; rw [if_neg (by simp; omega)]; simp; omega
            have hds : dsT ((dn : Int), (q : Int), 0) = Nat.log2 dn := by simp [dsT]
            have hdl := log_le (x := dn) (by omega)
            have HC : Hid (∀ w, Calls Tryz.prog 107 #[.agg #[.int .i64 (dn : Nat), .int .i64 (q : Nat), .int .u8 ((0 : Nat) : Int)]] w fun e w' => e = .returned (.int .i64 ((252 + q : Nat) : Int)) ∧ Keep [] w w') := Lib.hid (fun w => by
              have := symbol_copy dn q 0 w h1 h3 h4
              rwa [show (252 + (q : Int)) = ((252 + q : Nat) : Int) by omega] at this)
            have HD : Hid (∀ w, Calls Tryz.prog 109 #[.agg #[.int .i64 (dn : Nat), .int .i64 (q : Nat), .int .u8 ((0 : Nat) : Int)]] w fun e w' => e = .returned (.int .i64 (Nat.log2 dn : Nat)) ∧ Keep [] w w') := Lib.hid (fun w => by
              have := distance_any dn q 0 w h1 h2
              rwa [Int.toNat_natCast] at this)
            rw [hsy, hds] at Hst
            have hxi : ((252 + q : Nat) : Int) < 511 := by omega
            have hxn : 252 + q < 511 := by omega
            have hdi : (0 : Int) < dn := by omega
            have hdn : 0 < dn := by omega
            have hqi : ((Nat.log2 dn : Nat) : Int) < 13 := by omega
            have hqn : Nat.log2 dn < 13 := by omega
            clear hok hsy hds hI h1 h2 h3 h4 hlit
            generalize 252 + q = m at *
            generalize Nat.log2 dn = r at *
            go_wp2_with (first
              | (go_at_call 107; refine (HC.out _).mono ?_; rintro e w1 ⟨rfl, hk1⟩; obtain ⟨v, a1, a2, hwv, aN⟩ := Hst.out w1 (((Keep.refl [] wr).alloc _).trans hk1); have AN := Lib.hid (aN.2 (by simpa using hdn)); clear aN; have b0 := hk1.cell (p := ⟨wr.heap.size, 0, none⟩) (by simp) (by simp); have b1 := hk1.cell (p := ⟨wr.heap.size, 1, none⟩) (by simp) (by simp); have b2 := hk1.cell (p := ⟨wr.heap.size, 2, none⟩) (by simp) (by simp); have hz1 := hk1.size; clear hk1)
              | (go_at_call 109; refine (HD.out _).mono ?_; rintro e w2 ⟨rfl, hk2⟩; obtain ⟨u, a3, a4, hwu, aN⟩ := AN.out w2 hk2; have AN2 := Lib.hid aN; clear aN hk2))
            exact ⟨⟨k + 1, by simp, by omega, AN2⟩, by simp [intOf]; omega⟩
      · obtain rfl : k = l.length := by omega
        have hkli : ¬ (l.length : Int) < l.length := by omega
        go_wp2
        go_ret2
        exact ⟨ga, gb, rfl, hI⟩
end Go.Proofs.YtdnaahbhfjclpaaGreatDoor

namespace Go.Cod
open Go.Huf
def rchF (b : List Nat) : Nat → Nat → Nat → Nat
  | 0, _, _ => 0
  | f + 1, p, q => if q < b.length ∧ b.getD p 0 = b.getD q 0 then rchF b f (p + 1) (q + 1) + 1 else 0
def rch (b : List Nat) (p q : Nat) : Nat := rchF b 258 p q
def bestT (b : List Nat) (at_ : Nat) : Nat → Tk
  | 0 => (0, 1, b.getD at_ 0)
  | d + 1 => if 4 ≤ rch b (at_ - (d + 1)) at_ ∧ (bestT b at_ d).2.1 < rch b (at_ - (d + 1)) at_ then ((d : Int) + 1, ((rch b (at_ - (d + 1)) at_ : Nat) : Int), 0) else bestT b at_ d
def longP (b : List Nat) (at_ : Nat) : Tk := bestT b at_ (min at_ 4096)
def tokF (b : List Nat) : Nat → Nat → List Tk
  | 0, _ => []
  | f + 1, at_ => if at_ < b.length then longP b at_ :: tokF b f (at_ + (longP b at_).2.1.toNat) else []
def tokP (b : List Nat) : List Tk := tokF b b.length 0
theorem rchF_le (b : List Nat) : ∀ f p q, rchF b f p q ≤ f ∧ (rchF b f p q = 0 ∨ q + rchF b f p q ≤ b.length)
  | 0, _, _ => by simp [rchF]
  | f + 1, p, q => by
    have ih := rchF_le b f (p + 1) (q + 1)
    rw [rchF]
    split
    · rename_i h; omega
    · simp
theorem rch_le (b : List Nat) (p q : Nat) : rch b p q ≤ 258 ∧ (rch b p q = 0 ∨ q + rch b p q ≤ b.length) := rchF_le b 258 p q
theorem rchF_alike (b : List Nat) : ∀ f p q i, i < rchF b f p q → b.getD (p + i) 0 = b.getD (q + i) 0
  | 0, _, _, _, h => by simp [rchF] at h
  | f + 1, p, q, i, h => by
    rw [rchF] at h
    split at h
    · rename_i h1
      cases i with
      | zero => exact h1.2
      | succ i =>
        have := rchF_alike b f (p + 1) (q + 1) i (by omega)
        rw [show p + (i + 1) = p + 1 + i by omega, show q + (i + 1) = q + 1 + i by omega]
        exact this
    · omega
theorem rchF_ge (b : List Nat) : ∀ f p q m, m ≤ f → (0 < m → q + m ≤ b.length) → (∀ i, i < m → b.getD (p + i) 0 = b.getD (q + i) 0) → m ≤ rchF b f p q
  | _, _, _, 0, _, _, _ => Nat.zero_le _
  | 0, _, _, m + 1, h, _, _ => by omega
  | f + 1, p, q, m + 1, h, hq, ha => by
    have h0 := ha 0 (by omega)
    have hq' := hq (by omega)
    rw [rchF, if_pos ⟨by omega, h0⟩]
    have := rchF_ge b f (p + 1) (q + 1) m (by omega) (by omega) (fun i hi => by
      have := ha (i + 1) (by omega)
      rw [show p + (i + 1) = p + 1 + i by omega, show q + (i + 1) = q + 1 + i by omega] at this
      exact this)
    omega
theorem bestT_spec (b : List Nat) (at_ : Nat) (h : at_ < b.length) : ∀ d, d ≤ at_ → (bestT b at_ d = (0, 1, b.getD at_ 0) ∨ ∃ k, 1 ≤ k ∧ k ≤ d ∧ 4 ≤ rch b (at_ - k) at_ ∧ bestT b at_ d = ((k : Int), ((rch b (at_ - k) at_ : Nat) : Int), 0))
  | 0, _ => .inl rfl
  | d + 1, hd => by
    rw [bestT]
    split
    · rename_i h1
      exact .inr ⟨d + 1, by omega, by omega, h1.1, by simp⟩
    · rcases bestT_spec b at_ h d (by omega) with h1 | ⟨k, h1, h2, h3, h4⟩
      · exact .inl h1
      · exact .inr ⟨k, h1, by omega, h3, h4⟩
theorem longP_spec {b : List Nat} {at_ : Nat} (h : at_ < b.length) : longP b at_ = (0, 1, b.getD at_ 0) ∨ ∃ k, 1 ≤ k ∧ k ≤ at_ ∧ k ≤ 4096 ∧ 4 ≤ rch b (at_ - k) at_ ∧ longP b at_ = ((k : Int), ((rch b (at_ - k) at_ : Nat) : Int), 0) := by
  rcases bestT_spec b at_ h (min at_ 4096) (by omega) with h1 | ⟨k, h1, h2, h3, h4⟩
  · exact .inl h1
  · exact .inr ⟨k, h1, by omega, by omega, h3, h4⟩
theorem longP_ok {b : List Nat} {at_ : Nat} (h : at_ < b.length) : okT (longP b at_) = true ∧ 1 ≤ (longP b at_).2.1 ∧ (longP b at_).2.1 ≤ 258 ∧ at_ + (longP b at_).2.1.toNat ≤ b.length := by
  rcases longP_spec h with h1 | ⟨k, h1, h2, h3, h4, h5⟩
  · rw [h1]; simp [okT]; omega
  · have := rch_le b (at_ - k) at_
    rw [h5]
    simp [okT]
    omega
theorem longP_lit {b : List Nat} {at_ : Nat} (hb : ∀ x ∈ b, x < 256) (h : at_ < b.length) : (longP b at_).2.2 < 256 := by
  rcases longP_spec h with h1 | ⟨k, h1, h2, h3, h4, h5⟩
  · rw [h1]; simp [List.getD, h]; exact hb _ (List.getElem_mem h)
  · rw [h5]; simp
theorem tokF_more (b : List Nat) : ∀ f g at_, b.length - at_ ≤ f → f ≤ g → tokF b f at_ = tokF b g at_
  | 0, 0, _, _, _ => rfl
  | 0, g + 1, at_, h, _ => by rw [tokF, tokF, if_neg (by omega)]
  | f + 1, 0, _, _, h => by omega
  | f + 1, g + 1, at_, h, hg => by
    rw [tokF, tokF]
    split
    · rename_i h1
      have := longP_ok h1
      rw [tokF_more b f g _ (by omega) (by omega)]
    · rfl
def cpyF (d : Nat) : Nat → List Nat → List Nat
  | 0, b => b
  | n + 1, b => cpyF d n (b ++ [b.getD (b.length - d) 0])
def bytF : List Tk → List Nat → Option (List Nat)
  | [], b => some b
  | t :: l, b => if okT t = false ∨ (b.length : Int) < t.1 ∨ 65536 - (b.length : Int) < t.2.1 then none else if t.1 = 0 then bytF l (b ++ [t.2.2]) else bytF l (cpyF t.1.toNat t.2.1.toNat b)
def bytP (l : List Tk) : Option (List Nat) := bytF l []
theorem cpy_len (d : Nat) : ∀ n b, (cpyF d n b).length = b.length + n
  | 0, _ => rfl
  | n + 1, b => by rw [cpyF, cpy_len d n]; simp; omega
theorem take_getD {b : List Nat} {k : Nat} (h : k < b.length) : b.take k ++ [b.getD k 0] = b.take (k + 1) := by
  rw [List.take_succ_eq_append_getElem h]; simp [List.getD, h]
theorem cpy_take (b : List Nat) (d : Nat) : ∀ n k, k + n ≤ b.length → 1 ≤ d → d ≤ k → (∀ i, i < n → b.getD (k - d + i) 0 = b.getD (k + i) 0) → cpyF d n (b.take k) = b.take (k + n)
  | 0, k, _, _, _, _ => rfl
  | n + 1, k, h, hd, hk, ha => by
    have h0 := ha 0 (by omega)
    have hl : (b.take k).length = k := by rw [List.length_take]; omega
    have e : (b.take k).getD ((b.take k).length - d) 0 = b.getD k 0 := by
      rw [Nat.add_zero, Nat.add_zero] at h0
      rw [hl, ← h0]
      simp [List.getD, List.getElem?_take, show k - d < k by omega]
    rw [cpyF, e, take_getD (by omega), cpy_take b d n (k + 1) (by omega) hd (by omega) (fun i hi => by
      have := ha (i + 1) (by omega)
      rw [show k - d + (i + 1) = k + 1 - d + i by omega, show k + (i + 1) = k + 1 + i by omega] at this
      exact this)]
    rw [show k + 1 + n = k + (n + 1) by omega]
theorem byt_tok {b : List Nat} (hl : b.length ≤ 65536) : ∀ f k, b.length - k ≤ f → k ≤ b.length → bytF (tokF b f k) (b.take k) = some b
  | 0, k, h, hk => by
    rw [tokF, bytF, List.take_of_length_le (by omega)]
  | f + 1, k, h, hk => by
    rw [tokF]
    have hlk : (b.take k).length = k := by rw [List.length_take]; omega
    split
    · rename_i hlt
      have h1 := longP_ok hlt
      rw [bytF, hlk, if_neg (by
        rcases longP_spec hlt with h2 | ⟨d, h2, h3, h4, h5, h6⟩
        · rw [h1.1, h2]; simp; omega
        · have h7 := rch_le b (k - d) k
          rw [h1.1, h6]; simp; omega)]
      rcases longP_spec hlt with h2 | ⟨d, h2, h3, h4, h5, h6⟩
      · rw [h2, if_pos rfl]
        simp only
        rw [take_getD hlt]
        exact byt_tok hl f (k + 1) (by omega) (by omega)
      · have h7 := rch_le b (k - d) k
        rw [h6, if_neg (by simp; omega)]
        simp only [Int.toNat_natCast]
        rw [cpy_take b d (rch b (k - d) k) k (by omega) h2 h3 (fun i hi => rchF_alike b 258 (k - d) k i hi)]
        exact byt_tok hl f _ (by omega) (by omega)
    · rw [bytF, List.take_of_length_le (by omega)]
theorem byt_back {b : List Nat} (hl : b.length ≤ 65536) : bytP (tokP b) = some b := by
  have := byt_tok hl b.length 0 (by omega) (by omega)
  rwa [List.take_zero] at this
theorem tokF_all {b : List Nat} (hb : ∀ x ∈ b, x < 256) : ∀ f k, (∀ t ∈ tokF b f k, okT t = true ∧ t.2.2 < 256)
  | 0, k, t, ht => by simp [tokF] at ht
  | f + 1, k, t, ht => by
    rw [tokF] at ht
    split at ht
    · rename_i h1
      rcases List.mem_cons.1 ht with rfl | ht
      · exact ⟨(longP_ok h1).1, longP_lit hb h1⟩
      · exact tokF_all hb f _ t ht
    · simp at ht
theorem tokF_sum {b : List Nat} : ∀ f k, b.length - k ≤ f → k ≤ b.length → sumT (tokF b f k) = ((b.length - k : Nat) : Int)
  | 0, k, h, hk => by simp [tokF, sumT]; omega
  | f + 1, k, h, hk => by
    rw [tokF]
    split
    · rename_i h1
      have := longP_ok h1
      have ih := tokF_sum (b := b) f (k + (longP b k).2.1.toNat) (by omega) (by omega)
      simp only [sumT, List.map_cons, List.sum_cons] at ih ⊢
      rw [ih]; omega
    · simp [sumT]; omega
theorem tok_size {b : List Nat} (hb : ∀ x ∈ b, x < 256) (hl : b.length ≤ 65536) : sizeE (tokP b) = 0 ∧ litOk (tokP b) := by
  have h1 := tokF_all hb b.length 0
  have h2 := tokF_sum (b := b) b.length 0 (by omega) (by omega)
  refine ⟨?_, fun t ht => (h1 t ht).2⟩
  have h3 : (tokP b).all okT = true := List.all_eq_true.2 (fun t ht => (h1 t ht).1)
  have h4 : ¬ 65536 < sumT (tokP b) := by unfold tokP; rw [h2]; omega
  unfold sizeE
  rw [if_pos h3, if_neg h4]
theorem tok_len {b : List Nat} : ∀ f k, (tokF b f k).length ≤ f
  | 0, k => by simp [tokF]
  | f + 1, k => by
    rw [tokF]
    split
    · have := tok_len (b := b) f (k + (longP b k).2.1.toNat); simp; omega
    · simp
end Go.Cod

