/- slices.Equal at bytes and at bools. -/
import Derived.Test.YtopfbbnpbobhaaaDoorT1
set_option linter.unusedVariables false
set_option linter.unusedSimpArgs false
namespace Go.Proofs.YtopfbbnpbobhaaaDoor
open Go.RowKit Go.Sal

/-- a slice that reads as a list -/
def RD {α : Type} (enc : α → Value) (w : World) (A : Option Addr) (l : List α) : Prop := l ≠ [] → ∃ g o, A = some ⟨g, o, none⟩ ∧ g < w.heap.size ∧ ∀ j (h : j < l.length), w.cell? ⟨g, o + j, none⟩ = some (enc l[j])
def encB (x : UInt8) : Value := .int .u8 (x.toNat : Int)
def encT (x : Bool) : Value := .bool x
theorem RD.below {α : Type} {enc : α → Value} {w w' : World} {A : Option Addr} {l : List α} (h : RD enc w A l) (k : Below w.heap.size w w') : RD enc w' A l := fun hn => by
  obtain ⟨g, o, h1, h2, h3⟩ := h hn
  exact ⟨g, o, h1, Nat.lt_of_lt_of_le h2 k.size, fun j hj => (k.cell (p := ⟨g, o + j, none⟩) h2).trans (h3 j hj)⟩
theorem RD.nil {α : Type} (enc : α → Value) (w : World) (A : Option Addr) : RD enc w A [] := fun h => absurd rfl h
set_option maxRecDepth 20000 in
set_option maxHeartbeats 4000000 in
theorem eqB_any (l1 l2 : List UInt8) (A1 A2 : Option Addr) (c1 c2 : Nat) (w : World) (h1 : RD encB w A1 l1) (h2 : RD encB w A2 l2) (hl1 : l1.length ≤ 4000000) (hl2 : l2.length ≤ 4000000) :
    Calls Tryd.prog 63 #[.slice A1 l1.length c1, .slice A2 l2.length c2] w fun e w' => e = .returned (.bool (decide (l1 = l2))) ∧ Keep [] w w' := by
  by_cases hne : l1.length = l2.length
  · have hb : ((l1.length : Int) != (l2.length : Int)) = false := by rw [hne]; simp
    have hb2 : (l1.length != l2.length) = false := by rw [hne]; simp
    have hb3 : ((l1.length : Int) == (l2.length : Int)) = true := by rw [hne]; simp
    have hb4 : (l1.length == l2.length) = true := by rw [hne]; simp
    have Hne := Lib.hid hne
    clear hne
    by_cases hnil : l1 = []
    · have hl0 : l1.length = 0 := by rw [hnil]; rfl
      have hl20 : l2.length = 0 := by rw [← Hne.out]; exact hl0
      have hnil2 : l2 = [] := List.eq_nil_of_length_eq_zero hl20
      subst hnil
      subst hnil2
      clear h1 h2 hb hb2 hb3 hb4 hl0 hl20 hl1 hl2 Hne
      go_enter Tryd.func63, Tryd.ntmps63
      go_wp2
      go_loop [13] (fun u => u = .int .i64 0) (fun _ => 0)
      case atStart => rfl
      case round =>
        subst hrel
        go_wp2
        go_ret
        exact ⟨rfl, Keep.refl _ _⟩
    · have hnil2 : l2 ≠ [] := by
        rintro rfl
        exact hnil (List.eq_nil_of_length_eq_zero Hne.out)
      obtain ⟨g1, o1, rfl, _, e1⟩ := h1 hnil
      obtain ⟨g2, o2, rfl, _, e2⟩ := h2 hnil2
      have E1 := Lib.hid e1
      have E2 := Lib.hid e2
      clear e1 e2 h1 h2 hnil hnil2
      go_enter Tryd.func63, Tryd.ntmps63
      go_wp2
      go_loopw [13] (fun u wr => ∃ (q i : Nat), u = .int .i64 i ∧ i ≤ l1.length ∧ wr = w.drewN q ∧ Hid (∀ j, j < i → l1[j]? = l2[j]?)) (fun u _ => l1.length - (intOf u).toNat)
      case atStart => exact ⟨0, 0, rfl, by omega, rfl, Lib.hid (fun j hj => absurd hj (Nat.not_lt_zero j))⟩
      case round =>
        obtain ⟨q, i, rfl, hi, rfl, hI⟩ := hrel
        rcases Nat.lt_or_ge i l1.length with hlt | hge
        · have hil : (i : Int) < (l1.length : Int) := by omega
          have hlt2 : i < l2.length := by rw [← Hne.out]; exact hlt
          have hil2 : (i : Int) < (l2.length : Int) := by omega
          have hi0 : (0 : Int) ≤ (i : Int) := by omega
          have x1 := E1.out i hlt
          have x2 := E2.out i hlt2
          have hyes : Hid (l1[i] = l2[i] → ∀ j, j < i + 1 → l1[j]? = l2[j]?) := Lib.hid (fun he j hj => by
            rcases Nat.lt_succ_iff_lt_or_eq.1 hj with h | rfl
            · exact hI.out j h
            · rw [List.getElem?_eq_getElem hlt, List.getElem?_eq_getElem hlt2, he])
          have hno : Hid (l1[i] ≠ l2[i] → l1 ≠ l2) := Lib.hid (fun he e => he (by subst e; rfl))
          unfold encB at x1 x2
          generalize l1[i] = y1 at *
          generalize l2[i] = y2 at *
          have Hlt2 := Lib.hid hlt2
          clear hI hlt2
          by_cases hy : y1 = y2
          · have hya : ((y1.toNat : Int) != (y2.toNat : Int)) = false := by rw [hy]; simp
            have hyb : (y1.toNat != y2.toNat) = false := by rw [hy]; simp
            have hyc : ((y1.toNat : Int) == (y2.toNat : Int)) = true := by rw [hy]; simp
            have hyd : (y1.toNat == y2.toNat) = true := by rw [hy]; simp
            have HY := Lib.hid (hyes.out hy)
            clear hyes hno hy
            go_wp2
            go_quiet (fail)
            go_wp2
            go_roundw
            case rel => exact ⟨_, i + 1, by simp, by omega, rfl, HY⟩
            case measure => simp [intOf]; omega
          · have hyn : y1.toNat ≠ y2.toNat := fun e => hy (UInt8.toNat_inj.1 e)
            have hya : ((y1.toNat : Int) != (y2.toNat : Int)) = true := by simp; omega
            have hyb : (y1.toNat != y2.toNat) = true := by simpa using hyn
            have hyc : ((y1.toNat : Int) == (y2.toNat : Int)) = false := by rw [beq_eq_false_iff_ne]; omega
            have hyd : (y1.toNat == y2.toNat) = false := by simpa using hyn
            clear hyn
            have HN := Lib.hid (hno.out hy)
            clear hyes hno hy
            go_wp2
            go_quiet (fail)
            go_wp2
            go_ret
            exact ⟨by rw [decide_eq_false HN.out]; rfl, ((Keep.refl [] w).drewN _).drewN _⟩
        · obtain rfl : i = l1.length := by omega
          have hil : ¬ (l1.length : Int) < (l1.length : Int) := by omega
          have HE : Hid (l1 = l2) := Lib.hid (List.ext_getElem? (fun j => by
            rcases Nat.lt_or_ge j l1.length with h | h
            · exact hI.out j h
            · rw [List.getElem?_eq_none_iff.2 h, List.getElem?_eq_none_iff.2 (by rw [← Hne.out]; exact h)]))
          clear hI
          go_wp2
          go_ret
          exact ⟨by rw [decide_eq_true HE.out]; rfl, (Keep.refl [] w).drewN _⟩
  · have hb : ((l1.length : Int) != (l2.length : Int)) = true := by simp; omega
    have hb2 : (l1.length != l2.length) = true := by simpa using hne
    have hb3 : ((l1.length : Int) == (l2.length : Int)) = false := by rw [beq_eq_false_iff_ne]; omega
    have hb4 : (l1.length == l2.length) = false := by simpa using hne
    have HN : Hid (l1 ≠ l2) := Lib.hid (fun e => hne (by rw [e]))
    clear hne h1 h2
    go_enter Tryd.func63, Tryd.ntmps63
    go_wp2
    go_ret
    exact ⟨by rw [decide_eq_false HN.out]; rfl, Keep.refl _ _⟩
set_option maxRecDepth 20000 in
set_option maxHeartbeats 4000000 in
theorem eqT_any (l1 l2 : List Bool) (A1 A2 : Option Addr) (c1 c2 : Nat) (w : World) (h1 : RD encT w A1 l1) (h2 : RD encT w A2 l2) (hl1 : l1.length ≤ 4000000) (hl2 : l2.length ≤ 4000000) :
    Calls Tryd.prog 64 #[.slice A1 l1.length c1, .slice A2 l2.length c2] w fun e w' => e = .returned (.bool (decide (l1 = l2))) ∧ Keep [] w w' := by
  by_cases hne : l1.length = l2.length
  · have hb : ((l1.length : Int) != (l2.length : Int)) = false := by rw [hne]; simp
    have hb2 : (l1.length != l2.length) = false := by rw [hne]; simp
    have hb3 : ((l1.length : Int) == (l2.length : Int)) = true := by rw [hne]; simp
    have hb4 : (l1.length == l2.length) = true := by rw [hne]; simp
    have Hne := Lib.hid hne
    clear hne
    by_cases hnil : l1 = []
    · have hl0 : l1.length = 0 := by rw [hnil]; rfl
      have hl20 : l2.length = 0 := by rw [← Hne.out]; exact hl0
      have hnil2 : l2 = [] := List.eq_nil_of_length_eq_zero hl20
      subst hnil
      subst hnil2
      clear h1 h2 hb hb2 hb3 hb4 hl0 hl20 hl1 hl2 Hne
      go_enter Tryd.func64, Tryd.ntmps64
      go_wp2
      go_loop [13] (fun u => u = .int .i64 0) (fun _ => 0)
      case atStart => rfl
      case round =>
        subst hrel
        go_wp2
        go_ret
        exact ⟨rfl, Keep.refl _ _⟩
    · have hnil2 : l2 ≠ [] := by
        rintro rfl
        exact hnil (List.eq_nil_of_length_eq_zero Hne.out)
      obtain ⟨g1, o1, rfl, _, e1⟩ := h1 hnil
      obtain ⟨g2, o2, rfl, _, e2⟩ := h2 hnil2
      have E1 := Lib.hid e1
      have E2 := Lib.hid e2
      clear e1 e2 h1 h2 hnil hnil2
      go_enter Tryd.func64, Tryd.ntmps64
      go_wp2
      go_loopw [13] (fun u wr => ∃ (q i : Nat), u = .int .i64 i ∧ i ≤ l1.length ∧ wr = w.drewN q ∧ Hid (∀ j, j < i → l1[j]? = l2[j]?)) (fun u _ => l1.length - (intOf u).toNat)
      case atStart => exact ⟨0, 0, rfl, by omega, rfl, Lib.hid (fun j hj => absurd hj (Nat.not_lt_zero j))⟩
      case round =>
        obtain ⟨q, i, rfl, hi, rfl, hI⟩ := hrel
        rcases Nat.lt_or_ge i l1.length with hlt | hge
        · have hil : (i : Int) < (l1.length : Int) := by omega
          have hlt2 : i < l2.length := by rw [← Hne.out]; exact hlt
          have hil2 : (i : Int) < (l2.length : Int) := by omega
          have hi0 : (0 : Int) ≤ (i : Int) := by omega
          have x1 := E1.out i hlt
          have x2 := E2.out i hlt2
          have hyes : Hid (l1[i] = l2[i] → ∀ j, j < i + 1 → l1[j]? = l2[j]?) := Lib.hid (fun he j hj => by
            rcases Nat.lt_succ_iff_lt_or_eq.1 hj with h | rfl
            · exact hI.out j h
            · rw [List.getElem?_eq_getElem hlt, List.getElem?_eq_getElem hlt2, he])
          have hno : Hid (l1[i] ≠ l2[i] → l1 ≠ l2) := Lib.hid (fun he e => he (by subst e; rfl))
          unfold encT at x1 x2
          generalize l1[i] = y1 at *
          generalize l2[i] = y2 at *
          have Hlt2 := Lib.hid hlt2
          clear hI hlt2
          by_cases hy : y1 = y2
          · have hya : (y1 != y2) = false := by rw [hy]; simp
            have hyc : (y1 == y2) = true := by rw [hy]; simp
            have HY := Lib.hid (hyes.out hy)
            clear hyes hno hy
            go_wp2
            go_quiet (fail)
            go_wp2
            go_roundw
            case rel => exact ⟨_, i + 1, by simp, by omega, rfl, HY⟩
            case measure => simp [intOf]; omega
          · have hya : (y1 != y2) = true := by simpa using hy
            have hyc : (y1 == y2) = false := by simpa using hy
            have HN := Lib.hid (hno.out hy)
            clear hyes hno hy
            go_wp2
            go_quiet (fail)
            go_wp2
            go_ret
            exact ⟨by rw [decide_eq_false HN.out]; rfl, ((Keep.refl [] w).drewN _).drewN _⟩
        · obtain rfl : i = l1.length := by omega
          have hil : ¬ (l1.length : Int) < (l1.length : Int) := by omega
          have HE : Hid (l1 = l2) := Lib.hid (List.ext_getElem? (fun j => by
            rcases Nat.lt_or_ge j l1.length with h | h
            · exact hI.out j h
            · rw [List.getElem?_eq_none_iff.2 h, List.getElem?_eq_none_iff.2 (by rw [← Hne.out]; exact h)]))
          clear hI
          go_wp2
          go_ret
          exact ⟨by rw [decide_eq_true HE.out]; rfl, (Keep.refl [] w).drewN _⟩
  · have hb : ((l1.length : Int) != (l2.length : Int)) = true := by simp; omega
    have hb2 : (l1.length != l2.length) = true := by simpa using hne
    have hb3 : ((l1.length : Int) == (l2.length : Int)) = false := by rw [beq_eq_false_iff_ne]; omega
    have hb4 : (l1.length == l2.length) = false := by simpa using hne
    have HN : Hid (l1 ≠ l2) := Lib.hid (fun e => hne (by rw [e]))
    clear hne h1 h2
    go_enter Tryd.func64, Tryd.ntmps64
    go_wp2
    go_ret
    exact ⟨by rw [decide_eq_false HN.out]; rfl, Keep.refl _ _⟩
end Go.Proofs.YtopfbbnpbobhaaaDoor
