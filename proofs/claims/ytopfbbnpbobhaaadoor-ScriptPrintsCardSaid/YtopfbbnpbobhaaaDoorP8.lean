/- Unhex. -/
import Derived.Test.YtopfbbnpbobhaaaDoorP7
import Derived.Laws.IdiomStrings
set_option linter.unusedVariables false
set_option linter.unusedSimpArgs false
namespace Go.Proofs.YtopfbbnpbobhaaaDoor
open Go.RowKit Go.Sal

def hs0 : HS := ⟨0, [], 0, 0, false⟩
/-- what a text of bytes is -/
def uhS (s : List UInt8) : UR := if s = [46] then .ok [] else if s[0]? = some 46 then .bad 1 else unG s (s.length + 1) hs0
def UnRes (w : World) (r : UR) (e : Ending) (w' : World) : Prop := Below w.heap.size w w' ∧ match r with
  | .ok b => ∃ A c, e = .returned (.tuple #[.slice A b.length c, .int .i64 0, .int .i64 0]) ∧ w'.ownsRow w.heap.size 5 1 (.slice A b.length c) b.length (byteCells b)
  | .bad i => e = .returned (.tuple #[.slice none 0 0, .int .i64 (i : Int), .int .i64 250])
theorem digA_lt {s : List UInt8} {i : Nat} (h : ¬ digA s i < 0) : i < s.length := by
  rcases Nat.lt_or_ge i s.length with h1 | h1
  · exact h1
  · exfalso; apply h; simp [digA, h1]
theorem pairS_pos {s : List UInt8} {h : HS} (hp : (pairS s h).1 = true) : h.pos + 2 ≤ s.length := by
  unfold pairS at hp
  split at hp
  · simp at hp
  split at hp
  · simp at hp
  rename_i h1 h2
  have := digA_lt h2
  omega
theorem cntG_pos (s : List UInt8) (left : Nat) : ∀ (f n i : Nat), i ≤ (cntG s left f n i).2.2 ∧ ((cntG s left f n i).2.1 = n ∨ (cntG s left f n i).2.1 ≤ left)
  | 0, n, i => by simp [cntG]
  | f + 1, n, i => by
    unfold cntG
    split
    · simp
    · split
      · split
        · rename_i c _ _ hm
          have ih := cntG_pos s left f (10 * n + (c.toNat - 48)) (i + 1)
          have := mayS_le hm
          refine ⟨by omega, ?_⟩
          rcases ih.2 with h | h <;> (right; omega)
        · simp
      · simp
theorem manyS_inv {s : List UInt8} {h : HS} (hv : HInv s h) (h0 : 0 < h.n) (hp : (manyS s h).1 = true) : HInv s (manyS s h).2 ∧ h.pos < (manyS s h).2.pos ∧ (manyS s h).2.pos ≤ s.length := by
  have hc := cntG_pos s (MF - h.out.length + 1) (s.length + 1) 0 (h.pos + 1)
  unfold manyS at hp ⊢
  split at hp
  · simp at hp
  · rename_i hfirst
    rw [if_neg hfirst]
    generalize cntG s (MF - h.out.length + 1) (s.length + 1) 0 (h.pos + 1) = r at *
    obtain ⟨ok, n, i⟩ := r
    simp only at hp hc ⊢
    split at hp
    · rename_i hg
      rw [if_pos hg]
      have hi : i < s.length := by
        rcases Nat.lt_or_ge i s.length with h' | h'
        · exact h'
        · rw [List.getElem?_eq_none_iff.2 h'] at hg; simp at hg
      refine ⟨⟨?_, hv.n4, fun e => ?_, fun _ => ?_⟩, by simp only; omega, by simp only; omega⟩
      · have := hv.len
        simp
        rcases hc.2 with h' | h' <;> omega
      · simp only at e
        omega
      · simp only [List.getLast?_append, List.getLast?_replicate]
        rw [if_neg (by omega)]
        rfl
    · simp at hp
theorem pre46 (c : UInt8) (t : List UInt8) : Lib.hasPrefix (c :: t) [46] = decide ((c :: t)[0]? = some 46) := by
  show ((46 : UInt8) == c && [].isPrefixOf t) = _
  by_cases h : c = 46
  · subst h
    simp
  · have h2 : ((46 : UInt8) == c) = false := by
      rw [beq_eq_false_iff_ne]
      exact fun e => h e.symm
    rw [h2]
    simp [h]
theorem HInv0 (s : List UInt8) : HInv s hs0 := ⟨by simp [hs0], by simp [hs0], fun _ => rfl, fun h => by simp [hs0] at h⟩
theorem uhS_long {s : List UInt8} (h : s[0]? ≠ some 46) : uhS s = unG s (s.length + 1) hs0 := by
  unfold uhS
  rw [if_neg (by rintro rfl; exact h rfl), if_neg h]
theorem HexIs_of {base hb : Nat} {s : List UInt8} {h : HS} {w : World} (x : HexIs base hb s h w) : ∃ A c, w.cell? ⟨hb, 2, none⟩ = some (.slice A h.out.length c) ∧ w.cell? ⟨hb, 1, none⟩ = some (.int .i64 (h.pos : Int)) ∧ w.ownsRow base 5 1 (.slice A h.out.length c) h.out.length (byteCells h.out) := by
  obtain ⟨_, v, hb, ho⟩ := x
  obtain ⟨d0, d1, d2, _⟩ := HexA_facts hb
  rcases ho.2 with ⟨rfl, h1⟩ | ⟨g, cap, cur, rfl, _⟩
  · exact ⟨none, 0, by rw [h1]; exact d2, d1, by rw [h1]; rw [h1] at ho; exact ho⟩
  · exact ⟨_, _, d2, d1, ho⟩
set_option maxRecDepth 20000 in
set_option maxHeartbeats 4000000 in
theorem unhex_any (s : List UInt8) (w : World) (hs : s.length ≤ 1000) : Calls Tryd.prog 7 #[.string ⟨s.toArray⟩] w fun e w' => UnRes w (uhS s) e w' := by
  have hlen : (s.length : Int) ≤ 1000 := by omega
  by_cases h1 : s = [46]
  · have h1b : (s == [46]) = true := by simp [h1]
    have e : uhS s = .ok [] := by unfold uhS; rw [if_pos h1]
    rw [e]
    clear h1 e
    go_enter Tryd.func7, Tryd.ntmps7
    go_wp2
    go_ret3
    exact ⟨Below.refl _ _, none, 0, rfl, by simpa [byteCells] using World.ownsRow_nil w w.heap.size 5 1⟩
  · have h1b : (s == [46]) = false := by simpa using h1
    have hpre := Tryd.strings_HasPrefix ⟨s.toArray⟩ ⟨#[46]⟩ w
    have e1 : Lib.hasPrefix (⟨s.toArray⟩ : ByteArray).data.toList (⟨#[46]⟩ : ByteArray).data.toList = decide (s[0]? = some 46) := by
      cases s with
      | nil => rfl
      | cons c t => exact pre46 c t
    rw [e1] at hpre
    by_cases hdot : s[0]? = some 46
    · rw [decide_eq_true hdot] at hpre
      have e : uhS s = .bad 1 := by unfold uhS; rw [if_neg h1, if_pos hdot]
      rw [e]
      have Hpre := Lib.hid hpre
      clear hpre h1 hdot e e1
      go_enter Tryd.func7, Tryd.ntmps7
      go_wp2_with (go_at_call 15; refine Hpre.out.mono ?_; rintro e w2 ⟨rfl, rfl⟩)
      go_ret3
      exact ⟨Below.refl _ _, rfl⟩
    · rw [decide_eq_false hdot] at hpre
      rw [uhS_long hdot]
      have Hpre : Hid (Calls Tryd.prog 15 #[.string ⟨s.toArray⟩, .string ⟨#[46]⟩] w fun e w' => e = .returned (.bool false) ∧ w = w') := Lib.hid (hpre.mono fun e w' ⟨a, b⟩ => ⟨a, b.symm⟩)
      clear hpre h1 hdot e1
      have hB0 : Hid (HexIs w.heap.size w.heap.size s hs0 (w.alloc (.cells #[.string ⟨s.toArray⟩, .int .i64 0, .slice none 0 0, .int .u8 0, .int .i64 0, .bool false] 51))) :=
        Lib.hid ⟨Nat.le_refl _, .slice none 0 0, Blk.new w 51 _, by simpa [byteCells, hs0] using World.ownsRow_nil _ w.heap.size 5 1⟩
      have hbl0 : Hid (Below w.heap.size w (w.alloc (.cells #[.string ⟨s.toArray⟩, .int .i64 0, .slice none 0 0, .int .u8 0, .int .i64 0, .bool false] 51))) := Lib.hid ((Below.refl _ w).alloc (Nat.le_refl _) _)
      have hI0 := Lib.hid (HInv0 s)
      go_enter Tryd.func7, Tryd.ntmps7
      go_wp2_with (go_at_call 15; refine Hpre.out.mono ?_; rintro e w2 ⟨rfl, rfl⟩)
      go_loopw [6] (fun u wr => ∃ (b : Bool) (h : HS) (f : Nat), u = .bool b ∧ h.pos ≤ s.length ∧ s.length - h.pos < f ∧ Hid (HInv s h) ∧ Hid (HexIs w.heap.size w.heap.size s h wr) ∧ Hid (Below w.heap.size w wr) ∧
        Hid (if b = true then unG s (s.length + 1) hs0 = unG s f h else unG s (s.length + 1) hs0 = .ok h.out)) (fun u wr => match u with | .bool true => s.length + 1 - posOf w.heap.size wr | _ => 0)
      case atStart => exact ⟨true, hs0, s.length + 1, rfl, by simp [hs0], by simp [hs0], hI0, hB0, hbl0, Lib.hid (by rw [if_pos rfl])⟩
      case round =>
        obtain ⟨b, h, f, rfl, hp, hf, hI, hH, hbl, hR⟩ := hrel
        cases b with
        | false =>
          obtain ⟨A, c, d2, d1, ho⟩ := HexIs_of hH.out
          have Ho := Lib.hid ho
          have hR2 := hR.out
          rw [if_neg (by decide)] at hR2
          have HR := Lib.hid hR2
          clear ho hR hR2
          go_wp2
          go_ret3
          rw [HR.out]
          exact ⟨hbl.out, A, c, rfl, Ho.out⟩
        | true =>
          obtain ⟨f, rfl⟩ : ∃ f', f = f' + 1 := ⟨f - 1, by omega⟩
          have hR2 := hR.out
          rw [if_pos rfl] at hR2
          have hwsz := hbl.out.size
          have Hpp : Hid (posOf w.heap.size wr = h.pos) := Lib.hid (by
            obtain ⟨_, v, hb, _⟩ := hH.out
            unfold posOf
            rw [(HexA_facts hb).2.1]
            simp)
          have hpc := hpair_any w.heap.size w.heap.size s h wr hs (by omega) hI.out.n4 hI.out.len hH.out hwsz
          have hun : unG s (f + 1) h = if (pairS s h).1 = false then .bad (pairS s h).2.pos
            else if s[(pairS s h).2.pos]? = some 42 then
              (if (manyS s (pairS s h).2).1 = false then .bad (manyS s (pairS s h).2).2.pos
              else if (manyS s (pairS s h).2).2.pos < s.length then unG s f (manyS s (pairS s h).2).2 else .ok (manyS s (pairS s h).2).2.out)
            else if (pairS s h).2.pos < s.length then unG s f (pairS s h).2 else .ok (pairS s h).2.out := by rw [unG]
          have Hun := Lib.hid (hR2.trans hun)
          clear hR hR2 hun
          cases hb1 : (pairS s h).1 with
          | false =>
            rw [hb1] at hpc Hun
            have HR := Lib.hid (Hun.out.trans (if_pos rfl))
            generalize (pairS s h).2 = k at *
            have Hpc := Lib.hid hpc
            clear Hun hpc hb1
            go_wp2_with (go_at_call 16; refine Hpc.out.mono ?_; rintro e w2 ⟨rfl, hH2, hbl2⟩; obtain ⟨A, c, d2, d1, ho⟩ := HexIs_of hH2; have Hbl2 := Lib.hid (hbl.out.trans hbl2); clear hH2 hbl2 ho)
            go_quiet (fail)
            go_wp2
            go_ret3
            rw [HR.out]
            exact ⟨Hbl2.out.trans (((Keep.refl [] _).drewN _).below.mono Hbl2.out.size), rfl⟩
          | true =>
            obtain ⟨hI2, hpos2, hn2, hcl2⟩ := pairS_inv hI.out hb1
            have hple := pairS_pos hb1
            rw [← hpos2] at hple
            rw [hb1] at hpc Hun
            have HR := Lib.hid (Hun.out.trans (if_neg (by decide)))
            generalize (pairS s h).2 = k at *
            have Hpc := Lib.hid hpc
            have HI2 := Lib.hid hI2
            have Hpos2 := Lib.hid hpos2
            clear Hun hpc hb1 hI2 hcl2 hpos2
            go_wp2_with (fail)
            refine Hpc.out.mono ?_
            rintro e w2 ⟨rfl, hH2, hbl2⟩
            obtain ⟨A, c, d2, d1, ho⟩ := HexIs_of hH2
            have HH2 := Lib.hid hH2
            have Hbl2 := Lib.hid (hbl.out.trans hbl2)
            have hw2 := Hbl2.out.size
            have Ho := Lib.hid ho
            clear hH2 hbl2 ho
            rcases Nat.lt_or_ge k.pos s.length with hlt | hge
            · have hil : (k.pos : Int) < (s.length : Int) := by omega
              have hix := str_at s k.pos hlt
              have hg : s[k.pos]? = some s[k.pos] := by simp [hlt]
              have Hg := Lib.hid hg
              clear hg
              generalize s[k.pos] = c at *
              by_cases h42 : c = 42
              · have h42a : ((c.toNat : Int) == 42) = true := by rw [h42]; rfl
                have h42b : (c.toNat == 42) = true := by rw [h42]; rfl
                have HR2 := Lib.hid (HR.out.trans (if_pos (by rw [Hg.out, h42])))
                have hmc := many_any w.heap.size w.heap.size s k w2 hs hlt HI2.out.n4 HI2.out.len HH2.out hw2
                clear h42
                cases hb2 : (manyS s k).1 with
                | false =>
                  rw [hb2] at hmc HR2
                  have HX := Lib.hid (HR2.out.trans (if_pos rfl))
                  generalize (manyS s k).2 = k2 at *
                  have Hmc := Lib.hid hmc
                  clear hmc hb2 HR HR2
                  go_wp2_with (go_at_call 17; refine Hmc.out.mono ?_; rintro e w3 ⟨rfl, hH3, hbl3⟩; obtain ⟨A3, c3, f2, f1, ho3⟩ := HexIs_of hH3; have Hbl3 := Lib.hid (Hbl2.out.trans hbl3); clear hH3 hbl3 ho3)
                  go_quiet (fail)
                  go_wp2
                  go_ret3
                  rw [HX.out]
                  exact ⟨Hbl3.out.trans (((Keep.refl [] _).drewN _).below.mono Hbl3.out.size), rfl⟩
                | true =>
                  obtain ⟨hI3, hp3, hp3b⟩ := manyS_inv HI2.out hn2 hb2
                  rw [hb2] at hmc HR2
                  have HX := Lib.hid (HR2.out.trans (if_neg (by decide)))
                  generalize (manyS s k).2 = k2 at *
                  have Hmc := Lib.hid hmc
                  have HI3 := Lib.hid hI3
                  clear hmc hb2 HR HR2 hI3
                  by_cases hend : k2.pos < s.length
                  · have hendi : (k2.pos : Int) < (s.length : Int) := by omega
                    have HY := Lib.hid (HX.out.trans (if_pos hend))
                    clear HX
                    go_wp2_with (go_at_call 17; refine Hmc.out.mono ?_; rintro e w3 ⟨rfl, hH3, hbl3⟩; obtain ⟨A3, c3, f2, f1, ho3⟩ := HexIs_of hH3; have Hbl3 := Lib.hid (Hbl2.out.trans hbl3); have HH3 := Lib.hid hH3; have Hp3 : Hid (posOf w.heap.size w3 = k2.pos) := Lib.hid (by unfold posOf; rw [f1]; simp); clear hH3 hbl3 ho3)
                    go_roundw
                    case rel => exact ⟨true, k2, f, rfl, by omega, by have := Hpos2.out; omega, HI3, HH3, Hbl3, Lib.hid (by rw [if_pos rfl]; exact HY.out)⟩
                    case measure =>
                      have := Hpos2.out
                      simp only [Hp3.out, Hpp.out]
                      omega
                  · have hendi : ¬ (k2.pos : Int) < (s.length : Int) := by omega
                    have HY := Lib.hid (HX.out.trans (if_neg hend))
                    clear HX
                    go_wp2_with (go_at_call 17; refine Hmc.out.mono ?_; rintro e w3 ⟨rfl, hH3, hbl3⟩; obtain ⟨A3, c3, f2, f1, ho3⟩ := HexIs_of hH3; have Hbl3 := Lib.hid (Hbl2.out.trans hbl3); have HH3 := Lib.hid hH3; clear hH3 hbl3 ho3)
                    go_roundw
                    case rel => exact ⟨false, k2, f, rfl, by omega, by have := Hpos2.out; omega, HI3, HH3, Hbl3, Lib.hid (by rw [if_neg (by decide)]; exact HY.out)⟩
                    case measure =>
                      simp only [Hpp.out]
                      omega
              · have h42n : c.toNat ≠ 42 := fun e => h42 (UInt8.toNat_inj.1 e)
                have h42a : ((c.toNat : Int) == 42) = false := by rw [beq_eq_false_iff_ne]; omega
                have h42b : (c.toNat == 42) = false := by simpa using h42n
                have HY := Lib.hid ((HR.out.trans (if_neg (by rw [Hg.out]; simpa using h42))).trans (if_pos hlt))
                have Hp3 : Hid (posOf w.heap.size w2 = k.pos) := Lib.hid (by unfold posOf; rw [d1]; simp)
                clear HR h42 h42n
                go_wp2
                go_roundw
                case rel => exact ⟨true, k, f, rfl, by omega, by have := Hpos2.out; omega, HI2, HH2, Hbl2, Lib.hid (by rw [if_pos rfl]; exact HY.out)⟩
                case measure =>
                  have := Hpos2.out
                  simp only [Hp3.out, Hpp.out]
                  omega
            · have hil : ¬ (k.pos : Int) < (s.length : Int) := by omega
              have HY := Lib.hid ((HR.out.trans (if_neg (by rw [List.getElem?_eq_none_iff.2 hge]; simp))).trans (if_neg (by omega)))
              clear HR
              go_wp2
              go_roundw
              case rel => exact ⟨false, k, f, rfl, by omega, by have := Hpos2.out; omega, HI2, HH2, Hbl2, Lib.hid (by rw [if_neg (by decide)]; exact HY.out)⟩
              case measure =>
                simp only [Hpp.out]
                omega
end Go.Proofs.YtopfbbnpbobhaaaDoor
