/- cutBytes, cutText; ScriptBytes walked. -/
import Derived.Test.YtopfbbnpbobhaaaDoorT8
import Derived.Lib.BufferRead
set_option linter.unusedVariables false
set_option linter.unusedSimpArgs false
namespace Go.Proofs.YtopfbbnpbobhaaaDoor
open Go.RowKit Go.Sal

theorem RD.take {α : Type} {enc : α → Value} {w : World} {A : Option Addr} {l : List α} (h : RD enc w A l) (n : Nat) : RD enc w A (l.take n) := fun hn => by
  obtain ⟨g, o, h1, h2, h3⟩ := h (by rintro rfl; exact hn (by simp))
  exact ⟨g, o, h1, h2, fun j hj => by rw [h3 j (by rw [List.length_take] at hj; omega), List.getElem_take]⟩
theorem RD.of_reads {base : Nat} {tb : TypeId} {w : World} {A : Option Addr} {n c : Nat} {b : List UInt8} (h : Reads base tb w (.slice A n c) b) : n = b.length ∧ b.length ≤ c ∧ RD encB w A b := by
  obtain ⟨A', c', h0, h1, _, h3⟩ := h
  injection h0 with e1 e2 e3
  subst e1; subst e3
  refine ⟨e2, h1, fun hn => ?_⟩
  obtain ⟨a, rfl, hb, hc⟩ := h3 hn
  have hp : 0 < b.length := List.length_pos_iff.2 hn
  have h0 := hc 0 hp
  have hs : a.spot = none := by
    have : a.add 0 = a := by simp [Addr.add]
    rw [this] at h0
    unfold World.cell? at h0
    split at h0
    · split at h0
      · cases h0
      · rename_i hsp
        simpa using hsp
    · cases h0
  obtain ⟨g, o, sp⟩ := a
  simp only at hs
  subst hs
  exact ⟨g, o, rfl, hb.1, fun j hj => by rw [← add_mk]; exact hc j hj⟩
theorem cutBytes_any (A : Option Addr) (n c : Nat) (w : World) (hn : n ≤ c) (hc : c ≤ maxLen) : Calls Tryd.prog 5 #[.slice A n c] w fun e w' => e = .returned (.slice A (min n 1500) c) ∧ w = w' := by
  unfold maxLen at hc
  by_cases h : 1500 < n
  · have hm : min n 1500 = 1500 := by omega
    have hi : (1500 : Int) < (n : Int) := by omega
    have hsl : ∀ W, (Instr.slice 22 (.slice A n c) none (some (.int .i64 1500)) none).run Tryd.prog W = .ok (.slice A 1500 c) W := fun W => slice_head (P := Tryd.prog) 22 5 Tryd.underlying22 A n c 1500 (by omega) W 1 (by kernel_rfl)
    rw [hm]
    clear hm
    go_enter Tryd.func5, Tryd.ntmps5
    go_wp2
    go_ret
    exact ⟨rfl, rfl⟩
  · have hm : min n 1500 = n := by omega
    have hi : ¬ (1500 : Int) < (n : Int) := by omega
    rw [hm]
    clear hm
    go_enter Tryd.func5, Tryd.ntmps5
    go_wp2
    go_ret
    exact ⟨rfl, rfl⟩
theorem ex_take (s : List UInt8) (k : Nat) : (⟨s.toArray⟩ : ByteArray).extract 0 k = ⟨(s.take k).toArray⟩ := by
  apply ByteArray.ext
  rw [ByteArray.data_extract]
  simp [List.extract_eq_take_drop]
theorem cutText_any (s : List UInt8) (n : Nat) (w : World) (hs : s.length ≤ 9223372036854775807) : Calls Tryd.prog 6 #[.string ⟨s.toArray⟩, .int .i64 n] w fun e w' => e = .returned (.string ⟨(s.take n).toArray⟩) ∧ w = w' := by
  by_cases h : n < s.length
  · have hi : (n : Int) < (s.length : Int) := by omega
    have hex := Lib.hid (ex_take s n)
    go_enter Tryd.func6, Tryd.ntmps6
    go_wp2
    go_ret
    exact ⟨congrArg (fun x => Ending.returned (.string x)) hex.out, rfl⟩
  · have hi : ¬ (n : Int) < (s.length : Int) := by omega
    rw [List.take_of_length_le (by omega)]
    go_enter Tryd.func6, Tryd.ntmps6
    go_wp2
    go_ret
    exact ⟨rfl, rfl⟩
/-- the reference's Hex at whatever bytes -/
theorem rhexg_any (b : List UInt8) (A : Option Addr) (cap : Nat) (w : World) (h : RD encB w A b) (hcap : b.length ≤ cap) (hlen : b.length ≤ 3000) :
    Calls Tryd.prog 10 #[.slice A b.length cap] w fun e w' => e = .returned (.string ⟨(hexS b).toArray⟩) ∧ Below w.heap.size w w' := by
  by_cases hb : b = []
  · subst hb
    clear h hcap
    go_enter Tryd.func10, Tryd.ntmps10
    go_wp2
    go_ret
    exact ⟨rfl, Below.refl _ _⟩
  · obtain ⟨g, o, rfl, hg, hc⟩ := h hb
    refine (rhex_any b g o cap w hb hg hcap hlen hc).mono ?_
    rintro e w' ⟨h1, h2⟩
    unfold hexS
    rw [if_neg hb]
    exact ⟨h1, h2⟩
theorem bytes_back (A : Option Addr) (c : Nat) (b : List UInt8) (base : Nat) (w : World) (h : w.ownsRow base 5 1 (.slice A b.length c) b.length (byteCells b)) : (convert 22 9 (.slice A b.length c)).run Tryd.prog w = .ok (.string ⟨b.toArray⟩) w := by
  by_cases hb : b = []
  · subst hb
    have : A = none ∨ ∃ a, A = some a := by cases A <;> simp
    rcases this with rfl | ⟨a, rfl⟩
    · exact Lib.run_convert_nil_bytes (P := Tryd.prog) w 22 9 5 c Tryd.underlying22 Tryd.underlying5 Tryd.underlying9
    · exact run_convert_bytes_back (P := Tryd.prog) w 22 9 5 a c [] Tryd.underlying22 Tryd.underlying5 Tryd.underlying9 (fun j hj => by simp at hj)
  · obtain ⟨g, rfl, _, _⟩ := own_some h (List.length_pos_iff.2 hb)
    exact run_convert_bytes_back (P := Tryd.prog) w 22 9 5 ⟨g, 0, none⟩ c b Tryd.underlying22 Tryd.underlying5 Tryd.underlying9 (fun j hj => by
      rw [add_mk, Nat.zero_add]
      exact (ownsRow_cell h (by simp [byteCells, hj])).1)
set_option maxRecDepth 200000 in
set_option maxHeartbeats 8000000 in
theorem law3_any (A : Option Addr) (n c : Nat) (b s : List UInt8) (w : World) (hr : Reads w.heap.size 5 w (.slice A n c) b) (hc : c ≤ maxLen) (hs : s.length ≤ 9223372036854775807) (htab : Lib.TabIs Tryd.prog w "internal/strconv.uint64pow10" .u64 Lib.pow10Tab) :
    Calls Tryd.prog 3 #[.slice A n c, .string ⟨s.toArray⟩] w fun e w' => e = .returned (.bool true) ∧ Below w.heap.size w w' := by
  obtain ⟨rfl, hbc, hrd⟩ := RD.of_reads hr
  have HT := Lib.hid (Lib.tabBelow_of_tabIs htab)
  have hbl : (b.take 1500).length = min b.length 1500 := by rw [List.length_take]; omega
  have hcb := cutBytes_any A b.length c w hbc hc
  rw [← hbl] at hcb
  have hct := cutText_any s 200 w hs
  have HR := Lib.hid (hrd.take 1500)
  have hb2 : (b.take 1500).length ≤ 1500 := by rw [hbl]; omega
  have hbc2 : (b.take 1500).length ≤ c := by rw [hbl]; omega
  have hs2 : (s.take 200).length ≤ 200 := by rw [List.length_take]; omega
  have Hcb := Lib.hid hcb
  have Hct := Lib.hid hct
  clear hr hrd htab hcb hct hbl hbc hc hs
  generalize b.take 1500 = b1 at *
  generalize s.take 200 = s1 at *
  have hu1 : ∀ W, Hid (Calls Tryd.prog 7 #[.string ⟨s1.toArray⟩] W fun e w' => UnRes W (uhS s1) e w') := fun W => Lib.hid (unhex_any s1 W (by omega))
  have hu2 : ∀ W, Hid (Calls Tryd.prog 8 #[.string ⟨s1.toArray⟩] W fun e w' => UnRes W (uhS s1) e w') := fun W => Lib.hid (runhex_any s1 W (by omega))
  have hh1 : ∀ W, Below w.heap.size w W → Hid (Calls Tryd.prog 9 #[.slice A b1.length c] W fun e w' => e = .returned (.string ⟨(hexS b1).toArray⟩) ∧ Below W.heap.size W w') := fun W hW => Lib.hid (hexg_any b1 A c W (RD.below HR.out hW) hbc2 (by omega) (HT.out W hW))
  have hh2 : ∀ W, Below w.heap.size w W → Hid (Calls Tryd.prog 10 #[.slice A b1.length c] W fun e w' => e = .returned (.string ⟨(hexS b1).toArray⟩) ∧ Below W.heap.size W w') := fun W hW => Lib.hid (rhexg_any b1 A c W (RD.below HR.out hW) hbc2 (by omega))
  have hal : ∀ W, Below w.heap.size w W → Hid (Calls Tryd.prog 11 #[] W fun e w' => e = .returned (.bool true) ∧ Below W.heap.size W w') := fun W hW => Lib.hid (alive_any W (HT.out W hW))
  have Hh1 := Lib.hid hh1
  have Hh2 := Lib.hid hh2
  have Hal := Lib.hid hal
  have Hu1 := Lib.hid hu1
  have Hu2 := Lib.hid hu2
  clear hh1 hh2 hal hu1 hu2 hb2 hs2
  generalize hexS b1 = hx1 at *
  cases hu : uhS s1 with
  | bad i =>
    rw [hu] at Hu1 Hu2
    clear hu
    have hnil : ∀ W, (convert 22 9 (.slice none 0 0)).run Tryd.prog W = .ok (.string ⟨#[]⟩) W := fun W => Lib.run_convert_nil_bytes (P := Tryd.prog) W 22 9 5 0 Tryd.underlying22 Tryd.underlying5 Tryd.underlying9
    go_enter Tryd.func3, Tryd.ntmps3
    go_wp2_with (fail)
    refine Hcb.out.mono ?_
    rintro e w2 ⟨rfl, rfl⟩
    go_wp2_with (fail)
    refine Hct.out.mono ?_
    rintro e w2 ⟨rfl, rfl⟩
    go_wp2_with (fail)
    refine ((Hu1.out _).out).mono ?_
    rintro e w3 ⟨hb3, rfl⟩
    have Hb3 := Lib.hid hb3
    clear hb3
    go_wp2_with (fail)
    refine ((Hu2.out _).out).mono ?_
    rintro e w4 ⟨hb4, rfl⟩
    have Hb4 := Lib.hid (Hb3.out.trans (hb4.mono Hb3.out.size))
    clear hb4
    go_wp2_with (fail)
    refine ((Hh1.out _ Hb4.out).out).mono ?_
    rintro e w5 ⟨rfl, hb5⟩
    have Hb5 := Lib.hid (Hb4.out.trans (hb5.mono Hb4.out.size))
    clear hb5
    go_wp2_with (fail)
    refine ((Hh2.out _ Hb5.out).out).mono ?_
    rintro e w6 ⟨rfl, hb6⟩
    have Hb6 := Lib.hid (Hb5.out.trans (hb6.mono Hb5.out.size))
    clear hb6
    go_wp2_with (fail)
    refine ((Hal.out _ Hb6.out).out).mono ?_
    rintro e w7 ⟨rfl, hb7⟩
    have Hb7 := Lib.hid (Hb6.out.trans (hb7.mono Hb6.out.size))
    clear hb7
    go_wp2
    go_ret
    exact ⟨rfl, Hb7.out⟩
  | ok x =>
    rw [hu] at Hu1 Hu2
    clear hu
    go_enter Tryd.func3, Tryd.ntmps3
    go_wp2_with (fail)
    refine Hcb.out.mono ?_
    rintro e w2 ⟨rfl, rfl⟩
    go_wp2_with (fail)
    refine Hct.out.mono ?_
    rintro e w2 ⟨rfl, rfl⟩
    go_wp2_with (fail)
    refine ((Hu1.out _).out).mono ?_
    rintro e w3 ⟨hb3, A1, c1, rfl, ho1⟩
    have Hb3 := Lib.hid hb3
    have Ho1 := Lib.hid ho1
    clear hb3 ho1
    go_wp2_with (fail)
    refine ((Hu2.out _).out).mono ?_
    rintro e w4 ⟨hb4, A2, c2, rfl, ho2⟩
    have Hb4 := Lib.hid (Hb3.out.trans (hb4.mono Hb3.out.size))
    have Ho1' := Lib.hid (ownsRow_keep (F := []) Ho1.out (Keep.of_below hb4) (fun _ _ => List.not_mem_nil))
    have Ho2 := Lib.hid ho2
    clear hb4 ho2 Ho1
    go_wp2_with (fail)
    refine ((Hh1.out _ Hb4.out).out).mono ?_
    rintro e w5 ⟨rfl, hb5⟩
    have Hb5 := Lib.hid (Hb4.out.trans (hb5.mono Hb4.out.size))
    have Ho1 := Lib.hid (ownsRow_keep (F := []) Ho1'.out (Keep.of_below hb5) (fun _ _ => List.not_mem_nil))
    have Ho2' := Lib.hid (ownsRow_keep (F := []) Ho2.out (Keep.of_below hb5) (fun _ _ => List.not_mem_nil))
    clear hb5 Ho1' Ho2
    go_wp2_with (fail)
    refine ((Hh2.out _ Hb5.out).out).mono ?_
    rintro e w6 ⟨rfl, hb6⟩
    have Hb6 := Lib.hid (Hb5.out.trans (hb6.mono Hb5.out.size))
    have hw1 := ownsRow_keep Ho1.out (Keep.of_below hb6) (F := []) (fun _ _ => List.not_mem_nil)
    have hv1 := bytes_back A1 c1 x _ w6 hw1
    have hw2 := ownsRow_keep Ho2'.out (Keep.of_below hb6) (F := []) (fun _ _ => List.not_mem_nil)
    have hv2 := bytes_back A2 c2 x _ w6 hw2
    clear hw1 hw2
    clear hb6 Ho1 Ho2'
    go_wp2_with (fail)
    refine ((Hal.out _ Hb6.out).out).mono ?_
    rintro e w7 ⟨rfl, hb7⟩
    have Hb7 := Lib.hid (Hb6.out.trans (hb7.mono Hb6.out.size))
    clear hb7
    go_wp2
    go_ret
    exact ⟨rfl, Hb7.out⟩
end Go.Proofs.YtopfbbnpbobhaaaDoor
