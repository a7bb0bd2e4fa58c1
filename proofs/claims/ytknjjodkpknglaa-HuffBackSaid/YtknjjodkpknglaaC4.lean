/- The reference's Codes, walked. -/
import Derived.Test.YtknjjodkpknglaaC2
import Derived.Test.YtknjjodkpknglaaC3
set_option linter.unusedVariables false
set_option linter.unusedSimpArgs false
namespace Go.Huf
/-- the row of codes while they are laid: those of length below n, and the first i of length n -/
def rRow (ls : List Int) (n i : Nat) : List Nat := (List.range ls.length).map fun s => if ahead ls n i s then codeV ls s else 0
theorem rRow_len (ls : List Int) (n i : Nat) : (rRow ls n i).length = ls.length := by simp [rRow]
theorem rRow_zero (ls : List Int) : rRow ls 1 0 = List.replicate ls.length 0 := by
  apply List.ext_getElem
  · simp [rRow]
  · intro i h1 h2
    simp only [rRow, List.getElem_map, List.getElem_range, List.getElem_replicate]
    split
    · rename_i h
      unfold codeV
      rw [if_neg (by unfold ahead at h; omega)]
    · rfl
theorem rRow_end (ls : List Int) (n : Nat) : rRow ls n ls.length = rRow ls (n + 1) 0 := by
  unfold rRow
  refine List.map_congr_left (fun s hs => ?_)
  have hs' : s < ls.length := by simpa using hs
  have : ahead ls n ls.length s ↔ ahead ls (n + 1) 0 s := by unfold ahead; omega
  simp only [this]
theorem rRow_all {ls : List Int} (hg : good ls) : rRow ls 16 0 = codesL ls := by
  unfold rRow codesL
  refine List.map_congr_left (fun s hs => ?_)
  rw [if_pos]
  have := ln_good hg s
  unfold ahead
  omega
theorem rRow_set {ls : List Int} {n i : Nat} (hi : i < ls.length) (h : ln ls i = n) : (rRow ls n i).set i (codeV ls i) = rRow ls n (i + 1) := by
  apply List.ext_getElem
  · simp [rRow]
  · intro s h1 h2
    rw [List.getElem_set]
    simp only [rRow, List.getElem_map, List.getElem_range]
    by_cases hs : i = s
    · subst hs
      rw [if_pos rfl, if_pos (show ahead ls n (i + 1) i from .inr ⟨h, by omega⟩)]
    · rw [if_neg hs]
      have : ahead ls n (i + 1) s ↔ ahead ls n i s := by unfold ahead; omega
      simp only [this]
theorem rRow_skip {ls : List Int} {n i : Nat} (h : ln ls i ≠ n) : rRow ls n (i + 1) = rRow ls n i := by
  unfold rRow
  refine List.map_congr_left (fun s hs => ?_)
  have : ahead ls n (i + 1) s ↔ ahead ls n i s := by
    unfold ahead
    by_cases hs : s = i
    · subst hs; omega
    · omega
  simp only [this]
def nextV (ls : List Int) (n i : Nat) : Nat := preN ls n i / p2 n
theorem nextV_first (ls : List Int) : nextV ls 1 0 = 0 := by unfold nextV; rw [preN_first]; simp
theorem nextV_code {ls : List Int} {n i : Nat} (hn : 0 < n) (h : ln ls i = n) : codeV ls i = nextV ls n i := by
  unfold codeV nextV
  rw [if_pos (by omega), h]
  simp
theorem nextV_step {ls : List Int} {n i : Nat} (hn : 0 < n) (hi : i < ls.length) : nextV ls n (i + 1) = nextV ls n i + (if ln ls i = n then 1 else 0) := by
  unfold nextV
  rw [preN_step hn hi]
  split
  · rw [Nat.add_div_right _ (p2_pos n)]
  · rfl
theorem nextV_end {ls : List Int} {n : Nat} (h : n < 15) : nextV ls (n + 1) 0 = nextV ls n ls.length * 2 := by
  unfold nextV
  rw [preN_end]
  have h1 : p2 n ∣ preN ls (n + 1) 0 := by rw [← preN_end]; exact preN_dvd
  rw [p2_half h] at h1 ⊢
  obtain ⟨q, hq⟩ := h1
  rw [hq, Nat.mul_div_cancel_left _ (by have := p2_pos (n + 1); omega), show 2 * p2 (n + 1) * q = p2 (n + 1) * (q * 2) by rw [Nat.mul_comm 2, Nat.mul_assoc, Nat.mul_comm 2], Nat.mul_div_cancel_left _ (p2_pos _)]
theorem nextV_small {ls : List Int} (h : okL ls) (n i : Nat) : nextV ls n i ≤ 32768 := by
  have h1 := preN_room (ls := ls) (n := n) (i := i)
  have h2 := ok_room h
  have : nextV ls n i ≤ preN ls n i := Nat.div_le_self _ _
  omega
end Go.Huf
namespace Go.Proofs.Ytknjjodkpknglaa
open Go.RowKit Go.Sal Go.Huf
theorem rcodes_bad (ls : List Int) (A : Option Addr) (c : Nat) (w : World) (hs : ISrc w A ls) (hn : ls.length ≤ 100000000) (h : ¬ okL ls) :
    Calls Try.prog 23 #[.slice A ls.length c] w fun e w' => e = .returned (.tuple #[.slice none 0 0, .int .i64 51]) ∧ w = w' := by
  have hc := rcheck_any ls A c w hs (by omega)
  have he : chkE ls = 51 := by unfold chkE; rw [if_neg h]
  rw [he] at hc
  have Hc := Lib.hid hc
  clear hs h hc he
  go_enter Try.func23, Try.ntmps23
  go_wp2_with (go_at_call 20; refine Hc.out.mono ?_; rintro e w' ⟨rfl, rfl⟩)
  go_ret2
  exact ⟨rfl, rfl⟩
def RCI (w w2 : World) (ls : List Int) (g : Nat) (n i : Nat) (wr : World) : Prop :=
  wr.ownsRow w.heap.size 44 1 (.slice (some ⟨g, 0, none⟩) ls.length ls.length) ls.length (inU (rRow ls n i)) ∧ Keep [g] w2 wr

set_option maxRecDepth 20000 in
set_option maxHeartbeats 4000000 in
theorem rcodes_ok (ls : List Int) (A : Option Addr) (c : Nat) (w : World) (hs : ISrc w A ls) (h : okL ls) :
    Calls Try.prog 23 #[.slice A ls.length c] w fun e w' => ∃ AO cO, e = .returned (.tuple #[.slice AO ls.length cO, .int .i64 0]) ∧
      w'.ownsRow w.heap.size 44 1 (.slice AO ls.length cO) ls.length (inU (codesL ls)) ∧ Keep [] w w' := by
  have hl5 := h.1
  have hc := rcheck_any ls A c w hs (by omega)
  have he : chkE ls = 0 := by unfold chkE; rw [if_pos h]
  rw [he] at hc
  have Hc := Lib.hid hc
  have Hs := Lib.hid hs
  have Hok := Lib.hid h
  clear hs h hc he
  go_enter Try.func23, Try.ntmps23
  go_wp2_with (first
    | (go_at_call 20; refine Hc.out.mono ?_; rintro e w1 ⟨rfl, rfl⟩)
    | (at_make; refine wpList_make_u16 w.heap.size ls.length rfl (.tmp 15) (.tmp 15) rfl rfl rfl (by omega) (Nat.le_refl _) ?_; intro w2 hown2 hk2; have Hown2 := Lib.hid hown2; have Hk2 := Lib.hid hk2; clear hown2 hk2))
  obtain ⟨g, hg⟩ : ∃ g, g = w.heap.size := ⟨_, rfl⟩
  have Hg := Lib.hid hg
  have H0 : Hid (RCI w w2 ls g 1 0 w2) := Lib.hid ⟨by rw [rRow_zero, hg]; exact Hown2.out, Keep.refl _ _⟩
  rw [← hg]
  clear Hown2 hg Hc
  go_loopw [6, 7] (fun nx vn wr => ∃ n x : Nat, vn = .int .i64 n ∧ 1 ≤ n ∧ n ≤ 16 ∧ nx = .int .i64 x ∧ Hid (n ≤ 15 → x = nextV ls n 0) ∧ Hid (RCI w w2 ls g n 0 wr)) (fun _ vn _ => 16 - (intOf vn).toNat)
  case atStart => exact ⟨1, 0, rfl, by omega, by omega, rfl, Lib.hid (fun _ => (nextV_first ls).symm), H0⟩
  case round =>
    obtain ⟨n, x, rfl, hn1, hn16, rfl, hx, hI⟩ := hrel
    clear H0
    rcases Nat.lt_or_ge 15 n with h15 | h15
    · obtain rfl : n = 16 := by omega
      have HR : Hid (wr.ownsRow w.heap.size 44 1 (.slice (some ⟨g, 0, none⟩) ls.length ls.length) ls.length (inU (codesL ls))) := by
        rw [← rRow_all Hok.out.2.1]; exact Lib.hid hI.out.1
      have HK : Hid (Keep [] w wr) := Lib.hid (Hk2.out.step hI.out.2 (fun i hi => by have := Hg.out; simp at hi; right; omega))
      clear hI hx
      go_wp2
      go_ret2
      exact ⟨_, _, rfl, HR.out, HK.out⟩
    · as_aux_lemma =>
        have hni : (n : Int) ≤ 15 := by omega
        have hxe := hx.out h15
        subst hxe
        clear hx
        have hwn : IntKind.i64.wrap ((n : Int) + 1) = (n : Int) + 1 := by rw [IntKind.wrap_i64]; omega
        go_wp2
        go_loopw [6, 8] (fun nx vi wr => ∃ i x : Nat, vi = .int .i64 i ∧ i ≤ ls.length ∧ nx = .int .i64 x ∧ Hid (x = nextV ls n i) ∧ Hid (RCI w w2 ls g n i wr)) (fun _ vi _ => ls.length - (intOf vi).toNat)
        case atStart => exact ⟨0, _, rfl, by omega, rfl, Lib.hid rfl, hI⟩
        case round =>
          obtain ⟨i, x, rfl, hi, rfl, hxe, hJ⟩ := hrel
          clear hI
          have hxs : x ≤ 32768 := by rw [hxe.out]; exact nextV_small Hok.out n i
          rcases Nat.lt_or_ge i ls.length with hil | hil
          · as_aux_lemma =>
              obtain ⟨hown, hkp⟩ := hJ.out
              obtain ⟨gs, o, rfl, hgs, hcs⟩ := Hs.out i hil
              have hgg := Hg.out
              have d0 := ((hkp.cell (p := ⟨gs, o + i, none⟩) (Nat.lt_of_lt_of_le hgs Hk2.out.size) (by simpa using (show gs ≠ g by omega))).trans (Hk2.out.cell (p := ⟨gs, o + i, none⟩) hgs (by simp))).trans hcs
              have hset := inU_set hown hil (codeV ls i)
              obtain ⟨m1, m2⟩ := inU_cell hown (i := i) (by rw [rRow_len]; exact hil)
              have hle := ln_eq hil
              have hcv := codeV_small Hok.out hil
              have hst := nextV_step (ls := ls) (n := n) (by omega) hil
              have hwi : IntKind.i64.wrap ((i : Int) + 1) = (i : Int) + 1 := by rw [IntKind.wrap_i64]; omega
              have hii : (i : Int) < ls.length := by omega
              generalize hy : ls[i] = y at *
              by_cases he : y = (n : Int)
              · have hln : ln ls i = n := by rw [hle]; exact he
                have hcx : codeV ls i = x := by rw [nextV_code (by omega) hln]; exact hxe.out.symm
                have hset2 := hset
                rw [rRow_set hil hln, hcx] at hset2
                rw [if_pos hln, ← hxe.out] at hst
                rw [hcx] at hcv
                have HN : Hid (RCI w w2 ls g n (i + 1) (wr.setCell ⟨g, i, none⟩ (.int .u16 (x : Int)))) := Lib.hid ⟨hset2, hkp.setCell (.inl (by simp)) _⟩
                have Hst := Lib.hid hst
                have hwx : IntKind.i64.wrap ((x : Int) + 1) = (x : Int) + 1 := by rw [IntKind.wrap_i64]; omega
                have hwu : IntKind.u16.wrap (x : Int) = (x : Int) := by rw [IntKind.wrap_u16]; omega
                subst he
                clear hJ hown hkp hset hset2 hle hst hln hcx hy hxe hgg hcs
                go_wp2
                exact ⟨⟨i + 1, x + 1, by simp, by omega, by simp, Lib.hid Hst.out.symm, HN⟩, by simp [intOf]; omega⟩
              · have hln : ln ls i ≠ n := by rw [hle]; exact he
                have hei : (y == (n : Int)) = false := by simpa using he
                rw [if_neg hln, ← hxe.out] at hst
                have HN : Hid (RCI w w2 ls g n (i + 1) wr) := by
                  unfold RCI
                  rw [rRow_skip hln]
                  exact Lib.hid ⟨hown, hkp⟩
                have Hst := Lib.hid hst
                clear hJ hown hkp hset hle hst hln he hy hxe hgg hcs
                go_wp2
                exact ⟨⟨i + 1, x, by simp, by omega, rfl, Lib.hid (by have := Hst.out; omega), HN⟩, by simp [intOf]; omega⟩
          · obtain rfl : i = ls.length := by omega
            have HN : Hid (RCI w w2 ls g (n + 1) 0 wr) := by
              have := hJ.out
              unfold RCI at *
              rw [rRow_end] at this
              exact Lib.hid this
            have Hnx : Hid (n + 1 ≤ 15 → x * 2 = nextV ls (n + 1) 0) := Lib.hid (fun h => by rw [nextV_end (by omega), hxe.out])
            have hw2 : IntKind.i64.wrap ((x : Int) * 2) = ((x * 2 : Nat) : Int) := by rw [IntKind.wrap_i64]; omega
            clear hJ hxe
            go_wp2_with fail
            go_roundw
            case rel => exact ⟨n + 1, x * 2, by simp, by omega, by omega, by simp, Hnx, HN⟩
            case measure => simp [intOf]; omega
end Go.Proofs.Ytknjjodkpknglaa
