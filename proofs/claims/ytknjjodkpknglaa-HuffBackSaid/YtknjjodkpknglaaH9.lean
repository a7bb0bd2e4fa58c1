/- Lengths, walked: the depths of counts, halved till none is too deep. -/
import Derived.Test.YtknjjodkpknglaaH8
set_option linter.unusedVariables false
set_option linter.unusedSimpArgs false
namespace Go.Huf
def toI (l : List Nat) : List Int := l.map fun (k : Nat) => (k : Int)
theorem okC_half {cs : List Int} (h : okC cs) : okC (cs.map half) := by
  refine ⟨by rw [List.length_map]; exact h.1, fun n hn => ?_⟩
  obtain ⟨m, hm, rfl⟩ := List.mem_map.1 hn
  have := h.2 m hm
  obtain ⟨h1, h2, _⟩ := half_le this.1
  omega
end Go.Huf
namespace Go.Proofs.Ytknjjodkpknglaa
open Go.RowKit Go.Sal Go.Huf
theorem lengths_bad (cs : List Int) (A : Option Addr) (c : Nat) (w : World) (hs : ISrc w A cs) (hn : cs.length ≤ 100000000) (h : ¬ okC cs) :
    Calls Try.prog 12 #[.slice A cs.length c] w fun e w' => e = .returned (.tuple #[.slice none 0 0, .int .i64 50]) ∧ w = w' := by
  have hb := Lib.hid (count_bad cs A c w hs hn h)
  clear hs h
  go_enter Try.func12, Try.ntmps12
  go_wp2_with (go_at_call 31; refine hb.out.mono ?_; rintro e w' ⟨rfl, rfl⟩)
  go_ret2
  exact ⟨rfl, rfl⟩
def LnI (w : World) (cs0 : List Int) (AL : Option Addr) (cL : Nat) (f : Nat) (cs : List Int) (wr : World) : Prop :=
  wr.ownsRow w.heap.size 3 1 (.slice AL cs0.length cL) cs0.length (inI cs) ∧ Keep [] w wr ∧ lensF f cs = lens cs0 ∧ cs.sum.toNat ≤ f ∧ cs.length = cs0.length ∧ okC cs

set_option maxRecDepth 20000 in
set_option maxHeartbeats 4000000 in
theorem lengths_ok (cs : List Int) (A : Option Addr) (c : Nat) (w : World) (hs : ISrc w A cs) (h : okC cs) :
    Calls Try.prog 12 #[.slice A cs.length c] w fun e w' => ∃ AO cO, e = .returned (.tuple #[.slice AO cs.length cO, .int .i64 0]) ∧
      w'.ownsRow w.heap.size 3 1 (.slice AO cs.length cO) cs.length (inI (toI (lens cs))) ∧ Keep [] w w' := by
  have hl512 := h.1
  have hct := Lib.hid (count_ok cs A c w hs h)
  have hcl := Lib.hid (clone_ints cs A c w hs (by omega))
  have H := Lib.hid h
  clear hs h
  go_enter Try.func12, Try.ntmps12
  go_wp2_with (first
    | (go_at_call 31; refine hct.out.mono ?_; rintro e w' ⟨rfl, rfl⟩)
    | (go_at_call 32; refine hcl.out.mono ?_; rintro e w1 ⟨AL, cL, rfl, hown1, hk1⟩))
  have H0 : Hid (LnI w cs AL cL cs.sum.toNat cs w1) := Lib.hid ⟨hown1, hk1, rfl, Nat.le_refl _, rfl, H.out⟩
  clear hown1 hk1 hct hcl
  go_loopg [6] cs.sum.toNat (fun gk a wr => ∃ (f : Nat) (cs' : List Int), f ≤ gk ∧ Hid (LnI w cs AL cL f cs' wr))
  case atStart => exact ⟨_, _, Nat.le_refl _, H0⟩
  case round =>
    obtain ⟨f, cs', hf, hI⟩ := hrel
    clear H0
    obtain ⟨hown, hkp, hfin, hsum, hlen, hok⟩ := hI.out
    have hcw := hkp.size
    have hd := deep_any cs' AL cL wr (ISrc.of_own hown) (by have := hok.1; omega) hok.2
    rw [hlen] at hd
    have Hd := Lib.hid hd
    have HI := Lib.hid hI.out
    have hmost : dMost cs' cs.length ≤ 10000 := by
      refine dMost_le cs' 10000 (fun i hi => ?_) cs.length (by omega)
      have h9 := tree_sz cs'
      have h8 := upN_le (tree cs') (tree cs').length (up1 (tree cs') (leaf cs' i))
      unfold dAt
      split <;> omega
    clear hI hown hkp hd
    go_wp2_with (go_at_call 33; refine Hd.out.mono ?_; rintro e w2 ⟨go, rfl, hown2, hk2⟩; have Hown2 := Lib.hid hown2; have Hk2 := Lib.hid hk2; clear hown2 hk2)
    · -- none is too deep
      rename_i hle
      go_ret2
      obtain ⟨hown, hkp, _⟩ := HI.out
      have hres : lens cs = depths cs' := by
        rw [← hfin]
        cases f with
        | zero => rfl
        | succ f =>
          rw [lensF, if_pos]
          rw [hlen]
          omega
      refine ⟨some ⟨go, 0, none⟩, cs.length, rfl, ?_, hkp.trans Hk2.out⟩
      rw [hres]
      exact own_le Hown2.out hcw
    · rename_i hgt
      have hd15 : 15 < dMost cs' cs'.length := by rw [hlen]; omega
      have hlt := deep_half (fun n hn => (hok.2 n hn).1) hok.1 hd15
      have hs0 := (sum_half cs' (fun n hn => (hok.2 n hn).1)).1
      have hs1 := (sum_half (cs'.map half) (fun n hn => ((okC_half hok).2 n hn).1)).1
      obtain ⟨f', rfl⟩ : ∃ f', f = f' + 1 := ⟨f - 1, by omega⟩
      have hfin' : lensF f' (cs'.map half) = lens cs := by
        rw [← hfin, lensF, if_neg (by omega)]
      have Hfin := Lib.hid hfin'
      have Hsum := Lib.hid (show (cs'.map half).sum.toNat ≤ f' by omega)
      have Hok := Lib.hid hok
      have HM : Hid (w2.ownsRow w.heap.size 3 1 (.slice AL cs.length cL) cs.length (inI (mapK half 0 cs')) ∧ Keep [] w w2) := Lib.hid ⟨by rw [mapK_zero]; exact ownsRow_keep HI.out.1 Hk2.out (by simp), HI.out.2.1.trans Hk2.out⟩
      clear hfin hsum hok hd15 hlt hs0 hs1 hfin' hgt Hd
      go_loopw [27] (fun i wr2 => ∃ k : Nat, i = .int .i64 k ∧ k ≤ cs.length ∧ Hid (wr2.ownsRow w.heap.size 3 1 (.slice AL cs.length cL) cs.length (inI (mapK half k cs')) ∧ Keep [] w wr2)) (fun i _ => cs.length - (intOf i).toNat)
      case atStart => exact ⟨0, rfl, by omega, HM⟩
      case round =>
        obtain ⟨k, rfl, hk, hJ⟩ := hrel
        clear HM
        rcases Nat.lt_or_ge k cs.length with hkl | hkl
        · as_aux_lemma =>
            obtain ⟨hown, hkp⟩ := hJ.out
            obtain ⟨g, rfl, hg1, hg2⟩ := own_some hown (by omega)
            have hkl' : k < cs'.length := by omega
            have hk' : k < (mapK half k cs').length := by rw [mapK_len]; exact hkl'
            have hci := inI_cell hown hk'
            rw [mapK_at hkl' hk'] at hci
            obtain ⟨c1, z1⟩ := hci
            have hx := Hok.out.2 _ (List.getElem_mem hkl')
            have hset := inI_set hown hkl (half cs'[k])
            rw [mapK_set hkl'] at hset
            have hskip := fun h => mapK_skip (f := half) hkl' h
            have hwk : IntKind.i64.wrap ((k : Int) + 1) = (k : Int) + 1 := by rw [IntKind.wrap_i64]; omega
            generalize cs'[k] = x at *
            by_cases hp : 0 < x
            · have hh : half x = x.tdiv 2 + 1 := by unfold half; rw [if_pos hp]
              rw [hh] at hset
              obtain ⟨y, hy⟩ : ∃ y, y = x.tdiv 2 := ⟨_, rfl⟩
              have hyb : 0 ≤ y ∧ y ≤ 1073741824 := by rw [hy, Int.tdiv_eq_ediv_of_nonneg hx.1]; omega
              have hq : x.tdiv 2 = y := hy.symm
              rw [hq] at hset
              have hw1 : IntKind.i64.wrap y = y := by rw [IntKind.wrap_i64]; omega
              have hw2 : IntKind.i64.wrap (y + 1) = y + 1 := by rw [IntKind.wrap_i64]; omega
              have HN : Hid ((wr.setCell ⟨g, k, none⟩ (.int .i64 (y + 1))).ownsRow w.heap.size 3 1 (.slice (some ⟨g, 0, none⟩) cs.length cL) cs.length (inI (mapK half (k + 1) cs')) ∧ Keep [] w (wr.setCell ⟨g, k, none⟩ (.int .i64 (y + 1)))) := Lib.hid ⟨hset, hkp.setCell (.inr hg2) _⟩
              clear hJ hown hkp hset hskip hh hy hyb
              go_wp2
              exact ⟨⟨k + 1, by simp, by omega, HN⟩, by simp [intOf]; omega⟩
            · have hh : half x = x := by unfold half; rw [if_neg hp]
              have HN : Hid (wr.ownsRow w.heap.size 3 1 (.slice (some ⟨g, 0, none⟩) cs.length cL) cs.length (inI (mapK half (k + 1) cs')) ∧ Keep [] w wr) := Lib.hid ⟨by rw [hskip hh]; exact hown, hkp⟩
              clear hJ hown hkp hset hskip hh
              go_wp2
              exact ⟨⟨k + 1, by simp, by omega, HN⟩, by simp [intOf]; omega⟩
        · obtain rfl : k = cs.length := by omega
          obtain ⟨hown, hkp⟩ := hJ.out
          have hma : mapK half cs.length cs' = cs'.map half := by rw [← hlen]; exact mapK_all
          rw [hma] at hown
          have HN : Hid (LnI w cs AL cL f' (cs'.map half) wr) := Lib.hid ⟨hown, hkp, Hfin.out, Hsum.out, by rw [List.length_map]; exact hlen, okC_half Hok.out⟩
          clear hJ hown hkp hma
          go_wp2_with fail
          obtain ⟨gm, rfl⟩ : ∃ gm, gk = gm + 1 := ⟨gk - 1, by omega⟩
          go_roundg gm
          case measure => omega
          case rel => exact ⟨f', _, by omega, HN⟩
end Go.Proofs.Ytknjjodkpknglaa
