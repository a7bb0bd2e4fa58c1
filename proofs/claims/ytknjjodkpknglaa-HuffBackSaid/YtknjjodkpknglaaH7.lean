/- deep, walked: in how many nodes each symbol stands, and the most of these. -/
import Derived.Test.YtknjjodkpknglaaH6
set_option linter.unusedVariables false
set_option linter.unusedSimpArgs false
namespace Go.Huf
theorem upN_le (l : List (Int × Int)) : ∀ (f : Nat) (k : Int), upN l f k ≤ f
  | 0, _ => Nat.le_refl _
  | f + 1, k => by
    rw [upN]
    have := upN_le l f (up1 l k.toNat)
    split <;> omega
def mUp (L : Nat) (k : Int) : Nat := if k < 0 then 0 else L - k.toNat
end Go.Huf
namespace Go.Proofs.Ytknjjodkpknglaa
open Go.RowKit Go.Sal Go.Huf
def DI (base go : Nat) (cs : List Int) (w1 : World) (k : Nat) (wr : World) : Prop :=
  wr.ownsRow base 3 1 (.slice (some ⟨go, 0, none⟩) cs.length cs.length) cs.length (inI (dRow cs k)) ∧ Keep [go] w1 wr
/-- while one symbol's way up is gone -/
def DU (base go : Nat) (cs : List Int) (w1 : World) (k D : Nat) (kk : Int) (c : Nat) (wr : World) : Prop :=
  wr.ownsRow base 3 1 (.slice (some ⟨go, 0, none⟩) cs.length cs.length) cs.length (inI ((dRow cs k).set k (c : Int))) ∧ Keep [go] w1 wr ∧
    ∃ f, (kk = -1 ∨ ∃ t : Nat, kk = t ∧ t < (tree cs).length ∧ (tree cs).length - t ≤ f) ∧ c + upN (tree cs) f kk = D

set_option maxRecDepth 20000 in
set_option maxHeartbeats 4000000 in
theorem deep_any (cs : List Int) (A : Option Addr) (c : Nat) (w : World) (hs : ISrc w A cs) (hn : cs.length ≤ 600) (hpos : ∀ n ∈ cs, 0 ≤ n ∧ n ≤ 1073741824) :
    Calls Try.prog 33 #[.slice A cs.length c] w fun e w' => ∃ go, e = .returned (.tuple #[.slice (some ⟨go, 0, none⟩) cs.length cs.length, .int .i64 (dMost cs cs.length : Nat)]) ∧
      w'.ownsRow w.heap.size 3 1 (.slice (some ⟨go, 0, none⟩) cs.length cs.length) cs.length (inI ((depths cs).map fun (k : Nat) => (k : Int))) ∧ Keep [] w w' := by
  have Hs := Lib.hid hs
  have Hpos := Lib.hid hpos
  have htree := tree_any cs A c w hs hn hpos
  have Htree := Lib.hid htree
  have hsz := tree_sz cs
  clear hs hpos htree
  go_enter Try.func33, Try.ntmps33
  go_wp2_with (first
    | (go_at_call 41; refine Htree.out.mono ?_; rintro e w0 ⟨AL, cL, rfl, hT, hk0⟩; have HT := Lib.hid hT; have Hk0 := Lib.hid hk0; clear hT hk0)
    | (at_make; refine wpList_make_ints w.heap.size cs.length rfl (.tmp 14) (.tmp 14) rfl rfl rfl (by omega) (Hk0.out.size) ?_; intro w1 hown1 hk1; have Hown1 := Lib.hid hown1; have Hk1 := Lib.hid hk1; clear hown1 hk1))
  obtain ⟨go, hgo⟩ : ∃ go, go = w0.heap.size := ⟨_, rfl⟩
  rw [← hgo] at Hown1 ⊢
  have hgo1 : w.heap.size ≤ go := by rw [hgo]; exact Hk0.out.size
  have HT1 : Hid (w1.ownsRow w.heap.size 76 2 (.slice AL (tree cs).length cL) (tree cs).length ((tree cs).flatMap ncells)) := Lib.hid (ownsRow_keep HT.out Hk1.out (by simp))
  have Hkw : Hid (Keep [] w w1) := Lib.hid (Hk0.out.trans Hk1.out)
  have H0 : Hid (DI w.heap.size go cs w1 0 w1) := Lib.hid ⟨by rw [dRow_zero]; exact Hown1.out, Keep.refl _ _⟩
  have Hne : Hid (∀ i, (Value.slice AL (tree cs).length cL).ownBlock = some i → i ∉ [go]) := Lib.hid (fun i hi => by
    have := own_ne_own HT1.out Hown1.out (by decide) hi
    simp [Value.ownBlock] at this
    simpa using fun e => this e.symm)
  clear HT Hk0 Hk1 Hown1 hgo Htree
  go_loopw [6, 7, 18] (fun at_ most i wr => ∃ k : Nat, i = .int .i64 k ∧ k ≤ cs.length ∧ at_ = .int .i64 (leaf cs k : Nat) ∧ most = .int .i64 (dMost cs k : Nat) ∧ Hid (DI w.heap.size go cs w1 k wr)) (fun _ _ i _ => cs.length - (intOf i).toNat)
  case atStart => exact ⟨0, rfl, by omega, rfl, rfl, H0⟩
  case round =>
    obtain ⟨k, rfl, hk, rfl, rfl, hI⟩ := hrel
    clear H0
    rcases Nat.lt_or_ge k cs.length with hkl | hkl
    · as_aux_lemma =>
        obtain ⟨hown, hkp⟩ := hI.out
        obtain ⟨g, o, rfl, hg, hc⟩ := Hs.out k hkl
        have hgw1 : g < w1.heap.size := Nat.lt_of_lt_of_le hg Hkw.out.size
        have hggo : g ≠ go := by omega
        have d0 := ((hkp.cell (p := ⟨g, o + k, none⟩) hgw1 (by simpa using hggo)).trans (Hkw.out.cell (p := ⟨g, o + k, none⟩) hg (by simp))).trans hc
        have hx0 := Hpos.out _ (List.getElem_mem hkl)
        have hls := nodes0_succ hkl
        have hD : dAt cs k = if cs[k] = 0 then 0 else max (upN (tree cs) (tree cs).length (up1 (tree cs) (leaf cs k))) 1 := by
          unfold dAt
          rw [List.getD_eq_getElem?_getD, List.getElem?_eq_getElem hkl, Option.getD_some]
        have hll := fun hp => leaf_lt hkl hp
        have hms : dMost cs (k + 1) = max (dMost cs k) (dAt cs k) := rfl
        have hdsk := dRow_skip hkl
        have hdset := dRow_succ hkl
        have hwk : IntKind.i64.wrap ((k : Int) + 1) = (k : Int) + 1 := by rw [IntKind.wrap_i64]; omega
        generalize hx : cs[k] = x at *
        by_cases hz : x = 0
        · subst hz
          have hls : leaf cs (k + 1) = leaf cs k := by rw [hls]; simp
          rw [if_pos rfl] at hD
          rw [hD, Nat.max_zero] at hms
          have HF : Hid (DI w.heap.size go cs w1 (k + 1) wr) := Lib.hid ⟨by rw [hdsk hD]; exact hown, hkp⟩
          have Hls := Lib.hid hls
          have Hms := Lib.hid hms
          clear hI hown hkp hc hls hD hll hms hdsk hdset hx hx0
          go_wp2
          exact ⟨⟨k + 1, by simp, by omega, by rw [Hls.out], by rw [Hms.out], HF⟩, by simp [intOf]; omega⟩
        · have hxp : 0 < x := by omega
          rw [if_pos hxp] at hls
          rw [if_neg hz] at hD
          have hlt := hll hxp
          have hTr := ownsRow_keep HT1.out hkp Hne.out
          obtain ⟨gT, rfl, _, _⟩ := own_some hTr (by omega)
          have hxz : (x == 0) = false := by simpa using hz
          obtain ⟨L, hL⟩ : ∃ L, L = leaf cs k := ⟨_, rfl⟩
          rw [← hL] at hlt hls hD ⊢
          have uL := (nd_cell hTr hlt).2.1
          have hup0 := tree_ups (cs := cs) (fun n hn => (Hpos.out n hn).1) L hlt
          obtain ⟨D, hDd⟩ : ∃ D, D = upN (tree cs) (tree cs).length (up1 (tree cs) L) := ⟨_, rfl⟩
          rw [← hDd] at hD
          have hDl : D ≤ (tree cs).length := by rw [hDd]; exact upN_le _ _ _
          have H1 : Hid (DU w.heap.size go cs w1 k D (up1 (tree cs) L) 0 wr) := by
            refine Lib.hid ⟨?_, hkp, (tree cs).length, ?_, by rw [hDd]; simp⟩
            · have e : (dRow cs k).set k ((0 : Nat) : Int) = dRow cs k := by
                unfold dRow
                obtain ⟨m, hm⟩ : ∃ m, cs.length - k = m + 1 := ⟨cs.length - k - 1, by omega⟩
                rw [List.set_append_right _ _ (by simp), hm, List.replicate_succ]
                simp
              rw [e]; exact hown
            · rcases hup0 with h | ⟨t, h1, h2, h3⟩
              · exact .inl h
              · exact .inr ⟨t, h1, h3, by omega⟩
          have Hls := Lib.hid hls
          have Hms := Lib.hid hms
          have HD := Lib.hid hD
          have Hset := Lib.hid hdset
          clear hI hown hkp hc hls hD hll hms hdsk hdset hx hx0 hTr hup0 hDd hL
          generalize up1 (tree cs) L = u0 at *
          go_wp2_with fail
          clear uL d0
          go_loopw [10] (fun kv wr => ∃ (kk : Int) (cc : Nat), kv = .int .i64 kk ∧ (kk = -1 ∨ 0 ≤ kk) ∧ cc ≤ D ∧ Hid (DU w.heap.size go cs w1 k D kk cc wr)) (fun kv _ => mUp (tree cs).length (intOf kv))
          case atStart => exact ⟨u0, 0, rfl, by obtain ⟨_, _, f, h, _⟩ := H1.out; rcases h with h | ⟨t, h, _⟩ <;> omega, by omega, H1⟩
          case round =>
            obtain ⟨kk, cc, rfl, hkk, hcc, hU⟩ := hrel
            clear H1
            obtain ⟨hown, hkp, f, hu, hsum⟩ := hU.out
            have hlen : ((dRow cs k).set k (cc : Int)).length = cs.length := by rw [List.length_set]; exact dRow_len (by omega)
            have hci := inI_cell hown (i := k) (by rw [hlen]; exact hkl)
            rw [List.getElem_set_self] at hci
            obtain ⟨c1, z1⟩ := hci
            by_cases hneg : kk = -1
            · subst hneg
              have hDc : cc = D := by
                cases f with
                | zero => simpa [upN] using hsum
                | succ f => simpa [upN] using hsum
              subst hDc
              have hset := inI_set hown hkl (max (cc : Int) 1)
              have hself := inI_cell hset (i := k) (by rw [List.length_set, hlen]; exact hkl)
              rw [List.getElem_set_self] at hself
              obtain ⟨c2, z2⟩ := hself
              have hmx : max (cc : Int) 1 = (dAt cs k : Int) := by rw [HD.out]; omega
              have HF : Hid (DI w.heap.size go cs w1 (k + 1) (wr.setCell ⟨go, k, none⟩ (.int .i64 (max (cc : Int) 1)))) := by
                refine Lib.hid ⟨?_, hkp.setCell (.inl (by simp)) _⟩
                rw [List.set_set, Hset.out _ hmx] at hset
                exact hset
              have Hmm : Hid (max (dMost cs k : Int) (max (cc : Int) 1) = (dMost cs (k + 1) : Int)) := Lib.hid (by rw [hmx, Hms.out]; omega)
              have hwL : IntKind.i64.wrap ((L : Int) + 1) = (L : Int) + 1 := by rw [IntKind.wrap_i64]; omega
              clear hU hown hkp hu hsum hlen hset hmx
              go_wp2
              exact ⟨⟨k + 1, by simp, by omega, by rw [Hls.out]; simp, by rw [Hmm.out], HF⟩, by simp [intOf]; omega⟩
            · rcases hu with hu | ⟨t, rfl, ht1, ht2⟩
              · exact absurd hu hneg
              · have hTr := ownsRow_keep HT1.out hkp Hne.out
                have uT := (nd_cell hTr ht1).2.1
                obtain ⟨f', rfl⟩ : ∃ f', f = f' + 1 := ⟨f - 1, by omega⟩
                rw [upN, if_neg (by omega), Int.toNat_natCast] at hsum
                have hupT := tree_ups (cs := cs) (fun n hn => (Hpos.out n hn).1) t ht1
                have hset := inI_set hown hkl ((cc : Int) + 1)
                have HF : Hid (DU w.heap.size go cs w1 k D (up1 (tree cs) t) (cc + 1) (wr.setCell ⟨go, k, none⟩ (.int .i64 ((cc : Int) + 1)))) := by
                  refine Lib.hid ⟨?_, hkp.setCell (.inl (by simp)) _, f', ?_, by omega⟩
                  · rw [List.set_set] at hset
                    simpa using hset
                  · rcases hupT with h | ⟨t', h1, h2, h3⟩
                    · exact .inl h
                    · exact .inr ⟨t', h1, h3, by omega⟩
                have hmu : Hid (mUp (tree cs).length (up1 (tree cs) t) < mUp (tree cs).length (t : Int)) := Lib.hid (by
                  unfold mUp
                  rcases hupT with h | ⟨t', h1, h2, h3⟩
                  · rw [h, if_pos (by omega), if_neg (by omega)]; simp; omega
                  · rw [h1, if_neg (by omega), if_neg (by omega)]; simp; omega)
                have hk2 : up1 (tree cs) t = -1 ∨ 0 ≤ up1 (tree cs) t := by
                  rcases hupT with h | ⟨t', h1, h2, h3⟩
                  · exact .inl h
                  · right; omega
                have hcD : cc + 1 ≤ D := by omega
                have uT2 : (wr.setCell ⟨go, k, none⟩ (.int .i64 ((cc : Int) + 1))).cell? ⟨gT, t * 2 + 1, none⟩ = some (.int .i64 (up1 (tree cs) t)) := by
                  have hk : Keep [go] wr (wr.setCell ⟨go, k, none⟩ (.int .i64 ((cc : Int) + 1))) := (Keep.refl _ wr).setCell (.inl (by simp)) _
                  exact (nd_cell (ownsRow_keep hTr hk Hne.out) ht1).2.1
                have hwc : IntKind.i64.wrap ((cc : Int) + 1) = (cc : Int) + 1 := by rw [IntKind.wrap_i64]; omega
                clear hU hown hkp hsum hlen hTr hupT hset
                generalize up1 (tree cs) t = u1 at *
                generalize hTl : (tree cs).length = TL at *
                go_wp2
                exact ⟨⟨u1, cc + 1, rfl, hk2, hcD, HF⟩, by simpa [intOf] using hmu.out⟩
    · obtain rfl : k = cs.length := by omega
      have HI := Lib.hid hI.out
      clear hI Hs
      go_wp2
      go_ret2
      obtain ⟨hown, hkp⟩ := HI.out
      refine ⟨go, rfl, by rw [← dRow_all]; exact hown, ?_⟩
      exact Hkw.out.step hkp (by intro i hi; simp at hi; right; omega)
end Go.Proofs.Ytknjjodkpknglaa
