/- The reference's lengths, walked. -/
import Derived.Test.YtknjjodkpknglaaR2
set_option linter.unusedVariables false
set_option linter.unusedSimpArgs false
namespace Go.Proofs.Ytknjjodkpknglaa
open Go.RowKit Go.Sal Go.Huf
/-- an int behind a row of ints -/
theorem int_append {base n c : Nat} {A : Option Addr} {f : List Int} {w : World} (h : w.ownsRow base 3 1 (.slice A n c) n (inI f)) (hn : n = f.length) (x : Int) (hn2 : n ≤ 100000) (hB : base ≤ w.heap.size) :
    ∃ A' c' w', (Builtin.append_ #[22, 22] 22 #[.slice A n c, .slice (some ⟨w.heap.size, 0, none⟩) 1 1]).run Try.prog (w.alloc (.cells #[.int .i64 x] 3)) = .ok (.slice A' (n + 1) c') w' ∧
      w'.ownsRow base 3 1 (.slice A' (n + 1) c') (n + 1) (inI (f ++ [x])) ∧ Keep (Value.slice A n c).ownBlock.toList w w' := by
  have hka : Keep [] w (w.alloc (.cells #[.int .i64 x] 3)) := (Keep.refl [] w).alloc _
  obtain ⟨v', w', hrun, hown, hg, hat⟩ := run_append_src (P := Try.prog) (w.alloc (.cells #[.int .i64 x] 3)) 22 22 3 (.int .i64 0) 1 8 base Try.underlying22 intinfo rfl (by omega) (.slice A n c) n (inI f) (ownsRow_keep h hka (by simp))
    (some ⟨w.heap.size, 0, none⟩) 1 1 [.int .i64 x] (src_new w 3 1 [.int .i64 x] rfl) (by simp [Value.oneCell']) (by unfold maxLen; omega) (by omega) (by simp; omega)
  obtain ⟨A', c', rfl, _⟩ := own_slice hown
  exact ⟨A', c', w', hrun, by simpa [inI] using hown, (hka.mono (by simp)).grown hg (fun k hk => .inl (by simp [hk]))⟩
theorem rlengths_bad (cs : List Int) (A : Option Addr) (c : Nat) (w : World) (hs : ISrc w A cs) (hn : cs.length ≤ 100000000) (h : ¬ okC cs) :
    Calls Try.prog 13 #[.slice A cs.length c] w fun e w' => e = .returned (.tuple #[.slice none 0 0, .int .i64 50]) ∧ w = w' := by
  have hb := (rcounted_any cs A c w hs hn).mono (R' := fun e w' => e = .returned (.bool false) ∧ w = w') (by
    rintro e w' ⟨b, h1, h2, h3⟩
    cases b with
    | false => exact ⟨h1, h3⟩
    | true => exact absurd (h2.1 rfl) h)
  have hb := Lib.hid hb
  clear hs h
  go_enter Try.func13, Try.ntmps13
  go_wp2_with (go_at_call 26; refine hb.out.mono ?_; rintro e w' ⟨rfl, rfl⟩)
  go_ret2
  exact ⟨rfl, rfl⟩
structure LnR (w : World) (cs : List Int) (A : Option Addr) (A4 : Option Addr) (c4 : Nat) (f : Nat) (cs' : List Int) (wr : World) : Prop where
  src : ISrc wr A cs'
  own : wr.ownsRow w.heap.size 3 1 (.slice A4 cs.length c4) cs.length (inI (toI (depths cs')))
  kp : Keep [] w wr
  fin : lensF f cs' = lens cs
  sum : cs'.sum.toNat ≤ f
  len : cs'.length = cs.length
  ok : okC cs'
def HfI (w2 : World) (cs' : List Int) (A : Option Addr) (c k : Nat) (wr : World) : Prop :=
  wr.ownsRow w2.heap.size 3 1 (.slice A k c) k (inI ((cs'.take k).map half)) ∧ Keep [] w2 wr

set_option maxRecDepth 20000 in
set_option maxHeartbeats 4000000 in
theorem rlengths_ok (cs : List Int) (A : Option Addr) (c : Nat) (w : World) (hs : ISrc w A cs) (h : okC cs) :
    Calls Try.prog 13 #[.slice A cs.length c] w fun e w' => ∃ AO cO, e = .returned (.tuple #[.slice AO cs.length cO, .int .i64 0]) ∧
      w'.ownsRow w.heap.size 3 1 (.slice AO cs.length cO) cs.length (inI (toI (lens cs))) ∧ Keep [] w w' := by
  have hl512 := h.1
  have hb := (rcounted_any cs A c w hs (by omega)).mono (R' := fun e w' => e = .returned (.bool true) ∧ w = w') (by
    rintro e w' ⟨b, h1, h2, h3⟩
    cases b with
    | true => exact ⟨h1, h3⟩
    | false => exact absurd (h2.2 h) (by simp))
  have Hb := Lib.hid hb
  have Hd0 := Lib.hid (rdepths_any cs A c w hs (by omega) h.2)
  have H := Lib.hid h
  have Hs := Lib.hid hs
  clear hs h hb
  go_enter Try.func13, Try.ntmps13
  go_wp2_with (first
    | (go_at_call 26; refine Hb.out.mono ?_; rintro e w' ⟨rfl, rfl⟩)
    | (go_at_call 28; refine Hd0.out.mono ?_; rintro e w1 ⟨g4, rfl, hown1, hk1⟩))
  have H0 : Hid (LnR w cs A (some ⟨g4, 0, none⟩) cs.length cs.sum.toNat cs w1) := Lib.hid ⟨Hs.out.keep hk1 (by simp), hown1, hk1, rfl, Nat.le_refl _, rfl, H.out⟩
  clear hown1 hk1 Hb Hd0 Hs
  go_loopg [0, 4] cs.sum.toNat (fun gk v0 v4 wr => ∃ (f : Nat) (cs' : List Int) (A : Option Addr) (c4 : Nat) (A4 : Option Addr) (c0 : Nat), f ≤ gk ∧ v0 = .slice A cs.length c0 ∧ v4 = .slice A4 cs.length c4 ∧ Hid (LnR w cs A A4 c4 f cs' wr))
  case atStart => exact ⟨_, _, _, _, _, _, Nat.le_refl _, rfl, rfl, H0⟩
  case round =>
    obtain ⟨f, cs', A0, c4, A4, c0, hf, rfl, rfl, hI⟩ := hrel
    clear H0
    obtain ⟨hsrc, hown, hkp, hfin, hsum, hlen, hok⟩ := hI.out
    have hcw := hkp.size
    have hdl : (toI (depths cs')).length = cs.length := by simp [toI, depths, hlen]
    have hd := rdeep_any (toI (depths cs')) A4 c4 wr (ISrc.of_own hown) (by rw [hdl]; omega)
    rw [hdl] at hd
    have HI := Lib.hid hI.out
    by_cases hdeep : ∃ d ∈ toI (depths cs'), 15 < d
    · as_aux_lemma =>
        have hd' := hd.mono (R' := fun e w' => e = .returned (.bool true) ∧ wr = w') (by
          rintro e w' ⟨b, h1, h2, h3⟩
          cases b with
          | true => exact ⟨h1, h3⟩
          | false => exact absurd (h2.2 hdeep) (by simp))
        have Hd := Lib.hid hd'
        have hd15 : 15 < dMost cs' cs'.length := by
          obtain ⟨d, hd1, hd2⟩ := hdeep
          unfold toI depths at hd1
          simp only [List.map_map, List.mem_map, List.mem_range, Function.comp] at hd1
          obtain ⟨i, hi, rfl⟩ := hd1
          have := dMost_ge cs' cs'.length i hi
          omega
        have hlt := deep_half (fun n hn => (hok.2 n hn).1) hok.1 hd15
        have hs0 := (sum_half cs' (fun n hn => (hok.2 n hn).1)).1
        have hs1 := (sum_half (cs'.map half) (fun n hn => ((okC_half hok).2 n hn).1)).1
        obtain ⟨f', rfl⟩ : ∃ f', f = f' + 1 := ⟨f - 1, by omega⟩
        have hfin' : lensF f' (cs'.map half) = lens cs := by
          rw [← hfin, lensF, if_neg (by omega)]
        have Hfin := Lib.hid hfin'
        have Hsum := Lib.hid (show (cs'.map half).sum.toNat ≤ f' by omega)
        have Hok := Lib.hid hok
        generalize wr = w2 at *
        have HJ0 : Hid (HfI w2 cs' none 0 0 w2) := Lib.hid ⟨World.ownsRow_nil _ _ _ _, Keep.refl _ _⟩
        clear hI hsrc hown hkp hfin hsum hok hd15 hlt hs0 hs1 hfin' hd hd' hdl hdeep
        go_wp2_with (go_at_call 27; refine Hd.out.mono ?_; rintro e w' ⟨rfl, rfl⟩)
        go_loopw [5, 6] (fun v5 i wr => ∃ (k : Nat) (A5 : Option Addr) (c5 : Nat), i = .int .i64 k ∧ k ≤ cs.length ∧ v5 = .slice A5 k c5 ∧ Hid (HfI w2 cs' A5 c5 k wr)) (fun _ i _ => cs.length - (intOf i).toNat)
        case atStart => exact ⟨0, _, _, rfl, by omega, rfl, HJ0⟩
        case round =>
          obtain ⟨k, A5, c5, rfl, hk, rfl, hJ⟩ := hrel
          clear HJ0
          rcases Nat.lt_or_ge k cs.length with hkl | hkl
          · as_aux_lemma =>
              obtain ⟨hown, hkp⟩ := hJ.out
              have hkl' : k < cs'.length := by omega
              obtain ⟨g, o, rfl, hg, hc⟩ := HI.out.src k hkl'
              have d0 := (hkp.cell (p := ⟨g, o + k, none⟩) hg (by simp)).trans hc
              have hx := Hok.out.2 _ (List.getElem_mem hkl')
              have hwk : IntKind.i64.wrap ((k : Int) + 1) = (k : Int) + 1 := by rw [IntKind.wrap_i64]; omega
              have htk : (cs'.take k).map half ++ [half cs'[k]] = (cs'.take (k + 1)).map half := by
                rw [List.take_succ_eq_append_getElem hkl', List.map_append]; rfl
              obtain ⟨A6, c6, w6, hap, hown6, hk6⟩ := int_append hown (by simp; omega) (half cs'[k]) (by omega) hkp.size
              rw [htk] at hown6
              have HN : Hid (HfI w2 cs' A6 c6 (k + 1) w6) := Lib.hid ⟨hown6, hkp.step hk6 (fun j hj => .inr (hown.lt j (by simpa using hj)).1)⟩
              have Hap := Lib.hid hap
              clear hJ hown hkp hc htk hown6 hk6 hap
              have hap := Hap.out
              generalize cs'[k] = x at *
              by_cases hp : x = 0
              · subst hp
                have hh : half 0 = 0 := rfl
                rw [hh] at hap
                go_wp2_with (at_builtin; refine wpList_append2 (v1 := .slice A5 k c5) (v2 := .slice (some ⟨wr.heap.size, 0, none⟩) 1 1) rfl (.tmp 30) (.tmp 32) rfl rfl rfl hap ?_)
                exact ⟨⟨k + 1, _, _, by simp, by omega, rfl, HN⟩, by simp [intOf]; omega⟩
              · have hh : half x = x.tdiv 2 + 1 := by unfold half; rw [if_pos (by omega)]
                rw [hh] at hap
                obtain ⟨y, hy⟩ : ∃ y, y = x.tdiv 2 := ⟨_, rfl⟩
                have hyb : 0 ≤ y ∧ y ≤ 1073741824 := by rw [hy, Int.tdiv_eq_ediv_of_nonneg hx.1]; omega
                have hq : x.tdiv 2 = y := hy.symm
                rw [hq] at hap
                have hw1 : IntKind.i64.wrap y = y := by rw [IntKind.wrap_i64]; omega
                have hw2 : IntKind.i64.wrap (y + 1) = y + 1 := by rw [IntKind.wrap_i64]; omega
                have hxn : (x != 0) = true := by simpa using hp
                clear hh hy hyb
                go_wp2_with (at_builtin; refine wpList_append2 (v1 := .slice A5 k c5) (v2 := .slice (some ⟨wr.heap.size, 0, none⟩) 1 1) rfl (.tmp 30) (.tmp 32) rfl rfl rfl hap ?_)
                exact ⟨⟨k + 1, _, _, by simp, by omega, rfl, HN⟩, by simp [intOf]; omega⟩
          · obtain rfl : k = cs.length := by omega
            obtain ⟨hown, hkp⟩ := hJ.out
            have htl : cs'.take cs.length = cs' := by rw [← hlen]; exact List.take_length
            rw [htl] at hown
            have hml : (cs'.map half).length = cs.length := by rw [List.length_map]; exact hlen
            have hdd := rdepths_any (cs'.map half) A5 c5 wr (ISrc.of_own hown) (by omega) (okC_half Hok.out).2
            rw [hml] at hdd
            have Hdd := Lib.hid (hdd.mono (R' := fun e w' => ∃ go, e = .returned (.slice (some ⟨go, 0, none⟩) cs.length cs.length) ∧ Hid (LnR w cs A5 (some ⟨go, 0, none⟩) cs.length f' (cs'.map half) w')) (by
              rintro e w' ⟨go, h1, h2, h3⟩
              have hk2 := HI.out.kp.trans hkp
              exact ⟨go, h1, Lib.hid ⟨(ISrc.of_own hown).keep h3 (by simp), own_le h2 hk2.size, hk2.trans h3, Hfin.out, Hsum.out, hml, okC_half Hok.out⟩⟩))
            clear hJ hown hkp htl hml hdd
            go_wp2_with (go_at_call 28; refine Hdd.out.mono ?_; rintro e w' ⟨go, rfl, HN⟩)
            obtain ⟨gm, rfl⟩ : ∃ gm, gk = gm + 1 := ⟨gk - 1, by omega⟩
            go_roundg gm
            case measure => omega
            case rel => exact ⟨f', _, _, _, _, _, by omega, rfl, rfl, HN⟩
    · have hd' := hd.mono (R' := fun e w' => e = .returned (.bool false) ∧ wr = w') (by
        rintro e w' ⟨b, h1, h2, h3⟩
        cases b with
        | false => exact ⟨h1, h3⟩
        | true => exact absurd (h2.1 rfl) hdeep)
      have Hd := Lib.hid hd'
      have hres : lens cs = depths cs' := by
        rw [← hfin]
        cases f with
        | zero => rfl
        | succ f =>
          rw [lensF, if_pos]
          refine dMost_le cs' 15 (fun i hi => ?_) _ (Nat.le_refl _)
          apply Classical.byContradiction
          intro hc
          refine hdeep ⟨(dAt cs' i : Int), ?_, by omega⟩
          unfold toI depths
          simp only [List.map_map, List.mem_map, List.mem_range, Function.comp]
          exact ⟨i, hi, rfl⟩
      have Hres := Lib.hid hres
      clear hI hsrc hown hkp hfin hsum hok hd hd' hdeep hres
      go_wp2_with (go_at_call 27; refine Hd.out.mono ?_; rintro e w' ⟨rfl, rfl⟩)
      go_ret2
      exact ⟨A4, c4, rfl, by rw [Hres.out]; exact HI.out.own, HI.out.kp⟩
end Go.Proofs.Ytknjjodkpknglaa
