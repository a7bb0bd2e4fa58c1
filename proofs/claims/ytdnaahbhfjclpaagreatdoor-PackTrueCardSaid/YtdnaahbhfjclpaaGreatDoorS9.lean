/- slices.symMergeCmpFunc where one row has one alone, walked. -/
import Derived.Test.YtdnaahbhfjclpaaGreatDoorS8
import Derived.Test.YtdnaahbhfjclpaaGreatDoorHfK
set_option linter.unusedVariables false
set_option linter.unusedSimpArgs false
namespace Go.Huf
theorem at_A {P A B R : List Nat} {d : Nat} (h : d < A.length) : (P ++ (A ++ B) ++ R)[P.length + d]? = some (A.getD d 0) := by
  rw [List.append_assoc, List.getElem?_append_right (by omega), List.append_assoc, List.getElem?_append_left (by omega)]
  simp [List.getD, h]
theorem at_B {P A B R : List Nat} {d : Nat} (h : d < B.length) : (P ++ (A ++ B) ++ R)[P.length + A.length + d]? = some (B.getD d 0) := by
  rw [List.append_assoc, List.getElem?_append_right (by omega), List.append_assoc, List.getElem?_append_right (by omega), List.getElem?_append_left (by omega)]
  simp [List.getD, show P.length + A.length + d - P.length - A.length = d by omega, h]
theorem half_cast (s h : Nat) (e : h = s / 2) : ((s : Nat) : Int) / 2 = (h : Int) := by omega
end Go.Huf
namespace Go.Proofs.YtdnaahbhfjclpaaGreatDoor
open Go.RowKit Go.Sal Go.Huf
def GR (w : World) (base g n cap : Nat) (P B R : List Nat) (x t : Nat) (wr : World) : Prop := SR w base g n cap (P ++ B.take t ++ x :: (B.drop t ++ R)) wr
set_option maxRecDepth 20000 in
set_option maxHeartbeats 8000000 in
theorem sym_one (key : Nat → Int) (m0 base g n cap bx : Nat) (x : Nat) (B P R : List Nat) (w : World) (hrow : w.ownsRow base 3 1 (.slice (some ⟨g, 0, none⟩) n cap) n (inN (P ++ ([x] ++ B) ++ R))) (hc : Cmp g w key m0 bx)
    (hm : ∀ y ∈ [x] ++ B, y < m0) (hk : ∀ y < m0, -100 ≤ key y ∧ key y ≤ 100) (hB : srtd key B) (hlt : ∀ y ∈ B, x < y) (hn : n ≤ 1000000) :
    Calls Tryz.prog 168 #[.slice (some ⟨g, 0, none⟩) n cap, .int .i64 (P.length : Nat), .int .i64 ((P.length + 1 : Nat) : Int), .int .i64 ((P.length + 1 + B.length : Nat) : Int), .func (.func 157) #[] #[.pointer (some ⟨bx, 0, none⟩)]] w fun e w' =>
      e = .returned (.tuple #[]) ∧ SR w base g n cap (P ++ isort key ([x] ++ B) ++ R) w' := by
  have hnl := row_n hrow
  simp only [List.length_append, List.length_singleton] at hnl
  have Hrow := Lib.hid hrow
  have Hc := Lib.hid hc
  have Hm := Lib.hid hm
  have Hk := Lib.hid hk
  have HB := Lib.hid hB
  have Hlt := Lib.hid hlt
  obtain ⟨a, ha⟩ : ∃ a, a = P.length := ⟨_, rfl⟩
  obtain ⟨bl, hbl⟩ : ∃ bl, bl = B.length := ⟨_, rfl⟩
  obtain ⟨m, hmm⟩ : ∃ m, m = a + 1 := ⟨_, rfl⟩
  obtain ⟨b, hb⟩ : ∃ b, b = m + bl := ⟨_, rfl⟩
  rw [← ha, ← hbl, ← hmm, ← hb]
  have Hl := Lib.hid (And.intro ha hbl)
  have hbn : b ≤ n := by omega
  have hmb : m ≤ b := by omega
  have Hmm := Lib.hid hmm
  have Hbb := Lib.hid hb
  have c0 : w.cell? ⟨g, a, none⟩ = some (.int .i64 (x : Nat)) := by
    have := (row_at hrow (i := P.length + 0) (at_A (A := [x]) (by simp))).1
    rw [Nat.add_zero, ← ha] at this
    simpa using this
  have hw1 : IntKind.i64.wrap ((m : Int) - a) = 1 := by rw [IntKind.wrap_i64]; omega
  have hani : (a : Int) < n := by omega
  clear hrow hc hm hk hB hlt hnl ha hbl hmm hb
  go_enter Tryz.func168, Tryz.ntmps168
  go_wp2
  go_loopw [10, 11] (fun vi vj wr => ∃ i j : Nat, vi = .int .i64 i ∧ vj = .int .i64 j ∧ m ≤ i ∧ i ≤ j ∧ j ≤ b ∧ Hid (∃ q, wr = w.drewN q) ∧ Hid ((∀ k, k < i - m → lexlt key (B.getD k 0) x) ∧ ∀ k, j - m ≤ k → k < bl → ¬ lexlt key (B.getD k 0) x)) (fun vi vj _ => (intOf vj).toNat - (intOf vi).toNat)
  case atStart => exact ⟨m, b, rfl, rfl, by omega, by omega, by omega, Lib.hid ⟨0, rfl⟩, Lib.hid ⟨fun k hk => by omega, fun k h1 h2 => by have := Hbb.out; have := Hmm.out; omega⟩⟩
  case round =>
    obtain ⟨i, j, rfl, rfl, hmi, hij, hjb, hq, hI⟩ := hrel
    rcases Nat.lt_or_ge i j with hlt | hge
    · as_aux_lemma =>
        obtain ⟨ha, hbl⟩ := Hl.out
        have hmm := Hmm.out
        have hbb := Hbb.out
        obtain ⟨h, hh⟩ : ∃ h, h = (i + j) / 2 := ⟨_, rfl⟩
        obtain ⟨s, hs⟩ : ∃ s, s = i + j := ⟨_, rfl⟩
        have hhi : i ≤ h ∧ h < j := by omega
        have hd : h - m < B.length := by omega
        have c2 : wr.cell? ⟨g, a, none⟩ = some (.int .i64 (x : Nat)) := by
          obtain ⟨q, rfl⟩ := hq.out
          exact c0
        have hkw : Keep [g] w wr := by
          obtain ⟨q, rfl⟩ := hq.out
          exact (Keep.refl [g] w).drewN q
        have Hq2 : Hid (∀ k, ∃ q, wr.drewN k = w.drewN q) := by
          obtain ⟨q, rfl⟩ := hq.out
          exact Lib.hid (fun k => ⟨_, World.drewN_drewN _ _ _⟩)
        have c1 : wr.cell? ⟨g, h, none⟩ = some (.int .i64 (B.getD (h - m) 0 : Nat)) := by
          obtain ⟨q, rfl⟩ := hq.out
          show w.cell? _ = _
          have := (row_at Hrow.out (at_B (P := P) (A := [x]) (R := R) hd)).1
          rwa [show P.length + [x].length + (h - m) = h by simp; omega] at this
        have hym : B.getD (h - m) 0 < m0 := Hm.out _ (List.mem_append_right _ (getD_mem hd))
        have hxm : x < m0 := Hm.out _ (by simp)
        have hxy : x < B.getD (h - m) 0 := Hlt.out _ (getD_mem hd)
        have hlex := lex_late (key := key) hxy
        have Hup : Hid (lexlt key (B.getD (h - m) 0) x → (∀ k, k < h + 1 - m → lexlt key (B.getD k 0) x) ∧ ∀ k, j - m ≤ k → k < bl → ¬ lexlt key (B.getD k 0) x) := Lib.hid (fun hl => ⟨fun k hk => lex_le_trans (srtd_le HB.out (by omega) hd) hl, hI.out.2⟩)
        have Hdn : Hid (¬ lexlt key (B.getD (h - m) 0) x → (∀ k, k < i - m → lexlt key (B.getD k 0) x) ∧ ∀ k, h - m ≤ k → k < bl → ¬ lexlt key (B.getD k 0) x) := Lib.hid (fun hl => ⟨hI.out.1, fun k h1 h2 h3 => hl (lex_le_trans (srtd_le HB.out h1 (by omega)) h3)⟩)
        generalize B.getD (h - m) 0 = y at *
        have hky := Hk.out y hym
        have hkx := Hk.out x hxm
        have hcm : ∀ k2, Calls Tryz.prog 157 #[.int .i64 (y : Nat), .int .i64 (x : Nat), .pointer (some ⟨bx, 0, none⟩)] (wr.drewN k2) fun e w' => e = .returned (.int .i64 (key y - key x)) ∧ ∃ k, w' = (wr.drewN k2).drewN k := fun k2 => Hc.out _ (hkw.drewN k2) y x hym hxm
        have Hcm := Lib.hid hcm
        have hws : IntKind.i64.wrap ((i : Int) + j) = (s : Int) := by rw [IntKind.wrap_i64]; omega
        have hwu : IntKind.u64.wrap (s : Int) = (s : Int) := by rw [IntKind.wrap_u64]; omega
        have hsh := half_cast s h (by rw [hs]; exact hh)
        have hwh : IntKind.i64.wrap (h : Int) = (h : Int) := by rw [IntKind.wrap_i64]; omega
        have hwh1 : IntKind.i64.wrap ((h : Int) + 1) = (h : Int) + 1 := by rw [IntKind.wrap_i64]; omega
        have hhn : (h : Int) < n := by omega
        have hlti : (i : Int) < j := by omega
        have Hlex := Lib.hid hlex
        obtain ⟨kx, hkxd⟩ : ∃ kx, kx = key x := ⟨_, rfl⟩
        obtain ⟨ky, hkyd⟩ : ∃ ky, ky = key y := ⟨_, rfl⟩
        rw [← hkxd, ← hkyd] at Hcm Hlex
        have Hhh := Lib.hid hhi
        have hkd : -200 ≤ ky - kx ∧ ky - kx ≤ 200 := by omega
        clear hI ha hbl hmm hbb hd hym hxm hxy hlex hky hkx hcm hkxd hkyd hs hh hhi hlt hq hkw
        by_cases hlt2 : ky - kx < 0
        · have dlt : decide (ky - kx < 0) = true := by simpa using hlt2
          have HS := Lib.hid (Hup.out (Hlex.out.2 (by omega)))
          clear Hup Hdn
          go_wp2_with fail
          go_quiet ((go_at_call 157; exact Calls.quiet_of (Hcm.out _)))
          go_wp2_with fail
          have hhi := Hhh.out
          exact ⟨⟨h + 1, j, by simp, rfl, by omega, by omega, by omega, Lib.hid (Hq2.out _), HS⟩, by simp [intOf]; omega⟩
        · have dlt : decide (ky - kx < 0) = false := by simpa using hlt2
          have HS := Lib.hid (Hdn.out (fun h => hlt2 (by have := Hlex.out.1 h; omega)))
          clear Hup Hdn
          go_wp2_with fail
          go_quiet ((go_at_call 157; exact Calls.quiet_of (Hcm.out _)))
          go_wp2_with fail
          have hhi := Hhh.out
          exact ⟨⟨i, h, rfl, rfl, by omega, by omega, by omega, Lib.hid (Hq2.out _), HS⟩, by simp [intOf]; omega⟩
    · obtain rfl : i = j := by omega
      have Hfin : Hid (P ++ isort key ([x] ++ B) ++ R = P ++ B.take (i - m) ++ x :: (B.drop (i - m) ++ R)) := by
        have hbl := Hl.out.2
        have hbb := Hbb.out
        have hmm := Hmm.out
        have h1 := one_in HB.out (fun h => by have := Hlt.out _ h; omega) (i := i - m) (by omega) hI.out.1 (fun k h1 h2 => hI.out.2 k h1 (by omega)) ([x] ++ B) (.refl _)
        rw [h1]
        exact Lib.hid (by simp)
      obtain ⟨q, rfl⟩ := hq.out
      have H0 : Hid (GR w base g n cap P B R x 0 (w.drewN q)) := Lib.hid ⟨by
        have := ownsRow_keep Hrow.out ((Keep.refl [] w).drewN q) (by simp)
        simpa using this, (Keep.refl [g] w).drewN q⟩
      have hm1 := Hmm.out
      have hwi : IntKind.i64.wrap ((i : Int) - 1) = (i : Int) - 1 := by rw [IntKind.wrap_i64]; omega
      clear hI hm1 hq
      go_wp2_with fail
      go_loopw [13] (fun vk wr => ∃ t : Nat, vk = .int .i64 ((a + t : Nat) : Int) ∧ a + t + 1 ≤ i ∧ Hid (GR w base g n cap P B R x t wr)) (fun vk _ => i - (intOf vk).toNat)
      case atStart => exact ⟨0, by simp, by have := Hmm.out; omega, H0⟩
      case round =>
        obtain ⟨t, rfl, hti, hJ⟩ := hrel
        clear H0
        obtain ⟨k, hkk⟩ : ∃ k, k = a + t := ⟨_, rfl⟩
        rw [← hkk]
        rcases Nat.lt_or_ge (k + 1) i with hlt | hge
        · as_aux_lemma =>
            obtain ⟨ha, hbl⟩ := Hl.out
            have hmm := Hmm.out
            have hbb := Hbb.out
            have htB : t < B.length := by omega
            obtain ⟨hrow, hkp⟩ := hJ.out
            have ed : P ++ B.take t ++ x :: (B.drop t ++ R) = (P ++ B.take t) ++ x :: ([] ++ B[t] :: (B.drop (t + 1) ++ R)) := by
              rw [List.drop_eq_getElem_cons htB]
              simp only [List.nil_append, List.cons_append]
            have et : P ++ B.take (t + 1) ++ x :: (B.drop (t + 1) ++ R) = (P ++ B.take t) ++ B[t] :: ([] ++ x :: (B.drop (t + 1) ++ R)) := by
              rw [List.take_succ_eq_append_getElem htB]
              simp only [List.nil_append, List.append_assoc, List.cons_append]
            rw [ed] at hrow
            have hgl : g < wr.heap.size := (hrow.lt g rfl).2
            obtain ⟨c1, c2, z1, z2, hn2⟩ := far_cells hrow
            have hsw := far_swap (w := wr.drew) (ownsRow_keep hrow ((Keep.refl [] wr).drew) (by simp))
            rw [← et] at hsw
            have e1 : (P ++ B.take t).length = k := by rw [List.length_append, List.length_take]; omega
            have e2 : (P ++ B.take t).length + 1 + ([] : List Nat).length = k + 1 := by rw [e1]; rfl
            rw [e2] at c2 z2 hsw
            rw [e1] at c1 z1 hsw
            generalize B[t] = y at *
            have HN : Hid (GR w base g n cap P B R x (t + 1) (((wr.drew.setCell ⟨g, k, none⟩ (.int .i64 (y : Nat))).setCell ⟨g, k + 1, none⟩ (.int .i64 (x : Nat))))) :=
              Lib.hid ⟨hsw, ((hkp.drew).setCell (.inl (by simp)) _).setCell (.inl (by simp)) _⟩
            have HS11 : Hid (∀ W : World, Keep [] wr W → W.cell? ⟨g, k, none⟩ = some (.int .i64 (x : Nat)) ∧ W.cell? ⟨g, k + 1, none⟩ = some (.int .i64 (y : Nat))) := Lib.hid (fun W k2 => ⟨(k2.cell (p := ⟨g, k, none⟩) hgl (by simp)).trans c1, (k2.cell (p := ⟨g, k + 1, none⟩) hgl (by simp)).trans c2⟩)
            have hS11 := HS11.out _ ((Keep.refl [] wr).drew)
            have hwk : IntKind.i64.wrap ((k : Int) + 1) = (k : Int) + 1 := by rw [IntKind.wrap_i64]; omega
            have hkn : (k : Int) < n := by omega
            have hkn1 : (k : Int) + 1 < n := by omega
            have hkn0 : (0 : Int) ≤ (k : Int) + 1 := by omega
            have hki : (k : Int) < (i : Int) - 1 := by omega
            have Hkk := Lib.hid hkk
            clear hJ hrow hkp hsw ha hbl hmm hbb ed et e1 e2 htB hn2 hkk hlt
            go_wp2_with fail
            refine wp_region_G (fun W => W.cell? ⟨g, k, none⟩ = some (.int .i64 (x : Nat)) ∧ W.cell? ⟨g, k + 1, none⟩ = some (.int .i64 (y : Nat))) [15, 17] #[false, false, false, false, false, false, false, false, false, false, false, false, false, false, false, false, false, false] 18 (by kernel_rfl) (by kernel_rfl) (by kernel_rfl) ?_
            refine wpAnyG_take0 (i := 0) (oi := ⟨_, _, _, _, _, _⟩) (v := ?vg1_0) rfl (by kernel_rfl) (by kernel_rfl) (by kernel_rfl) (by kernel_rfl) (fun _ _ _ h => h) (fun _ => hS11) (Or.inl ⟨by rfl, ?hg1_0⟩) ?_
            case hg1_0 => intro w _; go_simp; (try with_reducible rfl)
            try simp only [Act.put, List.setIfInBounds_toArray, List.set_cons_zero, List.set_cons_succ]
            refine wpAnyG_take0 (i := 1) (oi := ⟨_, _, _, _, _, _⟩) (v := ?vg1_1) rfl (by kernel_rfl) (by kernel_rfl) (by kernel_rfl) (by kernel_rfl) (fun _ _ _ h => h) (fun _ => hS11) (Or.inl ⟨by rfl, ?hg1_1⟩) ?_
            case hg1_1 => intro w _; go_simp; (try with_reducible rfl)
            try simp only [Act.put, List.setIfInBounds_toArray, List.set_cons_zero, List.set_cons_succ]
            refine wpAnyG_take0 (i := 2) (oi := ⟨_, _, _, _, _, _⟩) (v := ?vg1_2) rfl (by kernel_rfl) (by kernel_rfl) (by kernel_rfl) (by kernel_rfl) (fun _ _ _ h => h) (fun _ => hS11) (Or.inl ⟨by rfl, ?hg1_2⟩) ?_
            case hg1_2 => intro w _; go_simp; (try with_reducible rfl)
            try simp only [Act.put, List.setIfInBounds_toArray, List.set_cons_zero, List.set_cons_succ]
            refine wpAnyG_take0 (i := 3) (oi := ⟨_, _, _, _, _, _⟩) (v := ?vg1_3) rfl (by kernel_rfl) (by kernel_rfl) (by kernel_rfl) (by kernel_rfl) (fun _ _ _ h => h) (fun _ => hS11) (Or.inl ⟨by rfl, ?hg1_3⟩) ?_
            case hg1_3 => intro w _; go_simp; (try with_reducible rfl)
            try simp only [Act.put, List.setIfInBounds_toArray, List.set_cons_zero, List.set_cons_succ]
            refine wpAnyG_take0 (i := 4) (oi := ⟨_, _, _, _, _, _⟩) (v := ?vg1_4) rfl (by kernel_rfl) (by kernel_rfl) (by kernel_rfl) (by kernel_rfl) (fun _ _ _ h => h) (fun _ => hS11) (Or.inl ⟨by rfl, ?hg1_4⟩) ?_
            case hg1_4 => intro w _; go_simp; (try with_reducible rfl)
            try simp only [Act.put, List.setIfInBounds_toArray, List.set_cons_zero, List.set_cons_succ]
            refine wpAnyG_take0 (i := 5) (oi := ⟨_, _, _, _, _, _⟩) (v := ?vg1_5) rfl (by kernel_rfl) (by kernel_rfl) (by kernel_rfl) (by kernel_rfl) (fun _ _ _ h => h) (fun _ => hS11) (Or.inl ⟨by rfl, ?hg1_5⟩) ?_
            case hg1_5 => intro w _; go_simp; (try with_reducible rfl)
            try simp only [Act.put, List.setIfInBounds_toArray, List.set_cons_zero, List.set_cons_succ]
            refine wpAnyG_take0 (i := 6) (oi := ⟨_, _, _, _, _, _⟩) (v := ?vg1_6) rfl (by kernel_rfl) (by kernel_rfl) (by kernel_rfl) (by kernel_rfl) (fun _ _ _ h => h) (fun _ => hS11) (Or.inl ⟨by rfl, ?hg1_6⟩) ?_
            case hg1_6 => intro w _; go_simp; (try with_reducible rfl)
            try simp only [Act.put, List.setIfInBounds_toArray, List.set_cons_zero, List.set_cons_succ]
            refine wpAnyG_take0 (i := 7) (oi := ⟨_, _, _, _, _, _⟩) (v := ?vg1_7) rfl (by kernel_rfl) (by kernel_rfl) (by kernel_rfl) (by kernel_rfl) (fun _ _ _ h => h) (fun _ => hS11) (Or.inl ⟨by rfl, ?hg1_7⟩) ?_
            case hg1_7 => intro w _; go_simp; (try with_reducible rfl)
            try simp only [Act.put, List.setIfInBounds_toArray, List.set_cons_zero, List.set_cons_succ]
            refine wpAnyG_take0 (i := 8) (oi := ⟨_, _, _, _, _, _⟩) (v := ?vg1_8) rfl (by kernel_rfl) (by kernel_rfl) (by kernel_rfl) (by kernel_rfl) (fun _ _ _ h => h) (fun _ => hS11) (Or.inl ⟨by rfl, ?hg1_8⟩) ?_
            case hg1_8 => intro w _; go_simp; (try with_reducible rfl)
            try simp only [Act.put, List.setIfInBounds_toArray, List.set_cons_zero, List.set_cons_succ]
            refine wpAnyG_take (i := 9) (oi := ⟨_, _, _, _, _, _⟩) (v := ?vg1_9) [9, 14, 15, 16, 17] rfl (by kernel_rfl) (by kernel_rfl) (by kernel_rfl) (by kernel_rfl) (by kernel_rfl) (fun _ _ _ h => h) (fun _ => hS11) (Or.inl ⟨by rfl, ?hg1_9⟩) ?_
            case hg1_9 => intro w hSw; (try dsimp only at hSw); go_simp; (try with_reducible rfl)
            try simp only [Act.put, List.setIfInBounds_toArray, List.set_cons_zero, List.set_cons_succ]
            refine wpAnyG_take0 (i := 10) (oi := ⟨_, _, _, _, _, _⟩) (v := ?vg1_10) rfl (by kernel_rfl) (by kernel_rfl) (by kernel_rfl) (by kernel_rfl) (fun _ _ _ h => h) (fun _ => hS11) (Or.inl ⟨by rfl, ?hg1_10⟩) ?_
            case hg1_10 => intro w _; go_simp; (try with_reducible rfl)
            try simp only [Act.put, List.setIfInBounds_toArray, List.set_cons_zero, List.set_cons_succ]
            refine wpAnyG_take0 (i := 11) (oi := ⟨_, _, _, _, _, _⟩) (v := ?vg1_11) rfl (by kernel_rfl) (by kernel_rfl) (by kernel_rfl) (by kernel_rfl) (fun _ _ _ h => h) (fun _ => hS11) (Or.inl ⟨by rfl, ?hg1_11⟩) ?_
            case hg1_11 => intro w _; go_simp; (try with_reducible rfl)
            try simp only [Act.put, List.setIfInBounds_toArray, List.set_cons_zero, List.set_cons_succ]
            refine wpAnyG_take0 (i := 12) (oi := ⟨_, _, _, _, _, _⟩) (v := ?vg1_12) rfl (by kernel_rfl) (by kernel_rfl) (by kernel_rfl) (by kernel_rfl) (fun _ _ _ h => h) (fun _ => hS11) (Or.inl ⟨by rfl, ?hg1_12⟩) ?_
            case hg1_12 => intro w _; go_simp; (try with_reducible rfl)
            try simp only [Act.put, List.setIfInBounds_toArray, List.set_cons_zero, List.set_cons_succ]
            refine wpAnyG_take (i := 13) (oi := ⟨_, _, _, _, _, _⟩) (v := ?vg1_13) [13, 14, 15, 16, 17] rfl (by kernel_rfl) (by kernel_rfl) (by kernel_rfl) (by kernel_rfl) (by kernel_rfl) (fun _ _ _ h => h) (fun _ => hS11) (Or.inl ⟨by rfl, ?hg1_13⟩) ?_
            case hg1_13 => intro w hSw; (try dsimp only at hSw); go_simp; (try with_reducible rfl)
            try simp only [Act.put, List.setIfInBounds_toArray, List.set_cons_zero, List.set_cons_succ]
            refine wpAnyG_take0 (i := 14) (oi := ⟨_, _, _, _, _, _⟩) (v := ?vg1_14) rfl (by kernel_rfl) (by kernel_rfl) (by kernel_rfl) (by kernel_rfl) (fun _ _ _ h => h) (fun _ => hS11) (Or.inl ⟨by rfl, ?hg1_14⟩) ?_
            case hg1_14 => intro w _; go_simp; (try with_reducible rfl)
            try simp only [Act.put, List.setIfInBounds_toArray, List.set_cons_zero, List.set_cons_succ]
            refine wpAnyG_step (i := 15) (oi := ⟨_, _, _, _, _, _⟩) rfl (by kernel_rfl) (by rfl) (fun K hK => ?_)
            go_simp
            refine hK _ _ (fun h => absurd h (Bool.eq_false_iff.1 (by kernel_rfl))) (fun _ => ?_)
            clear hK
            try simp only [Act.put, List.setIfInBounds_toArray, List.set_cons_zero, List.set_cons_succ]
            refine wpAnyG_take0 (i := 16) (oi := ⟨_, _, _, _, _, _⟩) (v := ?vg1_16) rfl (by kernel_rfl) (by kernel_rfl) (by kernel_rfl) (by kernel_rfl) (fun _ _ _ h => h) (fun h => absurd h (Bool.eq_false_iff.1 (by kernel_rfl))) (Or.inl ⟨by rfl, ?hg1_16⟩) ?_
            case hg1_16 => intro w _; go_simp; (try with_reducible rfl)
            try simp only [Act.put, List.setIfInBounds_toArray, List.set_cons_zero, List.set_cons_succ]
            refine wpAnyG_step (i := 17) (oi := ⟨_, _, _, _, _, _⟩) rfl (by kernel_rfl) (by rfl) (fun K hK => ?_)
            go_simp
            refine hK _ _ (fun h => absurd h (Bool.eq_false_iff.1 (by kernel_rfl))) (fun _ => ?_)
            clear hK
            try simp only [Act.put, List.setIfInBounds_toArray, List.set_cons_zero, List.set_cons_succ]
            refine wpAnyG_done (by kernel_rfl) ?_ _
            go_wp2_with fail
            have hkk := Hkk.out
            exact ⟨⟨t + 1, by simp; omega, by omega, HN⟩, by simp [intOf]; omega⟩
        · have hki : ¬ (k : Int) < (i : Int) - 1 := by omega
          have HF : Hid (SR w base g n cap (P ++ isort key ([x] ++ B) ++ R) wr) := by
            rw [Hfin.out, show i - m = t by have := Hmm.out; omega]
            exact hJ
          clear hJ
          go_wp2_with fail
          refine bodyPost_ret (results_none rfl _ _ _) rfl ?_
          exact ⟨rfl, by simpa using HF.out⟩
def GL (w : World) (base g n cap : Nat) (P A R : List Nat) (y t : Nat) (wr : World) : Prop := SR w base g n cap (P ++ A.take t ++ y :: (A.drop t ++ R)) wr
set_option maxRecDepth 20000 in
set_option maxHeartbeats 8000000 in
theorem sym_last (key : Nat → Int) (m0 base g n cap bx : Nat) (y : Nat) (A P R : List Nat) (w : World) (hrow : w.ownsRow base 3 1 (.slice (some ⟨g, 0, none⟩) n cap) n (inN (P ++ (A ++ [y]) ++ R))) (hc : Cmp g w key m0 bx)
    (hm : ∀ z ∈ A ++ [y], z < m0) (hk : ∀ z < m0, -100 ≤ key z ∧ key z ≤ 100) (hA : srtd key A) (hlt : ∀ z ∈ A, z < y) (hn : n ≤ 1000000) (hA1 : A.length ≠ 1) :
    Calls Tryz.prog 168 #[.slice (some ⟨g, 0, none⟩) n cap, .int .i64 (P.length : Nat), .int .i64 ((P.length + A.length : Nat) : Int), .int .i64 ((P.length + A.length + 1 : Nat) : Int), .func (.func 157) #[] #[.pointer (some ⟨bx, 0, none⟩)]] w fun e w' =>
      e = .returned (.tuple #[]) ∧ SR w base g n cap (P ++ isort key (A ++ [y]) ++ R) w' := by
  have hnl := row_n hrow
  simp only [List.length_append, List.length_singleton] at hnl
  have Hrow := Lib.hid hrow
  have Hc := Lib.hid hc
  have Hm := Lib.hid hm
  have Hk := Lib.hid hk
  have HA := Lib.hid hA
  have Hlt := Lib.hid hlt
  obtain ⟨a, ha⟩ : ∃ a, a = P.length := ⟨_, rfl⟩
  obtain ⟨al, hal⟩ : ∃ al, al = A.length := ⟨_, rfl⟩
  obtain ⟨m, hmm⟩ : ∃ m, m = a + al := ⟨_, rfl⟩
  obtain ⟨b, hb⟩ : ∃ b, b = m + 1 := ⟨_, rfl⟩
  rw [← ha, ← hal, ← hmm, ← hb]
  have Hl := Lib.hid (And.intro ha hal)
  have hbn : b ≤ n := by omega
  have ham : a ≤ m := by omega
  have Hmm := Lib.hid hmm
  have Hbb := Lib.hid hb
  have c0 : w.cell? ⟨g, m, none⟩ = some (.int .i64 (y : Nat)) := by
    have := (row_at hrow (i := P.length + A.length + 0) (at_B (A := A) (B := [y]) (by simp))).1
    rw [Nat.add_zero, ← ha, ← hal, ← hmm] at this
    simpa using this
  have hw1 : IntKind.i64.wrap ((m : Int) - a) = (al : Int) := by rw [IntKind.wrap_i64]; omega
  have hw1n : ((al : Int) == 1) = false := by simpa using (by omega : (al : Int) ≠ 1)
  have hw2 : IntKind.i64.wrap ((b : Int) - m) = 1 := by rw [IntKind.wrap_i64]; omega
  have hmni : (m : Int) < n := by omega
  clear hrow hc hm hk hA hlt hnl ha hal hmm hb hA1
  go_enter Tryz.func168, Tryz.ntmps168
  go_wp2
  go_loopw [14, 15] (fun vi vj wr => ∃ i j : Nat, vi = .int .i64 i ∧ vj = .int .i64 j ∧ a ≤ i ∧ i ≤ j ∧ j ≤ m ∧ Hid (∃ q, wr = w.drewN q) ∧ Hid ((∀ k, k < i - a → lexlt key (A.getD k 0) y) ∧ ∀ k, j - a ≤ k → k < al → ¬ lexlt key (A.getD k 0) y)) (fun vi vj _ => (intOf vj).toNat - (intOf vi).toNat)
  case atStart => exact ⟨a, m, rfl, rfl, by omega, by omega, by omega, Lib.hid ⟨0, rfl⟩, Lib.hid ⟨fun k hk => by omega, fun k h1 h2 => by have := Hmm.out; omega⟩⟩
  case round =>
    obtain ⟨i, j, rfl, rfl, hai, hij, hjm, hq, hI⟩ := hrel
    rcases Nat.lt_or_ge i j with hlt | hge
    · as_aux_lemma =>
        obtain ⟨ha, hal⟩ := Hl.out
        have hmm := Hmm.out
        have hbb := Hbb.out
        obtain ⟨h, hh⟩ : ∃ h, h = (i + j) / 2 := ⟨_, rfl⟩
        obtain ⟨s, hs⟩ : ∃ s, s = i + j := ⟨_, rfl⟩
        have hhi : i ≤ h ∧ h < j := by omega
        have hd : h - a < A.length := by omega
        have c2 : wr.cell? ⟨g, m, none⟩ = some (.int .i64 (y : Nat)) := by
          obtain ⟨q, rfl⟩ := hq.out
          exact c0
        have hkw : Keep [g] w wr := by
          obtain ⟨q, rfl⟩ := hq.out
          exact (Keep.refl [g] w).drewN q
        have Hq2 : Hid (∀ k, ∃ q, wr.drewN k = w.drewN q) := by
          obtain ⟨q, rfl⟩ := hq.out
          exact Lib.hid (fun k => ⟨_, World.drewN_drewN _ _ _⟩)
        have c1 : wr.cell? ⟨g, h, none⟩ = some (.int .i64 (A.getD (h - a) 0 : Nat)) := by
          obtain ⟨q, rfl⟩ := hq.out
          show w.cell? _ = _
          have := (row_at Hrow.out (at_A (P := P) (A := A) (B := [y]) (R := R) hd)).1
          rwa [show P.length + (h - a) = h by omega] at this
        have hxm : A.getD (h - a) 0 < m0 := Hm.out _ (List.mem_append_left _ (getD_mem hd))
        have hym : y < m0 := Hm.out _ (by simp)
        have hxy : A.getD (h - a) 0 < y := Hlt.out _ (getD_mem hd)
        have hlex := lex_late (key := key) hxy
        have Hup : Hid (lexlt key (A.getD (h - a) 0) y → (∀ k, k < h + 1 - a → lexlt key (A.getD k 0) y) ∧ ∀ k, j - a ≤ k → k < al → ¬ lexlt key (A.getD k 0) y) := Lib.hid (fun hl => ⟨fun k hk => lex_le_trans (srtd_le HA.out (by omega) hd) hl, hI.out.2⟩)
        have Hdn : Hid (¬ lexlt key (A.getD (h - a) 0) y → (∀ k, k < i - a → lexlt key (A.getD k 0) y) ∧ ∀ k, h - a ≤ k → k < al → ¬ lexlt key (A.getD k 0) y) := Lib.hid (fun hl => ⟨hI.out.1, fun k h1 h2 h3 => hl (lex_le_trans (srtd_le HA.out h1 (by omega)) h3)⟩)
        generalize A.getD (h - a) 0 = x at *
        have hky := Hk.out y hym
        have hkx := Hk.out x hxm
        have hcm : ∀ k2, Calls Tryz.prog 157 #[.int .i64 (y : Nat), .int .i64 (x : Nat), .pointer (some ⟨bx, 0, none⟩)] (wr.drewN k2) fun e w' => e = .returned (.int .i64 (key y - key x)) ∧ ∃ k, w' = (wr.drewN k2).drewN k := fun k2 => Hc.out _ (hkw.drewN k2) y x hym hxm
        have Hcm := Lib.hid hcm
        have hws : IntKind.i64.wrap ((i : Int) + j) = (s : Int) := by rw [IntKind.wrap_i64]; omega
        have hwu : IntKind.u64.wrap (s : Int) = (s : Int) := by rw [IntKind.wrap_u64]; omega
        have hsh := half_cast s h (by rw [hs]; exact hh)
        have hwh : IntKind.i64.wrap (h : Int) = (h : Int) := by rw [IntKind.wrap_i64]; omega
        have hwh1 : IntKind.i64.wrap ((h : Int) + 1) = (h : Int) + 1 := by rw [IntKind.wrap_i64]; omega
        have hhn : (h : Int) < n := by omega
        have hlti : (i : Int) < j := by omega
        have Hlex := Lib.hid hlex
        have Htot := Lib.hid (lex_total (key := key) (show x ≠ y by omega))
        have Hasy := Lib.hid (fun h => lex_asymm (key := key) (x := y) (y := x) h)
        obtain ⟨kx, hkxd⟩ : ∃ kx, kx = key x := ⟨_, rfl⟩
        obtain ⟨ky, hkyd⟩ : ∃ ky, ky = key y := ⟨_, rfl⟩
        rw [← hkxd, ← hkyd] at Hcm Hlex
        have Hhh := Lib.hid hhi
        have hkd : -200 ≤ ky - kx ∧ ky - kx ≤ 200 := by omega
        clear hI ha hal hmm hbb hd hym hxm hxy hlex hky hkx hcm hkxd hkyd hs hh hhi hlt hq hkw
        by_cases hlt2 : ky - kx < 0
        · have dlt : decide (ky - kx < 0) = true := by simpa using hlt2
          have HS := Lib.hid (Hdn.out (Hasy.out (Hlex.out.2 (by omega))))
          clear Hup Hdn
          go_wp2_with fail
          go_quiet ((go_at_call 157; exact Calls.quiet_of (Hcm.out _)))
          go_wp2_with fail
          have hhi := Hhh.out
          exact ⟨⟨i, h, rfl, rfl, by omega, by omega, by omega, Lib.hid (Hq2.out _), HS⟩, by simp [intOf]; omega⟩
        · have dlt : decide (ky - kx < 0) = false := by simpa using hlt2
          have HS := Lib.hid (Hup.out (Htot.out.resolve_right (fun h => hlt2 (by have := Hlex.out.1 h; omega))))
          clear Hup Hdn
          go_wp2_with fail
          go_quiet ((go_at_call 157; exact Calls.quiet_of (Hcm.out _)))
          go_wp2_with fail
          have hhi := Hhh.out
          exact ⟨⟨h + 1, j, by simp, rfl, by omega, by omega, by omega, Lib.hid (Hq2.out _), HS⟩, by simp [intOf]; omega⟩
    · obtain rfl : i = j := by omega
      have Hfin : Hid (P ++ isort key (A ++ [y]) ++ R = P ++ A.take (i - a) ++ y :: (A.drop (i - a) ++ R)) := by
        have hal := Hl.out.2
        have hmm := Hmm.out
        have h1 := one_in HA.out (fun h => by have := Hlt.out _ h; omega) (i := i - a) (by omega) hI.out.1 (fun k h1 h2 => hI.out.2 k h1 (by omega)) (A ++ [y]) (List.perm_append_singleton y A)
        rw [h1]
        exact Lib.hid (by simp)
      obtain ⟨q, rfl⟩ := hq.out
      have H0 : Hid (GL w base g n cap P A R y al (w.drewN q)) := Lib.hid ⟨by
        have := ownsRow_keep Hrow.out ((Keep.refl [] w).drewN q) (by simp)
        have h1 : A.take al = A := by rw [Hl.out.2]; exact List.take_length
        have h2 : A.drop al = [] := by rw [Hl.out.2]; exact List.drop_length
        rw [h1, h2]
        simpa using this, (Keep.refl [g] w).drewN q⟩
      have hmm1 := Hmm.out
      clear hI hq
      go_wp2_with fail
      go_loopw [17] (fun vk wr => ∃ t : Nat, vk = .int .i64 ((a + t : Nat) : Int) ∧ i ≤ a + t ∧ t ≤ al ∧ Hid (GL w base g n cap P A R y t wr)) (fun vk _ => (intOf vk).toNat)
      case atStart => exact ⟨al, by rw [hmm1], by omega, by omega, H0⟩
      case round =>
        obtain ⟨t, rfl, hti, htl, hJ⟩ := hrel
        clear H0
        rcases Nat.lt_or_ge i (a + t) with hlt | hge
        · as_aux_lemma =>
            obtain ⟨t, rfl⟩ : ∃ t', t = t' + 1 := ⟨t - 1, by omega⟩
            obtain ⟨k, hkk⟩ : ∃ k, k = a + t := ⟨_, rfl⟩
            rw [show ((a + (t + 1) : Nat) : Int) = ((k + 1 : Nat) : Int) by omega]
            obtain ⟨ha, hal⟩ := Hl.out
            have htA : t < A.length := by omega
            obtain ⟨hrow, hkp⟩ := hJ.out
            have ed : P ++ A.take (t + 1) ++ y :: (A.drop (t + 1) ++ R) = (P ++ A.take t) ++ A[t] :: y :: (A.drop (t + 1) ++ R) := by
              rw [List.take_succ_eq_append_getElem htA]
              simp only [List.nil_append, List.append_assoc, List.cons_append]
            have et : P ++ A.take t ++ y :: (A.drop t ++ R) = (P ++ A.take t) ++ y :: A[t] :: (A.drop (t + 1) ++ R) := by
              rw [List.drop_eq_getElem_cons htA]
              simp only [List.nil_append, List.append_assoc, List.cons_append]
            rw [ed] at hrow
            have hgl : g < wr.heap.size := (hrow.lt g rfl).2
            obtain ⟨c1, c2, z1, z2, hn2⟩ := two_cells hrow
            have hsw := two_swap (w := wr.drew) (ownsRow_keep hrow ((Keep.refl [] wr).drew) (by simp))
            rw [← et] at hsw
            have e1 : (P ++ A.take t).length = k := by rw [List.length_append, List.length_take]; omega
            rw [e1] at c1 z1 c2 z2 hsw
            generalize A[t] = x at *
            have HN : Hid (GL w base g n cap P A R y t (((wr.drew.setCell ⟨g, k + 1, none⟩ (.int .i64 (x : Nat))).setCell ⟨g, k, none⟩ (.int .i64 (y : Nat))))) :=
              Lib.hid ⟨hsw, ((hkp.drew).setCell (.inl (by simp)) _).setCell (.inl (by simp)) _⟩
            have HS23 : Hid (∀ W : World, Keep [] wr W → W.cell? ⟨g, k, none⟩ = some (.int .i64 (x : Nat)) ∧ W.cell? ⟨g, k + 1, none⟩ = some (.int .i64 (y : Nat))) := Lib.hid (fun W k2 => ⟨(k2.cell (p := ⟨g, k, none⟩) hgl (by simp)).trans c1, (k2.cell (p := ⟨g, k + 1, none⟩) hgl (by simp)).trans c2⟩)
            have hS23 := HS23.out _ ((Keep.refl [] wr).drew)
            have hwk : IntKind.i64.wrap ((k : Int) + 1 - 1) = (k : Int) := by rw [IntKind.wrap_i64]; omega
            have hwk0 : IntKind.i64.wrap (k : Int) = (k : Int) := by rw [IntKind.wrap_i64]; omega
            have hkn : (k : Int) < n := by omega
            have hkn1 : (k : Int) + 1 < n := by omega
            have hkn0 : (0 : Int) ≤ (k : Int) + 1 := by omega
            have hki : (i : Int) < (k : Int) + 1 := by omega
            have Hkk := Lib.hid (And.intro hkk htl)
            have Hik := Lib.hid (show i ≤ k by omega)
            clear hJ hrow hkp hsw ha hal ed et e1 htA hn2 hkk hlt hti htl hmm1
            go_wp2_with fail
            refine wp_region_G (fun W => W.cell? ⟨g, k, none⟩ = some (.int .i64 (x : Nat)) ∧ W.cell? ⟨g, k + 1, none⟩ = some (.int .i64 (y : Nat))) [15, 17] #[false, false, false, false, false, false, false, false, false, false, false, false, false, false, false, false, false, false] 18 (by kernel_rfl) (by kernel_rfl) (by kernel_rfl) ?_
            refine wpAnyG_take0 (i := 0) (oi := ⟨_, _, _, _, _, _⟩) (v := ?vg2_0) rfl (by kernel_rfl) (by kernel_rfl) (by kernel_rfl) (by kernel_rfl) (fun _ _ _ h => h) (fun _ => hS23) (Or.inl ⟨by rfl, ?hg2_0⟩) ?_
            case hg2_0 => intro w _; go_simp; (try with_reducible rfl)
            try simp only [Act.put, List.setIfInBounds_toArray, List.set_cons_zero, List.set_cons_succ]
            refine wpAnyG_take0 (i := 1) (oi := ⟨_, _, _, _, _, _⟩) (v := ?vg2_1) rfl (by kernel_rfl) (by kernel_rfl) (by kernel_rfl) (by kernel_rfl) (fun _ _ _ h => h) (fun _ => hS23) (Or.inl ⟨by rfl, ?hg2_1⟩) ?_
            case hg2_1 => intro w _; go_simp; (try with_reducible rfl)
            try simp only [Act.put, List.setIfInBounds_toArray, List.set_cons_zero, List.set_cons_succ]
            refine wpAnyG_take0 (i := 2) (oi := ⟨_, _, _, _, _, _⟩) (v := ?vg2_2) rfl (by kernel_rfl) (by kernel_rfl) (by kernel_rfl) (by kernel_rfl) (fun _ _ _ h => h) (fun _ => hS23) (Or.inl ⟨by rfl, ?hg2_2⟩) ?_
            case hg2_2 => intro w _; go_simp; (try with_reducible rfl)
            try simp only [Act.put, List.setIfInBounds_toArray, List.set_cons_zero, List.set_cons_succ]
            refine wpAnyG_take0 (i := 3) (oi := ⟨_, _, _, _, _, _⟩) (v := ?vg2_3) rfl (by kernel_rfl) (by kernel_rfl) (by kernel_rfl) (by kernel_rfl) (fun _ _ _ h => h) (fun _ => hS23) (Or.inl ⟨by rfl, ?hg2_3⟩) ?_
            case hg2_3 => intro w _; go_simp; (try with_reducible rfl)
            try simp only [Act.put, List.setIfInBounds_toArray, List.set_cons_zero, List.set_cons_succ]
            refine wpAnyG_take0 (i := 4) (oi := ⟨_, _, _, _, _, _⟩) (v := ?vg2_4) rfl (by kernel_rfl) (by kernel_rfl) (by kernel_rfl) (by kernel_rfl) (fun _ _ _ h => h) (fun _ => hS23) (Or.inl ⟨by rfl, ?hg2_4⟩) ?_
            case hg2_4 => intro w _; go_simp; (try with_reducible rfl)
            try simp only [Act.put, List.setIfInBounds_toArray, List.set_cons_zero, List.set_cons_succ]
            refine wpAnyG_take0 (i := 5) (oi := ⟨_, _, _, _, _, _⟩) (v := ?vg2_5) rfl (by kernel_rfl) (by kernel_rfl) (by kernel_rfl) (by kernel_rfl) (fun _ _ _ h => h) (fun _ => hS23) (Or.inl ⟨by rfl, ?hg2_5⟩) ?_
            case hg2_5 => intro w _; go_simp; (try with_reducible rfl)
            try simp only [Act.put, List.setIfInBounds_toArray, List.set_cons_zero, List.set_cons_succ]
            refine wpAnyG_take0 (i := 6) (oi := ⟨_, _, _, _, _, _⟩) (v := ?vg2_6) rfl (by kernel_rfl) (by kernel_rfl) (by kernel_rfl) (by kernel_rfl) (fun _ _ _ h => h) (fun _ => hS23) (Or.inl ⟨by rfl, ?hg2_6⟩) ?_
            case hg2_6 => intro w _; go_simp; (try with_reducible rfl)
            try simp only [Act.put, List.setIfInBounds_toArray, List.set_cons_zero, List.set_cons_succ]
            refine wpAnyG_take0 (i := 7) (oi := ⟨_, _, _, _, _, _⟩) (v := ?vg2_7) rfl (by kernel_rfl) (by kernel_rfl) (by kernel_rfl) (by kernel_rfl) (fun _ _ _ h => h) (fun _ => hS23) (Or.inl ⟨by rfl, ?hg2_7⟩) ?_
            case hg2_7 => intro w _; go_simp; (try with_reducible rfl)
            try simp only [Act.put, List.setIfInBounds_toArray, List.set_cons_zero, List.set_cons_succ]
            refine wpAnyG_take0 (i := 8) (oi := ⟨_, _, _, _, _, _⟩) (v := ?vg2_8) rfl (by kernel_rfl) (by kernel_rfl) (by kernel_rfl) (by kernel_rfl) (fun _ _ _ h => h) (fun _ => hS23) (Or.inl ⟨by rfl, ?hg2_8⟩) ?_
            case hg2_8 => intro w _; go_simp; (try with_reducible rfl)
            try simp only [Act.put, List.setIfInBounds_toArray, List.set_cons_zero, List.set_cons_succ]
            refine wpAnyG_take (i := 9) (oi := ⟨_, _, _, _, _, _⟩) (v := ?vg2_9) [9, 14, 15, 16, 17] rfl (by kernel_rfl) (by kernel_rfl) (by kernel_rfl) (by kernel_rfl) (by kernel_rfl) (fun _ _ _ h => h) (fun _ => hS23) (Or.inl ⟨by rfl, ?hg2_9⟩) ?_
            case hg2_9 => intro w hSw; (try dsimp only at hSw); go_simp; (try with_reducible rfl)
            try simp only [Act.put, List.setIfInBounds_toArray, List.set_cons_zero, List.set_cons_succ]
            refine wpAnyG_take0 (i := 10) (oi := ⟨_, _, _, _, _, _⟩) (v := ?vg2_10) rfl (by kernel_rfl) (by kernel_rfl) (by kernel_rfl) (by kernel_rfl) (fun _ _ _ h => h) (fun _ => hS23) (Or.inl ⟨by rfl, ?hg2_10⟩) ?_
            case hg2_10 => intro w _; go_simp; (try with_reducible rfl)
            try simp only [Act.put, List.setIfInBounds_toArray, List.set_cons_zero, List.set_cons_succ]
            refine wpAnyG_take0 (i := 11) (oi := ⟨_, _, _, _, _, _⟩) (v := ?vg2_11) rfl (by kernel_rfl) (by kernel_rfl) (by kernel_rfl) (by kernel_rfl) (fun _ _ _ h => h) (fun _ => hS23) (Or.inl ⟨by rfl, ?hg2_11⟩) ?_
            case hg2_11 => intro w _; go_simp; (try with_reducible rfl)
            try simp only [Act.put, List.setIfInBounds_toArray, List.set_cons_zero, List.set_cons_succ]
            refine wpAnyG_take0 (i := 12) (oi := ⟨_, _, _, _, _, _⟩) (v := ?vg2_12) rfl (by kernel_rfl) (by kernel_rfl) (by kernel_rfl) (by kernel_rfl) (fun _ _ _ h => h) (fun _ => hS23) (Or.inl ⟨by rfl, ?hg2_12⟩) ?_
            case hg2_12 => intro w _; go_simp; (try with_reducible rfl)
            try simp only [Act.put, List.setIfInBounds_toArray, List.set_cons_zero, List.set_cons_succ]
            refine wpAnyG_take (i := 13) (oi := ⟨_, _, _, _, _, _⟩) (v := ?vg2_13) [13, 14, 15, 16, 17] rfl (by kernel_rfl) (by kernel_rfl) (by kernel_rfl) (by kernel_rfl) (by kernel_rfl) (fun _ _ _ h => h) (fun _ => hS23) (Or.inl ⟨by rfl, ?hg2_13⟩) ?_
            case hg2_13 => intro w hSw; (try dsimp only at hSw); go_simp; (try with_reducible rfl)
            try simp only [Act.put, List.setIfInBounds_toArray, List.set_cons_zero, List.set_cons_succ]
            refine wpAnyG_take0 (i := 14) (oi := ⟨_, _, _, _, _, _⟩) (v := ?vg2_14) rfl (by kernel_rfl) (by kernel_rfl) (by kernel_rfl) (by kernel_rfl) (fun _ _ _ h => h) (fun _ => hS23) (Or.inl ⟨by rfl, ?hg2_14⟩) ?_
            case hg2_14 => intro w _; go_simp; (try with_reducible rfl)
            try simp only [Act.put, List.setIfInBounds_toArray, List.set_cons_zero, List.set_cons_succ]
            refine wpAnyG_step (i := 15) (oi := ⟨_, _, _, _, _, _⟩) rfl (by kernel_rfl) (by rfl) (fun K hK => ?_)
            go_simp
            refine hK _ _ (fun h => absurd h (Bool.eq_false_iff.1 (by kernel_rfl))) (fun _ => ?_)
            clear hK
            try simp only [Act.put, List.setIfInBounds_toArray, List.set_cons_zero, List.set_cons_succ]
            refine wpAnyG_take0 (i := 16) (oi := ⟨_, _, _, _, _, _⟩) (v := ?vg2_16) rfl (by kernel_rfl) (by kernel_rfl) (by kernel_rfl) (by kernel_rfl) (fun _ _ _ h => h) (fun h => absurd h (Bool.eq_false_iff.1 (by kernel_rfl))) (Or.inl ⟨by rfl, ?hg2_16⟩) ?_
            case hg2_16 => intro w _; go_simp; (try with_reducible rfl)
            try simp only [Act.put, List.setIfInBounds_toArray, List.set_cons_zero, List.set_cons_succ]
            refine wpAnyG_step (i := 17) (oi := ⟨_, _, _, _, _, _⟩) rfl (by kernel_rfl) (by rfl) (fun K hK => ?_)
            go_simp
            refine hK _ _ (fun h => absurd h (Bool.eq_false_iff.1 (by kernel_rfl))) (fun _ => ?_)
            clear hK
            try simp only [Act.put, List.setIfInBounds_toArray, List.set_cons_zero, List.set_cons_succ]
            refine wpAnyG_done (by kernel_rfl) ?_ _
            go_wp2_with fail
            have hkk := Hkk.out
            have hik := Hik.out
            exact ⟨⟨t, by rw [hkk.1], by omega, by omega, HN⟩, by simp [intOf]; try omega⟩
        · have hki : ¬ (i : Int) < ((a + t : Nat) : Int) := by omega
          have HF : Hid (SR w base g n cap (P ++ isort key (A ++ [y]) ++ R) wr) := by
            rw [Hfin.out, show i - a = t by omega]
            exact hJ
          clear hJ
          go_wp2_with fail
          refine bodyPost_ret (results_none rfl _ _ _) rfl ?_
          exact ⟨rfl, by simpa using HF.out⟩
end Go.Proofs.YtdnaahbhfjclpaaGreatDoor

