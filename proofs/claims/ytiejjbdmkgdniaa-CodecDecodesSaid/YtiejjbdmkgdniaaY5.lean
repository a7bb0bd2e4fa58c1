/- Head and Decode, in the reference. -/
import Derived.Test.YtiejjbdmkgdniaaY4
import Derived.Test.YtiejjbdmkgdniaaW1
set_option linter.unusedVariables false
set_option linter.unusedSimpArgs false
namespace Go.Proofs.Ytiejjbdmkgdniaa
open Go.RowKit Go.Sal Go.Huf Go.Cod
theorem HdE.no {w w' : World} {b : List Nat} (h : headP b = none) (k : Keep [] w w') : HdE w b (.returned (.tuple #[.int .i64 0, .bool false, .int .i64 70])) w' := by
  obtain ⟨h1, h2, h3⟩ := hd_no h
  unfold HdE
  rw [h1, h2, h3]
  exact ⟨rfl, k⟩
set_option maxRecDepth 20000 in
set_option maxHeartbeats 2000000 in
theorem rhead_any (bl : List Nat) (AB : Option Addr) (cB : Nat) (w : World) (hs : BySrc w AB bl) (hc : bl.length ≤ cB) (hl : bl.length ≤ 100000) :
    Calls Try.prog 23 #[.slice AB bl.length cB] w fun e w' => HdE w bl e w' := by
  cases bl with
  | nil =>
    have HN := Lib.hid (show headP [] = none from rfl)
    clear hs
    go_enter Try.func23, Try.ntmps23
    go_wp2
    go_ret3
    exact HdE.no HN.out (Keep.refl _ _)
  | cons x b1 =>
    obtain ⟨g, o, rfl, hg, d0⟩ := hs.1 0 (by simp)
    simp at d0
    have hx256 := hs.2 x (by simp)
    obtain ⟨N, hN⟩ : ∃ N, N = (x :: b1).length := ⟨_, rfl⟩
    have hN0 : (0 : Int) < N := by rw [hN]; simp
    have hN1 : 0 < N := by rw [hN]; simp
    have hne : ((N : Int) == 0) = false := by simp; omega
    by_cases hx : 1 < x
    · have HN := Lib.hid (show headP (x :: b1) = none by unfold headP; simp only; rw [if_neg (by omega)])
      have hxi : (1 : Int) < x := by omega
      rw [← hN]
      clear hs hN hl hc
      go_enter Try.func23, Try.ntmps23
      go_wp2
      go_ret3
      exact HdE.no HN.out (Keep.refl _ _)
    · have hxi : ¬ (1 : Int) < x := by omega
      obtain ⟨A1, c1, hst, hc1, hB⟩ := cut_at (k := 1) hs hc (by simp)
      have hB1 := hB _ hs
      simp only [List.drop_succ_cons, List.drop_zero] at hst hc1 hB1
      rw [← hN] at hst
      have hst1 : ∀ W, (Instr.slice 24 (.slice (some ⟨g, o, none⟩) N cB) (some (.int .i64 1)) none none).run Try.prog W = .ok (.slice A1 b1.length c1) W := hst
      clear hst
      have hx1 : x ≤ 1 := by omega
      have HR := Lib.hid (rread_any b1 A1 c1 w hB1 (by simp at hl; omega))
      rw [← hN]
      cases hr : rdV 0 b1 with
      | none =>
        rw [hr] at HR
        have HN := Lib.hid (show headP (x :: b1) = none by unfold headP; simp only; rw [if_pos hx1, hr])
        clear hs hN hl hc hB hB1 hr
        go_enter Try.func23, Try.ntmps23
        go_wp2_with (go_at_call 60; refine HR.out.mono ?_; rintro e w3 ⟨⟨n3, E3, rfl, hE⟩, rfl⟩; have hEb : (E3 != 0) = true := (by simpa using hE); clear hE)
        go_ret3
        exact HdE.no HN.out (Keep.refl _ _)
      | some p =>
        obtain ⟨n, u⟩ := p
        rw [hr] at HR
        by_cases hn : n ≤ 65536
        · have hni : ¬ (65536 : Int) < n := by omega
          have HH := Lib.hid (hd_yes (b := x :: b1) (n := n) (p := decide (x = 1)) (r := b1.drop u) (by unfold headP; simp only; rw [if_pos hx1, hr]; simp only; rw [if_pos hn]))
          have hwn : IntKind.i64.wrap (n : Int) = (n : Int) := by rw [IntKind.wrap_i64]; omega
          have hxe : ((x : Int) == 1) = decide (x = 1) := by
            rcases Nat.lt_or_ge x 1 with h | h
            · obtain rfl : x = 0 := by omega
              rfl
            · obtain rfl : x = 1 := by omega
              rfl
          have HF : Hid (∀ w', Keep [] w w' → HdE w (x :: b1) (.returned (.tuple #[.int .i64 (n : Nat), .bool (decide (x = 1)), .int .i64 0])) w') := Lib.hid (fun w' k => by
            unfold HdE
            rw [HH.out.1, HH.out.2.1, HH.out.2.2]
            exact ⟨rfl, k⟩)
          generalize hxd : decide (x = 1) = xd at *
          clear hs hN hl hc hB hB1 hr hxd HH
          go_enter Try.func23, Try.ntmps23
          go_upto_region 6 with (go_at_call 60; refine HR.out.mono ?_; rintro e w3 ⟨rfl, rfl⟩)
          go_quiet (fail)
          go_wp2
          go_ret3
          exact HF.out _ ((Keep.refl [] w).drewN _)
        · have hni : (65536 : Int) < n := by omega
          have HN := Lib.hid (show headP (x :: b1) = none by unfold headP; simp only; rw [if_pos hx1, hr]; simp only; rw [if_neg hn])
          clear hs hN hl hc hB hB1 hr
          go_enter Try.func23, Try.ntmps23
          go_wp2_with (go_at_call 60; refine HR.out.mono ?_; rintro e w3 ⟨rfl, rfl⟩)
          go_ret3
          exact HdE.no HN.out (Keep.refl _ _)
end Go.Proofs.Ytiejjbdmkgdniaa
set_option linter.unusedVariables false
set_option linter.unusedSimpArgs false
namespace Go.Cod
open Go.Huf
theorem head_cut {b : List Nat} {n : Nat} {p : Bool} {r : List Nat} (hb : ∀ x ∈ b, x < 256) (h : headP b = some (n, p, r)) : r = b.drop (1 + (varP n).length) ∧ 1 + (varP n).length ≤ b.length ∧ n ≤ 65536 := by
  cases b with
  | nil => simp [headP] at h
  | cons x b1 =>
    unfold headP at h
    simp only at h
    split at h
    · split at h
      · cases h
      · rename_i n2 u hr
        split at h
        · rename_i hn
          simp at h
          obtain ⟨rfl, _, rfl⟩ := h
          have hb1 : ∀ c ∈ b1, c < 256 := fun c hc => hb c (List.mem_cons_of_mem _ hc)
          have hu := rd_len hb1 hr
          have hl := (rdV_bd _ _ _ _ hb1 (by omega) hr).2.1
          rw [← hu]
          refine ⟨?_, by simp; omega, hn⟩
          rw [Nat.add_comm, List.drop_succ_cons]
        · cases h
    · cases h
end Go.Cod
namespace Go.Proofs.Ytiejjbdmkgdniaa
open Go.RowKit Go.Sal Go.Huf Go.Cod
theorem RowBE.dies {w w' : World} {b : List Nat} (h : decP b = none) (k : Keep [] w w') : RowBE w (decT b) (decC b) (.returned (.tuple #[.slice none 0 0, .int .i64 70])) w' := by
  obtain ⟨h1, h2⟩ := dec_no h
  rw [h1, h2]
  exact ⟨none, 0, rfl, World.ownsRow_nil _ _ _ _, k⟩
theorem RowBE.lives {w w' : World} {b q : List Nat} (h : decP b = some q) {A : Option Addr} {n c : Nat} (hn : n = q.length) (ho : w'.ownsRow w.heap.size 5 1 (.slice A n c) n (inB q)) (k : Keep [] w w') : RowBE w (decT b) (decC b) (.returned (.tuple #[.slice A n c, .int .i64 0])) w' := by
  obtain ⟨h1, h2⟩ := dec_yes h
  rw [h1, h2]
  subst hn
  exact ⟨A, c, rfl, ho, k⟩
/-- a copy: bytes behind none -/
theorem copy_app {w wr : World} {AP : Option Addr} {cP : Nat} {p : List Nat} (k : Keep [] w wr) (hp : BySrc wr AP p) (l2 : p.length ≤ 1000000) :
    ∃ A1 c1 w1 k1, (Builtin.append_ #[24, 24] 24 #[.slice (some ⟨wr.heap.size, 0, none⟩) 0 0, .slice AP p.length cP]).run Try.prog (wr.alloc (.cells #[] 5)) = .ok (.slice A1 k1 c1) w1 ∧ k1 = p.length ∧ w1.ownsRow w.heap.size 5 1 (.slice A1 k1 c1) k1 (inB p) ∧ Keep [] w w1 := by
  have ka : Keep [] wr (wr.alloc (.cells #[] 5)) := (Keep.refl [] wr).alloc _
  have h0 : (wr.alloc (.cells #[] 5)).ownsRow w.heap.size 5 1 (.slice (some ⟨wr.heap.size, 0, none⟩) 0 0) 0 (inB []) := World.ownsRow_made wr #[] 0 k.size (Nat.zero_le _) rfl
  obtain ⟨A1, c1, w1, k1, hk1, hr1, ho1, hkp1⟩ := bytes_app' (d := cP) h0 (bsrc_src (hp.keep ka (by simp))) (by omega) (by omega) (k.trans ka).size
  exact ⟨A1, c1, w1, k1, hr1, by omega, by simpa using ho1, (k.trans ka).step hkp1 (fun i hi => .inr (by simp [Value.ownBlock] at hi; have := k.size; omega))⟩
set_option maxRecDepth 20000 in
set_option maxHeartbeats 2000000 in
theorem rdecode_any (bl : List Nat) (AB : Option Addr) (cB : Nat) (w : World) (hs : BySrc w AB bl) (hc : bl.length ≤ cB) (hl : bl.length ≤ 2000) :
    Calls Try.prog 21 #[.slice AB bl.length cB] w fun e w' => RowBE w (decT bl) (decC bl) e w' := by
  have hle : ¬ (262144 : Int) < bl.length := by omega
  have HH := Lib.hid (rhead_any bl AB cB w hs hc (by omega))
  unfold HdE at HH
  have Hs := Lib.hid hs
  cases hh : headP bl with
  | none =>
    obtain ⟨h1, h2, h3⟩ := hd_no hh
    rw [h1, h2, h3] at HH
    have HN := Lib.hid (show decP bl = none by unfold decP; rw [hh])
    clear hh hs h1 h2 h3
    go_enter Try.func21, Try.ntmps21
    go_wp2_with (go_at_call 23; refine HH.out.mono ?_; rintro e w1 ⟨rfl, hk⟩; have Hk := Lib.hid hk; clear hk)
    go_ret2
    exact RowBE.dies HN.out Hk.out
  | some z =>
    obtain ⟨n, p, r⟩ := z
    obtain ⟨h1, h2, h3⟩ := hd_yes hh
    rw [h1, h2, h3] at HH
    obtain ⟨c1, c2, c3⟩ := head_cut hs.2 hh
    have HP : Hid (decP bl = if p then (if unpE r = 0 then (match bytP (unpT r) with
      | none => none
      | some q => if q.length = n then some q else none) else none) else if r.length = n then some r else none) := Lib.hid (by unfold decP; rw [hh]; rfl)
    have hrl : r.length ≤ 2000 := by rw [c1, List.length_drop]; omega
    obtain ⟨A1, cc, hst, hcc, hB⟩ := cut_at (k := 1 + (varP n).length) hs hc c2
    rw [← c1] at hst hcc hB
    have HB := Lib.hid (hB _ hs)
    have HV := Lib.hid (fun w1 => rvarint_any n w1 (by omega))
    have hvl := varP_len n
    have hwn : IntKind.u64.wrap (n : Int) = (n : Int) := by rw [IntKind.wrap_u64]; omega
    have hw1 : IntKind.i64.wrap (1 + ((varP n).length : Int)) = ((1 + (varP n).length : Nat) : Int) := by rw [IntKind.wrap_i64]; omega
    unfold RowB at HV
    generalize inB (varP n) = vb at *
    generalize (varP n).length = vl at *
    clear hh hs h1 h2 h3 c1 hB
    generalize 1 + vl = k1 at *
    go_enter Try.func21, Try.ntmps21
    go_upto_region 6 with (go_at_call 23; refine HH.out.mono ?_; rintro e w1 ⟨rfl, hk⟩; have Hk := Lib.hid hk; clear hk)
    clear HH
    go_upto_region 7 with (go_at_call 37; refine (HV.out _).mono ?_; rintro e w2 ⟨A2, c2', rfl, ho2, hk2⟩; have H2 := Lib.hid (Hk.out.trans hk2); clear ho2 hk2)
    clear HV hst hw1
    have HB2 := Lib.hid (HB.out.keep H2.out (by simp))
    cases p with
    | false =>
      by_cases hn : r.length = n
      · have HN := Lib.hid (show decP bl = some r by rw [HP.out]; simp [hn])
        have hnb : ((r.length : Int) != (n : Int)) = false := by simp [hn]
        obtain ⟨A3, c4, w3, k3, hap, hk3, ho3, hkp3⟩ := copy_app (cP := cc) H2.out HB2.out (by omega)
        have H3 := Lib.hid (And.intro hk3 (And.intro ho3 hkp3))
        clear hn HP hk3 ho3 hkp3
        go_wp2_with (at_builtin; refine wpList_append2 (v1 := .slice (some ⟨w2.heap.size, 0, none⟩) 0 0) (v2 := .slice A1 r.length cc) rfl (.tmp 38) (.tmp 39) rfl rfl rfl hap ?_)
        go_ret2
        exact RowBE.lives HN.out H3.out.1 H3.out.2.1 H3.out.2.2
      · have HN := Lib.hid (show decP bl = none by rw [HP.out]; simp [hn])
        have hnb : ((r.length : Int) != (n : Int)) = true := by simp; omega
        clear hn HP
        go_wp2
        go_ret2
        exact RowBE.dies HN.out H2.out
    | true =>
      have HU := Lib.hid (runpack_any r A1 cc w2 HB2.out hcc (by omega))
      by_cases hu : unpE r = 0
      · have htl : (unpT r).length ≤ 20000 := by have := unpT_cnt r; omega
        have Hbd := Lib.hid (unpT_bd hu)
        have HBy := Lib.hid (fun (A : Option Addr) (c : Nat) (w : World) (h : TSrc w A (unpT r)) => rbytes_any (unpT r) A c w h htl)
        have HP2 : Hid (decP bl = (match bytP (unpT r) with
          | none => none
          | some q => if q.length = n then some q else none)) := Lib.hid (by rw [HP.out]; simp [hu])
        rw [hu] at HU
        clear hu HP htl
        generalize unpT r = tl at *
        go_upto_region 14 with (go_at_call 16; refine HU.out.mono ?_; rintro e w3 ⟨A3, c4, rfl, ho3, hk3⟩; have H3 := Lib.hid (And.intro (tsrc_own ho3 rfl Hbd.out) (H2.out.trans hk3)); clear ho3 hk3)
        have HBz := Lib.hid (HBy.out A3 c4 w3 H3.out.1)
        clear HBy HU
        cases hb : bytP tl with
        | none =>
          rw [hb] at HBz HP2
          have HN := Lib.hid HP2.out
          clear HP2 hb
          go_wp2_with (go_at_call 58; refine HBz.out.mono ?_; rintro e w4 ⟨i4, E4, rfl, hE4, hk4⟩; have hE5 : (E4 != 0) = true := (by simpa using hE4); have H4 := Lib.hid (H3.out.2.trans hk4); clear hk4 hE4)
          go_ret2
          exact RowBE.dies HN.out H4.out
        | some q =>
          rw [hb] at HBz HP2
          clear hb
          by_cases hn : q.length = n
          · have HN := Lib.hid (show decP bl = some q by rw [HP2.out]; simp [hn])
            have hnb : ((q.length : Int) != (n : Int)) = false := by simp [hn]
            clear hn HP2
            go_wp2_with (go_at_call 58; refine HBz.out.mono ?_; rintro e w4 ⟨A4, c5, rfl, ho4, hk4⟩; have H4 := Lib.hid (And.intro (own_le ho4 H3.out.2.size) (H3.out.2.trans hk4)); clear hk4 ho4)
            go_ret2
            exact RowBE.lives HN.out rfl H4.out.1 H4.out.2
          · have HN := Lib.hid (show decP bl = none by rw [HP2.out]; simp [hn])
            have hnb : ((q.length : Int) != (n : Int)) = true := by simp; omega
            clear hn HP2
            go_wp2_with (go_at_call 58; refine HBz.out.mono ?_; rintro e w4 ⟨A4, c5, rfl, ho4, hk4⟩; have H4 := Lib.hid (H3.out.2.trans hk4); clear hk4 ho4)
            go_ret2
            exact RowBE.dies HN.out H4.out
      · have HN := Lib.hid (show decP bl = none by rw [HP.out]; simp [hu])
        have hub : (unpE r != 0) = true := by simpa using hu
        unfold RowT at HU
        generalize unpE r = ue at *
        clear hu HP
        go_wp2_with (go_at_call 16; refine HU.out.mono ?_; rintro e w3 ⟨A3, c4, rfl, ho3, hk3⟩; have H3 := Lib.hid (H2.out.trans hk3); clear ho3 hk3)
        go_ret2
        exact RowBE.dies HN.out H3.out
end Go.Proofs.Ytiejjbdmkgdniaa
