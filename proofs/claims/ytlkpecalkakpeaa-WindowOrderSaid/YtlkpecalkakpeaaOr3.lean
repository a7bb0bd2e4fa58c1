/- WindowOrder, walked. -/
import Derived.Test.YtlkpecalkakpeaaOr2
set_option linter.unusedVariables false
set_option linter.unusedSimpArgs false
namespace Go.Proofs.Ytlkpecalkakpeaa
open Go.RowKit Go.Sal

theorem OW.re {base : Nat} {sz ag : Int} {s s' : OSt} {w wr : World} {vP vG vW : Value} {lP lG lW : List (Int × Value)} {pP pG pW : List (Int × List UInt8)} {lv : Value} {lq : List (Snt Value)} {lp : List (Int × Value)} {es : Array MapEntry} {cl : Nat}
    (h : OW base sz ag s w wr vP vG vW lP lG lW pP pG pW lv lq lp es cl) (h1 : s'.now = s.now) (h2 : s'.d = s.d) (h3 : s'.m = s.m) (h4 : s'.op = s.op) (h5 : s'.q = s.q) (h6 : s'.g = s.g) (h7 : s'.pt = s.pt) : OW base sz ag s' w wr vP vG vW lP lG lW pP pG pW lv lq lp es cl :=
  ⟨h.hb, by rw [h1, h2, h3, h4]; exact h.S, h.Q, by rw [h5]; exact h.q, by rw [h6]; exact h.T, h.M, by rw [h7]; exact h.p, h.rP, h.rG, h.rW, h.oP, h.oG, h.oW, h.nPG, h.nPW, h.nGW, h.kp⟩

set_option maxRecDepth 20000 in
theorem order_bad (sz ag : Int) (A : Option Addr) (n c : Nat) (w : World) (h : ¬ (1 ≤ sz ∧ sz ≤ 64 ∧ 1 ≤ ag ∧ ag ≤ 1048576)) :
    Calls Try.prog 4 #[.int .i64 sz, .int .i64 ag, .slice A n c] w fun e w' => e = .returned (.bool true) ∧ Keep [] w w' := by
  by_cases hs : 1 ≤ sz ∧ sz ≤ 64
  · go_enter Try.func4, Try.ntmps4
    go_wp2_with (first
      | (go_at_call 17; refine (wnewSender_bad _ _ _ h).mono ?_; rintro e w' ⟨rfl, rfl⟩)
      | (go_at_call 8; refine (wnewTaker_ok _ _ hs.1 hs.2).mono ?_; rintro e w' ⟨rfl, rfl⟩)
      | (go_at_call 10; refine (alive_any _).mono ?_; rintro e w' ⟨rfl, hk⟩))
    go_ret
    exact ⟨rfl, (((Keep.refl [] w).alloc _).alloc _).trans hk⟩
  · have hs' : sz < 1 ∨ 64 < sz := by omega
    go_enter Try.func4, Try.ntmps4
    go_wp2_with (first
      | (go_at_call 17; refine (wnewSender_bad _ _ _ h).mono ?_; rintro e w' ⟨rfl, rfl⟩)
      | (go_at_call 8; refine (wnewTaker_bad _ _ hs').mono ?_; rintro e w' ⟨rfl, rfl⟩)
      | (go_at_call 10; refine (alive_any _).mono ?_; rintro e w' ⟨rfl, hk⟩))
    go_ret
    exact ⟨rfl, hk⟩

theorem oi_start {sz ag : Int} {w : World} : OI w.heap.size sz ag w 0 (.slice none 0 0) (.slice none 0 0) (.slice none 0 0) 0
    (((w.alloc (.cells #[.int .i64 sz, .int .i64 ag, .int .i64 0, .int .i64 1, .int .i64 0, .slice none 0 0, .int .i64 0] 77 (0, 0))).alloc (.map #[] 0)).alloc (.cells #[.int .i64 sz, .int .i64 1, .map (some (w.heap.size + 1))] 81 (0, 0))) := by
  refine ⟨⟨0, 0, 0, 0, [], 0, [], [], []⟩, [], [], [], .slice none 0 0, [], [], #[], 0, rfl, OP.start, ⟨rfl, ?_, World.ownsRow_nil _ _ _ _, trivial, ?_, ?_, trivial, World.ownsRow_nil _ _ _ _, World.ownsRow_nil _ _ _ _, World.ownsRow_nil _ _ _ _, trivial, trivial, trivial,
    by simp [Value.ownBlock], by simp [Value.ownBlock], by simp [Value.ownBlock], (((Keep.refl [] w).alloc _).alloc _).alloc _⟩⟩
  · exact ((Blk.new w 77 #[.int .i64 sz, .int .i64 ag, .int .i64 0, .int .i64 1, .int .i64 0, .slice none 0 0, .int .i64 0]).alloc _).alloc _
  · have := Blk.new ((w.alloc (.cells #[.int .i64 sz, .int .i64 ag, .int .i64 0, .int .i64 1, .int .i64 0, .slice none 0 0, .int .i64 0] 77 (0, 0))).alloc (.map #[] 0)) 81 #[.int .i64 sz, .int .i64 1, .map (some (w.heap.size + 1))]
    simpa using this
  · have := (MapIs.made (w.alloc (.cells #[.int .i64 sz, .int .i64 ag, .int .i64 0, .int .i64 1, .int .i64 0, .slice none 0 0, .int .i64 0] 77 (0, 0)))).alloc (.cells #[.int .i64 sz, .int .i64 1, .map (some (w.heap.size + 1))] 81 (0, 0))
    simpa using this

set_option maxRecDepth 20000 in
set_option maxHeartbeats 16000000 in
theorem order_ok (sz ag : Int) (A : Option Addr) (n c : Nat) (w : World) (hs : 1 ≤ sz ∧ sz ≤ 64) (ha : 1 ≤ ag ∧ ag ≤ 1048576) (hn : n ≤ 9223372036854775807)
    (hcell : ∀ k, k < n → ∃ g o kd N x ag v b, A = some ⟨g, o, none⟩ ∧ g < w.heap.size ∧ w.cell? ⟨g, o + k * 5, none⟩ = some (.int .i64 kd) ∧ w.cell? ⟨g, o + k * 5 + 1, none⟩ = some (.int .i64 N) ∧ w.cell? ⟨g, o + k * 5 + 2, none⟩ = some (.int .i64 x) ∧
      w.cell? ⟨g, o + k * 5 + 3, none⟩ = some (.bool ag) ∧ w.cell? ⟨g, o + k * 5 + 4, none⟩ = some v ∧
      (-9223372036854775808 ≤ kd ∧ kd ≤ 9223372036854775807) ∧ (-9223372036854775808 ≤ N ∧ N ≤ 9223372036854775807) ∧ (-9223372036854775808 ≤ x ∧ x ≤ 9223372036854775807) ∧ Reads w.heap.size 5 w v b) :
    Calls Try.prog 4 #[.int .i64 sz, .int .i64 ag, .slice A n c] w fun e w' => e = .returned (.bool true) ∧ Keep [] w w' := by
  have Hcell := Lib.hid hcell
  clear hcell
  have HI0 := Lib.hid (@oi_start sz ag w)
  go_enter Try.func4, Try.ntmps4
  go_wp2_with (first
    | (go_at_call 17; refine (wnewSender_ok _ _ _ hs ha).mono ?_; rintro e w' ⟨rfl, rfl⟩)
    | (go_at_call 8; refine (wnewTaker_ok _ _ hs.1 hs.2).mono ?_; rintro e w' ⟨rfl, rfl⟩))

  obtain ⟨base, hbase⟩ : ∃ base, base = w.heap.size := ⟨_, rfl⟩
  have HI : Hid (OI base sz ag w 0 (.slice none 0 0) (.slice none 0 0) (.slice none 0 0) 0 (((w.alloc (.cells #[.int .i64 sz, .int .i64 ag, .int .i64 0, .int .i64 1, .int .i64 0, .slice none 0 0, .int .i64 0] 77 (0, 0))).alloc (.map #[] 0)).alloc (.cells #[.int .i64 sz, .int .i64 1, .map (some (w.heap.size + 1))] 81 (0, 0)))) := by
    rw [hbase]
    exact HI0
  clear HI0
  simp only [← hbase] at HI ⊢
  have Hbase := Lib.hid hbase
  clear hbase
  generalize hw1 : (World.alloc _ _) = w1 at HI ⊢
  clear hw1
  go_loopw [11, 12, 13, 14, 15] (fun vP vG vW vn i wr => ∃ (k : Nat) (now : Int) (AP AG AW : Option Addr) (nP cP nG cG nW cW : Nat), i = .int .i64 k ∧ k ≤ n ∧ k ≤ 80 ∧ vP = .slice AP nP cP ∧ vG = .slice AG nG cG ∧ vW = .slice AW nW cW ∧ vn = .int .i64 now ∧ Hid (OI base sz ag w k (.slice AP nP cP) (.slice AG nG cG) (.slice AW nW cW) now wr)) (fun _ _ _ _ i _ => n - (intOf i).toNat)
  case atStart => exact ⟨0, 0, none, none, none, 0, 0, 0, 0, 0, 0, rfl, by omega, by omega, rfl, rfl, rfl, rfl, HI⟩
  case round =>
    obtain ⟨k, now, AP, AG, AW, nP, cP, nG, cG, nW, cW, rfl, hk1, hk2, rfl, rfl, rfl, rfl, hI⟩ := hrel
    by_cases hlt : k < n ∧ k < 80
    · obtain ⟨hlt1, hlt2⟩ := hlt
      obtain ⟨g, o, kd, N, x, agn, v, b, rfl, hg, hc0, hc1, hc2, hc3, hc4, hkd, hN, hx, hr⟩ := Hcell.out k hlt1
      obtain ⟨Ab, cb, rfl, hbc, hcb, hrr⟩ := id hr
      obtain ⟨s, lP, lG, lW, lv, lq, lp, es, cl, hsn, hop, how⟩ := id hI.out
      have hkp := how.kp
      have d0 := (hkp.cell (p := ⟨g, o + k * 5, none⟩) hg (by simp)).trans hc0
      have d1 := (hkp.cell (p := ⟨g, o + k * 5 + 1, none⟩) hg (by simp)).trans hc1
      have d2 := (hkp.cell (p := ⟨g, o + k * 5 + 2, none⟩) hg (by simp)).trans hc2
      have d3 := (hkp.cell (p := ⟨g, o + k * 5 + 3, none⟩) hg (by simp)).trans hc3
      have d4 := (hkp.cell (p := ⟨g, o + k * 5 + 4, none⟩) hg (by simp)).trans hc4
      have e1 := how.oP.len
      have e2 := how.oG.len
      have e3 := how.oW.len
      rw [pay_len] at e1 e2
      obtain ⟨_, _, f1, f1'⟩ := own_slice how.rP
      obtain ⟨_, _, f2, _⟩ := own_slice how.rG
      obtain ⟨_, _, f3, _⟩ := own_slice how.rW
      injection f1 with ga f1 gb; clear ga gb
      injection f2 with ga f2 gb; clear ga gb
      injection f3 with ga f3 gb; clear ga gb
      have hPK := hop.PK
      have hWK := hop.WK
      have hlP : Hid (nP = lP.length ∧ s.P.length = nP ∧ lG.length ≤ 80 ∧ lW.length = nW ∧ nW ≤ 64 * k ∧ s.W.length = nW) := Lib.hid ⟨f1, by omega, by rw [e2, List.length_take]; omega, f3.symm, by omega, by omega⟩
      have hnP : nP ≤ 80 := by omega
      have hnW : nW ≤ 5120 := by omega
      have hx1 : Keep [] wr (wr.alloc (.cells #[.int .i64 kd, .int .i64 N, .int .i64 x, .bool agn, .slice Ab b.length cb] 49)) := (Keep.refl [] wr).alloc _
      have hX := Blk.new wr 49 #[.int .i64 kd, .int .i64 N, .int .i64 x, .bool agn, .slice Ab b.length cb]
      have how1 := how.keep hx1
      have hr1 := (hr.keep hkp noByte_nil).keep hx1 noByte_nil
      rw [← Hbase.out] at hr1
      have Hx1 := Lib.hid hx1
      have HX := Lib.hid hX
      have Hr := Lib.hid hr1
      have Hsn := Lib.hid hsn
      have Hop := Lib.hid hop
      have How := Lib.hid how1
      clear hrr hr hc0 hc1 hc2 hc3 hc4 hsn hop how how1 hkp e1 e2 e3 f1 f1' f2 f3 hPK hWK hx1 hX hr1
      by_cases k1 : kd = 1
      · subst k1
        as_aux_lemma =>
          have hpush := How.out.push Hop.out (by omega) hs.1 (Hr.out.cut 50) (by rw [List.length_take]; omega)
          rw [hlP.out.2.1] at hpush
          have Hpush := Lib.hid hpush
          have hwp : IntKind.i64.wrap ((nP : Int) + 1) = (nP : Int) + 1 := by rw [IntKind.wrap_i64]; omega
          have hmin : IntKind.i64.wrap ((nP : Int) + 1) = (nP : Int) + 1 := hwp
          clear hpush hI
          go_wp2_with (go_at_call 11; refine (cut_any _ _ _ _ hbc hcb).mono ?_; rintro e w' ⟨rfl, rfl⟩)
          refine Hpush.out.mono ?_
          rintro e w2 ⟨rfl, lv2, lq2, how2, hk2⟩
          have hX2 := HX.out.keep hk2 (by
            have h1 := How.out.size
            have h2 := own_ne_blk How.out.Q HX.out (by decide)
            have h3 := How.out.S.lt
            simp only [List.mem_cons, Option.mem_toList, not_or]
            exact ⟨fun e => by have h4 := How.out.S; rw [← e] at h4; exact absurd rfl (Blk.ne_ h4 HX.out (by decide)), by simpa using h2⟩)
          have x4 : w2.cell? ⟨wr.heap.size, 4, none⟩ = some (.slice Ab b.length cb) := hX2.cell 4
          have hr2 := (Hr.out.keep hk2 How.out.noS).cut 50
          have hka : Keep [] w2 (w2.alloc (.cells #[.int .i64 ((nP : Int) + 1), .slice Ab (min b.length 50) cb] 33)) := (Keep.refl [] w2).alloc _
          have hrA := hr2.keep hka noByte_nil
          obtain ⟨A3, m3, c3, w3, hm3, hap, hk3, how3⟩ := (how2.keep hka).addP (c := 1) (l := [((nP : Int) + 1, .slice Ab (min b.length 50) cb)]) (p := [((nP : Int) + 1, b.take 50)]) (src_new w2 33 2 [.int .i64 ((nP : Int) + 1), .slice Ab (min b.length 50) cb] rfl) ⟨rfl, hrA, trivial⟩ (by have := hlP.out; simp; omega)
          have hIc : OI base sz ag w (k + 1) (.slice A3 m3 c3) (.slice AG nG cG) (.slice AW nW cW) now w3 := by
            refine ⟨{ s with P := s.P ++ [b.take 50], q := s.q ++ [⟨b.take 50, false, 0, false⟩], op := s.op + 1 }, lP ++ [((nP : Int) + 1, .slice Ab (min b.length 50) cb)], lG, lW, lv2, lq2, lp, es, cl, Hsn.out, Hop.out.push (b := b.take 50) (by rw [List.length_take]; omega), ?_⟩
            have hg1 := Hop.out.gm
            have hg2 := Hop.out.mP
            have e1 : pay 0 (s.P ++ [b.take 50]) = pay 0 s.P ++ [((nP : Int) + 1, b.take 50)] := by
              rw [pay_append, hlP.out.2.1]
              simp [pay]
            have e2 : (s.P ++ [b.take 50]).take s.g = s.P.take s.g := List.take_append_of_le_length (by omega)
            dsimp only
            rw [e1, e2]
            exact how3.re rfl rfl rfl rfl rfl rfl rfl
          have HIc := Lib.hid hIc
          have Hap := Lib.hid hap
          clear hIc how2 hk2 hX2 hr2 hka hrA hk3 how3 hap hm3
          have hap := Hap.out

          obtain ⟨hle, hcp, hsm⟩ := HIc.out.check (by omega)
          have Hsm := Lib.hid hsm
          clear hsm
          go_wp2_with (first
            | (go_at_call 11; refine (cut_any _ _ _ _ hbc hcb).mono ?_; rintro e w' ⟨rfl, rfl⟩)
            | (at_builtin; refine wpList_append2 (v1 := .slice AP nP cP) (v2 := .slice (some ⟨w2.heap.size, 0, none⟩) 1 1) rfl (.tmp 97) (.tmp 103) rfl rfl rfl hap ?_)
            | (go_at_call 16; refine Hsm.out.mono ?_; rintro e w' ⟨rfl, nn, rfl⟩))
          exact ⟨⟨k + 1, _, _, _, _, _, _, _, _, _, _, by simp, by omega, by omega, rfl, rfl, rfl, rfl, Lib.hid (HIc.out.keep ((Keep.refl [] _).drewN nn))⟩, by simp [intOf]; omega⟩
      by_cases k2 : kd = 2
      · subst k2
        as_aux_lemma =>
          obtain ⟨now', hnow'⟩ : ∃ m, m = mom now (max x 0) := ⟨_, rfl⟩
          have hn01 := Hop.out.now0
          have hn02 := Hop.out.now1
          rw [Hsn.out] at hn01 hn02
          have hmb := mom_bound (now := now) (x := max x 0) ⟨hn01, hn02⟩ (by omega)
          rw [← hnow'] at hmb
          have Hmo : Hid (∀ w, Calls Try.prog 19 #[.int .i64 now, .int .i64 (max x 0)] w fun e w' => e = .returned (.int .i64 now') ∧ w = w') := Lib.hid (fun w => by rw [hnow']; exact moment_any now (max x 0) w ⟨hn01, hn02⟩ (by omega))
          have Hdue := Lib.hid (How.out.due Hop.out (by omega) hs (now := now') (by rw [Hsn.out]; exact hmb.1) hmb.2)
          have Hmb := Lib.hid hmb
          clear hnow' hI hmb
          go_wp2_with (go_at_call 19; refine (Hmo.out _).mono ?_; rintro e w' ⟨rfl, rfl⟩)
          refine Hdue.out.mono ?_
          rintro e w2 ⟨A2, c2, kk, out, rfl, hol, hkq, hks, how2, hown2, hout2, hk2⟩
          obtain ⟨A3, m3, c3, w3, hm3, hap, hk3, how3⟩ := how2.addW (c := c2) (Src.of_own hown2) hout2 (by have := hlP.out; omega)
          have hdl : decide (sz < (out.length : Int)) = false := by simp; omega
          have hIc : OI base sz ag w (k + 1) (.slice AP nP cP) (.slice AG nG cG) (.slice A3 m3 c3) now' w3 := by
            have hmb := Hmb.out
            exact ⟨_, lP, lG, lW ++ out, lv, dueL ag now' kk lq, lp, es, cl, rfl, Hop.out.due (ag := ag) (now := now') (k := kk) (by rw [Hsn.out]; exact hmb.1) hmb.2 (by omega) (by omega) hkq, how3.re rfl rfl rfl rfl rfl rfl rfl⟩
          have HIc := Lib.hid hIc
          have Hap := Lib.hid hap
          clear hIc how2 hown2 hout2 hk2 hap hk3 how3 hm3 hol hkq hks
          have hap := Hap.out

          obtain ⟨hle, hcp, hsm⟩ := HIc.out.check (by omega)
          have Hsm := Lib.hid hsm
          clear hsm
          go_wp2_with (first
            | (at_builtin; refine wpList_append2 (v1 := .slice AW nW cW) (v2 := .slice A2 out.length c2) rfl (.tmp 126) (.tmp 127) rfl rfl rfl hap ?_)
            | (go_at_call 16; refine Hsm.out.mono ?_; rintro e w' ⟨rfl, nn, rfl⟩))
          exact ⟨⟨k + 1, _, _, _, _, _, _, _, _, _, _, by simp, by omega, by omega, rfl, rfl, rfl, rfl, Lib.hid (HIc.out.keep ((Keep.refl [] _).drewN nn))⟩, by simp [intOf]; omega⟩
      by_cases k3 : kd = 3
      · subst k3
        as_aux_lemma =>
          by_cases hN0 : N < 0
          · go_wp2
            exact ⟨⟨k + 1, now, AP, AG, AW, nP, cP, nG, cG, nW, cW, by simp, by omega, by omega, rfl, rfl, rfl, rfl, Lib.hid (hI.out.later.keep Hx1.out)⟩, by simp [intOf]; omega⟩
          by_cases hN1 : (nW : Int) ≤ N
          · go_wp2
            exact ⟨⟨k + 1, now, AP, AG, AW, nP, cP, nG, cG, nW, cW, by simp, by omega, by omega, rfl, rfl, rfl, rfl, Lib.hid (hI.out.later.keep Hx1.out)⟩, by simp [intOf]; omega⟩
          obtain ⟨i, rfl⟩ : ∃ i : Nat, N = i := ⟨N.toNat, by omega⟩
          have hi : i < nW := by omega
          clear hI hN0 hN1
          have hrW := How.out.rW
          rw [hlP.out.2.2.2.1] at hrW
          obtain ⟨gw, rfl, hgw1, hgw2⟩ := own_some hrW (by omega)
          have hiL : i < lW.length := by rw [hlP.out.2.2.2.1]; exact hi
          have hiP : i < s.W.length := by rw [hlP.out.2.2.2.2.2]; exact hi
          obtain ⟨q1, q2⟩ := How.out.oW.get i hiL hiP
          have hmem : s.W[i] ∈ s.W := List.getElem_mem hiP
          have y0 := (ownsRow_cell hrW (flat_get lW i hiL).1).1
          have y1 := (ownsRow_cell hrW (flat_get lW i hiL).2).1
          rw [q1] at y0
          obtain ⟨Ae, ce, q3, _⟩ := id q2
          rw [q3] at y1 q2
          generalize hee : s.W[i] = ee at *
          obtain ⟨en, eb⟩ := ee
          dsimp only at q1 q2 q3 y0 y1
          have hk2 : Keep [] (wr.alloc (.cells #[.int .i64 3, .int .i64 (i : Int), .int .i64 x, .bool agn, .slice Ab b.length cb] 49)) ((wr.alloc (.cells #[.int .i64 3, .int .i64 (i : Int), .int .i64 x, .bool agn, .slice Ab b.length cb] 49)).alloc (.cells #[.int .i64 en, .slice Ae eb.length ce] 33)) := (Keep.refl [] _).alloc _
          have hX2 := HX.out.keep hk2 (by simp)
          have hP2 := Blk.new (wr.alloc (.cells #[.int .i64 3, .int .i64 (i : Int), .int .i64 x, .bool agn, .slice Ab b.length cb] 49)) 33 #[.int .i64 en, .slice Ae eb.length ce]
          have hq2 := q2.keep hk2 noByte_nil
          have how2 := How.out.keep hk2
          rw [World.size_alloc] at hP2
          clear hrW q1 q2 q3 hee hk2 hgw1 hgw2 hiL hiP

          cases agn
          · obtain ⟨AV, AT, AB, cV, cB, mm, mc, m3, wb, wc, hsl1, hsl2, hap1, hap2, hm3, hkb, hkc, howc⟩ := how2.cutW hi (by omega)
            simp only [World.size_alloc] at hap1
            have hSk : ∀ W, Keep [] ((wr.alloc (.cells #[.int .i64 3, .int .i64 (i : Int), .int .i64 x, .bool false, .slice Ab b.length cb] 49)).alloc (.cells #[.int .i64 en, .slice Ae eb.length ce] 33)) W → W.cell? ⟨wr.heap.size, 1, none⟩ = some (.int .i64 (i : Int)) := fun W h => (hX2.keep h (by simp)).cell 1
            have hXc := hX2.keep hkc (by simp)
            have hPc := hP2.keep hkc (by simp)
            have hqc := hq2.keep hkc noByte_nil
            have HSk := Lib.hid hSk
            have Hkb := Lib.hid hkb
            have Hkc := Lib.hid hkc
            have Howc := Lib.hid howc
            have HXc := Lib.hid hXc
            have HPc := Lib.hid hPc
            have Hqc := Lib.hid hqc
            have Hmem := Lib.hid hmem
            have hb22 := run_empty_slice (P := Try.prog) 22 33 _ _ _ Try.underlying22 payinfo
            have hwi : IntKind.i64.wrap ((i : Int) + 1) = (i : Int) + 1 := by rw [IntKind.wrap_i64]; omega
            have hSX := HSk.out _ ((Keep.refl [] _).drew)
            clear hX2 hP2 hq2 how2 hm3 hkb hkc howc hSk hXc hPc hqc hmem
            go_wp2_with fail
            clear y0 y1
            refine wp_region_G (fun W => W.cell? ⟨wr.heap.size, 1, none⟩ = some (.int .i64 (i : Int))) [11] #[false, false, false, false, false, false, false, false, false, false, false, false, false] 13 (by kernel_rfl) (by kernel_rfl) (by kernel_rfl) ?_
            refine wpAnyG_take0 (i := 1) (oi := { dst := some 156, op := Go.Op.move (Go.Operand.tmp 13), type := 22, pos := "law.go:191", after := #[], guard := none }) (v := ?vg1_1) rfl (by kernel_rfl) (by kernel_rfl) (by kernel_rfl) (by kernel_rfl) (fun _ _ _ h => h) (fun _ => hSX) (Or.inl ⟨by rfl, ?hg1_1⟩) ?_
            case hg1_1 => intro w _; go_simp; (try with_reducible rfl)
            try simp only [Act.put, List.setIfInBounds_toArray, List.set_cons_zero, List.set_cons_succ]
            refine wpAnyG_take0 (i := 2) (oi := { dst := some 157, op := Go.Op.fieldAddr 49 (Go.Operand.tmp 16) 1, type := 0, pos := "law.go:191", after := #[], guard := none }) (v := ?vg1_2) rfl (by kernel_rfl) (by kernel_rfl) (by kernel_rfl) (by kernel_rfl) (fun _ _ _ h => h) (fun _ => hSX) (Or.inl ⟨by rfl, ?hg1_2⟩) ?_
            case hg1_2 => intro w _; go_simp; (try with_reducible rfl)
            try simp only [Act.put, List.setIfInBounds_toArray, List.set_cons_zero, List.set_cons_succ]
            refine wpAnyG_take (i := 3) (oi := { dst := some 158, op := Go.Op.load 3 (Go.Operand.tmp 157), type := 3, pos := "law.go:191", after := #[{ on := 2, ground := Go.Ground.data }], guard := none }) (v := ?vg1_3) [3, 4, 5, 11, 12] rfl (by kernel_rfl) (by kernel_rfl) (by kernel_rfl) (by kernel_rfl) (by kernel_rfl) (fun _ _ _ h => h) (fun _ => hSX) (Or.inl ⟨by rfl, ?hg1_3⟩) ?_
            case hg1_3 => intro w hSw; (try dsimp only at hSw); go_simp; (try with_reducible rfl)
            try simp only [Act.put, List.setIfInBounds_toArray, List.set_cons_zero, List.set_cons_succ]
            refine wpAnyG_take0 (i := 4) (oi := { dst := some 159, op := Go.Op.slice 22 (Go.Operand.tmp 156) none (some (Go.Operand.tmp 158)) none, type := 22, pos := "law.go:191", after := #[{ on := 1, ground := Go.Ground.data }, { on := 3, ground := Go.Ground.data }], guard := none }) (v := ?vg1_4) rfl (by kernel_rfl) (by kernel_rfl) (by kernel_rfl) (by kernel_rfl) (fun _ _ _ h => h) (fun _ => hSX) (Or.inl ⟨by rfl, ?hg1_4⟩) ?_
            case hg1_4 => intro w _; go_simp; (try with_reducible rfl)
            try simp only [Act.put, List.setIfInBounds_toArray, List.set_cons_zero, List.set_cons_succ]
            refine wpAnyG_take0 (i := 6) (oi := { dst := some 161, op := Go.Op.move (Go.Operand.tmp 13), type := 22, pos := "law.go:191", after := #[], guard := none }) (v := ?vg1_6) rfl (by kernel_rfl) (by kernel_rfl) (by kernel_rfl) (by kernel_rfl) (fun _ _ _ h => h) (fun _ => hSX) (Or.inl ⟨by rfl, ?hg1_6⟩) ?_
            case hg1_6 => intro w _; go_simp; (try with_reducible rfl)
            try simp only [Act.put, List.setIfInBounds_toArray, List.set_cons_zero, List.set_cons_succ]
            refine wpAnyG_take0 (i := 7) (oi := { dst := some 162, op := Go.Op.fieldAddr 49 (Go.Operand.tmp 16) 1, type := 0, pos := "law.go:191", after := #[], guard := none }) (v := ?vg1_7) rfl (by kernel_rfl) (by kernel_rfl) (by kernel_rfl) (by kernel_rfl) (fun _ _ _ h => h) (fun _ => hSX) (Or.inl ⟨by rfl, ?hg1_7⟩) ?_
            case hg1_7 => intro w _; go_simp; (try with_reducible rfl)
            try simp only [Act.put, List.setIfInBounds_toArray, List.set_cons_zero, List.set_cons_succ]
            refine wpAnyG_take (i := 8) (oi := { dst := some 163, op := Go.Op.load 3 (Go.Operand.tmp 162), type := 3, pos := "law.go:191", after := #[{ on := 7, ground := Go.Ground.data }], guard := none }) (v := ?vg1_8) [8, 9, 10, 11, 12] rfl (by kernel_rfl) (by kernel_rfl) (by kernel_rfl) (by kernel_rfl) (by kernel_rfl) (fun _ _ _ h => h) (fun _ => hSX) (Or.inl ⟨by rfl, ?hg1_8⟩) ?_
            case hg1_8 => intro w hSw; (try dsimp only at hSw); go_simp; (try with_reducible rfl)
            try simp only [Act.put, List.setIfInBounds_toArray, List.set_cons_zero, List.set_cons_succ]
            refine wpAnyG_take0 (i := 9) (oi := { dst := some 164, op := Go.Op.binOp Go.BinOp.add 3 (Go.Operand.tmp 163) (Go.Operand.const (Go.Value.int Go.IntKind.i64 1)) 3, type := 3, pos := "law.go:191", after := #[{ on := 8, ground := Go.Ground.data }], guard := none }) (v := ?vg1_9) rfl (by kernel_rfl) (by kernel_rfl) (by kernel_rfl) (by kernel_rfl) (fun _ _ _ h => h) (fun _ => hSX) (Or.inl ⟨by rfl, ?hg1_9⟩) ?_
            case hg1_9 => intro w _; go_simp; (try with_reducible rfl)
            try simp only [Act.put, List.setIfInBounds_toArray, List.set_cons_zero, List.set_cons_succ]
            refine wpAnyG_take0 (i := 10) (oi := { dst := some 165, op := Go.Op.slice 22 (Go.Operand.tmp 161) (some (Go.Operand.tmp 164)) none none, type := 22, pos := "law.go:191", after := #[{ on := 6, ground := Go.Ground.data }, { on := 9, ground := Go.Ground.data }], guard := none }) (v := ?vg1_10) rfl (by kernel_rfl) (by kernel_rfl) (by kernel_rfl) (by kernel_rfl) (fun _ _ _ h => h) (fun _ => hSX) (Or.inl ⟨by rfl, ?hg1_10⟩) ?_
            case hg1_10 => intro w _; go_simp; (try with_reducible rfl)
            try simp only [Act.put, List.setIfInBounds_toArray, List.set_cons_zero, List.set_cons_succ]
            refine wpAnyG_step (i := 0) (oi := { dst := some 155, op := Go.Op.buildSlice 22 0 #[], type := 22, pos := "law.go:191", after := #[], guard := none }) rfl (by kernel_rfl) (by rfl) (fun K hK => ?_)
            go_simp
            refine hK _ _ ?_ (fun hSg1_0 => ?_)
            · intro _; exact HSk.out _ (((Keep.refl [] _).drew).alloc _)
            replace hSg1_0 := hSg1_0 (by kernel_rfl)
            clear hK
            try simp only [Act.put, List.setIfInBounds_toArray, List.set_cons_zero, List.set_cons_succ]
            refine wpAnyG_step (i := 5) (oi := { dst := some 160, op := Go.Op.call { callee := Go.Callee.builtin Go.Builtin.append, args := #[Go.Operand.tmp 155, Go.Operand.tmp 159], argTypes := #[22, 22] }, type := 22, pos := "law.go:191", after := #[{ on := 0, ground := Go.Ground.data }, { on := 4, ground := Go.Ground.data }], guard := none }) rfl (by kernel_rfl) (by rfl) (fun K hK => ?_)
            refine wp_append2 (v1 := .slice (some ⟨wr.heap.size + 1 + 1, 0, none⟩) 0 0) (v2 := .slice (some ⟨gw, 0, none⟩) i cW) (.tmp 155) (.tmp 159) rfl rfl rfl hap1 ?_
            refine hK _ _ ?_ (fun hSg1_5 => ?_)
            · intro _; exact HSk.out _ Hkb.out
            replace hSg1_5 := hSg1_5 (by kernel_rfl)
            clear hK
            try simp only [Act.put, List.setIfInBounds_toArray, List.set_cons_zero, List.set_cons_succ]
            refine wpAnyG_step (i := 11) (oi := { dst := some 166, op := Go.Op.call { callee := Go.Callee.builtin Go.Builtin.append, args := #[Go.Operand.tmp 160, Go.Operand.tmp 165], argTypes := #[22, 22] }, type := 22, pos := "law.go:191", after := #[{ on := 5, ground := Go.Ground.data }, { on := 10, ground := Go.Ground.data }, { on := 5, ground := Go.Ground.chain }], guard := none }) rfl (by kernel_rfl) (by rfl) (fun K hK => ?_)
            refine wp_append2 (v1 := .slice AV i cV) (v2 := .slice AT mm mc) (.tmp 160) (.tmp 165) rfl rfl rfl hap2 ?_
            refine hK _ _ (fun h => absurd h (Bool.eq_false_iff.1 (by kernel_rfl))) (fun _ => ?_)
            clear hK
            try simp only [Act.put, List.setIfInBounds_toArray, List.set_cons_zero, List.set_cons_succ]
            refine wpAnyG_take0 (i := 12) (oi := { dst := some 13, op := Go.Op.assign (Go.Operand.tmp 166), type := 22, pos := "law.go:191", after := #[{ on := 11, ground := Go.Ground.data }, { on := 11, ground := Go.Ground.chain }, { on := 0, ground := Go.Ground.phase }, { on := 1, ground := Go.Ground.phase }, { on := 2, ground := Go.Ground.phase }, { on := 3, ground := Go.Ground.phase }, { on := 4, ground := Go.Ground.phase }, { on := 5, ground := Go.Ground.phase }, { on := 6, ground := Go.Ground.phase }, { on := 7, ground := Go.Ground.phase }, { on := 8, ground := Go.Ground.phase }, { on := 9, ground := Go.Ground.phase }, { on := 10, ground := Go.Ground.phase }, { on := 11, ground := Go.Ground.phase }], guard := none }) (v := ?vg1_12) rfl (by kernel_rfl) (by kernel_rfl) (by kernel_rfl) (by kernel_rfl) (fun _ _ _ h => h) (fun h => absurd h (Bool.eq_false_iff.1 (by kernel_rfl))) (Or.inl ⟨by rfl, ?hg1_12⟩) ?_
            case hg1_12 => intro w _; go_simp; (try with_reducible rfl)
            try simp only [Act.put, List.setIfInBounds_toArray, List.set_cons_zero, List.set_cons_succ]
            refine wpAnyG_done (by kernel_rfl) ?_ _
            clear hSX hsl1 hsl2 hap1 hap2 hb22 hwi

            have hsub : ∀ e ∈ (s.W.take i ++ s.W.drop (i + 1)), e ∈ s.W := fun e he => by
                rcases List.mem_append.1 he with he | he
                · exact List.mem_of_mem_take he
                · exact List.mem_of_mem_drop he
            have hlen : (s.W.take i ++ s.W.drop (i + 1)).length ≤ s.W.length := by
              simp
              omega
            have Htk := Lib.hid (Howc.out.take Hop.out (by omega) hs (e := (en, eb)) Hmem.out Hqc.out)
            have px0 : wc.cell? ⟨wr.heap.size + 1, 0, none⟩ = some (.int .i64 en) := HPc.out.cell 0
            have px1 : wc.cell? ⟨wr.heap.size + 1, 1, none⟩ = some (.slice Ae eb.length ce) := HPc.out.cell 1
            have xx0 : wc.cell? ⟨wr.heap.size, 0, none⟩ = some (.int .i64 3) := HXc.out.cell 0
            have Hsub := Lib.hid hsub
            have Hlen := Lib.hid hlen
            clear hsub hlen
            go_wp2_with fail
            refine Htk.out.mono ?_
            rintro e w4 ⟨A4, c4, g', pt', po, out, lp', es', cl', rfl, hop4, hpay4, how4, hown4, hout4, hk4⟩
            have hlo := hout4.len
            have hpl := congrArg List.length hpay4
            rw [List.length_append, pay_len, pay_len, List.length_take, List.length_take] at hpl
            obtain ⟨A5, m5, c5, w5, hm5, hap, hk5, how5⟩ := how4.addG (c := c4) (Src.of_own hown4) hout4 (by have := hlP.out; omega)
            have hIc : OI base sz ag w (k + 1) (.slice AP nP cP) (.slice A5 m5 c5) (.slice AB m3 cB) now w5 := by
              refine ⟨{ s with g := g', pt := pt', W := (s.W.take i ++ s.W.drop (i + 1)) }, lP, lG ++ out, (lW.take i ++ lW.drop (i + 1)), lv, lq, lp', es', cl', Hsn.out, hop4.way_sub Hsub.out Hlen.out, ?_⟩
              dsimp only
              rw [← hpay4]
              exact how5.re rfl rfl rfl rfl rfl rfl rfl
            have HIc := Lib.hid hIc
            have Hap := Lib.hid hap
            clear px0 px1 xx0 hIc how4 hown4 hout4 hk4 hap hk5 how5 hm5 hlo hpl hpay4 hop4
            have hap := Hap.out

            obtain ⟨hle, hcp, hsm⟩ := HIc.out.check (by omega)
            have Hsm := Lib.hid hsm
            clear hsm
            go_wp2_with (first
              | (at_builtin; refine wpList_append2 (v1 := .slice AG nG cG) (v2 := .slice A4 out.length c4) rfl (.tmp 178) (.tmp 179) rfl rfl rfl hap ?_)
              | (go_at_call 16; refine Hsm.out.mono ?_; rintro e w' ⟨rfl, nn, rfl⟩))
            exact ⟨⟨k + 1, _, _, _, _, _, _, _, _, _, _, by simp, by omega, by omega, rfl, rfl, rfl, rfl, Lib.hid (HIc.out.keep ((Keep.refl [] _).drewN nn))⟩, by simp [intOf]; omega⟩
          · have hsub : ∀ e ∈ s.W, e ∈ s.W := fun e he => he
            have hlen : s.W.length ≤ s.W.length := Nat.le_refl _
            have Htk := Lib.hid (how2.take Hop.out (by omega) hs (e := (en, eb)) hmem hq2)
            have px0 : ((wr.alloc (.cells #[.int .i64 3, .int .i64 (i : Int), .int .i64 x, .bool true, .slice Ab b.length cb] 49)).alloc (.cells #[.int .i64 en, .slice Ae eb.length ce] 33)).cell? ⟨wr.heap.size + 1, 0, none⟩ = some (.int .i64 en) := hP2.cell 0
            have px1 : ((wr.alloc (.cells #[.int .i64 3, .int .i64 (i : Int), .int .i64 x, .bool true, .slice Ab b.length cb] 49)).alloc (.cells #[.int .i64 en, .slice Ae eb.length ce] 33)).cell? ⟨wr.heap.size + 1, 1, none⟩ = some (.slice Ae eb.length ce) := hP2.cell 1
            have xx0 : ((wr.alloc (.cells #[.int .i64 3, .int .i64 (i : Int), .int .i64 x, .bool true, .slice Ab b.length cb] 49)).alloc (.cells #[.int .i64 en, .slice Ae eb.length ce] 33)).cell? ⟨wr.heap.size, 0, none⟩ = some (.int .i64 3) := hX2.cell 0
            have Hsub := Lib.hid hsub
            have Hlen := Lib.hid hlen
            clear hsub hlen
            go_wp2_with fail
            refine Htk.out.mono ?_
            rintro e w4 ⟨A4, c4, g', pt', po, out, lp', es', cl', rfl, hop4, hpay4, how4, hown4, hout4, hk4⟩
            have hlo := hout4.len
            have hpl := congrArg List.length hpay4
            rw [List.length_append, pay_len, pay_len, List.length_take, List.length_take] at hpl
            obtain ⟨A5, m5, c5, w5, hm5, hap, hk5, how5⟩ := how4.addG (c := c4) (Src.of_own hown4) hout4 (by have := hlP.out; omega)
            have hIc : OI base sz ag w (k + 1) (.slice AP nP cP) (.slice A5 m5 c5) (.slice (some ⟨gw, 0, none⟩) nW cW) now w5 := by
              refine ⟨{ s with g := g', pt := pt', W := s.W }, lP, lG ++ out, lW, lv, lq, lp', es', cl', Hsn.out, hop4.way_sub Hsub.out Hlen.out, ?_⟩
              dsimp only
              rw [← hpay4]
              exact how5.re rfl rfl rfl rfl rfl rfl rfl
            have HIc := Lib.hid hIc
            have Hap := Lib.hid hap
            clear px0 px1 xx0 hIc how4 hown4 hout4 hk4 hap hk5 how5 hm5 hlo hpl hpay4 hop4
            have hap := Hap.out

            obtain ⟨hle, hcp, hsm⟩ := HIc.out.check (by omega)
            have Hsm := Lib.hid hsm
            clear hsm
            go_wp2_with (first
              | (at_builtin; refine wpList_append2 (v1 := .slice AG nG cG) (v2 := .slice A4 out.length c4) rfl (.tmp 178) (.tmp 179) rfl rfl rfl hap ?_)
              | (go_at_call 16; refine Hsm.out.mono ?_; rintro e w' ⟨rfl, nn, rfl⟩))
            exact ⟨⟨k + 1, _, _, _, _, _, _, _, _, _, _, by simp, by omega, by omega, rfl, rfl, rfl, rfl, Lib.hid (HIc.out.keep ((Keep.refl [] _).drewN nn))⟩, by simp [intOf]; omega⟩
      by_cases k4 : kd = 4
      · subst k4
        as_aux_lemma =>
          by_cases hN0 : N < 0
          · go_wp2
            exact ⟨⟨k + 1, now, AP, AG, AW, nP, cP, nG, cG, nW, cW, by simp, by omega, by omega, rfl, rfl, rfl, rfl, Lib.hid (hI.out.later.keep Hx1.out)⟩, by simp [intOf]; omega⟩
          by_cases hN1 : (nW : Int) ≤ N
          · go_wp2
            exact ⟨⟨k + 1, now, AP, AG, AW, nP, cP, nG, cG, nW, cW, by simp, by omega, by omega, rfl, rfl, rfl, rfl, Lib.hid (hI.out.later.keep Hx1.out)⟩, by simp [intOf]; omega⟩
          obtain ⟨i, rfl⟩ : ∃ i : Nat, N = i := ⟨N.toNat, by omega⟩
          have hi : i < nW := by omega
          clear hI hN0 hN1
          have hrW := How.out.rW
          rw [hlP.out.2.2.2.1] at hrW
          obtain ⟨gw, rfl, hgw1, hgw2⟩ := own_some hrW (by omega)
          have hiL : i < lW.length := by rw [hlP.out.2.2.2.1]; exact hi
          have hiP : i < s.W.length := by rw [hlP.out.2.2.2.2.2]; exact hi
          obtain ⟨q1, q2⟩ := How.out.oW.get i hiL hiP
          have hmem : s.W[i] ∈ s.W := List.getElem_mem hiP
          have y0 := (ownsRow_cell hrW (flat_get lW i hiL).1).1
          have y1 := (ownsRow_cell hrW (flat_get lW i hiL).2).1
          rw [q1] at y0
          obtain ⟨Ae, ce, q3, _⟩ := id q2
          rw [q3] at y1 q2
          generalize hee : s.W[i] = ee at *
          obtain ⟨en, eb⟩ := ee
          dsimp only at q1 q2 q3 y0 y1
          have hk2 : Keep [] (wr.alloc (.cells #[.int .i64 4, .int .i64 (i : Int), .int .i64 x, .bool agn, .slice Ab b.length cb] 49)) ((wr.alloc (.cells #[.int .i64 4, .int .i64 (i : Int), .int .i64 x, .bool agn, .slice Ab b.length cb] 49)).alloc (.cells #[.int .i64 en, .slice Ae eb.length ce] 33)) := (Keep.refl [] _).alloc _
          have hX2 := HX.out.keep hk2 (by simp)
          have hP2 := Blk.new (wr.alloc (.cells #[.int .i64 4, .int .i64 (i : Int), .int .i64 x, .bool agn, .slice Ab b.length cb] 49)) 33 #[.int .i64 en, .slice Ae eb.length ce]
          have hq2 := q2.keep hk2 noByte_nil
          have how2 := How.out.keep hk2
          rw [World.size_alloc] at hP2
          clear hrW q1 q2 q3 hee hk2 hgw1 hgw2 hiL hiP

          obtain ⟨AV, AT, AB, cV, cB, mm, mc, m3, wb, wc, hsl1, hsl2, hap1, hap2, hm3, hkb, hkc, howc⟩ := how2.cutW hi (by omega)
          simp only [World.size_alloc] at hap1
          have hSk : ∀ W, Keep [] ((wr.alloc (.cells #[.int .i64 4, .int .i64 (i : Int), .int .i64 x, .bool agn, .slice Ab b.length cb] 49)).alloc (.cells #[.int .i64 en, .slice Ae eb.length ce] 33)) W → W.cell? ⟨wr.heap.size, 1, none⟩ = some (.int .i64 (i : Int)) := fun W h => (hX2.keep h (by simp)).cell 1
          have hXc := hX2.keep hkc (by simp)
          have hPc := hP2.keep hkc (by simp)
          have hqc := hq2.keep hkc noByte_nil
          have HSk := Lib.hid hSk
          have Hkb := Lib.hid hkb
          have Hkc := Lib.hid hkc
          have Howc := Lib.hid howc
          have HXc := Lib.hid hXc
          have HPc := Lib.hid hPc
          have Hqc := Lib.hid hqc
          have Hmem := Lib.hid hmem
          have hb22 := run_empty_slice (P := Try.prog) 22 33 _ _ _ Try.underlying22 payinfo
          have hwi : IntKind.i64.wrap ((i : Int) + 1) = (i : Int) + 1 := by rw [IntKind.wrap_i64]; omega
          have hSX := HSk.out _ ((Keep.refl [] _).drew)
          clear hX2 hP2 hq2 how2 hm3 hkb hkc howc hSk hXc hPc hqc hmem
          go_wp2_with fail
          clear y0 y1
          refine wp_region_G (fun W => W.cell? ⟨wr.heap.size, 1, none⟩ = some (.int .i64 (i : Int))) [11] #[false, false, false, false, false, false, false, false, false, false, false, false, false] 13 (by kernel_rfl) (by kernel_rfl) (by kernel_rfl) ?_
          refine wpAnyG_take0 (i := 1) (oi := { dst := some 156, op := Go.Op.move (Go.Operand.tmp 13), type := 22, pos := "law.go:191", after := #[], guard := none }) (v := ?vg2_1) rfl (by kernel_rfl) (by kernel_rfl) (by kernel_rfl) (by kernel_rfl) (fun _ _ _ h => h) (fun _ => hSX) (Or.inl ⟨by rfl, ?hg2_1⟩) ?_
          case hg2_1 => intro w _; go_simp; (try with_reducible rfl)
          try simp only [Act.put, List.setIfInBounds_toArray, List.set_cons_zero, List.set_cons_succ]
          refine wpAnyG_take0 (i := 2) (oi := { dst := some 157, op := Go.Op.fieldAddr 49 (Go.Operand.tmp 16) 1, type := 0, pos := "law.go:191", after := #[], guard := none }) (v := ?vg2_2) rfl (by kernel_rfl) (by kernel_rfl) (by kernel_rfl) (by kernel_rfl) (fun _ _ _ h => h) (fun _ => hSX) (Or.inl ⟨by rfl, ?hg2_2⟩) ?_
          case hg2_2 => intro w _; go_simp; (try with_reducible rfl)
          try simp only [Act.put, List.setIfInBounds_toArray, List.set_cons_zero, List.set_cons_succ]
          refine wpAnyG_take (i := 3) (oi := { dst := some 158, op := Go.Op.load 3 (Go.Operand.tmp 157), type := 3, pos := "law.go:191", after := #[{ on := 2, ground := Go.Ground.data }], guard := none }) (v := ?vg2_3) [3, 4, 5, 11, 12] rfl (by kernel_rfl) (by kernel_rfl) (by kernel_rfl) (by kernel_rfl) (by kernel_rfl) (fun _ _ _ h => h) (fun _ => hSX) (Or.inl ⟨by rfl, ?hg2_3⟩) ?_
          case hg2_3 => intro w hSw; (try dsimp only at hSw); go_simp; (try with_reducible rfl)
          try simp only [Act.put, List.setIfInBounds_toArray, List.set_cons_zero, List.set_cons_succ]
          refine wpAnyG_take0 (i := 4) (oi := { dst := some 159, op := Go.Op.slice 22 (Go.Operand.tmp 156) none (some (Go.Operand.tmp 158)) none, type := 22, pos := "law.go:191", after := #[{ on := 1, ground := Go.Ground.data }, { on := 3, ground := Go.Ground.data }], guard := none }) (v := ?vg2_4) rfl (by kernel_rfl) (by kernel_rfl) (by kernel_rfl) (by kernel_rfl) (fun _ _ _ h => h) (fun _ => hSX) (Or.inl ⟨by rfl, ?hg2_4⟩) ?_
          case hg2_4 => intro w _; go_simp; (try with_reducible rfl)
          try simp only [Act.put, List.setIfInBounds_toArray, List.set_cons_zero, List.set_cons_succ]
          refine wpAnyG_take0 (i := 6) (oi := { dst := some 161, op := Go.Op.move (Go.Operand.tmp 13), type := 22, pos := "law.go:191", after := #[], guard := none }) (v := ?vg2_6) rfl (by kernel_rfl) (by kernel_rfl) (by kernel_rfl) (by kernel_rfl) (fun _ _ _ h => h) (fun _ => hSX) (Or.inl ⟨by rfl, ?hg2_6⟩) ?_
          case hg2_6 => intro w _; go_simp; (try with_reducible rfl)
          try simp only [Act.put, List.setIfInBounds_toArray, List.set_cons_zero, List.set_cons_succ]
          refine wpAnyG_take0 (i := 7) (oi := { dst := some 162, op := Go.Op.fieldAddr 49 (Go.Operand.tmp 16) 1, type := 0, pos := "law.go:191", after := #[], guard := none }) (v := ?vg2_7) rfl (by kernel_rfl) (by kernel_rfl) (by kernel_rfl) (by kernel_rfl) (fun _ _ _ h => h) (fun _ => hSX) (Or.inl ⟨by rfl, ?hg2_7⟩) ?_
          case hg2_7 => intro w _; go_simp; (try with_reducible rfl)
          try simp only [Act.put, List.setIfInBounds_toArray, List.set_cons_zero, List.set_cons_succ]
          refine wpAnyG_take (i := 8) (oi := { dst := some 163, op := Go.Op.load 3 (Go.Operand.tmp 162), type := 3, pos := "law.go:191", after := #[{ on := 7, ground := Go.Ground.data }], guard := none }) (v := ?vg2_8) [8, 9, 10, 11, 12] rfl (by kernel_rfl) (by kernel_rfl) (by kernel_rfl) (by kernel_rfl) (by kernel_rfl) (fun _ _ _ h => h) (fun _ => hSX) (Or.inl ⟨by rfl, ?hg2_8⟩) ?_
          case hg2_8 => intro w hSw; (try dsimp only at hSw); go_simp; (try with_reducible rfl)
          try simp only [Act.put, List.setIfInBounds_toArray, List.set_cons_zero, List.set_cons_succ]
          refine wpAnyG_take0 (i := 9) (oi := { dst := some 164, op := Go.Op.binOp Go.BinOp.add 3 (Go.Operand.tmp 163) (Go.Operand.const (Go.Value.int Go.IntKind.i64 1)) 3, type := 3, pos := "law.go:191", after := #[{ on := 8, ground := Go.Ground.data }], guard := none }) (v := ?vg2_9) rfl (by kernel_rfl) (by kernel_rfl) (by kernel_rfl) (by kernel_rfl) (fun _ _ _ h => h) (fun _ => hSX) (Or.inl ⟨by rfl, ?hg2_9⟩) ?_
          case hg2_9 => intro w _; go_simp; (try with_reducible rfl)
          try simp only [Act.put, List.setIfInBounds_toArray, List.set_cons_zero, List.set_cons_succ]
          refine wpAnyG_take0 (i := 10) (oi := { dst := some 165, op := Go.Op.slice 22 (Go.Operand.tmp 161) (some (Go.Operand.tmp 164)) none none, type := 22, pos := "law.go:191", after := #[{ on := 6, ground := Go.Ground.data }, { on := 9, ground := Go.Ground.data }], guard := none }) (v := ?vg2_10) rfl (by kernel_rfl) (by kernel_rfl) (by kernel_rfl) (by kernel_rfl) (fun _ _ _ h => h) (fun _ => hSX) (Or.inl ⟨by rfl, ?hg2_10⟩) ?_
          case hg2_10 => intro w _; go_simp; (try with_reducible rfl)
          try simp only [Act.put, List.setIfInBounds_toArray, List.set_cons_zero, List.set_cons_succ]
          refine wpAnyG_step (i := 0) (oi := { dst := some 155, op := Go.Op.buildSlice 22 0 #[], type := 22, pos := "law.go:191", after := #[], guard := none }) rfl (by kernel_rfl) (by rfl) (fun K hK => ?_)
          go_simp
          refine hK _ _ ?_ (fun hSg2_0 => ?_)
          · intro _; exact HSk.out _ (((Keep.refl [] _).drew).alloc _)
          replace hSg2_0 := hSg2_0 (by kernel_rfl)
          clear hK
          try simp only [Act.put, List.setIfInBounds_toArray, List.set_cons_zero, List.set_cons_succ]
          refine wpAnyG_step (i := 5) (oi := { dst := some 160, op := Go.Op.call { callee := Go.Callee.builtin Go.Builtin.append, args := #[Go.Operand.tmp 155, Go.Operand.tmp 159], argTypes := #[22, 22] }, type := 22, pos := "law.go:191", after := #[{ on := 0, ground := Go.Ground.data }, { on := 4, ground := Go.Ground.data }], guard := none }) rfl (by kernel_rfl) (by rfl) (fun K hK => ?_)
          refine wp_append2 (v1 := .slice (some ⟨wr.heap.size + 1 + 1, 0, none⟩) 0 0) (v2 := .slice (some ⟨gw, 0, none⟩) i cW) (.tmp 155) (.tmp 159) rfl rfl rfl hap1 ?_
          refine hK _ _ ?_ (fun hSg2_5 => ?_)
          · intro _; exact HSk.out _ Hkb.out
          replace hSg2_5 := hSg2_5 (by kernel_rfl)
          clear hK
          try simp only [Act.put, List.setIfInBounds_toArray, List.set_cons_zero, List.set_cons_succ]
          refine wpAnyG_step (i := 11) (oi := { dst := some 166, op := Go.Op.call { callee := Go.Callee.builtin Go.Builtin.append, args := #[Go.Operand.tmp 160, Go.Operand.tmp 165], argTypes := #[22, 22] }, type := 22, pos := "law.go:191", after := #[{ on := 5, ground := Go.Ground.data }, { on := 10, ground := Go.Ground.data }, { on := 5, ground := Go.Ground.chain }], guard := none }) rfl (by kernel_rfl) (by rfl) (fun K hK => ?_)
          refine wp_append2 (v1 := .slice AV i cV) (v2 := .slice AT mm mc) (.tmp 160) (.tmp 165) rfl rfl rfl hap2 ?_
          refine hK _ _ (fun h => absurd h (Bool.eq_false_iff.1 (by kernel_rfl))) (fun _ => ?_)
          clear hK
          try simp only [Act.put, List.setIfInBounds_toArray, List.set_cons_zero, List.set_cons_succ]
          refine wpAnyG_take0 (i := 12) (oi := { dst := some 13, op := Go.Op.assign (Go.Operand.tmp 166), type := 22, pos := "law.go:191", after := #[{ on := 11, ground := Go.Ground.data }, { on := 11, ground := Go.Ground.chain }, { on := 0, ground := Go.Ground.phase }, { on := 1, ground := Go.Ground.phase }, { on := 2, ground := Go.Ground.phase }, { on := 3, ground := Go.Ground.phase }, { on := 4, ground := Go.Ground.phase }, { on := 5, ground := Go.Ground.phase }, { on := 6, ground := Go.Ground.phase }, { on := 7, ground := Go.Ground.phase }, { on := 8, ground := Go.Ground.phase }, { on := 9, ground := Go.Ground.phase }, { on := 10, ground := Go.Ground.phase }, { on := 11, ground := Go.Ground.phase }], guard := none }) (v := ?vg2_12) rfl (by kernel_rfl) (by kernel_rfl) (by kernel_rfl) (by kernel_rfl) (fun _ _ _ h => h) (fun h => absurd h (Bool.eq_false_iff.1 (by kernel_rfl))) (Or.inl ⟨by rfl, ?hg2_12⟩) ?_
          case hg2_12 => intro w _; go_simp; (try with_reducible rfl)
          try simp only [Act.put, List.setIfInBounds_toArray, List.set_cons_zero, List.set_cons_succ]
          refine wpAnyG_done (by kernel_rfl) ?_ _
          clear hSX hsl1 hsl2 hap1 hap2 hb22 hwi

          have xx0 : wc.cell? ⟨wr.heap.size, 0, none⟩ = some (.int .i64 4) := HXc.out.cell 0
          have HIc : Hid (OI base sz ag w (k + 1) (.slice AP nP cP) (.slice AG nG cG) (.slice AB m3 cB) now wc) :=
            Lib.hid ⟨{ s with W := (s.W.take i ++ s.W.drop (i + 1)) }, lP, lG, lW.take i ++ lW.drop (i + 1), lv, lq, lp, es, cl, Hsn.out, Hop.out.later.way_sub (fun e he => by
              rcases List.mem_append.1 he with he | he
              · exact List.mem_of_mem_take he
              · exact List.mem_of_mem_drop he) (by simp; omega), Howc.out.re rfl rfl rfl rfl rfl rfl rfl⟩

          obtain ⟨hle, hcp, hsm⟩ := HIc.out.check (by omega)
          have Hsm := Lib.hid hsm
          clear hsm
          go_wp2_with (go_at_call 16; refine Hsm.out.mono ?_; rintro e w' ⟨rfl, nn, rfl⟩)
          exact ⟨⟨k + 1, _, _, _, _, _, _, _, _, _, _, by simp, by omega, by omega, rfl, rfl, rfl, rfl, Lib.hid (HIc.out.keep ((Keep.refl [] _).drewN nn))⟩, by simp [intOf]; omega⟩
      by_cases k5 : kd = 5
      · subst k5
        as_aux_lemma =>
          have Hacks := Lib.hid (How.out.acks Hop.out (by omega) hs.1)
          clear hI
          go_wp2_with fail
          refine Hacks.out.mono ?_
          rintro e w2 ⟨M, rfl, hM1, hM2, hk2⟩
          have how2 := How.out.keep hk2
          have Hack := Lib.hid (how2.ack Hop.out (by omega) hs.1 hM1 hM2)
          have HM2 := Lib.hid hM2
          clear hM1 hM2 hk2 how2
          go_wp2_with fail
          refine Hack.out.mono ?_
          rintro e w3 ⟨f, lv3, lq3, rfl, how3, hk3⟩
          have HIc : Hid (OI base sz ag w (k + 1) (.slice AP nP cP) (.slice AG nG cG) (.slice AW nW cW) now w3) :=
            Lib.hid ⟨_, lP, lG, lW, lv3, lq3, lp, es, cl, by exact Hsn.out, Hop.out.ack (by omega) (M := M) (fun k hk => (HM2.out k hk).2), how3⟩
          clear how3 hk3

          obtain ⟨hle, hcp, hsm⟩ := HIc.out.check (by omega)
          have Hsm := Lib.hid hsm
          clear hsm
          go_wp2_with (go_at_call 16; refine Hsm.out.mono ?_; rintro e w' ⟨rfl, nn, rfl⟩)
          exact ⟨⟨k + 1, _, _, _, _, _, _, _, _, _, _, by simp, by omega, by omega, rfl, rfl, rfl, rfl, Lib.hid (HIc.out.keep ((Keep.refl [] _).drewN nn))⟩, by simp [intOf]; omega⟩
      have b1 : (kd == 1) = false := by simpa using k1
      have b2 : (kd == 2) = false := by simpa using k2
      have b3 : (kd == 3) = false := by simpa using k3
      have b4 : (kd == 4) = false := by simpa using k4
      have b5 : (kd == 5) = false := by simpa using k5
      go_wp2
      exact ⟨⟨k + 1, now, AP, AG, AW, nP, cP, nG, cG, nW, cW, by simp, by omega, by omega, rfl, rfl, rfl, rfl, Lib.hid (hI.out.later.keep Hx1.out)⟩, by simp [intOf]; omega⟩
    · have hend : ¬ (k < n) ∨ ¬ (k < 80) := by omega
      obtain ⟨_, _, _, _, _, _, _, _, _, _, _, how⟩ := hI.out
      have hkp := Lib.hid how.kp
      clear how hI Hcell
      rcases hend with hend | hend
      · go_wp2_with (go_at_call 10; refine (alive_any _).mono ?_; rintro e w' ⟨rfl, hk⟩)
        go_ret
        exact ⟨rfl, hkp.out.trans hk⟩
      · go_wp2_with (go_at_call 10; refine (alive_any _).mono ?_; rintro e w' ⟨rfl, hk⟩)
        all_goals (go_ret; exact ⟨rfl, hkp.out.trans hk⟩)
end Go.Proofs.Ytlkpecalkakpeaa
