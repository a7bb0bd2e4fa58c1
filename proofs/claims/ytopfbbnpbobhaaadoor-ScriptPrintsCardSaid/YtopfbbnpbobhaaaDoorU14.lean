/- Print. -/
import Derived.Test.YtopfbbnpbobhaaaDoorU13
set_option linter.unusedVariables false
set_option linter.unusedSimpArgs false
namespace Go.Proofs.YtopfbbnpbobhaaaDoor
open Go.RowKit Go.Sal

set_option maxRecDepth 200000 in
set_option maxHeartbeats 8000000 in
theorem print_any (cf : Cf) (rs : List DR) (A : Option Addr) (c : Nat) (w : World) (hS : RS w A rs) (hok : ∀ r ∈ rs, r.ok w) (hsm : ∀ r ∈ rs, smallR r) (hl : rs.length ≤ 25) (hx : ∀ x ∈ nums cf, -9223372036854775808 ≤ x ∧ x ≤ 9223372036854775807) (hkl : cf.key.length ≤ 300)
    (htab : Lib.TabIs Tryd.prog w "internal/strconv.uint64pow10" .u64 Lib.pow10Tab) :
    Calls Tryd.prog 13 #[.agg (cfA cf), .slice A rs.length c] w fun e w' => e = .returned (printV cf rs) ∧ Below w.heap.size w w' := by
  have HT := Lib.hid (Lib.tabBelow_of_tabIs htab)
  have HTX : Hid (∀ i (h : i < rs.length) W, Below w.heap.size w W → Calls Tryd.prog 28 #[.agg (rs[i]).av] W fun e w' => e = .returned (txV (rs[i]).d) ∧ Below W.heap.size W w') := Lib.hid (fun i h W hW => by
    have ho := (hok _ (List.getElem_mem h)).below hW
    obtain ⟨s1, s2, s3⟩ := hsm _ (List.getElem_mem h)
    exact text_any (rs[i]).d (rs[i]).Ab (rs[i]).Ak (rs[i]).cb (rs[i]).ck W ho.bs ho.keep ho.lb (by omega) (by omega) (by omega) ho.kd ho.a ho.f ho.n (HT.out W hW))
  have HLN : Hid (∀ i (h : i < rs.length), (lineOf (rs[i]).d).length ≤ 189999) := Lib.hid (fun i h => by
    have ho := hok _ (List.getElem_mem h)
    obtain ⟨s1, s2, s3⟩ := hsm _ (List.getElem_mem h)
    exact line_small _ s1 s2 s3 ho.a ho.f ho.n)
  have HRS : Hid (∀ W, Below w.heap.size w W → RS W A rs) := Lib.hid (fun W hW => RS.below hS hW)
  have HHD : ∀ W, Below w.heap.size w W → Hid (Calls Tryd.prog 32 #[.agg (cfA cf)] W fun e w' => e = .returned (.string ⟨(headOf cf).toArray⟩) ∧ Below W.heap.size W w') := fun W hW => Lib.hid (first_any cf W hx (by omega) (HT.out W hW))
  have HHL : Hid ((headOf cf).length ≤ 7999) := Lib.hid (by
    rw [headTo_end]
    have h1 := headTo_len (nums cf) 8 hx
    have h2 := hexS_len cf.key (by omega)
    simp only [List.length_append, List.length_cons, List.length_nil]
    omega)
  have HPG := Lib.hid (printV_good cf rs)
  have HPB := Lib.hid (printV_bad cf rs)
  obtain ⟨w1, hw1⟩ : ∃ w1, ((w.alloc (.cells (cfA cf) 40)).alloc (.cells #[.pointer none, .slice none 0 0] 57)).alloc (.cells #[.bool false] 4) = w1 := ⟨_, rfl⟩
  have hP1 : Hid (PS w.heap.size (w.heap.size + 1) (w.heap.size + 1 + 1) (cfA cf) [] w1) := Lib.hid (by
    have hbb : Blk ((w.alloc (.cells (cfA cf) 40)).alloc (.cells #[.pointer none, .slice none 0 0] 57)) (w.heap.size + 1) 57 #[.pointer none, .slice none 0 0] := by
      have := Blk.new (w.alloc (.cells (cfA cf) 40)) 57 #[.pointer none, .slice none 0 0]
      rw [World.size_alloc] at this
      exact this
    have hff : Blk (((w.alloc (.cells (cfA cf) 40)).alloc (.cells #[.pointer none, .slice none 0 0] 57)).alloc (.cells #[.bool false] 4)) (w.heap.size + 1 + 1) 4 #[.bool false] := by
      have := Blk.new ((w.alloc (.cells (cfA cf) 40)).alloc (.cells #[.pointer none, .slice none 0 0] 57)) 4 #[.bool false]
      rw [World.size_alloc, World.size_alloc] at this
      exact this
    rw [← hw1]
    refine ⟨.inl ⟨by omega, .slice none 0 0, hbb.alloc _, ⟨rfl, .inl ⟨rfl, rfl⟩⟩, by simp [Value.ownBlock]⟩, hff, ((Blk.new _ _ _).alloc _).alloc _, ?_⟩
    simp
    omega)
  have HB1 : Hid (Below w.heap.size w w1) := Lib.hid (by rw [← hw1]; exact (((Below.refl _ w).alloc (Nat.le_refl _) _).alloc (by simp) _).alloc (by simp; omega) _)
  have Hw1 := Lib.hid hw1
  have hli : (rs.length : Int) ≤ 25 := by omega
  clear hS hok hsm hx hw1 htab
  obtain ⟨z0, z1, ky, z2, z3, z4, z5, z6, z7⟩ := cf
  have hkl' : (ky.length : Int) ≤ 300 := by dsimp only at hkl; omega
  clear hkl
  have HTO : Hid (∀ l, textOf ⟨z0, z1, ky, z2, z3, z4, z5, z6, z7⟩ l = (headOf ⟨z0, z1, ky, z2, z3, z4, z5, z6, z7⟩ ++ [10]) ++ bodyOf l) := Lib.hid (fun _ => rfl)
  generalize headOf ⟨z0, z1, ky, z2, z3, z4, z5, z6, z7⟩ = hd at *
  unfold cfA at *
  dsimp only at *
  obtain ⟨bb, hbbe⟩ : ∃ bb, bb = w.heap.size + 1 := ⟨_, rfl⟩
  have hD1 := hP1.out.box
  have e0 : w1.cell? ⟨w.heap.size, 0, none⟩ = some (.int .i64 z0) := hD1.cell 0
  have e1 : w1.cell? ⟨w.heap.size, 1, none⟩ = some (.int .i64 z1) := hD1.cell 1
  have e2 : w1.cell? ⟨w.heap.size, 2, none⟩ = some (.string ⟨ky.toArray⟩) := hD1.cell 2
  have e3 : w1.cell? ⟨w.heap.size, 3, none⟩ = some (.int .i64 z2) := hD1.cell 3
  have e4 : w1.cell? ⟨w.heap.size, 4, none⟩ = some (.int .i64 z3) := hD1.cell 4
  have e5 : w1.cell? ⟨w.heap.size, 5, none⟩ = some (.int .i64 z4) := hD1.cell 5
  have e6 : w1.cell? ⟨w.heap.size, 6, none⟩ = some (.int .i64 z5) := hD1.cell 6
  have e7 : w1.cell? ⟨w.heap.size, 7, none⟩ = some (.int .i64 z6) := hD1.cell 7
  have e8 : w1.cell? ⟨w.heap.size, 8, none⟩ = some (.int .i64 z7) := hD1.cell 8
  clear hbbe hD1
  go_enter Tryd.func13, Tryd.ntmps13
  go_upto_region 5 with (fail)
  rw [Hw1.out]
  go_wp2_with (fail)
  refine (HHD _ HB1.out).out.mono ?_
  rintro e w2 ⟨rfl, hb2⟩
  have hP2 := Lib.hid (hP1.out.keep (Keep.of_below hb2))
  have HB2 := Lib.hid (HB1.out.trans (hb2.mono HB1.out.size))
  have hadd0 := Lib.hid (padd_any w.heap.size (w.heap.size + 1) (w.heap.size + 1 + 1) _ [] hd w2 hP2.out (by omega) (by omega) (by omega) (by omega) (by have := HHL.out; simp; omega))
  clear hb2 e0 e1 e2 e3 e4 e5 e6 e7 e8
  go_wp2_with (go_at_call 30; refine hadd0.out.mono ?_; rintro e w3 ⟨⟨u3, rfl⟩, hP3, hB3⟩; have HP3 := Lib.hid hP3; have HB3 := Lib.hid (HB2.out.trans hB3); clear hP3 hB3)
  go_loopw [28] (fun v wr => ∃ (i : Nat) (out : List UInt8), v = .int .i64 i ∧ i ≤ rs.length ∧ Hid (∀ j (h : j < rs.length), j < i → goodD (rs[j]).d = true) ∧ Hid (out = (hd ++ [10]) ++ bodyOf (rs.take i)) ∧ Hid (out.length ≤ 8000 + i * 190000) ∧ Hid (PS w.heap.size (w.heap.size + 1) (w.heap.size + 1 + 1) #[.int .i64 z0, .int .i64 z1, .string ⟨ky.toArray⟩, .int .i64 z2, .int .i64 z3, .int .i64 z4, .int .i64 z5, .int .i64 z6, .int .i64 z7] out wr) ∧ Hid (Below w.heap.size w wr)) (fun v _ => rs.length - (intOf v).toNat)
  case atStart => exact ⟨0, _, rfl, by omega, Lib.hid (fun j _ h => absurd h (Nat.not_lt_zero j)), Lib.hid (by simp [bodyOf]), Lib.hid (by have := HHL.out; simp; omega), HP3, HB3⟩
  case round =>
    obtain ⟨i, out, rfl, hi, hG, hout, hol, hP, hB⟩ := hrel
    rcases Nat.lt_or_ge i rs.length with hlt | hge
    · have hil : (i : Int) < (rs.length : Int) := by omega
      have htx := HTX.out i hlt
      have hbad := HPB.out i hlt
      have hln := HLN.out i hlt
      have hbo := bodyOf_succ rs i hlt
      obtain ⟨g, o, kd, a, p, b, f, n, kp, Ab, cb, Ak, ck, rfl, hri, c0, c1, c2, c3, c4, c5, c6⟩ := deed_at (HRS.out _ hB.out) i hlt
      have hwi : IntKind.i64.wrap ((i : Int) + 1) = (i : Int) + 1 := by rw [IntKind.wrap_i64]; omega
      have Hi1 : Hid (i + 1 ≤ rs.length ∧ i < rs.length ∧ i ≤ 24) := Lib.hid (by omega)
      have hg1 : Hid (goodD (rs[i]).d = true → ∀ j (h : j < rs.length), j < i + 1 → goodD (rs[j]).d = true) := Lib.hid (fun hg j h hj => by
        rcases Nat.lt_succ_iff_lt_or_eq.1 hj with h' | rfl
        · exact hG.out j h h'
        · exact hg)
      rw [hri] at htx hbad hg1 hln hbo
      unfold DR.av DvA at htx
      dsimp only at htx hbad hg1 hln hbo
      have Htx := Lib.hid htx
      have Hbad := Lib.hid hbad
      have Hln := Lib.hid hln
      have Hbo := Lib.hid hbo
      clear htx hbad hln hbo hri hlt hi
      go_upto_region 12 with (fail)
      obtain ⟨wn, hwn⟩ : ∃ wn, wr.alloc (.cells #[.int .i64 kd, .int .i64 a, .string ⟨p.toArray⟩, .slice Ab b.length cb, .int .i64 f, .int .i64 n, .slice Ak kp.length ck] 72) = wn := ⟨_, rfl⟩
      rw [hwn]
      have hbk : Blk wn wr.heap.size 72 #[.int .i64 kd, .int .i64 a, .string ⟨p.toArray⟩, .slice Ab b.length cb, .int .i64 f, .int .i64 n, .slice Ak kp.length ck] := by
        rw [← hwn]
        exact Blk.new wr 72 _
      have hkn : Keep [] wr wn := by
        rw [← hwn]
        exact (Keep.refl [] wr).alloc _
      have d0 : wn.cell? ⟨wr.heap.size, 0, none⟩ = some (.int .i64 kd) := hbk.cell 0
      have d1 : wn.cell? ⟨wr.heap.size, 1, none⟩ = some (.int .i64 a) := hbk.cell 1
      have d2 : wn.cell? ⟨wr.heap.size, 2, none⟩ = some (.string ⟨p.toArray⟩) := hbk.cell 2
      have d3 : wn.cell? ⟨wr.heap.size, 3, none⟩ = some (.slice Ab b.length cb) := hbk.cell 3
      have d4 : wn.cell? ⟨wr.heap.size, 4, none⟩ = some (.int .i64 f) := hbk.cell 4
      have d5 : wn.cell? ⟨wr.heap.size, 5, none⟩ = some (.int .i64 n) := hbk.cell 5
      have d6 : wn.cell? ⟨wr.heap.size, 6, none⟩ = some (.slice Ak kp.length ck) := hbk.cell 6
      have HKn := Lib.hid hkn
      have HBn := Lib.hid (hB.out.trans (hkn.belowB hB.out.size (by simp)))
      have htx := Htx.out wn HBn.out
      have hln := Hln.out
      clear hbk hkn hwn c0 c1 c2 c3 c4 c5 c6
      generalize hdd : (⟨kd, a, p, b, f, n, kp⟩ : Dd) = dd at *
      clear hdd Htx Hln
      cases hgd : goodD dd
      · rw [txV_bad _ hgd] at htx
        have HPV := Lib.hid (Hbad.out hgd)
        have Htx := Lib.hid htx
        clear htx hgd
        go_wp2_with (go_at_call 28; refine Htx.out.mono ?_; rintro e w3 ⟨rfl, hb3⟩)
        go_ret2
        rw [HPV.out]
        exact ⟨rfl, HBn.out.trans (hb3.mono HBn.out.size)⟩
      · rw [txV_good _ hgd] at htx
        have HG := Lib.hid (hg1.out hgd)
        have Htx := Lib.hid htx
        have Hln := Lib.hid hln
        clear htx hgd hln
        generalize lineOf dd = ln at *
        go_wp2_with (fail)
        refine Htx.out.mono ?_
        rintro e w5 ⟨rfl, hb5⟩
        have HP5 := Lib.hid (hP.out.keep (HKn.out.trans (Keep.of_below hb5)))
        have HB5 := Lib.hid (HBn.out.trans (hb5.mono HBn.out.size))
        have hadd := Lib.hid (padd_any w.heap.size (w.heap.size + 1) (w.heap.size + 1 + 1) _ out ln w5 HP5.out (by omega) (by omega) (by omega) (by omega) (by have := hol.out; have := Hln.out; have := Hi1.out.2.2; omega))
        clear hb5
        go_wp2_with (go_at_call 30; refine hadd.out.mono ?_; rintro e w6 ⟨⟨u6, rfl⟩, hP6, hB6⟩; have HP6 := Lib.hid hP6; have HB6 := Lib.hid (HB5.out.trans hB6); clear hP6 hB6)
        go_roundw
        case rel => exact ⟨i + 1, out ++ (ln ++ [10]), by simp, Hi1.out.1, HG, Lib.hid (by rw [Hbo.out, hout.out, List.append_assoc]), Lib.hid (by have := hol.out; have := Hln.out; simp only [List.length_append, List.length_cons, List.length_nil, Nat.add_mul]; omega), HP6, HB6⟩
        case measure => have := Hi1.out; simp [intOf]; omega
    · obtain rfl : i = rs.length := by omega
      have hil : ¬ (rs.length : Int) < (rs.length : Int) := by omega
      have HPV : Hid (printV ⟨z0, z1, ky, z2, z3, z4, z5, z6, z7⟩ rs = .tuple #[.string ⟨out.toArray⟩, .int .i64 0]) := Lib.hid (by
        rw [HPG.out (fun j h => hG.out j h h), HTO.out, hout.out, List.take_length])
      have c0 : wr.cell? ⟨w.heap.size + 1 + 1, 0, none⟩ = some (.bool false) := hP.out.flag.cell 0
      have hst := Lib.hid (Tryd.Builder_String_any_k w.heap.size (w.heap.size + 1) out wr hP.out.bld hP.out.size)
      clear hge hi
      go_wp2_with (go_at_call 25; refine hst.out.mono ?_; rintro e w5 ⟨rfl, hb5, hl5, ho5⟩)
      go_ret2
      rw [HPV.out]
      exact ⟨rfl, hB.out.trans hl5⟩
end Go.Proofs.YtopfbbnpbobhaaaDoor
