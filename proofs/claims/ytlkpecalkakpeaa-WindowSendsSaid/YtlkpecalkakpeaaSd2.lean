/- Due of the program's sender, walked. -/
import Derived.Test.YtlkpecalkakpeaaSdPure
import Derived.Lib.MinMax
set_option linter.unusedVariables false
set_option linter.unusedSimpArgs false
namespace Go.Proofs.Ytlkpecalkakpeaa
open Go.RowKit Go.Sal

/-- the closure: is the payload at p due -/
theorem dueclo_any (g o bn bq bs : Nat) (b : Value) (out : Bool) (tm now ag : Int) (dn : Bool) (w : World)
    (h1 : w.cell? ⟨g, o + 1, none⟩ = some (.bool out)) (h2 : w.cell? ⟨g, o + 2, none⟩ = some (.int .i64 tm)) (h3 : w.cell? ⟨g, o + 3, none⟩ = some (.bool dn))
    (hn : w.cell? ⟨bn, 0, none⟩ = some (.int .i64 now)) (hq : w.cell? ⟨bq, 0, none⟩ = some (.pointer (some ⟨bs, 0, none⟩))) (ha : w.cell? ⟨bs, 1, none⟩ = some (.int .i64 ag))
    (hr : -4611686018427387904 ≤ tm ∧ tm ≤ 4611686018427387904) (hnr : 0 ≤ now ∧ now ≤ 1099511627776) :
    Calls Try.prog 37 #[.pointer (some ⟨g, o, none⟩), .pointer (some ⟨bn, 0, none⟩), .pointer (some ⟨bq, 0, none⟩)] w fun e w' => e = .returned (.bool (dueB ag now ⟨b, out, tm, dn⟩)) ∧ ∃ k, w' = w.drewN k := by
  obtain ⟨hr1, hr2⟩ := hr
  obtain ⟨hn1, hn2⟩ := hnr
  have hwr : wrap64 (now - tm) = now - tm := by unfold wrap64; omega
  cases dn
  · cases out
    · go_enter Try.func37, Try.ntmps37
      go_wp2
      go_quiet (fail)
      go_wp2
      go_ret
      exact ⟨rfl, _, rfl⟩
    · by_cases hd : ag ≤ now - tm
      · have hd' : decide (ag ≤ now - tm) = true := by simpa using hd
        go_enter Try.func37, Try.ntmps37
        go_wp2
        go_quiet (fail)
        go_wp2
        go_ret
        exact ⟨by simp [dueB, hd], _, rfl⟩
      · have hd' : decide (ag ≤ now - tm) = false := by simpa using hd
        go_enter Try.func37, Try.ntmps37
        go_wp2
        go_quiet (fail)
        go_wp2
        go_ret
        exact ⟨by simp [dueB, hd], _, rfl⟩
  · go_enter Try.func37, Try.ntmps37
    go_wp2
    go_quiet (fail)
    go_wp2
    go_ret
    exact ⟨rfl, _, rfl⟩

/-- the row behind the two stores of a payload that is due -/
theorem due_row {w : World} {base cap g k : Nat} {l : List (Snt Value)} {ag now : Int} (h : w.ownsRow base 91 4 (.slice (some ⟨g, 0, none⟩) l.length cap) l.length ((dueL ag now k l).flatMap scells)) (hk : k < l.length)
    (hd : dueB ag now l[k] = true) :
    (w.frozen? ⟨g, k * 4 + 1, none⟩ = false ∧ w.cell? ⟨g, k * 4 + 1, none⟩ = some (.bool l[k].out)) ∧ ((w.setCell ⟨g, k * 4 + 1, none⟩ (.bool true)).frozen? ⟨g, k * 4 + 2, none⟩ = false ∧ (w.setCell ⟨g, k * 4 + 1, none⟩ (.bool true)).cell? ⟨g, k * 4 + 2, none⟩ = some (.int .i64 l[k].tm)) ∧
    ((w.setCell ⟨g, k * 4 + 1, none⟩ (.bool true)).setCell ⟨g, k * 4 + 2, none⟩ (.int .i64 now)).ownsRow base 91 4 (.slice (some ⟨g, 0, none⟩) l.length cap) l.length ((dueL ag now (k + 1) l).flatMap scells) := by
  have hk' : k < (dueL ag now k l).length := by rw [dueL_len]; exact hk
  have hat := dueL_at (ag := ag) (now := now) hk hk'
  have hc1 : ((dueL ag now k l).flatMap scells)[k * 4 + 1]? = some (.bool l[k].out) := by
    rw [rf_get scells_len _ k 1 hk' (by omega), hat]; rfl
  have s1 : ((dueL ag now k l).flatMap scells).set (k * 4 + 1) (.bool true) = ((dueL ag now k l).set k { l[k] with out := true }).flatMap scells :=
    rf_set scells_len _ k 1 hk' (by omega) _ _ (by rw [hat]; rfl)
  have h1 := ownsRow_set h (k * 4 + 1) (by omega) (.bool true)
  rw [s1] at h1
  have hk2 : k < ((dueL ag now k l).set k { l[k] with out := true }).length := by rw [List.length_set]; exact hk'
  have hat2 : ((dueL ag now k l).set k { l[k] with out := true })[k] = { l[k] with out := true } := by simp
  have hc2 : (((dueL ag now k l).set k { l[k] with out := true }).flatMap scells)[k * 4 + 2]? = some (.int .i64 l[k].tm) := by
    rw [rf_get scells_len _ k 2 hk2 (by omega), hat2]; rfl
  have s2 : (((dueL ag now k l).set k { l[k] with out := true }).flatMap scells).set (k * 4 + 2) (.int .i64 now) = (((dueL ag now k l).set k { l[k] with out := true }).set k (upd ag now l[k])).flatMap scells :=
    rf_set scells_len _ k 2 hk2 (by omega) _ _ (by rw [hat2]; unfold upd; rw [if_pos hd]; rfl)
  have h2 := ownsRow_set h1 (k * 4 + 2) (by omega) (.int .i64 now)
  rw [s2, List.set_set, dueL_set hk] at h2
  exact ⟨(ownsRow_cell h hc1).symm, (ownsRow_cell h1 hc2).symm, h2⟩

/-- the loop's relation: k payloads have been looked at -/
def DInv (base bs : Nat) (sz ag now bse most op : Int) (AL : Option Addr) (cL : Nat) (l : List (Snt Value)) (p : List (Snt (List UInt8))) (w : World) (bn bq : Nat) (k : Nat) (ro : Value) (out : List (Int × Value)) (wr : World) : Prop :=
  SBlk bs sz ag now bse (dueM ag now bse (p.take k) 0 most) (.slice AL l.length cL) op wr ∧ wr.ownsRow base 91 4 (.slice AL l.length cL) l.length ((dueL ag now k l).flatMap scells) ∧
  SR (Reads base 5 wr) l p ∧ wr.ownsRow w.heap.size 33 2 ro out.length (flat out) ∧ LR (Reads base 5 wr) out (dueO ag now bse (p.take k) 0) ∧
  Keep (bs :: (Value.slice AL l.length cL).ownBlock.toList) w wr ∧ Blk wr bn 3 #[.int .i64 now] ∧ Blk wr bq 45 #[.pointer (some ⟨bs, 0, none⟩)]
def DuePost (base bs : Nat) (sz ag now bse most op : Int) (lv : Value) (l : List (Snt Value)) (p : List (Snt (List UInt8))) (k : Nat) (w : World) (e : Ending) (w' : World) : Prop :=
  ∃ ro out, e = .returned (.tuple #[ro, .int .i64 0]) ∧ SBlk bs sz ag now bse (dueM ag now bse (p.take k) 0 most) lv op w' ∧ w'.ownsRow base 91 4 lv l.length ((dueL ag now k l).flatMap scells) ∧
  SR (Reads base 5 w') (dueL ag now k l) (dueL ag now k p) ∧ w'.ownsRow w.heap.size 33 2 ro out.length (flat out) ∧ LR (Reads base 5 w') out (dueO ag now bse (p.take k) 0) ∧ Keep (bs :: lv.ownBlock.toList) w w'

set_option maxRecDepth 20000 in
set_option maxHeartbeats 4000000 in
theorem due_any (base bs : Nat) (sz ag now0 bse most op now : Int) (lv : Value) (l : List (Snt Value)) (p : List (Snt (List UInt8))) (K : Nat) (w : World)
    (hT : SBlk bs sz ag now0 bse most lv op w) (hown : w.ownsRow base 91 4 lv l.length (l.flatMap scells)) (hp : SR (Reads base 5 w) l p) (hB : base ≤ w.heap.size) (hbl : ∀ x ∈ p, x.b.length ≤ 140737488355328)
    (hs : 1 ≤ sz) (hnow : 0 ≤ now0 ∧ now0 ≤ now ∧ now ≤ 1099511627776) (hb : 0 ≤ bse) (hb2 : bse ≤ 1000000000) (hl : l.length ≤ 100000) (hbb : base ≤ bs) (htm : ∀ x ∈ p, -4611686018427387904 ≤ x.tm ∧ x.tm ≤ 4611686018427387904)
    (hK : min sz (l.length : Int) = K) (hm : -1 ≤ most ∧ most ≤ 4611686018427387904) :
    Calls Try.prog 20 #[.pointer (some ⟨bs, 0, none⟩), .int .i64 now] w (DuePost base bs sz ag now bse most op lv l p K w) := by
  obtain ⟨AL, cL, rfl, _⟩ := own_slice hown
  obtain ⟨hn1, hn2, hn3⟩ := hnow
  have hd : decide (now < now0) = false := by simp; omega
  have hd2 : decide (1099511627776 < now) = false := by simp; omega
  have c2 : w.cell? ⟨bs, 2, none⟩ = some (.int .i64 now0) := Blk.cell hT 2
  have c0 : w.cell? ⟨bs, 0, none⟩ = some (.int .i64 sz) := Blk.cell hT 0
  have c5 : w.cell? ⟨bs, 5, none⟩ = some (.slice AL l.length cL) := Blk.cell hT 5
  have f2 : w.frozen? ⟨bs, 2, none⟩ = false := Blk.free hT 2
  have hbs := Blk.lt hT
  have HT := Lib.hid hT
  have Hown := Lib.hid hown
  have Hp := Lib.hid hp
  have Hbl := Lib.hid hbl
  have Htm := Lib.hid htm
  have HK := Lib.hid hK
  clear hT hown hp hbl htm hK
  have hT2 := Lib.hid (show SBlk bs sz ag now0 bse most (.slice AL l.length cL) op ((w.alloc (.cells #[.pointer (some ⟨bs, 0, none⟩)] 45)).alloc (.cells #[.int .i64 now] 3)) from (Blk.alloc HT.out _).alloc _)
  have hne : w.heap.size + 1 ≠ bs := by omega
  have hne2 : w.heap.size ≠ bs := by omega
  have hmin : ∀ (ts : Array TypeId) (t : TypeId) (W : World), (Builtin.min_ ts t #[.int .i64 sz, .int .i64 (l.length : Int)]).run Try.prog W = .ok (.int .i64 (K : Int)) W := fun ts t W => by
    rw [← HK.out]; exact Lib.run_min_ints _ _ _ _ _ _ _
  go_enter Try.func20, Try.ntmps20
  go_wp2_with (go_at_call 35; refine (smade_any _ _ _ _ _ _ _ _ _ hT2.out hs).mono ?_; rintro e w' ⟨rfl, rfl⟩)
  go_quiet (fail)
  go_wp2
  go_quiet (fail)
  go_wp2_with fail
  generalize hw3 : (World.drewN _ _) = w3
  have hT3 : SBlk bs sz ag now bse most (.slice AL l.length cL) op w3 := by
    rw [← hw3]
    exact Blk.drewN (Blk.set_ (Blk.drewN hT2.out _) 2 _) _
  have hk3 : Keep [bs] w w3 := by rw [← hw3]; exact (((((Keep.refl [bs] w).alloc _).alloc _).drewN _).setCell (.inl (by simp)) _).drewN _
  have hbn : Blk w3 (w.heap.size + 1) 3 #[.int .i64 now] := by
    rw [← hw3]
    refine Blk.drewN (Blk.far (Blk.drewN ?_ _) (by simpa using hne) _) _
    have := Blk.new (w.alloc (.cells #[.pointer (some ⟨bs, 0, none⟩)] 45)) 3 #[.int .i64 now]
    simpa using this
  have hbq : Blk w3 w.heap.size 45 #[.pointer (some ⟨bs, 0, none⟩)] := by
    rw [← hw3]
    exact Blk.drewN (Blk.far (Blk.drewN ((Blk.new _ 45 _).alloc _) _) (by simpa using hne2) _) _
  clear hw3 hmin c2 c0 c5 f2 hd hd2
  have hown3 := ownsRow_keep Hown.out hk3 (by
    intro g hg
    have := own_ne_blk Hown.out HT.out (by decide)
    simp
    rintro rfl
    exact this hg)
  have hp3 : SR (Reads base 5 w3) l p := SR.mono (fun a b h => h.keep hk3 (noByte_cons HT.out (by decide) hbb noByte_nil)) Hp.out
  have HI := Lib.hid (show DInv base bs sz ag now bse most op AL cL l p w (w.heap.size + 1) w.heap.size 0 (.slice none 0 0) [] w3 from
    ⟨by simpa [dueM] using hT3, by rw [dueL_zero]; exact hown3, hp3, World.ownsRow_nil _ _ _ _, by simp [dueO, LR], hk3.mono (by simp), hbn, hbq⟩)
  clear hown3 hp3 hT3 hk3 hbn hbq
  go_loopw [7, 38] (fun ro i wr => ∃ k out, i = .int .i64 ((k : Nat) : Int) ∧ k ≤ K ∧ DInv base bs sz ag now bse most op AL cL l p w (w.heap.size + 1) w.heap.size k ro out wr) (fun _ i _ => K - (intOf i).toNat)
  case atStart => exact ⟨0, [], rfl, by omega, HI.out⟩
  case round =>
    obtain ⟨k, out, rfl, hkK, hI⟩ := hrel
    obtain ⟨wo, rfl⟩ : ∃ wo : World, wo = wr := ⟨_, rfl⟩
    obtain ⟨hTr, hownr, hpr, houtr, hlr, hkr, hbnr, hbqr⟩ := hI
    have r3 : wo.cell? ⟨bs, 3, none⟩ = some (.int .i64 bse) := Blk.cell hTr 3
    have r5 : wo.cell? ⟨bs, 5, none⟩ = some (.slice AL l.length cL) := Blk.cell hTr 5
    have r1 : wo.cell? ⟨bs, 1, none⟩ = some (.int .i64 ag) := Blk.cell hTr 1
    have rn : wo.cell? ⟨w.heap.size + 1, 0, none⟩ = some (.int .i64 now) := Blk.cell hbnr 0
    have rq : wo.cell? ⟨w.heap.size, 0, none⟩ = some (.pointer (some ⟨bs, 0, none⟩)) := Blk.cell hbqr 0
    have HTr := Lib.hid hTr
    have Hownr := Lib.hid hownr
    have Hpr := Lib.hid hpr
    have Houtr := Lib.hid houtr
    have Hlr := Lib.hid hlr
    have Hkr := Lib.hid hkr
    have Hbnr := Lib.hid hbnr
    have Hbqr := Lib.hid hbqr
    clear hTr hownr hpr houtr hlr hkr hbnr hbqr
    obtain ⟨AO, cO, rfl, _⟩ := own_slice Houtr.out
    rcases Nat.lt_or_ge k K with hkK' | hkK'
    · have hkl : k < l.length := by have := HK.out; omega
      obtain ⟨g, rfl, hg1, hg2⟩ := own_some Hownr.out (by omega)
      have hkp : k < p.length := by rw [← SR.len Hpr.out]; exact hkl
      obtain ⟨e1, e2, e3, e4⟩ := SR.get Hpr.out k hkl hkp
      have htm := Htm.out p[k] (List.getElem_mem hkp)
      have hbl := Hbl.out p[k] (List.getElem_mem hkp)
      rw [← e2] at htm
      have hlen := rf_len scells_len (dueL ag now k l)
      have hat := dueL_at (ag := ag) (now := now) hkl (by rw [dueL_len (ag := ag) (now := now) (k := k) (l := l)]; exact hkl)
      have hcell : ∀ j, j < 4 → wo.cell? ⟨g, k * 4 + j, none⟩ = (scells l[k])[j]? := by
        intro j hj
        obtain ⟨u, hu⟩ : ∃ u, (scells l[k])[j]? = some u := ⟨_, List.getElem?_eq_getElem (by rw [scells_len (l[k])]; exact hj)⟩
        rw [hu]
        refine (ownsRow_cell Hownr.out ?_).1
        rw [rf_get scells_len _ k j (by rw [dueL_len]; exact hkl) hj, hat, hu]
      obtain ⟨v, ob, tm, dn, hx⟩ : ∃ v ob tm dn, l[k] = ⟨v, ob, tm, dn⟩ := ⟨_, _, _, _, rfl⟩
      rw [hx] at hcell e4 htm
      obtain ⟨pb, hpb⟩ : ∃ pb, pb = p[k].b := ⟨_, rfl⟩
      rw [← hpb] at e4 hbl
      have Hpb := Lib.hid hpb
      have q0 : wo.cell? ⟨g, k * 4, none⟩ = some v := hcell 0 (by omega)
      have q1 : wo.cell? ⟨g, k * 4 + 1, none⟩ = some (.bool ob) := hcell 1 (by omega)
      have q2 : wo.cell? ⟨g, k * 4 + 2, none⟩ = some (.int .i64 tm) := hcell 2 (by omega)
      have q3 : wo.cell? ⟨g, k * 4 + 3, none⟩ = some (.bool dn) := hcell 3 (by omega)
      have He4 := Lib.hid e4
      have Hx := Lib.hid hx
      have Hlen := Lib.hid hlen
      have Hat := Lib.hid hat
      have Hbk := Lib.hid hbl
      clear e1 e2 e3 e4 hcell hx hlen hat hbl hpb
      have hclo := Lib.hid (fun n => dueclo_any g (k * 4) (w.heap.size + 1) w.heap.size bs v ob tm now ag dn (wo.drewN n) q1 q2 q3 rn rq r1 htm ⟨by omega, hn3⟩)
      have hdec : decide ((k : Int) < K) = true := by simp; omega
      cases hdb : dueB ag now ⟨v, ob, tm, dn⟩ with
      | false =>
        have Hdb := Lib.hid hdb
        rw [hdb] at hclo
        clear hdb
        go_wp2_with (go_at_call 37; refine (hclo.out 0).mono ?_; rintro e w' ⟨rfl, nn, rfl⟩)
        go_roundw
        · have hkn : Keep [] wo (wo.drewN nn) := (Keep.refl _ _).drewN _
          have hdl : dueB ag now l[k] = false := by rw [Hx.out]; exact Hdb.out
          have hdp : dueB ag now p[k] = false := by rw [← dueB_rel (SR.get Hpr.out k hkl hkp)]; exact hdl
          refine ⟨k + 1, out, by simp, by omega, ?_⟩
          unfold DInv
          rw [dueL_skip hkl hdl, dueO_take hkp, dueM_take hkp, hdp]
          simp only [Bool.false_eq_true, if_false, List.append_nil]
          exact ⟨HTr.out.drewN _, Hownr.out, SR.mono (fun a b h => h.keep hkn noByte_nil) Hpr.out, Houtr.out, LR.mono (fun a b h => h.keep hkn noByte_nil) Hlr.out, Hkr.out.trans (hkn.mono (by simp)), Hbnr.out, Hbqr.out⟩
        · simp [intOf]; omega
      | true =>
        have Hdb := Lib.hid hdb
        rw [hdb] at hclo
        clear hdb
        obtain ⟨AV, cv, rfl, _⟩ := id He4.out
        obtain ⟨M, hM⟩ : ∃ M, M = dueM ag now bse (p.take k) 0 most := ⟨_, rfl⟩
        have HM := Lib.hid hM
        have hTM := HTr.out
        rw [← hM] at hTM
        have HTM := Lib.hid hTM
        clear hM hTM
        go_wp2_with (go_at_call 37; refine (hclo.out 0).mono ?_; rintro e w' ⟨rfl, nn, rfl⟩)
        generalize hw1 : wo.drewN nn = w1
        have hk1 : Keep [] wo w1 := by rw [← hw1]; exact (Keep.refl _ _).drewN _
        clear hw1 hclo q0 q1 q2 q3 r3 r5 r1 rn rq
        have hT1 := HTM.out.keep hk1 (by simp)
        have hown1 := ownsRow_keep Hownr.out hk1 (by simp)
        have hdl : dueB ag now l[k] = true := by rw [Hx.out]; exact Hdb.out
        obtain ⟨⟨fr1, qr1⟩, ⟨fr2, qr2⟩, hown2⟩ := due_row (w := w1) hown1 hkl hdl
        have hbn1 := Hbnr.out.keep hk1 (by simp)
        have hbq1 := Hbqr.out.keep hk1 (by simp)
        have hS13 : w1.drew.cell? ⟨w.heap.size + 1, 0, none⟩ = some (.int .i64 now) := Blk.cell hbn1 0
        have hgw : g < w.heap.size := by
          obtain ⟨g', hg', hg3, _⟩ := own_some Hown.out (by omega)
          cases hg'
          exact hg3
        have nb1 : (w1.setCell ⟨g, k * 4 + 1, none⟩ (.bool true)).cell? ⟨w.heap.size + 1, 0, none⟩ = some (.int .i64 now) :=
          Blk.cell (Blk.far hbn1 (by simp; omega) _) 0
        have HT1 := Lib.hid hT1
        have Hown2 := Lib.hid hown2
        have Hbn1 := Lib.hid hbn1
        have Hbq1 := Lib.hid hbq1
        have Hk1 := Lib.hid hk1
        have Hdl := Lib.hid hdl
        have Hgw := Lib.hid hgw
        clear hT1 hown1 hown2 hbn1 hbq1 hk1 hdl
        refine wp_region_E (fun W => W.cell? ⟨w.heap.size + 1, 0, none⟩ = some (.int .i64 now)) [8] (by kernel_rfl) ?_
        refine wpAnyE_take (i := 0) (oi := { dst := some 51, op := Go.Op.move (Go.Operand.tmp 9), type := 93, pos := "window.go:81", after := #[], guard := none }) (v := ?vq1_0) [0, 3, 4, 5, 6, 7, 8] rfl (by kernel_rfl) (by kernel_rfl) (by kernel_rfl) (by kernel_rfl) (fun _ _ _ h => h) hS13 (Or.inl ⟨by rfl, ?hq1_0⟩) ?_
        case hq1_0 => intro w hSw; (try dsimp only at hSw); go_simp; (try with_reducible rfl)
        try simp only [Act.put, List.setIfInBounds_toArray, List.set_cons_zero, List.set_cons_succ]
        refine wpAnyE_take (i := 1) (oi := { dst := some 52, op := Go.Op.move (Go.Operand.tmp 9), type := 93, pos := "window.go:81", after := #[{ on := 5, ground := Go.Ground.gcOnly Go.Departure.lateStores }], guard := none }) (v := ?vq1_1) [1, 6, 7, 8] rfl (by kernel_rfl) (by kernel_rfl) (by kernel_rfl) (by kernel_rfl) (fun _ _ _ h => h) hS13 (Or.inl ⟨by rfl, ?hq1_1⟩) ?_
        case hq1_1 => intro w hSw; (try dsimp only at hSw); go_simp; (try with_reducible rfl)
        try simp only [Act.put, List.setIfInBounds_toArray, List.set_cons_zero, List.set_cons_succ]
        refine wpAnyE_take (i := 2) (oi := { dst := some 53, op := Go.Op.load 3 (Go.Operand.tmp 3), type := 3, pos := "window.go:81", after := #[{ on := 5, ground := Go.Ground.gcOnly Go.Departure.lateStores }], guard := none }) (v := ?vq1_2) [2, 6, 7, 8] rfl (by kernel_rfl) (by kernel_rfl) (by kernel_rfl) (by kernel_rfl) (fun _ _ _ h => h) hS13 (Or.inl ⟨by rfl, ?hq1_2⟩) ?_
        case hq1_2 => intro w hSw; (try dsimp only at hSw); go_simp; (try with_reducible rfl)
        try simp only [Act.put, List.setIfInBounds_toArray, List.set_cons_zero, List.set_cons_succ]
        refine wpAnyE_take (i := 3) (oi := { dst := some 54, op := Go.Op.nilCheck (Go.Operand.tmp 51), type := 0, pos := "window.go:81", after := #[{ on := 0, ground := Go.Ground.data }, { on := 0, ground := Go.Ground.phase }, { on := 1, ground := Go.Ground.textOnly Go.Departure.lateStores }, { on := 2, ground := Go.Ground.textOnly Go.Departure.lateStores }], guard := none }) (v := ?vq1_3) [3, 4, 5, 6, 7, 8] rfl (by kernel_rfl) (by kernel_rfl) (by kernel_rfl) (by kernel_rfl) (fun _ _ _ h => h) hS13 (Or.inl ⟨by rfl, ?hq1_3⟩) ?_
        case hq1_3 => intro w hSw; (try dsimp only at hSw); go_simp; (try with_reducible rfl)
        try simp only [Act.put, List.setIfInBounds_toArray, List.set_cons_zero, List.set_cons_succ]
        refine wpAnyE_take (i := 4) (oi := { dst := some 55, op := Go.Op.fieldAddr 91 (Go.Operand.tmp 54) 1, type := 0, pos := "window.go:81", after := #[{ on := 3, ground := Go.Ground.data }, { on := 0, ground := Go.Ground.phase }, { on := 1, ground := Go.Ground.textOnly Go.Departure.lateStores }, { on := 2, ground := Go.Ground.textOnly Go.Departure.lateStores }], guard := none }) (v := ?vq1_4) [4, 5, 6, 7, 8] rfl (by kernel_rfl) (by kernel_rfl) (by kernel_rfl) (by kernel_rfl) (fun _ _ _ h => h) hS13 (Or.inl ⟨by rfl, ?hq1_4⟩) ?_
        case hq1_4 => intro w hSw; (try dsimp only at hSw); go_simp; (try with_reducible rfl)
        try simp only [Act.put, List.setIfInBounds_toArray, List.set_cons_zero, List.set_cons_succ]
        refine wpAnyE_step (i := 5) (oi := { dst := none, op := Go.Op.store 4 (Go.Operand.tmp 55) (Go.Operand.const (Go.Value.bool true)), type := 0, pos := "window.go:81", after := #[{ on := 4, ground := Go.Ground.data }, { on := 0, ground := Go.Ground.phase }, { on := 1, ground := Go.Ground.textOnly Go.Departure.lateStores }, { on := 2, ground := Go.Ground.textOnly Go.Departure.lateStores }], guard := none }) rfl (by kernel_rfl) (by rfl) (fun K hK => ?_)
        go_simp
        refine hK _ _ ?_ (fun hSq1_5 => ?_)
        · exact nb1
        clear hK
        try simp only [Act.put, List.setIfInBounds_toArray, List.set_cons_zero, List.set_cons_succ]
        refine wpAnyE_take (i := 6) (oi := { dst := some 56, op := Go.Op.nilCheck (Go.Operand.tmp 52), type := 0, pos := "window.go:81", after := #[{ on := 1, ground := Go.Ground.data }, { on := 0, ground := Go.Ground.phase }, { on := 1, ground := Go.Ground.phase }, { on := 2, ground := Go.Ground.phase }, { on := 3, ground := Go.Ground.phase }, { on := 4, ground := Go.Ground.phase }, { on := 5, ground := Go.Ground.phase }], guard := none }) (v := ?vq1_6) [6, 7, 8] rfl (by kernel_rfl) (by kernel_rfl) (by kernel_rfl) (by kernel_rfl) (fun _ _ _ h => h) hSq1_5 (Or.inl ⟨by rfl, ?hq1_6⟩) ?_
        case hq1_6 => intro w hSw; (try dsimp only at hSw); go_simp; (try with_reducible rfl)
        try simp only [Act.put, List.setIfInBounds_toArray, List.set_cons_zero, List.set_cons_succ]
        refine wpAnyE_take (i := 7) (oi := { dst := some 57, op := Go.Op.fieldAddr 91 (Go.Operand.tmp 56) 2, type := 0, pos := "window.go:81", after := #[{ on := 6, ground := Go.Ground.data }, { on := 0, ground := Go.Ground.phase }, { on := 1, ground := Go.Ground.phase }, { on := 2, ground := Go.Ground.phase }, { on := 3, ground := Go.Ground.phase }, { on := 4, ground := Go.Ground.phase }, { on := 5, ground := Go.Ground.phase }], guard := none }) (v := ?vq1_7) [7, 8] rfl (by kernel_rfl) (by kernel_rfl) (by kernel_rfl) (by kernel_rfl) (fun _ _ _ h => h) hSq1_5 (Or.inl ⟨by rfl, ?hq1_7⟩) ?_
        case hq1_7 => intro w hSw; (try dsimp only at hSw); go_simp; (try with_reducible rfl)
        try simp only [Act.put, List.setIfInBounds_toArray, List.set_cons_zero, List.set_cons_succ]
        refine wpAnyE_switch _ _ _ _ (by kernel_rfl) ?_
        refine wpAnyE_step (i := 8) (oi := { dst := none, op := Go.Op.store 3 (Go.Operand.tmp 57) (Go.Operand.tmp 53), type := 0, pos := "window.go:81", after := #[{ on := 7, ground := Go.Ground.data }, { on := 2, ground := Go.Ground.data }, { on := 5, ground := Go.Ground.chain }, { on := 0, ground := Go.Ground.phase }, { on := 1, ground := Go.Ground.phase }, { on := 2, ground := Go.Ground.phase }, { on := 3, ground := Go.Ground.phase }, { on := 4, ground := Go.Ground.phase }, { on := 5, ground := Go.Ground.phase }], guard := none }) rfl (by kernel_rfl) (by rfl) (fun K hK => ?_)
        go_simp
        refine hK _ _ trivial (fun _ => ?_)
        clear hK
        try simp only [Act.put, List.setIfInBounds_toArray, List.set_cons_zero, List.set_cons_succ]
        refine wpAnyE_done (by kernel_rfl) ?_ _

        generalize hw2 : (World.drew (World.setCell (World.setCell _ _ _) _ _)) = w2
        have hk2 : Keep [g] w1 w2 := by rw [← hw2]; exact (((Keep.refl [g] w1).setCell (.inl (by simp)) _).setCell (.inl (by simp)) _).drew
        have hown2 : w2.ownsRow base 91 4 (.slice (some ⟨g, 0, none⟩) l.length cL) l.length ((dueL ag now (k + 1) l).flatMap scells) := by rw [← hw2]; exact Hown2.out
        have hgb : g ≠ bs := fun h => own_ne_blk Hown.out HT.out (by decide) (by rw [h]; rfl)
        clear hw2 fr1 qr1 fr2 qr2 hS13 nb1 hSq1_5
        have hT2 := HT1.out.keep hk2 (by simp; exact fun h => hgb h.symm)
        have hbq2 := Hbq1.out.keep hk2 (by simp; omega)
        have hbn2 := Hbn1.out.keep hk2 (by simp; omega)
        have hS14 : w2.drew.cell? ⟨bs, 4, none⟩ = some (.int .i64 M) ∧ w2.drew.cell? ⟨bs, 3, none⟩ = some (.int .i64 bse) ∧ w2.drew.cell? ⟨w.heap.size, 0, none⟩ = some (.pointer (some ⟨bs, 0, none⟩)) := ⟨Blk.cell hT2 4, Blk.cell hT2 3, Blk.cell hbq2 0⟩
        obtain ⟨m4, m3, mq⟩ := id hS14
        have mf : w2.drew.frozen? ⟨bs, 4, none⟩ = false := Blk.free hT2 4
        have HT2' := Lib.hid hT2
        have Hown2' := Lib.hid hown2
        have Hbq2 := Lib.hid hbq2
        have Hbn2 := Lib.hid hbn2
        have Hk2 := Lib.hid hk2
        have Hgb := Lib.hid hgb
        clear hT2 hown2 hbq2 hbn2 hk2 hgb
        have hwk : IntKind.i64.wrap (bse + (k : Int)) = bse + k := by rw [IntKind.wrap_i64]; omega
        go_wp2_with fail
        refine wp_region_E (fun W => W.cell? ⟨bs, 4, none⟩ = some (.int .i64 M) ∧ W.cell? ⟨bs, 3, none⟩ = some (.int .i64 bse) ∧ W.cell? ⟨w.heap.size, 0, none⟩ = some (.pointer (some ⟨bs, 0, none⟩))) [14] (by kernel_rfl) ?_
        refine wpAnyE_take (i := 0) (oi := { dst := some 58, op := Go.Op.load 45 (Go.Operand.tmp 2), type := 45, pos := "window.go:82", after := #[], guard := none }) (v := ?vq2_0) [0, 12, 13, 14] rfl (by kernel_rfl) (by kernel_rfl) (by kernel_rfl) (by kernel_rfl) (fun _ _ _ h => h) hS14 (Or.inl ⟨by rfl, ?hq2_0⟩) ?_
        case hq2_0 => intro w hSw; (try dsimp only at hSw); go_simp; (try with_reducible rfl)
        try simp only [Act.put, List.setIfInBounds_toArray, List.set_cons_zero, List.set_cons_succ]
        refine wpAnyE_take (i := 1) (oi := { dst := some 59, op := Go.Op.load 45 (Go.Operand.tmp 2), type := 45, pos := "window.go:82", after := #[], guard := none }) (v := ?vq2_1) [1, 2, 3, 4, 11, 12, 13, 14] rfl (by kernel_rfl) (by kernel_rfl) (by kernel_rfl) (by kernel_rfl) (fun _ _ _ h => h) hS14 (Or.inl ⟨by rfl, ?hq2_1⟩) ?_
        case hq2_1 => intro w hSw; (try dsimp only at hSw); go_simp; (try with_reducible rfl)
        try simp only [Act.put, List.setIfInBounds_toArray, List.set_cons_zero, List.set_cons_succ]
        refine wpAnyE_take (i := 2) (oi := { dst := some 60, op := Go.Op.nilCheck (Go.Operand.tmp 59), type := 0, pos := "window.go:82", after := #[{ on := 1, ground := Go.Ground.data }], guard := none }) (v := ?vq2_2) [2, 3, 4, 11, 12, 13, 14] rfl (by kernel_rfl) (by kernel_rfl) (by kernel_rfl) (by kernel_rfl) (fun _ _ _ h => h) hS14 (Or.inl ⟨by rfl, ?hq2_2⟩) ?_
        case hq2_2 => intro w hSw; (try dsimp only at hSw); go_simp; (try with_reducible rfl)
        try simp only [Act.put, List.setIfInBounds_toArray, List.set_cons_zero, List.set_cons_succ]
        refine wpAnyE_take (i := 3) (oi := { dst := some 61, op := Go.Op.fieldAddr 77 (Go.Operand.tmp 60) 4, type := 0, pos := "window.go:82", after := #[{ on := 2, ground := Go.Ground.data }], guard := none }) (v := ?vq2_3) [3, 4, 11, 12, 13, 14] rfl (by kernel_rfl) (by kernel_rfl) (by kernel_rfl) (by kernel_rfl) (fun _ _ _ h => h) hS14 (Or.inl ⟨by rfl, ?hq2_3⟩) ?_
        case hq2_3 => intro w hSw; (try dsimp only at hSw); go_simp; (try with_reducible rfl)
        try simp only [Act.put, List.setIfInBounds_toArray, List.set_cons_zero, List.set_cons_succ]
        refine wpAnyE_take (i := 4) (oi := { dst := some 62, op := Go.Op.load 3 (Go.Operand.tmp 61), type := 3, pos := "window.go:82", after := #[{ on := 3, ground := Go.Ground.data }], guard := none }) (v := ?vq2_4) [4, 11, 12, 13, 14] rfl (by kernel_rfl) (by kernel_rfl) (by kernel_rfl) (by kernel_rfl) (fun _ _ _ h => h) hS14 (Or.inl ⟨by rfl, ?hq2_4⟩) ?_
        case hq2_4 => intro w hSw; (try dsimp only at hSw); go_simp; (try with_reducible rfl)
        try simp only [Act.put, List.setIfInBounds_toArray, List.set_cons_zero, List.set_cons_succ]
        refine wpAnyE_take (i := 5) (oi := { dst := some 63, op := Go.Op.load 45 (Go.Operand.tmp 2), type := 45, pos := "window.go:82", after := #[], guard := none }) (v := ?vq2_5) [5, 6, 7, 8, 10, 11, 12, 13, 14] rfl (by kernel_rfl) (by kernel_rfl) (by kernel_rfl) (by kernel_rfl) (fun _ _ _ h => h) hS14 (Or.inl ⟨by rfl, ?hq2_5⟩) ?_
        case hq2_5 => intro w hSw; (try dsimp only at hSw); go_simp; (try with_reducible rfl)
        try simp only [Act.put, List.setIfInBounds_toArray, List.set_cons_zero, List.set_cons_succ]
        refine wpAnyE_take (i := 6) (oi := { dst := some 64, op := Go.Op.nilCheck (Go.Operand.tmp 63), type := 0, pos := "window.go:82", after := #[{ on := 5, ground := Go.Ground.data }], guard := none }) (v := ?vq2_6) [6, 7, 8, 10, 11, 12, 13, 14] rfl (by kernel_rfl) (by kernel_rfl) (by kernel_rfl) (by kernel_rfl) (fun _ _ _ h => h) hS14 (Or.inl ⟨by rfl, ?hq2_6⟩) ?_
        case hq2_6 => intro w hSw; (try dsimp only at hSw); go_simp; (try with_reducible rfl)
        try simp only [Act.put, List.setIfInBounds_toArray, List.set_cons_zero, List.set_cons_succ]
        refine wpAnyE_take (i := 7) (oi := { dst := some 65, op := Go.Op.fieldAddr 77 (Go.Operand.tmp 64) 3, type := 0, pos := "window.go:82", after := #[{ on := 6, ground := Go.Ground.data }], guard := none }) (v := ?vq2_7) [7, 8, 10, 11, 12, 13, 14] rfl (by kernel_rfl) (by kernel_rfl) (by kernel_rfl) (by kernel_rfl) (fun _ _ _ h => h) hS14 (Or.inl ⟨by rfl, ?hq2_7⟩) ?_
        case hq2_7 => intro w hSw; (try dsimp only at hSw); go_simp; (try with_reducible rfl)
        try simp only [Act.put, List.setIfInBounds_toArray, List.set_cons_zero, List.set_cons_succ]
        refine wpAnyE_take (i := 8) (oi := { dst := some 66, op := Go.Op.load 3 (Go.Operand.tmp 65), type := 3, pos := "window.go:82", after := #[{ on := 7, ground := Go.Ground.data }], guard := none }) (v := ?vq2_8) [8, 10, 11, 12, 13, 14] rfl (by kernel_rfl) (by kernel_rfl) (by kernel_rfl) (by kernel_rfl) (fun _ _ _ h => h) hS14 (Or.inl ⟨by rfl, ?hq2_8⟩) ?_
        case hq2_8 => intro w hSw; (try dsimp only at hSw); go_simp; (try with_reducible rfl)
        try simp only [Act.put, List.setIfInBounds_toArray, List.set_cons_zero, List.set_cons_succ]
        refine wpAnyE_take (i := 9) (oi := { dst := some 67, op := Go.Op.move (Go.Operand.tmp 8), type := 3, pos := "window.go:82", after := #[], guard := none }) (v := ?vq2_9) [9, 10, 11, 12, 13, 14] rfl (by kernel_rfl) (by kernel_rfl) (by kernel_rfl) (by kernel_rfl) (fun _ _ _ h => h) hS14 (Or.inl ⟨by rfl, ?hq2_9⟩) ?_
        case hq2_9 => intro w hSw; (try dsimp only at hSw); go_simp; (try with_reducible rfl)
        try simp only [Act.put, List.setIfInBounds_toArray, List.set_cons_zero, List.set_cons_succ]
        refine wpAnyE_take (i := 10) (oi := { dst := some 68, op := Go.Op.binOp Go.BinOp.add 3 (Go.Operand.tmp 66) (Go.Operand.tmp 67) 3, type := 3, pos := "window.go:82", after := #[{ on := 8, ground := Go.Ground.data }, { on := 9, ground := Go.Ground.data }], guard := none }) (v := ?vq2_10) [10, 11, 12, 13, 14] rfl (by kernel_rfl) (by kernel_rfl) (by kernel_rfl) (by kernel_rfl) (fun _ _ _ h => h) hS14 (Or.inl ⟨by rfl, ?hq2_10⟩) ?_
        case hq2_10 => intro w hSw; (try dsimp only at hSw); go_simp; (try with_reducible rfl)
        try simp only [Act.put, List.setIfInBounds_toArray, List.set_cons_zero, List.set_cons_succ]
        refine wpAnyE_take (i := 11) (oi := { dst := some 69, op := Go.Op.call { callee := Go.Callee.builtin Go.Builtin.max, args := #[Go.Operand.tmp 62, Go.Operand.tmp 68], argTypes := #[3, 3] }, type := 3, pos := "window.go:82", after := #[{ on := 4, ground := Go.Ground.data }, { on := 10, ground := Go.Ground.data }], guard := none }) (v := ?vq2_11) [11, 12, 13, 14] rfl (by kernel_rfl) (by kernel_rfl) (by kernel_rfl) (by kernel_rfl) (fun _ _ _ h => h) hS14 (Or.inl ⟨by rfl, ?hq2_11⟩) ?_
        case hq2_11 => intro w hSw; (try dsimp only at hSw); go_simp; (try with_reducible rfl)
        try simp only [Act.put, List.setIfInBounds_toArray, List.set_cons_zero, List.set_cons_succ]
        refine wpAnyE_take (i := 12) (oi := { dst := some 70, op := Go.Op.nilCheck (Go.Operand.tmp 58), type := 0, pos := "window.go:82", after := #[{ on := 0, ground := Go.Ground.data }, { on := 0, ground := Go.Ground.phase }, { on := 1, ground := Go.Ground.phase }, { on := 2, ground := Go.Ground.phase }, { on := 3, ground := Go.Ground.phase }, { on := 4, ground := Go.Ground.phase }, { on := 5, ground := Go.Ground.phase }, { on := 6, ground := Go.Ground.phase }, { on := 7, ground := Go.Ground.phase }, { on := 8, ground := Go.Ground.phase }, { on := 9, ground := Go.Ground.phase }, { on := 10, ground := Go.Ground.phase }, { on := 11, ground := Go.Ground.phase }], guard := none }) (v := ?vq2_12) [12, 13, 14] rfl (by kernel_rfl) (by kernel_rfl) (by kernel_rfl) (by kernel_rfl) (fun _ _ _ h => h) hS14 (Or.inl ⟨by rfl, ?hq2_12⟩) ?_
        case hq2_12 => intro w hSw; (try dsimp only at hSw); go_simp; (try with_reducible rfl)
        try simp only [Act.put, List.setIfInBounds_toArray, List.set_cons_zero, List.set_cons_succ]
        refine wpAnyE_take (i := 13) (oi := { dst := some 71, op := Go.Op.fieldAddr 77 (Go.Operand.tmp 70) 4, type := 0, pos := "window.go:82", after := #[{ on := 12, ground := Go.Ground.data }, { on := 0, ground := Go.Ground.phase }, { on := 1, ground := Go.Ground.phase }, { on := 2, ground := Go.Ground.phase }, { on := 3, ground := Go.Ground.phase }, { on := 4, ground := Go.Ground.phase }, { on := 5, ground := Go.Ground.phase }, { on := 6, ground := Go.Ground.phase }, { on := 7, ground := Go.Ground.phase }, { on := 8, ground := Go.Ground.phase }, { on := 9, ground := Go.Ground.phase }, { on := 10, ground := Go.Ground.phase }, { on := 11, ground := Go.Ground.phase }], guard := none }) (v := ?vq2_13) [13, 14] rfl (by kernel_rfl) (by kernel_rfl) (by kernel_rfl) (by kernel_rfl) (fun _ _ _ h => h) hS14 (Or.inl ⟨by rfl, ?hq2_13⟩) ?_
        case hq2_13 => intro w hSw; (try dsimp only at hSw); go_simp; (try with_reducible rfl)
        try simp only [Act.put, List.setIfInBounds_toArray, List.set_cons_zero, List.set_cons_succ]
        refine wpAnyE_switch _ _ _ _ (by kernel_rfl) ?_
        refine wpAnyE_step (i := 14) (oi := { dst := none, op := Go.Op.store 3 (Go.Operand.tmp 71) (Go.Operand.tmp 69), type := 0, pos := "window.go:82", after := #[{ on := 13, ground := Go.Ground.data }, { on := 11, ground := Go.Ground.data }, { on := 0, ground := Go.Ground.phase }, { on := 1, ground := Go.Ground.phase }, { on := 2, ground := Go.Ground.phase }, { on := 3, ground := Go.Ground.phase }, { on := 4, ground := Go.Ground.phase }, { on := 5, ground := Go.Ground.phase }, { on := 6, ground := Go.Ground.phase }, { on := 7, ground := Go.Ground.phase }, { on := 8, ground := Go.Ground.phase }, { on := 9, ground := Go.Ground.phase }, { on := 10, ground := Go.Ground.phase }, { on := 11, ground := Go.Ground.phase }], guard := none }) rfl (by kernel_rfl) (by rfl) (fun K hK => ?_)
        go_simp
        refine hK _ _ trivial (fun _ => ?_)
        clear hK
        try simp only [Act.put, List.setIfInBounds_toArray, List.set_cons_zero, List.set_cons_succ]
        refine wpAnyE_done (by kernel_rfl) ?_ _

        generalize hw3 : (World.drew (World.setCell _ _ _)) = w3
        have hk3 : Keep [bs] w2 w3 := by rw [← hw3]; exact ((Keep.refl [bs] w2).setCell (.inl (by simp)) _).drew
        have hT3 : SBlk bs sz ag now bse (max M (bse + k)) (.slice (some ⟨g, 0, none⟩) l.length cL) op w3 := by rw [← hw3]; exact Blk.set_ HT2'.out 4 _
        clear hw3 hS14 m4 m3 mq mf
        have hbq3 : Blk w3 w.heap.size 45 #[.pointer (some ⟨bs, 0, none⟩)] := Hbq2.out.keep hk3 (by simp; omega)
        have hbn3 : Blk w3 (w.heap.size + 1) 3 #[.int .i64 now] := Hbn2.out.keep hk3 (by simp; omega)
        have hown3 := ownsRow_keep Hown2'.out hk3 (by intro g' hg'; have hg2 : some g = some g' := hg'; simp at hg2; subst hg2; simp; exact Hgb.out)
        have hk13 : Keep [bs, g] w1 w3 := (Hk2.out.mono (by simp)).trans (hk3.mono (by simp))
        have nbg : NoByte base 5 w1 [bs, g] := by
          refine noByte_cons HT1.out (by decide) hbb ?_
          exact noByte_own (F := []) (ownsRow_keep Hownr.out Hk1.out (by simp)) (Nat.le_refl _) (show (91 : TypeId) ≠ 5 by decide) noByte_nil
        have hrd : ∀ a b, Reads base 5 wo a b → Reads base 5 w3 a b := fun a b h => (h.keep Hk1.out noByte_nil).keep hk13 nbg
        have hout3 := ownsRow_keep (ownsRow_keep Houtr.out Hk1.out (by simp)) hk13 (by
          intro g' hg'
          have h1 := own_ne_blk (ownsRow_keep Houtr.out Hk1.out (by simp)) HT1.out (by decide)
          have h2 := (Houtr.out.lt g' hg').1
          have h3 := Hgw.out
          simp
          refine ⟨?_, by omega⟩
          rintro rfl
          exact h1 hg')
        have hv3 := hrd _ _ He4.out
        have hsz : w.heap.size ≤ w3.heap.size := by
          have h1 := Hkr.out.size
          have h2 := Hk1.out.size
          have h3 := hk13.size
          omega
        have hB3 : base ≤ w3.heap.size := by omega
        have hol : out.length ≤ 100000 := by
          have h1 := LR.len Hlr.out
          have h2 := dueO_len (ag := ag) (now := now) (bse := bse) (p.take k) 0
          have h3 : (p.take k).length ≤ k := by simp; omega
          omega
        have hg3 : g < w3.heap.size := by omega
        have hlt3 := Blk.lt hT3
        have hltq := Blk.lt hbq3
        have hv0 : w3.cell? ⟨g, k * 4, none⟩ = some (.slice AV pb.length cv) := by
          refine (ownsRow_cell hown3 (Eq.trans (rf_get scells_len (dueL ag now (k + 1) l) k 0 (by rw [dueL_len]; exact hkl) (by omega)) ?_)).1
          have h2 : (dueL ag now (k + 1) l)[k]'(by rw [dueL_len]; exact hkl) = upd ag now l[k] := by
            have h3 := dueL_set (ag := ag) (now := now) hkl
            simp only [← h3, List.getElem_set_self]
          rw [h2, Hx.out]
          unfold upd
          split <;> rfl
        have hS3 : w3.cell? ⟨w.heap.size, 0, none⟩ = some (.pointer (some ⟨bs, 0, none⟩)) ∧ w3.cell? ⟨bs, 3, none⟩ = some (.int .i64 bse) ∧ w3.cell? ⟨g, k * 4, none⟩ = some (.slice AV pb.length cv) := ⟨Blk.cell hbq3 0, Blk.cell hT3 3, hv0⟩
        have hS15 : w3.drew.cell? ⟨w.heap.size, 0, none⟩ = some (.pointer (some ⟨bs, 0, none⟩)) ∧ w3.drew.cell? ⟨bs, 3, none⟩ = some (.int .i64 bse) ∧ w3.drew.cell? ⟨g, k * 4, none⟩ = some (.slice AV pb.length cv) := hS3
        have HS3 := Lib.hid (show ∀ (F : List Nat) (W : World), Keep F w3 W → bs ∉ F → w.heap.size ∉ F → g ∉ F → W.cell? ⟨w.heap.size, 0, none⟩ = some (.pointer (some ⟨bs, 0, none⟩)) ∧ W.cell? ⟨bs, 3, none⟩ = some (.int .i64 bse) ∧ W.cell? ⟨g, k * 4, none⟩ = some (.slice AV pb.length cv) from
          fun F W hk h1 h2 h3 => ⟨(hk.cell hltq h2).trans hS3.1, (hk.cell hlt3 h1).trans hS3.2.1, (hk.cell hg3 h3).trans hS3.2.2⟩)
        have HT3 := Lib.hid hT3
        have Hown3 := Lib.hid hown3
        have Hbq3 := Lib.hid hbq3
        have Hbn3 := Lib.hid hbn3
        have Hk13 := Lib.hid hk13
        have Hrd := Lib.hid hrd
        have Hout3 := Lib.hid hout3
        have Hv3 := Lib.hid (hv3.keep ((Keep.refl [] w3).drew) noByte_nil)
        have Hsz := Lib.hid hsz
        have HB3 := Lib.hid hB3
        have Hol := Lib.hid hol
        clear hT3 hown3 hbq3 hbn3 hk3 hk13 nbg hrd hout3 hv3 hsz hol hg3 hlt3 hltq hv0 hS3
        go_wp2_with fail
        refine wp_region_E (fun W => W.cell? ⟨w.heap.size, 0, none⟩ = some (.pointer (some ⟨bs, 0, none⟩)) ∧ W.cell? ⟨bs, 3, none⟩ = some (.int .i64 bse) ∧ W.cell? ⟨g, k * 4, none⟩ = some (.slice AV pb.length cv)) [15] (by kernel_rfl) ?_
        refine wpAnyE_take (i := 0) (oi := { dst := some 72, op := Go.Op.move (Go.Operand.tmp 7), type := 22, pos := "window.go:83", after := #[], guard := none }) (v := ?vq3_0) [0, 14, 15] rfl (by kernel_rfl) (by kernel_rfl) (by kernel_rfl) (by kernel_rfl) (fun _ _ _ h => h) hS15 (Or.inl ⟨by rfl, ?hq3_0⟩) ?_
        case hq3_0 => intro w hSw; (try dsimp only at hSw); go_simp; (try with_reducible rfl)
        try simp only [Act.put, List.setIfInBounds_toArray, List.set_cons_zero, List.set_cons_succ]
        refine wpAnyE_take (i := 1) (oi := { dst := some 73, op := Go.Op.load 45 (Go.Operand.tmp 2), type := 45, pos := "window.go:83", after := #[], guard := none }) (v := ?vq3_1) [1, 2, 3, 4, 6, 12, 13, 14, 15] rfl (by kernel_rfl) (by kernel_rfl) (by kernel_rfl) (by kernel_rfl) (fun _ _ _ h => h) hS15 (Or.inl ⟨by rfl, ?hq3_1⟩) ?_
        case hq3_1 => intro w hSw; (try dsimp only at hSw); go_simp; (try with_reducible rfl)
        try simp only [Act.put, List.setIfInBounds_toArray, List.set_cons_zero, List.set_cons_succ]
        refine wpAnyE_take (i := 2) (oi := { dst := some 74, op := Go.Op.nilCheck (Go.Operand.tmp 73), type := 0, pos := "window.go:83", after := #[{ on := 1, ground := Go.Ground.data }], guard := none }) (v := ?vq3_2) [2, 3, 4, 6, 12, 13, 14, 15] rfl (by kernel_rfl) (by kernel_rfl) (by kernel_rfl) (by kernel_rfl) (fun _ _ _ h => h) hS15 (Or.inl ⟨by rfl, ?hq3_2⟩) ?_
        case hq3_2 => intro w hSw; (try dsimp only at hSw); go_simp; (try with_reducible rfl)
        try simp only [Act.put, List.setIfInBounds_toArray, List.set_cons_zero, List.set_cons_succ]
        refine wpAnyE_take (i := 3) (oi := { dst := some 75, op := Go.Op.fieldAddr 77 (Go.Operand.tmp 74) 3, type := 0, pos := "window.go:83", after := #[{ on := 2, ground := Go.Ground.data }], guard := none }) (v := ?vq3_3) [3, 4, 6, 12, 13, 14, 15] rfl (by kernel_rfl) (by kernel_rfl) (by kernel_rfl) (by kernel_rfl) (fun _ _ _ h => h) hS15 (Or.inl ⟨by rfl, ?hq3_3⟩) ?_
        case hq3_3 => intro w hSw; (try dsimp only at hSw); go_simp; (try with_reducible rfl)
        try simp only [Act.put, List.setIfInBounds_toArray, List.set_cons_zero, List.set_cons_succ]
        refine wpAnyE_take (i := 4) (oi := { dst := some 76, op := Go.Op.load 3 (Go.Operand.tmp 75), type := 3, pos := "window.go:83", after := #[{ on := 3, ground := Go.Ground.data }], guard := none }) (v := ?vq3_4) [4, 6, 12, 13, 14, 15] rfl (by kernel_rfl) (by kernel_rfl) (by kernel_rfl) (by kernel_rfl) (fun _ _ _ h => h) hS15 (Or.inl ⟨by rfl, ?hq3_4⟩) ?_
        case hq3_4 => intro w hSw; (try dsimp only at hSw); go_simp; (try with_reducible rfl)
        try simp only [Act.put, List.setIfInBounds_toArray, List.set_cons_zero, List.set_cons_succ]
        refine wpAnyE_take (i := 5) (oi := { dst := some 77, op := Go.Op.move (Go.Operand.tmp 8), type := 3, pos := "window.go:83", after := #[], guard := none }) (v := ?vq3_5) [5, 6, 12, 13, 14, 15] rfl (by kernel_rfl) (by kernel_rfl) (by kernel_rfl) (by kernel_rfl) (fun _ _ _ h => h) hS15 (Or.inl ⟨by rfl, ?hq3_5⟩) ?_
        case hq3_5 => intro w hSw; (try dsimp only at hSw); go_simp; (try with_reducible rfl)
        try simp only [Act.put, List.setIfInBounds_toArray, List.set_cons_zero, List.set_cons_succ]
        refine wpAnyE_take (i := 6) (oi := { dst := some 78, op := Go.Op.binOp Go.BinOp.add 3 (Go.Operand.tmp 76) (Go.Operand.tmp 77) 3, type := 3, pos := "window.go:83", after := #[{ on := 4, ground := Go.Ground.data }, { on := 5, ground := Go.Ground.data }], guard := none }) (v := ?vq3_6) [6, 12, 13, 14, 15] rfl (by kernel_rfl) (by kernel_rfl) (by kernel_rfl) (by kernel_rfl) (fun _ _ _ h => h) hS15 (Or.inl ⟨by rfl, ?hq3_6⟩) ?_
        case hq3_6 => intro w hSw; (try dsimp only at hSw); go_simp; (try with_reducible rfl)
        try simp only [Act.put, List.setIfInBounds_toArray, List.set_cons_zero, List.set_cons_succ]
        refine wpAnyE_take (i := 7) (oi := { dst := some 79, op := Go.Op.move (Go.Operand.tmp 9), type := 93, pos := "window.go:83", after := #[], guard := none }) (v := ?vq3_7) [7, 8, 9, 10, 11, 12, 13, 14, 15] rfl (by kernel_rfl) (by kernel_rfl) (by kernel_rfl) (by kernel_rfl) (fun _ _ _ h => h) hS15 (Or.inl ⟨by rfl, ?hq3_7⟩) ?_
        case hq3_7 => intro w hSw; (try dsimp only at hSw); go_simp; (try with_reducible rfl)
        try simp only [Act.put, List.setIfInBounds_toArray, List.set_cons_zero, List.set_cons_succ]
        refine wpAnyE_take (i := 8) (oi := { dst := some 80, op := Go.Op.nilCheck (Go.Operand.tmp 79), type := 0, pos := "window.go:83", after := #[{ on := 7, ground := Go.Ground.data }], guard := none }) (v := ?vq3_8) [8, 9, 10, 11, 12, 13, 14, 15] rfl (by kernel_rfl) (by kernel_rfl) (by kernel_rfl) (by kernel_rfl) (fun _ _ _ h => h) hS15 (Or.inl ⟨by rfl, ?hq3_8⟩) ?_
        case hq3_8 => intro w hSw; (try dsimp only at hSw); go_simp; (try with_reducible rfl)
        try simp only [Act.put, List.setIfInBounds_toArray, List.set_cons_zero, List.set_cons_succ]
        refine wpAnyE_take (i := 9) (oi := { dst := some 81, op := Go.Op.fieldAddr 91 (Go.Operand.tmp 80) 0, type := 0, pos := "window.go:83", after := #[{ on := 8, ground := Go.Ground.data }], guard := none }) (v := ?vq3_9) [9, 10, 11, 12, 13, 14, 15] rfl (by kernel_rfl) (by kernel_rfl) (by kernel_rfl) (by kernel_rfl) (fun _ _ _ h => h) hS15 (Or.inl ⟨by rfl, ?hq3_9⟩) ?_
        case hq3_9 => intro w hSw; (try dsimp only at hSw); go_simp; (try with_reducible rfl)
        try simp only [Act.put, List.setIfInBounds_toArray, List.set_cons_zero, List.set_cons_succ]
        refine wpAnyE_take (i := 10) (oi := { dst := some 82, op := Go.Op.load 31 (Go.Operand.tmp 81), type := 31, pos := "window.go:83", after := #[{ on := 9, ground := Go.Ground.data }], guard := none }) (v := ?vq3_10) [10, 11, 12, 13, 14, 15] rfl (by kernel_rfl) (by kernel_rfl) (by kernel_rfl) (by kernel_rfl) (fun _ _ _ h => h) hS15 (Or.inl ⟨by rfl, ?hq3_10⟩) ?_
        case hq3_10 => intro w hSw; (try dsimp only at hSw); go_simp; (try with_reducible rfl)
        try simp only [Act.put, List.setIfInBounds_toArray, List.set_cons_zero, List.set_cons_succ]
        refine wpAnyE_step (i := 11) (oi := { dst := some 83, op := Go.Op.call { callee := Go.Callee.value (Go.Operand.func 33), args := #[Go.Operand.tmp 82], argTypes := #[31] }, type := 31, pos := "window.go:83", after := #[{ on := 10, ground := Go.Ground.data }], guard := none }) rfl (by kernel_rfl) (by rfl) (fun K hK => ?_)
        go_simp
        refine (clone_any base _ pb _ (by show base ≤ w3.heap.size; exact HB3.out) Hv3.out Hbk.out).mono ?_
        rintro e w4 ⟨v', rfl, hr4, hk4'⟩
        have Hr4 := Lib.hid hr4
        have Hk4 := Lib.hid (Keep.of_drew hk4')
        obtain ⟨A', c', rfl, _⟩ := id hr4
        clear hr4 hk4'
        dsimp only
        refine hK _ _ ?_ (fun hSq3_11 => ?_)
        · exact HS3.out _ _ Hk4.out (by simp) (by simp) (by simp)
        clear hK
        try simp only [Act.put, List.setIfInBounds_toArray, List.set_cons_zero, List.set_cons_succ]
        refine wpAnyE_take (i := 12) (oi := { dst := some 84, op := Go.Op.build 33 #[(0, Go.Operand.tmp 78), (1, Go.Operand.tmp 83)], type := 33, pos := "window.go:83", after := #[{ on := 6, ground := Go.Ground.data }, { on := 11, ground := Go.Ground.data }], guard := none }) (v := ?vq3_12) [12, 13, 14, 15] rfl (by kernel_rfl) (by kernel_rfl) (by kernel_rfl) (by kernel_rfl) (fun _ _ _ h => h) hSq3_11 (Or.inl ⟨by rfl, ?hq3_12⟩) ?_
        case hq3_12 => intro w hSw; (try dsimp only at hSw); go_simp; (try with_reducible rfl)
        try simp only [Act.put, List.setIfInBounds_toArray, List.set_cons_zero, List.set_cons_succ]
        refine wpAnyE_step (i := 13) (oi := { dst := some 85, op := Go.Op.buildSlice 22 1 #[(0, Go.Operand.tmp 84)], type := 22, pos := "window.go:83", after := #[{ on := 12, ground := Go.Ground.data }], guard := none }) rfl (by kernel_rfl) (by rfl) (fun K hK => ?_)
        go_simp
        refine hK _ _ ?_ (fun hSq3_13 => ?_)
        · exact HS3.out _ _ (Hk4.out.alloc _) (by simp) (by simp) (by simp)
        clear hK
        try simp only [Act.put, List.setIfInBounds_toArray, List.set_cons_zero, List.set_cons_succ]
        refine wpAnyE_step (i := 14) (oi := { dst := some 86, op := Go.Op.call { callee := Go.Callee.builtin Go.Builtin.append, args := #[Go.Operand.tmp 72, Go.Operand.tmp 85], argTypes := #[22, 22] }, type := 22, pos := "window.go:83", after := #[{ on := 0, ground := Go.Ground.data }, { on := 13, ground := Go.Ground.data }, { on := 11, ground := Go.Ground.chain }], guard := none }) rfl (by kernel_rfl) (by rfl) (fun K hK => ?_)
        have hout4 := ownsRow_keep Hout3.out (Hk4.out.alloc (.cells #[.int .i64 (bse + k), .slice A' pb.length c'] 33)) (by simp)
        obtain ⟨ro2, w6, hap, hout6, hg6, hat6⟩ := run_append_src (P := Try.prog) (w4.alloc (.cells #[.int .i64 (bse + k), .slice A' pb.length c'] 33)) 22 22 33 _ 2 32 w.heap.size Try.underlying22 payinfo rfl (by omega) (.slice AO out.length cO) out.length (flat out) hout4 (some ⟨w4.heap.size, 0, none⟩) 1 1 _ (src_new w4 33 2 [.int .i64 (bse + k), .slice A' pb.length c'] rfl) (by intro u hu; simp at hu; rcases hu with rfl | rfl <;> rfl) (by have := Hol.out; unfold maxLen; omega) (by have := Hol.out; omega) (by have := Hsz.out; have := Hk4.out.size; simp; omega)
        have Hout6 := Lib.hid hout6
        have Hap := Lib.hid hap
        have Hk6 := Lib.hid (show Keep (Value.slice AO out.length cO).ownBlock.toList w3 w6 from ((Hk4.out.alloc _).mono (by simp)).grown hg6 (fun k hk => .inl (by simp [hk])))
        have Hk46 := Lib.hid (show Keep (Value.slice AO out.length cO).ownBlock.toList w4 w6 from (((Keep.refl [] w4).alloc _).mono (by simp)).grown hg6 (fun k hk => .inl (by simp [hk])))
        have Hn6 := Lib.hid (show bs ∉ (Value.slice AO out.length cO).ownBlock.toList ∧ w.heap.size ∉ (Value.slice AO out.length cO).ownBlock.toList ∧ g ∉ (Value.slice AO out.length cO).ownBlock.toList from ⟨by simp; exact own_ne_blk Hout3.out HT3.out (by decide), by simp; exact own_ne_blk Hout3.out Hbq3.out (by decide), by intro h; have := (Hout3.out.lt g (by simpa using h)).1; omega⟩)
        clear hout4 hout6 hg6 hat6 hap
        obtain ⟨A2, c2, rfl, _⟩ := own_slice Hout6.out
        refine wp_append2 (v1 := .slice AO out.length cO) (v2 := .slice (some ⟨w4.heap.size, 0, none⟩) 1 1) (.tmp 72) (.tmp 85) rfl rfl rfl Hap.out ?_
        refine hK _ _ ?_ (fun hSq3_14 => ?_)
        · exact HS3.out _ _ Hk6.out Hn6.out.1 Hn6.out.2.1 Hn6.out.2.2
        clear hK
        try simp only [Act.put, List.setIfInBounds_toArray, List.set_cons_zero, List.set_cons_succ]
        refine wpAnyE_switch _ _ _ _ (by kernel_rfl) ?_
        refine wpAnyE_step (i := 15) (oi := { dst := some 7, op := Go.Op.assign (Go.Operand.tmp 86), type := 22, pos := "window.go:83", after := #[{ on := 14, ground := Go.Ground.data }, { on := 14, ground := Go.Ground.chain }, { on := 0, ground := Go.Ground.phase }, { on := 1, ground := Go.Ground.phase }, { on := 2, ground := Go.Ground.phase }, { on := 3, ground := Go.Ground.phase }, { on := 4, ground := Go.Ground.phase }, { on := 5, ground := Go.Ground.phase }, { on := 6, ground := Go.Ground.phase }, { on := 7, ground := Go.Ground.phase }, { on := 8, ground := Go.Ground.phase }, { on := 9, ground := Go.Ground.phase }, { on := 10, ground := Go.Ground.phase }, { on := 11, ground := Go.Ground.phase }, { on := 12, ground := Go.Ground.phase }, { on := 13, ground := Go.Ground.phase }, { on := 14, ground := Go.Ground.phase }], guard := none }) rfl (by kernel_rfl) (by rfl) (fun K hK => ?_)
        go_simp
        refine hK _ _ trivial (fun _ => ?_)
        clear hK
        try simp only [Act.put, List.setIfInBounds_toArray, List.set_cons_zero, List.set_cons_succ]
        refine wpAnyE_done (by kernel_rfl) ?_ _

        clear hS15 hwk
        go_wp2_with fail
        go_roundw
        · have hdp : dueB ag now p[k] = true := by rw [← dueB_rel (SR.get Hpr.out k hkl hkp)]; exact Hdl.out
          have hnb6 : NoByte base 5 w3 (Value.slice AO out.length cO).ownBlock.toList := by
            have := noByte_own (F := []) Hout3.out hB (show (33 : TypeId) ≠ 5 by decide) noByte_nil
            simpa using this
          have hnb46 : NoByte base 5 w4 (Value.slice AO out.length cO).ownBlock.toList := by
            have := noByte_own (F := []) (ownsRow_keep Hout3.out Hk4.out (by simp)) hB (show (33 : TypeId) ≠ 5 by decide) noByte_nil
            simpa using this
          have hrd : ∀ a b, Reads base 5 wo a b → Reads base 5 w6 a b := fun a b h => (Hrd.out a b h).keep Hk6.out hnb6
          refine ⟨k + 1, out ++ [(bse + k, .slice A' pb.length c')], by simp, by omega, ?_⟩
          unfold DInv
          rw [dueO_take hkp, dueM_take hkp, hdp, if_pos rfl, if_pos rfl, ← HM.out, ← Hpb.out]
          refine ⟨HT3.out.keep Hk6.out Hn6.out.1, ownsRow_keep Hown3.out Hk6.out ?_, SR.mono hrd Hpr.out, ?_, LR.append (LR.mono hrd Hlr.out) (LR.one (Hr4.out.keep Hk46.out hnb46)), ?_, Hbn3.out.keep Hk6.out ?_, Hbq3.out.keep Hk6.out Hn6.out.2.1⟩
          · intro g' hg'
            have hg2 : some g = some g' := hg'
            simp at hg2
            subst hg2
            exact Hn6.out.2.2
          · rw [flat_append, List.length_append]
            exact Hout6.out
          · have h1 := (Hkr.out.trans (Hk1.out.mono (by simp))).trans (Hk13.out.mono (G := bs :: (Value.slice (some ⟨g, 0, none⟩) l.length cL).ownBlock.toList) (by intro i hi; simp at hi ⊢; exact hi.imp id (fun h => by rw [h]; rfl)))
            exact h1.step Hk6.out (by
              intro i hi
              right
              exact (Houtr.out.lt i (by simpa using hi)).1)
          · simp
            intro h
            exact own_ne_blk Hout3.out Hbn3.out (by decide) h
        · simp [intOf]; omega
    · obtain rfl : k = K := by omega
      have hdec : decide ((k : Int) < k) = false := by simp
      go_wp2
      go_ret2
      refine ⟨.slice AO out.length cO, out, rfl, HTr.out, Hownr.out, SR.due Hpr.out, Houtr.out, Hlr.out, Hkr.out⟩
end Go.Proofs.Ytlkpecalkakpeaa
