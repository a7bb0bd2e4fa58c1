/- The reference's Print. -/
import Derived.Test.YtopfbbnpbobhaaaDoorU11
set_option linter.unusedVariables false
set_option linter.unusedSimpArgs false
namespace Go.Proofs.YtopfbbnpbobhaaaDoor
open Go.RowKit Go.Sal

def goodD (d : Dd) : Bool := decide (nameOf d.kind ≠ [] ∧ sameB d (shownOf d) = true)
theorem txV_good (d : Dd) (h : goodD d = true) : txV d = .tuple #[.string ⟨(lineOf d).toArray⟩, .int .i64 0] := by
  unfold goodD at h
  unfold txV
  rw [if_pos (of_decide_eq_true h)]
theorem txV_bad (d : Dd) (h : goodD d = false) : txV d = .tuple #[.string ⟨#[]⟩, .int .i64 251] := by
  unfold goodD at h
  unfold txV
  rw [if_neg (of_decide_eq_false h)]
def bodyOf (rs : List DR) : List UInt8 := (rs.map fun r => lineOf r.d ++ [10]).flatten
theorem bodyOf_succ (rs : List DR) (i : Nat) (h : i < rs.length) : bodyOf (rs.take (i + 1)) = bodyOf (rs.take i) ++ (lineOf rs[i].d ++ [10]) := by
  unfold bodyOf
  rw [List.take_add_one, List.getElem?_eq_getElem h]
  simp only [Option.toList, List.map_append, List.flatten_append, List.map_cons, List.map_nil, List.flatten_cons, List.flatten_nil, List.append_nil]
def textOf (cf : Cf) (rs : List DR) : List UInt8 := (headOf cf ++ [10]) ++ bodyOf rs
def printV (cf : Cf) (rs : List DR) : Value := if rs.all (fun r => goodD r.d) = true then .tuple #[.string ⟨(textOf cf rs).toArray⟩, .int .i64 0] else .tuple #[.string ⟨#[]⟩, .int .i64 251]
theorem printV_good (cf : Cf) (rs : List DR) (h : ∀ j (h : j < rs.length), goodD (rs[j]).d = true) : printV cf rs = .tuple #[.string ⟨(textOf cf rs).toArray⟩, .int .i64 0] := by
  unfold printV
  rw [if_pos]
  rw [List.all_eq_true]
  intro r hr
  obtain ⟨j, hj, rfl⟩ := List.getElem_of_mem hr
  exact h j hj
theorem printV_bad (cf : Cf) (rs : List DR) (i : Nat) (hi : i < rs.length) (h : goodD (rs[i]).d = false) : printV cf rs = .tuple #[.string ⟨#[]⟩, .int .i64 251] := by
  unfold printV
  rw [if_neg]
  intro ha
  rw [List.all_eq_true] at ha
  have := ha _ (List.getElem_mem hi)
  rw [this] at h
  cases h
def smallR (r : DR) : Prop := r.d.path.length ≤ 300 ∧ r.d.bs.length ≤ 1500 ∧ r.d.keep.length ≤ 100
theorem word_small (d : Dd) (f : UInt8) (hp : d.path.length ≤ 300) (hb : d.bs.length ≤ 1500) (hk : d.keep.length ≤ 100) (ha : i64R d.a) (hf : i64R d.frm) (hn : i64R d.n) : (wordOf d f).length ≤ 36001 := by
  have h1 := itoa_len d.a ha
  have h2 := itoa_len d.frm hf
  have h3 := itoa_len d.n hn
  have h4 := hexS_len d.path (by omega)
  have h5 := hexS_len d.bs (by omega)
  have h6 := truS_len d.keep
  unfold wordOf
  repeat' split
  all_goals omega
theorem line_small (d : Dd) (hp : d.path.length ≤ 300) (hb : d.bs.length ≤ 1500) (hk : d.keep.length ≤ 100) (ha : i64R d.a) (hf : i64R d.frm) (hn : i64R d.n) : (lineOf d).length ≤ 189999 := by
  have := join_len (nameOf d.kind :: (fieldsOf d.kind).map (wordOf d)) 36001 (fun x hx => by
    rcases List.mem_cons.1 hx with rfl | hx
    · have := nameOf_len d.kind
      omega
    · obtain ⟨f, _, rfl⟩ := List.mem_map.1 hx
      exact word_small d f hp hb hk ha hf hn)
  have h2 := fields_len d.kind
  have h3 : (nameOf d.kind :: (fieldsOf d.kind).map (wordOf d)).length * (36001 + 1) ≤ 5 * (36001 + 1) := Nat.mul_le_mul_right _ (by simp; omega)
  unfold lineOf
  omega
/-- a deed of the slice, opened -/
theorem deed_at {W : World} {A : Option Addr} {rs : List DR} (hS : RS W A rs) (i : Nat) (h : i < rs.length) :
    ∃ g o kd a p b f n kp Ab cb Ak ck, A = some ⟨g, o, none⟩ ∧ rs[i] = ⟨⟨kd, a, p, b, f, n, kp⟩, Ab, cb, Ak, ck⟩ ∧
      W.cell? ⟨g, o + i * 7, none⟩ = some (.int .i64 kd) ∧ W.cell? ⟨g, o + i * 7 + 1, none⟩ = some (.int .i64 a) ∧ W.cell? ⟨g, o + i * 7 + 2, none⟩ = some (.string ⟨p.toArray⟩) ∧ W.cell? ⟨g, o + i * 7 + 3, none⟩ = some (.slice Ab b.length cb) ∧
      W.cell? ⟨g, o + i * 7 + 4, none⟩ = some (.int .i64 f) ∧ W.cell? ⟨g, o + i * 7 + 5, none⟩ = some (.int .i64 n) ∧ W.cell? ⟨g, o + i * 7 + 6, none⟩ = some (.slice Ak kp.length ck) := by
  obtain ⟨g, o, rfl, hg, hcl⟩ := hS (by rintro rfl; simp at h)
  have hx := hcl i h
  generalize rs[i] = r at *
  obtain ⟨⟨kd, a, p, b, f, n, kp⟩, Ab, cb, Ak, ck⟩ := r
  exact ⟨g, o, kd, a, p, b, f, n, kp, Ab, cb, Ak, ck, rfl, rfl, hx 0 (by omega), hx 1 (by omega), hx 2 (by omega), hx 3 (by omega), hx 4 (by omega), hx 5 (by omega), hx 6 (by omega)⟩
set_option maxRecDepth 200000 in
set_option maxHeartbeats 8000000 in
theorem rprint_any (cf : Cf) (rs : List DR) (A : Option Addr) (c : Nat) (w : World) (hS : RS w A rs) (hok : ∀ r ∈ rs, r.ok w) (hsm : ∀ r ∈ rs, smallR r) (hl : rs.length ≤ 25) (hx : ∀ x ∈ nums cf, -9223372036854775808 ≤ x ∧ x ≤ 9223372036854775807) (hkl : cf.key.length ≤ 300) :
    Calls Tryd.prog 14 #[.agg (cfA cf), .slice A rs.length c] w fun e w' => e = .returned (printV cf rs) ∧ Below w.heap.size w w' := by
  have HTX : Hid (∀ i (h : i < rs.length) W, Below w.heap.size w W → Calls Tryd.prog 33 #[.agg (rs[i]).av] W fun e w' => e = .returned (txV (rs[i]).d) ∧ Below W.heap.size W w') := Lib.hid (fun i h W hW => by
    have ho := (hok _ (List.getElem_mem h)).below hW
    obtain ⟨s1, s2, s3⟩ := hsm _ (List.getElem_mem h)
    exact rtext_any (rs[i]).d (rs[i]).Ab (rs[i]).Ak (rs[i]).cb (rs[i]).ck W ho.bs ho.keep ho.lb (by omega) (by omega) (by omega) ho.a ho.f ho.n)
  have HLN : Hid (∀ i (h : i < rs.length), (lineOf (rs[i]).d).length ≤ 189999) := Lib.hid (fun i h => by
    have ho := hok _ (List.getElem_mem h)
    obtain ⟨s1, s2, s3⟩ := hsm _ (List.getElem_mem h)
    exact line_small _ s1 s2 s3 ho.a ho.f ho.n)
  have HRS : Hid (∀ W, Below w.heap.size w W → RS W A rs) := Lib.hid (fun W hW => RS.below hS hW)
  have HHD : ∀ W, Hid (Calls Tryd.prog 34 #[.agg (cfA cf)] W fun e w' => e = .returned (.string ⟨(headOf cf).toArray⟩) ∧ Below W.heap.size W w') := fun W => Lib.hid (rhead_any cf W hx (by omega))
  have HHL : Hid ((headOf cf).length ≤ 7999) := Lib.hid (by
    rw [headTo_end]
    have h1 := headTo_len (nums cf) 8 hx
    have h2 := hexS_len cf.key (by omega)
    simp only [List.length_append, List.length_cons, List.length_nil]
    omega)
  have HPG := Lib.hid (printV_good cf rs)
  have HPB := Lib.hid (printV_bad cf rs)
  obtain ⟨w1, hw1⟩ : ∃ w1, w.alloc (.cells (cfA cf) 40) = w1 := ⟨_, rfl⟩
  have hD : Hid (Blk w1 w.heap.size 40 (cfA cf)) := Lib.hid (by rw [← hw1]; exact Blk.new _ _ _)
  have HB1 : Hid (Below w.heap.size w w1) := Lib.hid (by rw [← hw1]; exact (Below.refl _ w).alloc (Nat.le_refl _) _)
  have Hw1 := Lib.hid hw1
  have hli : (rs.length : Int) ≤ 25 := by omega
  have HBK : Hid (∀ W, Keep [] w1 W → Below w.heap.size w W) := Lib.hid (fun W k => HB1.out.trans (k.belowB HB1.out.size (by simp)))
  clear hS hok hsm hx hw1
  obtain ⟨z0, z1, ky, z2, z3, z4, z5, z6, z7⟩ := cf
  have hkl' : (ky.length : Int) ≤ 300 := by dsimp only at hkl; omega
  clear hkl
  have HTO : Hid (∀ l, textOf ⟨z0, z1, ky, z2, z3, z4, z5, z6, z7⟩ l = (headOf ⟨z0, z1, ky, z2, z3, z4, z5, z6, z7⟩ ++ [10]) ++ bodyOf l) := Lib.hid (fun _ => rfl)
  generalize headOf ⟨z0, z1, ky, z2, z3, z4, z5, z6, z7⟩ = hd at *
  unfold cfA at *
  dsimp only at *
  go_enter Tryd.func14, Tryd.ntmps14
  go_upto_region 1 with (fail)
  rw [Hw1.out]
  go_wp2
  go_loopw [6] (fun v wr => ∃ i : Nat, v = .int .i64 i ∧ i ≤ rs.length ∧ Hid (Keep [] w1 wr) ∧ Hid (∀ j (h : j < rs.length), j < i → goodD (rs[j]).d = true)) (fun v _ => rs.length - (intOf v).toNat)
  case atStart => exact ⟨0, rfl, by omega, Lib.hid (Keep.refl _ _), Lib.hid (fun j _ h => absurd h (Nat.not_lt_zero j))⟩
  case round =>
    obtain ⟨i, rfl, hi, hk, hG⟩ := hrel
    rcases Nat.lt_or_ge i rs.length with hlt | hge
    · have hil : (i : Int) < (rs.length : Int) := by omega
      have htx := HTX.out i hlt wr (HBK.out _ hk.out)
      have hbad := HPB.out i hlt
      obtain ⟨g, o, kd, a, p, b, f, n, kp, Ab, cb, Ak, ck, rfl, hri, c0, c1, c2, c3, c4, c5, c6⟩ := deed_at (HRS.out _ (HBK.out _ hk.out)) i hlt
      have hwi : IntKind.i64.wrap ((i : Int) + 1) = (i : Int) + 1 := by rw [IntKind.wrap_i64]; omega
      have Hi1 : Hid (i + 1 ≤ rs.length ∧ i < rs.length) := Lib.hid (by omega)
      have hg1 : Hid (goodD (rs[i]).d = true → ∀ j (h : j < rs.length), j < i + 1 → goodD (rs[j]).d = true) := Lib.hid (fun hg j h hj => by
        rcases Nat.lt_succ_iff_lt_or_eq.1 hj with h' | rfl
        · exact hG.out j h h'
        · exact hg)
      rw [hri] at htx hbad hg1
      unfold DR.av DvA at htx
      dsimp only at htx hbad hg1
      generalize (⟨kd, a, p, b, f, n, kp⟩ : Dd) = dd at *
      cases hgd : goodD dd
      · rw [txV_bad _ hgd] at htx
        have HP := Lib.hid (hbad hgd)
        have Htx := Lib.hid htx
        clear htx hbad hg1 hri hgd hlt hi
        go_wp2_with (go_at_call 33; refine Htx.out.mono ?_; rintro e w3 ⟨rfl, hb3⟩)
        go_ret2
        rw [HP.out]
        exact ⟨rfl, HBK.out _ (hk.out.trans (Keep.of_below hb3))⟩
      · rw [txV_good _ hgd] at htx
        have Htx := Lib.hid htx
        have HG := Lib.hid (hg1.out hgd)
        clear htx hbad hg1 hri hgd hlt hi
        go_wp2_with (go_at_call 33; refine Htx.out.mono ?_; rintro e w3 ⟨rfl, hb3⟩)
        go_roundw
        case rel => exact ⟨i + 1, by simp, Hi1.out.1, Lib.hid (hk.out.trans (Keep.of_below hb3)), HG⟩
        case measure => have := Hi1.out; simp [intOf]; omega
    · obtain rfl : i = rs.length := by omega
      have hil : ¬ (rs.length : Int) < (rs.length : Int) := by omega
      have HGA : Hid (∀ j (h : j < rs.length), goodD (rs[j]).d = true) := Lib.hid (fun j h => hG.out j h h)
      have hDk := hD.out.keep hk.out List.not_mem_nil
      have e0 : wr.cell? ⟨w.heap.size, 0, none⟩ = some (.int .i64 z0) := hDk.cell 0
      have e1 : wr.cell? ⟨w.heap.size, 1, none⟩ = some (.int .i64 z1) := hDk.cell 1
      have e2 : wr.cell? ⟨w.heap.size, 2, none⟩ = some (.string ⟨ky.toArray⟩) := hDk.cell 2
      have e3 : wr.cell? ⟨w.heap.size, 3, none⟩ = some (.int .i64 z2) := hDk.cell 3
      have e4 : wr.cell? ⟨w.heap.size, 4, none⟩ = some (.int .i64 z3) := hDk.cell 4
      have e5 : wr.cell? ⟨w.heap.size, 5, none⟩ = some (.int .i64 z4) := hDk.cell 5
      have e6 : wr.cell? ⟨w.heap.size, 6, none⟩ = some (.int .i64 z5) := hDk.cell 6
      have e7 : wr.cell? ⟨w.heap.size, 7, none⟩ = some (.int .i64 z6) := hDk.cell 7
      have e8 : wr.cell? ⟨w.heap.size, 8, none⟩ = some (.int .i64 z7) := hDk.cell 8
      clear hDk hG hge hi
      obtain ⟨h1, hh1⟩ : ∃ h1, h1 = hd ++ [10] := ⟨_, rfl⟩
      have hh1l : h1.length ≤ 8000 := by rw [hh1]; have := HHL.out; simp; omega
      have q1 : ∀ W : World, (Op.stringOp .add ⟨hd.toArray⟩ ⟨#[10]⟩).run Tryd.prog W = .ok (.string ⟨h1.toArray⟩) W := add_lists (b := [10]) hh1 (by omega)
      have HH1 := Lib.hid hh1
      have HH1l := Lib.hid hh1l
      clear hh1 hh1l
      go_wp2_with (fail)
      refine (HHD _).out.mono ?_
      rintro e w3 ⟨rfl, hb3⟩
      have HK3 := Lib.hid (hk.out.trans (Keep.of_below hb3))
      obtain ⟨cap, w4, hcv, hF⟩ := conv_own w.heap.size h1 w3 (HBK.out _ HK3.out).size (by have := HH1l.out; omega)
      have HK4 := Lib.hid (HK3.out.trans hF.out.2)
      have HO4 := Lib.hid hF.out.1
      clear hb3 hF hk
      go_wp2
      go_loopw [9, 10] (fun v9 v10 wr => ∃ (i : Nat) (A2 : Option Addr) (c2 : Nat) (bs : List UInt8), v9 = .slice A2 bs.length c2 ∧ v10 = .int .i64 i ∧ i ≤ rs.length ∧ Hid (bs = h1 ++ bodyOf (rs.take i)) ∧ Hid (bs.length ≤ 8000 + i * 190000) ∧ Hid (OwnM w.heap.size A2 c2 bs wr) ∧ Hid (Below w.heap.size w wr)) (fun _ v10 _ => rs.length - (intOf v10).toNat)
      case atStart => exact ⟨0, _, _, h1, rfl, rfl, by omega, Lib.hid (by simp [bodyOf]), Lib.hid (by have := HH1l.out; omega), HO4, Lib.hid (HBK.out _ HK4.out)⟩
      case round =>
        obtain ⟨i, A2, c2, bs, rfl, rfl, hi, hbs, hbl, hO, hB⟩ := hrel
        have hbi : (bs.length : Int) ≤ 16777216 := by
          have h1 := hbl.out
          have h2 : i * 190000 ≤ 25 * 190000 := Nat.mul_le_mul_right _ (by omega)
          omega
        have hbn : ¬ (16777216 : Int) < (bs.length : Int) := by omega
        rcases Nat.lt_or_ge i rs.length with hlt | hge
        · have hil : (i : Int) < (rs.length : Int) := by omega
          have htx := HTX.out i hlt wr hB.out
          have hln := HLN.out i hlt
          have hbo := bodyOf_succ rs i hlt
          rw [txV_good _ (HGA.out i hlt)] at htx
          obtain ⟨g, o, kd, a, p, b, f, n, kp, Ab, cb, Ak, ck, rfl, hri, c0, c1, c2', c3, c4, c5, c6⟩ := deed_at (HRS.out _ hB.out) i hlt
          have hwi : IntKind.i64.wrap ((i : Int) + 1) = (i : Int) + 1 := by rw [IntKind.wrap_i64]; omega
          have Hi1 : Hid (i + 1 ≤ rs.length ∧ i < rs.length) := Lib.hid (by omega)
          rw [hri] at htx hln hbo
          unfold DR.av DvA at htx
          dsimp only at htx hln hbo
          generalize lineOf _ = ln at *
          obtain ⟨ln2, hl2⟩ : ∃ x, x = ln ++ [10] := ⟨_, rfl⟩
          have q2 : ∀ W : World, (Op.stringOp .add ⟨ln.toArray⟩ ⟨#[10]⟩).run Tryd.prog W = .ok (.string ⟨ln2.toArray⟩) W := add_lists (b := [10]) hl2 (by rw [hl2]; simp; omega)
          have Hl2 : Hid (ln2.length ≤ 190000) := Lib.hid (by rw [hl2]; simp; omega)
          have Hbo : Hid (bodyOf (rs.take (i + 1)) = bodyOf (rs.take i) ++ ln2) := Lib.hid (by rw [hbo, hl2])
          have Htx := Lib.hid htx
          have Hbi := Lib.hid hbi
          clear htx hln hbo hri hl2 hlt hi
          go_wp2_with (fail)
          refine Htx.out.mono ?_
          rintro e w5 ⟨rfl, hb5⟩
          obtain ⟨A7, c7, w7, hrun, hX⟩ := appM (hO.out.keep (Keep.of_below hb5)) (Nat.le_trans hB.out.size hb5.size) ln2 (by have := Hl2.out; have := Hbi.out; omega)
          have hX2 : Hid (Below w.heap.size w w7) := Lib.hid ((hB.out.trans (hb5.mono hB.out.size)).trans hX.out.2)
          clear hb5
          go_wp2_with (at_builtin; refine wpList_append2 (v1 := .slice A2 bs.length c2) (v2 := .string ⟨ln2.toArray⟩) rfl (.tmp 61) (.tmp 63) rfl rfl rfl hrun ?_)
          go_roundw
          case rel => exact ⟨i + 1, A7, c7, bs ++ ln2, by simp, by simp, Hi1.out.1, Lib.hid (by rw [Hbo.out, hbs.out, List.append_assoc]), Lib.hid (by have := hbl.out; have := Hl2.out; rw [List.length_append, Nat.add_mul]; omega), Lib.hid hX.out.1, hX2⟩
          case measure => have := Hi1.out; simp [intOf]; omega
        · obtain rfl : i = rs.length := by omega
          have hcb := rd_back A2 c2 bs wr hO.out.rd
          have HP : Hid (printV ⟨z0, z1, ky, z2, z3, z4, z5, z6, z7⟩ rs = .tuple #[.string ⟨bs.toArray⟩, .int .i64 0]) := Lib.hid (by
            rw [HPG.out HGA.out, HTO.out, ← HH1.out, hbs.out, List.take_length])
          clear hge hi
          go_wp2
          go_ret2
          rw [HP.out]
          exact ⟨rfl, hB.out⟩
end Go.Proofs.YtopfbbnpbobhaaaDoor
