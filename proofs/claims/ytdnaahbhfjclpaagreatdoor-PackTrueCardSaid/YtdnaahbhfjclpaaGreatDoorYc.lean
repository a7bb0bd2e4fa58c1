/- Spoilt blocks: on lists. -/
import Derived.Test.YtdnaahbhfjclpaaGreatDoorW3
import Derived.Test.YtdnaahbhfjclpaaGreatDoorU9
import Derived.Test.YtdnaahbhfjclpaaGreatDoorW4
import Derived.Stop.BytesEq
import Derived.Test.YtdnaahbhfjclpaaGreatDoorWz
set_option linter.unusedVariables false
set_option linter.unusedSimpArgs false
namespace Go.Cod
theorem headP_sub {b r : List Nat} {n : Nat} {p : Bool} (h : headP b = some (n, p, r)) : n ≤ 65536 ∧ ∀ x ∈ r, x ∈ b := by
  cases b with
  | nil => cases h
  | cons x b1 =>
    unfold headP at h
    simp only at h
    by_cases hx : x ≤ 1
    · rw [if_pos hx] at h
      cases hr : rdV 0 b1 with
      | none => rw [hr] at h; cases h
      | some q =>
        obtain ⟨m, u⟩ := q
        rw [hr] at h
        simp only at h
        by_cases hm : m ≤ 65536
        · rw [if_pos hm] at h
          simp only [Option.some.injEq, Prod.mk.injEq] at h
          obtain ⟨rfl, _, rfl⟩ := h
          exact ⟨hm, fun y hy => List.mem_cons_of_mem _ (List.mem_of_mem_drop hy)⟩
        · rw [if_neg hm] at h; cases h
    · rw [if_neg hx] at h; cases h
theorem decP_ok {b q : List Nat} (hb : ∀ x ∈ b, x < 256) (h : decP b = some q) : (∀ x ∈ q, x < 256) ∧ q.length ≤ 65536 := by
  unfold decP at h
  cases hh : headP b with
  | none => rw [hh] at h; cases h
  | some t =>
    obtain ⟨n, p, r⟩ := t
    obtain ⟨hn, hsub⟩ := headP_sub hh
    rw [hh] at h
    simp only at h
    split at h
    · split at h
      · cases hy : Cod.bytP (unpT r) with
        | none => rw [hy] at h; cases h
        | some q2 =>
          rw [hy] at h
          simp only at h
          split at h
          · rename_i hl
            obtain rfl := Option.some.inj h
            exact ⟨(bytF_lt (unpT r) [] q2 (unpT_lit r) (by simp) (by simp) hy).1, by omega⟩
          · cases h
      · cases h
    · split at h
      · rename_i hl
        obtain rfl := Option.some.inj h
        exact ⟨fun x hx => hb x (hsub x hx), by omega⟩
      · cases h
theorem dec_lt {b : List Nat} (hb : ∀ x ∈ b, x < 256) : ∀ x ∈ decT b, x < 256 := by
  cases h : decP b with
  | none => rw [(dec_no h).1]; intro x hx; cases hx
  | some q => rw [(dec_yes h).1]; exact (decP_ok hb h).1
theorem dec_le {b : List Nat} (hb : ∀ x ∈ b, x < 256) : (decT b).length ≤ 65536 := by
  cases h : decP b with
  | none => rw [(dec_no h).1]; simp
  | some q => rw [(dec_yes h).1]; exact (decP_ok hb h).2
end Go.Cod
namespace Go.Pck
open Go.Cod
def codeB (b : List Nat) : List Nat := (b.drop 44).take (hdCode b)
def restB (b : List Nat) : List Nat := ((b.drop 44).drop (hdCode b)).take (blksP (hdCode b) * 512 - 44 - hdCode b)
def crcOk (b : List Nat) : Bool := numP 2 ((b.drop 40).take 4) == crcL 0 [hdB (hdRaw b) (hdCode b) (hdDig b), codeB b]
def zerosB (l : List Nat) : Bool := l.all (· == 0)
theorem zerosB_iff (l : List Nat) : zerosB l = true ↔ allZ l := by simp [zerosB, allZ]
def rdP (b : List Nat) : List Nat × Nat × Int :=
  if hdOk b = true then
    if b.length / 512 < blksP (hdCode b) then ([], 0, 11) else
    if crcOk b = true then
      if zerosB (restB b) = true then
        if decC (codeB b) = 0 ∧ (decT (codeB b)).length = hdRaw b then
          if (shaP (decT (codeB b)) == hdDig b) = true then (decT (codeB b), blksP (hdCode b), 0) else ([], 0, 112)
        else ([], 0, 113)
      else ([], 0, 110)
    else ([], 0, 111)
  else ([], 0, 110)
end Go.Pck
namespace Go.Proofs.YtdnaahbhfjclpaaGreatDoor
open Go.RowKit Go.Sal Go.Pck Go.Huf Go.Cod
def RowB3 (w : World) (l : List Nat) (n : Nat) (E : Int) (e : Ending) (w' : World) : Prop := ∃ A c, e = .returned (.tuple #[.slice A l.length c, .int .i64 (n : Nat), .int .i64 E]) ∧ w'.ownsRow w.heap.size 5 1 (.slice A l.length c) l.length (inB l) ∧ Keep [] w w'
theorem RowB3.no {w w' : World} {n : Nat} {E : Int} {e : Ending} {b : List Nat} (h : rdP b = ([], n, E)) (he : e = .returned (.tuple #[.slice none 0 0, .int .i64 (n : Nat), .int .i64 E])) (k : Keep [] w w') : RowB3 w (rdP b).1 (rdP b).2.1 (rdP b).2.2 e w' := by
  rw [h]
  exact ⟨none, 0, he, World.ownsRow_nil _ _ _ _, k⟩
theorem inB_cell' (l : List Nat) (h : ∀ x ∈ l, x < 256) : inB l = (l.map UInt8.ofNat).map Extern.Stop.cell := by
  unfold inB
  rw [List.map_map]
  apply List.map_congr_left
  intro x hx
  have := h x hx
  simp only [Function.comp, Extern.Stop.cell, UInt8.toNat_ofNat']
  rw [Nat.mod_eq_of_lt this]
  rfl
theorem eq_dig {x y : List Nat} (hx : x.length = 32) (hy : y.length = 32) (hx2 : ∀ z ∈ x, z < 256) (hy2 : ∀ z ∈ y, z < 256) (W : World) :
    (Op.equalIn 10000 44 (.agg (inB x).toArray) (.agg (inB y).toArray)).run Tryz.prog W = .ok (x == y) W := by
  rw [inB_cell' x hx2, inB_cell' y hy2, run_equalIn_bytes W 9998 44 5 32 Tryz.underlying44 Tryz.underlying5 Tryz.sizeOf5 _ _ (by simp [hx]) (by simp [hy])]
  have back : ∀ l : List Nat, (∀ x ∈ l, x < 256) → (l.map UInt8.ofNat).map UInt8.toNat = l := fun l hl => by
    rw [List.map_map]
    conv => rhs; rw [← List.map_id l]
    apply List.map_congr_left
    intro x hx
    have := hl x hx
    simp
    omega
  have e : (x.map UInt8.ofNat == y.map UInt8.ofNat) = (x == y) := by
    by_cases h : x = y
    · subst h; simp
    · have h2 : ¬ (x.map UInt8.ofNat = y.map UInt8.ofNat) := fun e => h (by rw [← back x hx2, ← back y hy2, e])
      rw [show (x == y) = false by simpa using h]
      simpa using h2
  rw [e]
set_option maxRecDepth 20000 in
set_option maxHeartbeats 1000000 in
theorem pread_any (b : List Nat) (AB : Option Addr) (cB : Nat) (w : World) (hs : BySrc w AB b) (hc : b.length ≤ cB) (hA : ∀ a, AB = some a → a.block < w.heap.size) (hl : b.length ≤ 2400) :
    Calls Tryz.prog 10 #[.slice AB b.length cB] w fun e w' => RowB3 w (rdP b).1 (rdP b).2.1 (rdP b).2.2 e w' := by
  have z2 := zero58
  have hZC : ((headC 0 0 (List.replicate 32 0)).toArray).size = 34 := rfl
  generalize (headC 0 0 (List.replicate 32 0)).toArray = ZC at *
  obtain ⟨g, hg⟩ : ∃ g, g = w.heap.size := ⟨_, rfl⟩
  obtain ⟨w1, hw1⟩ : ∃ w1, w.alloc (.cells #[.slice AB b.length cB] 56) = w1 := ⟨_, rfl⟩
  have k1 : Keep [] w w1 := by rw [← hw1]; exact (Keep.refl _ w).alloc _
  have hg1 : Blk w1 g 56 #[.slice AB b.length cB] := by rw [← hw1, hg]; exact Blk.new w 56 _
  have hL : LfS w1 g g b := ⟨AB, cB, hg1, hs.keep k1 (fun a _ => by simp), fun a ha => by have := hA a ha; omega, hc⟩
  have HR := Lib.hid (rhead_any g g b w1 (by rw [hg]; exact k1.size) hL (by omega))
  have HH := Lib.hid (And.intro hg (And.intro k1 hs.2))
  have hg1l := hg1.lt
  have Hw1 := Lib.hid hw1
  have Hl := Lib.hid hl
  clear hw1 k1 hg1 hL hs hc hA hl hg
  go_enter Tryz.func10, Tryz.ntmps10
  go_upto_region 2 with (fail)
  rw [Hw1.out, ← HH.out.1]
  refine wp_region_lit ?_
  iterate 1 (refine wpList_plain rfl (fun K hK => ?_); go_simp; refine hK _ _ ?_; clear hK K)
  refine wpList_plain rfl (fun K hK => ?_)
  go_simp
  go_at_call 23
  refine HR.out.mono ?_
  rintro e w2 ⟨r, k, d, rfl, hd1, hd2, hok, hk2⟩
  have HO := Lib.hid (And.intro hd1 (And.intro hd2 (And.intro hok hk2)))
  refine hK _ _ ?_
  clear hK K hd1 hd2 hok hk2 HR
  obtain ⟨CL, hCL⟩ : ∃ CL, CL = headC r k d := ⟨_, rfl⟩
  rw [← hCL]
  have hC34 : CL.toArray.size = 34 := by rw [List.size_toArray, hCL, headC_len HO.out.1]
  have hoC : CL.toArray.all (·.oneCell') = true := by rw [hCL]; exact all_oneCell_toArray (headC_one _ _ _)
  have HCL := Lib.hid hCL
  clear hCL
  iterate 4 (refine wpList_plain rfl (fun K hK => ?_); go_simp; refine hK _ _ ?_; clear hK K)
  refine wpList_store_rowTo rfl 58 (.tmp 6) (.tmp 21) rfl rfl w2.heap.size CL.toArray rfl rfl 58 ZC (heap_alloc_last w2 _) (by rw [hC34]; exact size58) (by rw [hC34]; exact hZC) hoC ?_
  rw [World.setRow_alloc_new]
  obtain ⟨h, hh⟩ : ∃ h, h = w2.heap.size := ⟨_, rfl⟩
  obtain ⟨w3, hw3⟩ : ∃ w3, w2.alloc (.cells CL.toArray 58) = w3 := ⟨_, rfl⟩
  rw [hw3, ← hh]
  have H3 : Hid (Keep [] w2 w3 ∧ Keep [] w w3 ∧ Blk w3 h 58 CL.toArray ∧ g < h) := Lib.hid (by
    have k3 : Keep [] w2 w3 := by rw [← hw3]; exact (Keep.refl _ w2).alloc _
    have kw2 : Keep [] w w2 := HH.out.2.1.step HO.out.2.2.2 (fun i hi => by have := HH.out.1; simp at hi; omega)
    exact ⟨k3, kw2.trans k3, by rw [← hw3, hh]; exact Blk.new w2 58 _, by rw [hh]; exact Nat.lt_of_lt_of_le hg1l HO.out.2.2.2.size⟩)
  clear hw3 hh
  cases hokb : hdOk b with
  | false =>
    have HV : Hid (rdP b = ([], 0, 110)) := Lib.hid (by unfold rdP; rw [hokb]; rfl)
    clear HO HH hokb
    go_wp2
    go_ret3
    exact RowB3.no HV.out rfl H3.out.2.1
  | true =>
    obtain ⟨e1, e2, e3, hL40⟩ := HO.out.2.2.1 hokb
    have hrk : r < 65536 ∧ k < 65536 := by
      rw [e1, e2]
      exact ⟨numP_bd (fun x hx => HH.out.2.2 x (List.mem_of_mem_drop (List.mem_of_mem_take hx))) 2 (by rw [List.length_take]; omega) 2, numP_bd (fun x hx => HH.out.2.2 x (List.mem_of_mem_drop (List.mem_of_mem_take hx))) 2 (by rw [List.length_take]; omega) 2⟩
    have HL3 := Lib.hid (hL40.keep0 H3.out.1)
    have hb4 := H3.out.2.2.1
    have HBl : Hid (Calls Tryz.prog 24 #[.agg CL.toArray] w3 fun e w' => e = .returned (.int .i64 (blksP k : Nat)) ∧ Keep [] w3 w') := Lib.hid (by rw [HCL.out]; exact blocks_any r k d w3 (by omega))
    have Hrk := Lib.hid (And.intro hrk (And.intro e1 (And.intro e2 (And.intro e3 hokb))))
    have hk5 : k < 65536 := hrk.2
    clear e1 e2 e3 hL40 hrk
    obtain ⟨n, hn⟩ : ∃ n, n = blksP k := ⟨_, rfl⟩
    rw [← hn] at HBl
    have hn2 : 44 + k ≤ n * 512 ∧ n ≤ 200 := by rw [hn]; unfold blksP; omega
    have Hn := Lib.hid hn
    clear hn
    go_upto_region 5 with (fail)
    refine wp_region_lit ?_
    refine wpList_load_row rfl 58 (.tmp 6) rfl h rfl 58 CL.toArray (0, 0) _ hb4 Tryz.underlying58 rfl (by rw [hC34]; exact size58) ?_
    refine wpList_plain rfl (fun K hK => ?_)
    go_simp
    go_at_call 24
    refine HBl.out.mono ?_
    rintro e w4 ⟨rfl, hk4⟩
    have H4 : Hid (Keep [] w w4 ∧ LfS w4 g g (b.drop 40) ∧ Blk w4 h 58 CL.toArray) := Lib.hid ⟨H3.out.2.1.trans hk4, HL3.out.keep0 hk4, H3.out.2.2.1.keep hk4 (by simp)⟩
    refine hK _ _ ?_
    clear hK K hk4 HBl HL3 hb4
    have hwq : IntKind.i64.wrap ((b.length : Int) / 512) = (b.length : Int) / 512 := by have := Hl.out; rw [IntKind.wrap_i64]; omega
    rcases Nat.lt_or_ge (b.length / 512) n with hlt | hge
    · have HV : Hid (rdP b = ([], 0, 11)) := Lib.hid (by
        unfold rdP
        rw [if_pos Hrk.out.2.2.2.2, if_pos (by rw [← Hrk.out.2.2.1, ← Hn.out]; exact hlt)])
      have hlti : (b.length : Int) / 512 < n := by omega
      have hltt : (b.length : Int).tdiv 512 < n := by rw [Int.tdiv_eq_ediv_of_nonneg (by omega)]; omega
      clear hn2
      go_wp2
      go_ret3
      exact RowB3.no HV.out rfl H4.out.1
    have hgei : ¬ (b.length : Int) / 512 < n := by omega
    have hget : ¬ (b.length : Int).tdiv 512 < n := by rw [Int.tdiv_eq_ediv_of_nonneg (by omega)]; omega
    have hgen : ¬ b.length / 512 < n := by omega
    have hblen : n * 512 ≤ b.length := by omega
    clear hget hge
    have hbl := Hl.out
    have HNm : Hid (Calls Tryz.prog 25 #[.pointer (some ⟨g, 0, none⟩), .int .i64 32] w4 fun e w' => e = .returned (.int .i64 (numP 2 ((b.drop 40).take 4) : Nat)) ∧ LfS w' g g ((b.drop 40).drop 4) ∧ Keep [g] w4 w') :=
      Lib.hid (lnumber_any 4 g g (b.drop 40) w4 H4.out.2.1 (.inr rfl) (by rw [List.length_drop]; omega))
    go_upto_region 9 with (go_at_call 25; refine HNm.out.mono ?_; rintro e w5 ⟨rfl, hL5, hk5'⟩; have H5' := Lib.hid (And.intro hL5 hk5'); clear hL5 hk5')
    have e44 : (b.drop 40).drop 4 = b.drop 44 := by rw [List.drop_drop]
    have H5 : Hid (LfS w5 g g (b.drop 44) ∧ Keep [] w w5 ∧ Blk w5 h 58 CL.toArray) := Lib.hid (by
      have hgh := H3.out.2.2.2
      refine ⟨by rw [← e44]; exact H5'.out.1, H4.out.1.step H5'.out.2 (fun i hi => by have := HH.out.1; simp at hi; omega), H4.out.2.2.keep H5'.out.2 (by simp; omega)⟩)
    have hsum : numP 2 ((b.drop 40).take 4) < 4294967296 := by
      have h1 := numP_lt 2 (l := (b.drop 40).take 4) (fun x hx => HH.out.2.2 x (List.mem_of_mem_drop (List.mem_of_mem_take hx)))
      have h2 : 2 ^ (8 * ((b.drop 40).take 4).length) ≤ 2 ^ 32 := Nat.pow_le_pow_right (by omega) (by rw [List.length_take]; omega)
      omega
    have HT6 : Hid (Calls Tryz.prog 26 #[.pointer (some ⟨g, 0, none⟩), .int .i64 (k : Nat)] w5.drew fun e w' => ∃ A, e = .returned (.slice A k k) ∧ BySrc w' A (codeB b) ∧ (∀ a, A = some a → a.block ≠ g ∧ a.block < g) ∧ LfS w' g g ((b.drop 44).drop k) ∧ Keep [g] w5.drew w') := Lib.hid (by
      have := ltake_any k g g (b.drop 44) w5.drew (H5.out.1.keep0 (Keep.refl [] w5).drew) (by rw [List.length_drop]; omega)
      have e : codeB b = (b.drop 44).take k := by unfold codeB; rw [← Hrk.out.2.2.1]
      rw [e]; exact this)
    have c41 : w5.drew.cell? ⟨h, 1, none⟩ = some (.int .i64 (k : Int)) := by
      have := H5.out.2.2.drew
      rw [HCL.out] at this
      exact head_cell1 this
    clear HNm H4 H5' e44
    refine wp_region_still_tail 5 (by kernel_rfl) (by kernel_rfl) ?_
    simp only [List.take_succ_cons, List.take_zero, List.drop_succ_cons, List.drop_zero]
    change wpStill _ _ w5.drew _ _ _
    obtain ⟨w5d, hw5d⟩ : ∃ W, w5.drew = W := ⟨_, rfl⟩
    have hg5d : g < w5d.heap.size ∧ h < w5d.heap.size := by
      have h1 := H5.out.2.2.drew.lt
      rw [hw5d] at h1
      have := H3.out.2.2.2
      exact ⟨by omega, h1⟩
    have hgw := hg5d.1
    have hhw := hg5d.2
    have Hd := Lib.hid hw5d
    rw [hw5d] at c41 HT6
    clear hw5d hg5d
    rw [Hd.out]
    iterate 5 still_step
    refine wpStill_nil ?_
    change wpList _ _ _ _ _ w5.drew
    rw [Hd.out]
    go_upto_region 10 with (go_at_call 26; refine HT6.out.mono ?_; rintro e w6 ⟨A6, rfl, hs6, hn6, hL6, hk6⟩; have H6' := Lib.hid (And.intro hs6 (And.intro hn6 (And.intro hL6 hk6))); clear hs6 hn6 hL6 hk6)
    have hcl : (codeB b).length = k := by unfold codeB; rw [← Hrk.out.2.2.1, List.length_take, List.length_drop]; omega
    have H6 : Hid (BySrc w6 A6 (codeB b) ∧ (∀ a, A6 = some a → a.block < g) ∧ LfS w6 g g ((b.drop 44).drop k) ∧ Keep [] w w6 ∧ Blk w6 h 58 CL.toArray) := Lib.hid (by
      obtain ⟨q1, q2, q3, q4⟩ := H6'.out
      rw [← Hd.out] at q4
      have hgh := H3.out.2.2.2
      exact ⟨q1, fun a ha => (q2 a ha).2, q3, (H5.out.2.1.drew).step q4 (fun i hi => by have := HH.out.1; simp at hi; omega), (H5.out.2.2.drew).keep q4 (by simp; omega)⟩)
    have hwsu : IntKind.u32.wrap ((numP 2 ((b.drop 40).take 4) : Nat) : Int) = ((numP 2 ((b.drop 40).take 4) : Nat) : Int) := by rw [IntKind.wrap_u32]; omega
    have hb6 := H6.out.2.2.2.2
    have HB : Hid (Calls Tryz.prog 28 #[.agg CL.toArray] w6 fun e w' => RowB w6 (hdB r k d) e w') := Lib.hid (by rw [HCL.out]; exact hbytes_any r k d w6 Hrk.out.1.1 Hrk.out.1.2 HO.out.1 HO.out.2.1)
    have hl40 := hdB_len (r := r) (k := k) HO.out.1
    clear HT6 H5 H6' hgw hhw c41
    refine wp_region_lit ?_
    iterate 2 (refine wpList_plain rfl (fun K hK => ?_); go_simp; refine hK _ _ ?_; clear hK K)
    refine wpList_load_row rfl 58 (.tmp 6) rfl h rfl 58 CL.toArray (0, 0) _ hb6 Tryz.underlying58 rfl (by rw [hC34]; exact size58) ?_
    refine wpList_plain rfl (fun K hK => ?_)
    go_simp
    go_at_call 28
    refine HB.out.mono ?_
    rintro e w7 hq
    obtain ⟨A7, c7, rfl, ho7⟩ := rowB_own hq
    have H7 := Lib.hid ho7
    refine hK _ _ ?_
    clear hK K hq ho7 HB hb6
    rw [hl40]
    obtain ⟨w8, hw8⟩ : ∃ w8, w7.alloc (.cells #[.slice A7 40 c7, .slice A6 k k] 22) = w8 := ⟨_, rfl⟩
    iterate 2 (refine wpList_plain rfl (fun K hK => ?_); go_simp; refine hK _ _ ?_; clear hK K)
    obtain ⟨g8, hg8⟩ : ∃ g8, g8 = w7.heap.size := ⟨_, rfl⟩
    have H8 : Hid (Keep [] w6 w8 ∧ OwB w6 A7 c7 (hdB r k d) w8 ∧ Blk w8 g8 22 #[.slice A7 (hdB r k d).length c7, .slice A6 (codeB b).length k]) := Lib.hid (by
      have k8 : Keep [] w7 w8 := by rw [← hw8]; exact (Keep.refl _ w7).alloc _
      refine ⟨H7.out.2.trans k8, H7.out.keep k8, ?_⟩
      rw [hl40, hcl, ← hw8, hg8]
      exact Blk.new w7 22 _)
    have HOf : Hid (Calls Tryz.prog 27 #[.slice (some ⟨g8, 0, none⟩) 2 2] w8 fun e w' => e = .returned (.int .u32 (crcL 0 [hdB r k d, codeB b] : Nat)) ∧ w' = w8) := Lib.hid (by
      obtain ⟨q1, q2, q4⟩ := H8.out
      exact of_any [(A7, hdB r k d, c7), (A6, codeB b, k)] g8 2 2 w8 rfl (by omega) (rows2 q4 (q2.src (hdB_lt HO.out.2.1)) (H6.out.1.keep q1 (fun a _ => by simp)) (by rw [hl40]; omega) (by rw [hcl]; omega)) q4.lt)
    rw [← hg8]
    clear hw8 hg8 H7
    have hcrc : crcOk b = (numP 2 ((b.drop 40).take 4) == crcL 0 [hdB r k d, codeB b]) := by unfold crcOk; rw [← Hrk.out.2.1, ← Hrk.out.2.2.1, ← Hrk.out.2.2.2.1]
    generalize numP 2 ((b.drop 40).take 4) = sm at *
    generalize crcL 0 [hdB r k d, codeB b] = cr at *
    have HV0 : Hid (rdP b = if crcOk b = true then
      if zerosB (restB b) = true then
        if decC (codeB b) = 0 ∧ (decT (codeB b)).length = hdRaw b then
          if (shaP (decT (codeB b)) == hdDig b) = true then (decT (codeB b), blksP (hdCode b), 0) else ([], 0, 112)
        else ([], 0, 113)
      else ([], 0, 110)
    else ([], 0, 111)) := Lib.hid (by
      unfold rdP
      rw [if_pos Hrk.out.2.2.2.2, if_neg (by rw [← Hrk.out.2.2.1, ← Hn.out]; exact hgen)])
    by_cases hcc : sm = cr
    · have hcci : ((sm : Int) = (cr : Int)) := by omega
      have HV1 : Hid (rdP b = if zerosB (restB b) = true then
        if decC (codeB b) = 0 ∧ (decT (codeB b)).length = hdRaw b then
          if (shaP (decT (codeB b)) == hdDig b) = true then (decT (codeB b), blksP (hdCode b), 0) else ([], 0, 112)
        else ([], 0, 113)
      else ([], 0, 110)) := Lib.hid (by
        rw [HV0.out, if_pos]
        rw [hcrc]
        simpa using hcc)
      clear hcrc HV0
      subst hcc
      obtain ⟨m1, hm1⟩ : ∃ m, m = n * 512 := ⟨_, rfl⟩
      obtain ⟨m2, hm2⟩ : ∃ m, m = m1 - 44 := ⟨_, rfl⟩
      obtain ⟨m3, hm3⟩ : ∃ m, m = m2 - k := ⟨_, rfl⟩
      have e1 : IntKind.i64.wrap ((n : Int) * 512) = (m1 : Int) := by rw [IntKind.wrap_i64]; omega
      have e2 : IntKind.i64.wrap ((m1 : Int) - 44) = (m2 : Int) := by rw [IntKind.wrap_i64]; omega
      have e3 : IntKind.i64.wrap ((m2 : Int) - (k : Int)) = (m3 : Int) := by rw [IntKind.wrap_i64]; omega
      have hrl : m3 ≤ ((b.drop 44).drop k).length := by rw [List.length_drop, List.length_drop]; omega
      have hrest : restB b = ((b.drop 44).drop k).take m3 := by
        unfold restB
        rw [← Hrk.out.2.2.1, ← Hn.out, hm3, hm2, hm1]
      have hrl2 : (restB b).length = m3 := by rw [hrest, List.length_take]; omega
      have H8b : Hid (BySrc w8 A6 (codeB b) ∧ LfS w8 g g ((b.drop 44).drop k) ∧ Keep [] w w8 ∧ Blk w8 h 58 CL.toArray) := Lib.hid ⟨H6.out.1.keep H8.out.1 (fun a _ => by simp), H6.out.2.2.1.keep0 H8.out.1, H6.out.2.2.2.1.trans H8.out.1, H6.out.2.2.2.2.keep H8.out.1 (by simp)⟩
      have HA6 := Lib.hid H6.out.2.1
      have HT9 : Hid (Calls Tryz.prog 26 #[.pointer (some ⟨g, 0, none⟩), .int .i64 (m3 : Nat)] w8.drew fun e w' => ∃ A, e = .returned (.slice A m3 m3) ∧ BySrc w' A (restB b) ∧ (∀ a, A = some a → a.block ≠ g ∧ a.block < g) ∧ LfS w' g g (((b.drop 44).drop k).drop m3) ∧ Keep [g] w8.drew w') := Lib.hid (by
        have := ltake_any m3 g g ((b.drop 44).drop k) w8.drew (H8b.out.2.1.keep0 (Keep.refl [] w8).drew) hrl
        rw [hrest]; exact this)
      have c81 : w8.drew.cell? ⟨h, 1, none⟩ = some (.int .i64 (k : Int)) := by
        have := H8b.out.2.2.2.drew
        rw [HCL.out] at this
        exact head_cell1 this
      have hm3b : m3 ≤ 2400 := by omega
      have Hm := Lib.hid (And.intro hm1 (And.intro hm2 hm3))
      have hgl8 : g < w8.heap.size ∧ h < w8.heap.size := by
        have h1 := H8b.out.2.2.2.lt
        have := H3.out.2.2.2
        exact ⟨by omega, h1⟩
      clear H6 H8 hm1 hm2 hm3 hrl hrest
      go_upto_region 12 with (go_at_call 27; refine HOf.out.mono ?_; rintro e w8' ⟨rfl, hww⟩; subst hww)
      refine wp_region_still_tail 9 (by kernel_rfl) (by kernel_rfl) ?_
      simp only [List.take_succ_cons, List.take_zero, List.drop_succ_cons, List.drop_zero]
      change wpStill _ _ w8'.drew _ _ _
      obtain ⟨w8d, hw8d⟩ : ∃ W, w8'.drew = W := ⟨_, rfl⟩
      have hgw : g < w8d.heap.size := by rw [← hw8d]; exact hgl8.1
      have hhw : h < w8d.heap.size := by rw [← hw8d]; exact hgl8.2
      have Hd8 := Lib.hid hw8d
      rw [hw8d] at c81 HT9
      clear hw8d hgl8 HOf
      rw [Hd8.out]
      iterate 9 still_step
      refine wpStill_nil ?_
      change wpList _ _ _ _ _ w8'.drew
      rw [Hd8.out]
      go_upto_region 13 with (go_at_call 26; refine HT9.out.mono ?_; rintro e w9 ⟨A9, rfl, hs9, hn9, -, hk9⟩; have H9' := Lib.hid (And.intro hs9 hk9); clear hs9 hn9 hk9)
      have H9 : Hid (BySrc w9 A6 (codeB b) ∧ Keep [] w w9 ∧ Blk w9 h 58 CL.toArray) := Lib.hid (by
        obtain ⟨q1, q4⟩ := H9'.out
        rw [← Hd8.out] at q4
        have hgh := H3.out.2.2.2
        exact ⟨(H8b.out.1.keep (Keep.refl [] _).drew (fun a _ => by simp)).keep q4 (fun a ha => by have := HA6.out a ha; simp; omega), (H8b.out.2.2.1.drew).step q4 (fun i hi => by have := HH.out.1; simp at hi; omega), (H8b.out.2.2.2.drew).keep q4 (by simp; omega)⟩)
      have HTr : Hid (Calls Tryz.prog 29 #[.slice A9 m3 m3, .string ⟨#[0]⟩] w9 fun e w' => TrL w9 (restB b) e w') := Lib.hid (by
        have := trim_any (restB b) A9 m3 w9 H9'.out.1 (by omega) (by omega)
        rw [hrl2] at this
        exact this)
      clear HT9 H9' H8b c81 hgw hhw
      cases hzz : zerosB (restB b) with
      | false =>
        have HV : Hid (rdP b = ([], 0, 110)) := Lib.hid (by rw [HV1.out, hzz]; rfl)
        have HNZ : Hid (¬ allZ (restB b)) := Lib.hid (fun h => by rw [← zerosB_iff, hzz] at h; cases h)
        clear HV1 hzz
        go_upto_region 14 with (go_at_call 29; refine HTr.out.mono ?_; rintro e w10 ⟨A10, mm, c10, rfl, hk10, hmm⟩; have hmp : (0 : Int) < (mm : Int) := (by have h0 : mm ≠ 0 := fun e => HNZ.out (hmm.1 e); omega); have H10 := Lib.hid (H9.out.2.1.trans hk10); clear hk10 hmm)
        go_wp2
        go_ret3
        exact RowB3.no HV.out rfl H10.out
      | true =>
        have HV2 : Hid (rdP b = if decC (codeB b) = 0 ∧ (decT (codeB b)).length = hdRaw b then
          if (shaP (decT (codeB b)) == hdDig b) = true then (decT (codeB b), blksP (hdCode b), 0) else ([], 0, 112)
          else ([], 0, 113)) := Lib.hid (by rw [HV1.out, hzz]; rfl)
        have HNZ : Hid (allZ (restB b)) := Lib.hid ((zerosB_iff _).1 hzz)
        clear HV1 hzz
        go_upto_region 15 with (go_at_call 29; refine HTr.out.mono ?_; rintro e w10 ⟨A10, mm, c10, rfl, hk10, hmm⟩; have hmp : mm = 0 := hmm.2 HNZ.out; have H10 : Hid (BySrc w10 A6 (codeB b) ∧ Keep [] w w10 ∧ Blk w10 h 58 CL.toArray) := Lib.hid ⟨H9.out.1.keep hk10 (fun a _ => by simp), H9.out.2.1.trans hk10, H9.out.2.2.keep hk10 (by simp)⟩; subst hmp; clear hk10 hmm)
        have HDc : Hid (Calls Tryz.prog 30 #[.slice A6 k k] w10 fun e w' => RowBE w10 (decT (codeB b)) (decC (codeB b)) e w') := Lib.hid (by
          have := decode_any (codeB b) A6 k w10 H10.out.1 (by omega) (fun a ha => by have := HA6.out a ha; have := H10.out.2.2.lt; have := H3.out.2.2.2; omega) (by omega)
          rw [hcl] at this
          exact this)
        have hTlt : ∀ x ∈ decT (codeB b), x < 256 := dec_lt H10.out.1.2
        have hTl : (decT (codeB b)).length ≤ 65536 := dec_le H10.out.1.2
        have hcode : decC (codeB b) = 0 ∨ decC (codeB b) = 70 := by
          unfold decC
          split
          · exact .inl rfl
          · exact .inr rfl
        have HHd : Hid (hdRaw b = r ∧ hdDig b = d ∧ blksP (hdCode b) = n) := Lib.hid ⟨Hrk.out.2.1.symm, Hrk.out.2.2.2.1.symm, by rw [← Hrk.out.2.2.1, ← Hn.out]⟩
        generalize decT (codeB b) = T at *
        generalize decC (codeB b) = E at *
        have c100 : ∀ w', Keep [] w10 w' → w'.cell? ⟨h, 0, none⟩ = some (.int .i64 (r : Int)) := fun w' kk => by
          have h1 := H10.out.2.2.keep kk (by simp)
          rw [HCL.out] at h1
          exact head_cell0 h1
        have hh10 := H10.out.2.2.lt
        go_upto_region 16 with (go_at_call 30; refine HDc.out.mono ?_; rintro e w11 ⟨A11, c11, rfl, ho11, hk11⟩; have H11' := Lib.hid (And.intro ho11 hk11); clear ho11 hk11)
        have H11 : Hid (OwB w10 A11 c11 T w11 ∧ Keep [] w w11 ∧ Blk w11 h 58 CL.toArray) := Lib.hid ⟨⟨H11'.out.1, H11'.out.2⟩, H10.out.2.1.trans H11'.out.2, H10.out.2.2.keep H11'.out.2 (by simp)⟩
        have c110 := c100 w11 H11'.out.2
        have hh11 : h < w11.heap.size := Nat.lt_of_lt_of_le hh10 H11'.out.2.size
        clear HDc H11' c100 hh10
        rcases hcode with hE | hE
        · subst hE
          have hEi : ¬ ((0 : Int) ≠ 0) := by omega
          rcases Nat.lt_trichotomy T.length r with hlr | hlr | hlr
          · have HV : Hid (rdP b = ([], 0, 113)) := Lib.hid (by rw [HV2.out, if_neg (by rw [HHd.out.1]; omega)])
            have hne : ¬ ((T.length : Int) = (r : Int)) := by omega
            clear HV2
            go_wp2
            go_ret3
            exact RowB3.no HV.out rfl H11.out.2.1
          · have HV3 : Hid (rdP b = if (shaP T == d) = true then (T, n, 0) else ([], 0, 112)) := Lib.hid (by rw [HV2.out, if_pos (by rw [HHd.out.1]; exact ⟨rfl, hlr⟩), HHd.out.2.1, HHd.out.2.2])
            have heq : ((T.length : Int) = (r : Int)) := by omega
            have HS : Hid (Calls Tryz.prog 21 #[.slice (some ⟨w11.heap.size, 0, none⟩) 1 1] ((w11.drew).alloc (.cells #[.slice A11 T.length c11] 22)) fun e w' => e = .returned (.agg (inB (shaP T)).toArray) ∧ Keep [] ((w11.drew).alloc (.cells #[.slice A11 T.length c11] 22)) w') := Lib.hid (by
              have kk : Keep [] w11 ((w11.drew).alloc (.cells #[.slice A11 T.length c11] 22)) := ((Keep.refl [] w11).drew).alloc _
              have hb : Blk ((w11.drew).alloc (.cells #[.slice A11 T.length c11] 22)) w11.heap.size 22 #[.slice A11 T.length c11] := Blk.new w11.drew 22 _
              have h := sum_any [(A11, T, c11)] w11.heap.size 1 1 _ rfl (by omega) (rows1 hb ((H11.out.1.keep kk).src hTlt) (by omega)) hb.lt (fun r hr a ha => by
                simp at hr
                subst hr
                exact Nat.lt_of_lt_of_le (own_blk_lt H11.out.1.1 a ha) kk.size) (by simp [allR]; omega)
              have e : allR [(A11, T, c11)] = T := by simp [allR]
              rw [e] at h
              exact h)
            have hr2 : ∀ W, Keep [] w11 W → W.rangeAt h 2 (inB d) := fun W kk => by
              have h1 := H11.out.2.2.keep kk (by simp)
              rw [HCL.out] at h1
              have e : headC r k d = [Value.int .i64 (r : Int), Value.int .i64 (k : Int)] ++ (inB d ++ []) := by rw [List.append_nil]; rfl
              rw [e] at h1
              exact rangeAt_blk h1
            have hD44 : (Tryz.prog.info? 44).map (·.size) = some (inB d).length := by rw [inB_len, HO.out.1]; exact size44
            have hT32 := shaP_len T
            have hT256 := shaP_lt T
            have hd32 := HO.out.1
            have hd256 := HO.out.2.1
            have HF : Hid (∀ W, Keep [] w11 W → OwB w10 A11 c11 T W) := Lib.hid (fun W kk => H11.out.1.keep kk)
            generalize hTn : T.length = tn at *
            have HTn := Lib.hid hTn
            clear HV2 HHd hlr hTn hTlt hTl
            go_upto_region 18 with (fail)
            refine wp_region_G (fun W => Keep [] w11 W) [] #[false, false, false, false, false, false, false] 7 (by kernel_rfl) (by kernel_rfl) (by kernel_rfl) ?_
            refine wpAnyG_take0 (i := 0) (oi := ⟨_, _, _, _, _, _⟩) (v := ?vg1_0) rfl (by kernel_rfl) (by kernel_rfl) (by kernel_rfl) (by kernel_rfl) (fun _ _ _ h => h) (fun _ => ((Keep.refl [] w11).drew)) (Or.inl ⟨by rfl, ?hg1_0⟩) ?_
            case hg1_0 => intro w _; go_simp; (try with_reducible rfl)
            try simp only [Act.put, List.setIfInBounds_toArray, List.set_cons_zero, List.set_cons_succ]
            refine wpAnyG_take0 (i := 3) (oi := ⟨_, _, _, _, _, _⟩) (v := ?vg1_3) rfl (by kernel_rfl) (by kernel_rfl) (by kernel_rfl) (by kernel_rfl) (fun _ _ _ h => h) (fun _ => ((Keep.refl [] w11).drew)) (Or.inl ⟨by rfl, ?hg1_3⟩) ?_
            case hg1_3 => intro w _; go_simp; (try with_reducible rfl)
            try simp only [Act.put, List.setIfInBounds_toArray, List.set_cons_zero, List.set_cons_succ]
            refine wpAnyG_take (i := 4) (oi := ⟨_, _, _, _, _, _⟩) (v := (.agg (inB d).toArray)) [4, 5, 6] rfl (by kernel_rfl) (by kernel_rfl) (by kernel_rfl) (by kernel_rfl) (by kernel_rfl) (fun _ _ _ h => h) (fun _ => ((Keep.refl [] w11).drew)) (Or.inl ⟨by rfl, ?hg1_4⟩) ?_
            case hg1_4 => intro w hSw; (try dsimp only at hSw); exact quiet_load_mid 44 (.tmp 83) rfl h 2 rfl (inB d) _ (hr2 _ hSw) Tryz.underlying44 rfl hD44
            try simp only [Act.put, List.setIfInBounds_toArray, List.set_cons_zero, List.set_cons_succ]
            refine wpAnyG_step (i := 1) (oi := ⟨_, _, _, _, _, _⟩) rfl (by kernel_rfl) (by rfl) (fun K hK => ?_)
            go_simp
            refine hK _ _ ?_ (fun hSg1_1 => ?_)
            · intro _; exact ((Keep.refl [] w11).drew).alloc _
            replace hSg1_1 := hSg1_1 (by kernel_rfl)
            clear hK
            try simp only [Act.put, List.setIfInBounds_toArray, List.set_cons_zero, List.set_cons_succ]
            refine wpAnyG_step (i := 2) (oi := ⟨_, _, _, _, _, _⟩) rfl (by kernel_rfl) (by rfl) (fun K hK => ?_)
            go_simp
            go_at_call 21
            refine HS.out.mono ?_
            rintro e w12 ⟨rfl, hk12⟩
            refine hK _ _ ?_ (fun hSg1_2 => ?_)
            · intro _; exact (((Keep.refl [] w11).drew).alloc _).trans hk12
            replace hSg1_2 := hSg1_2 (by kernel_rfl)
            clear hK
            try simp only [Act.put, List.setIfInBounds_toArray, List.set_cons_zero, List.set_cons_succ]
            refine wpAnyG_take0 (i := 5) (oi := ⟨_, _, _, _, _, _⟩) (v := ?vg1_5) rfl (by kernel_rfl) (by kernel_rfl) (by kernel_rfl) (by kernel_rfl) (fun _ _ _ h => h) (fun _ => hSg1_2) (Or.inl ⟨by rfl, ?hg1_5⟩) ?_
            case hg1_5 => intro w _; have m := eq_dig hT32 hd32 hT256 hd256 w; go_simp; (try with_reducible rfl)
            try simp only [Act.put, List.setIfInBounds_toArray, List.set_cons_zero, List.set_cons_succ]
            refine wpAnyG_take0 (i := 6) (oi := ⟨_, _, _, _, _, _⟩) (v := ?vg1_6) rfl (by kernel_rfl) (by kernel_rfl) (by kernel_rfl) (by kernel_rfl) (fun _ _ _ h => h) (fun _ => hSg1_2) (Or.inl ⟨by rfl, ?hg1_6⟩) ?_
            case hg1_6 => intro w _; go_simp; (try with_reducible rfl)
            try simp only [Act.put, List.setIfInBounds_toArray, List.set_cons_zero, List.set_cons_succ]
            refine wpAnyG_done (by kernel_rfl) ?_ _
            have HKK : Hid (Keep [] w11 w12) := Lib.hid ((((Keep.refl [] w11).drew).alloc _).trans hk12)
            clear hk12
            cases hq : (shaP T == d) with
            | false =>
              have HV : Hid (rdP b = ([], 0, 112)) := Lib.hid (by rw [HV3.out, hq]; rfl)
              go_wp2
              go_ret3
              exact RowB3.no HV.out rfl (H11.out.2.1.trans HKK.out)
            | true =>
              have HV : Hid (rdP b = (T, n, 0)) := Lib.hid (by rw [HV3.out, hq]; rfl)
              go_wp2
              go_ret3
              show RowB3 w (rdP b).1 (rdP b).2.1 (rdP b).2.2 _ w12
              rw [HV.out]
              have ho := HF.out _ HKK.out
              refine ⟨A11, c11, ?_, own_weaken ho.1 H10.out.2.1.size, H11.out.2.1.trans HKK.out⟩
              rw [HTn.out]
              rfl
          · have HV : Hid (rdP b = ([], 0, 113)) := Lib.hid (by rw [HV2.out, if_neg (by rw [HHd.out.1]; omega)])
            have hne : ¬ ((T.length : Int) = (r : Int)) := by omega
            clear HV2
            go_wp2
            go_ret3
            exact RowB3.no HV.out rfl H11.out.2.1
        · subst hE
          have HV : Hid (rdP b = ([], 0, 113)) := Lib.hid (by rw [HV2.out, if_neg (by omega)])
          clear HV2
          go_wp2
          go_ret3
          exact RowB3.no HV.out rfl H11.out.2.1
    · have HV : Hid (rdP b = ([], 0, 111)) := Lib.hid (by
        rw [HV0.out, if_neg]
        rw [hcrc]
        simpa using hcc)
      have hcci : ¬ ((sm : Int) = (cr : Int)) := by omega
      clear hcrc HV0
      go_wp2_with (go_at_call 27; refine HOf.out.mono ?_; rintro e w8' ⟨rfl, hww⟩; subst hww)
      go_ret3
      exact RowB3.no HV.out rfl (H6.out.2.2.2.1.trans H8.out.1)
end Go.Proofs.YtdnaahbhfjclpaaGreatDoor

namespace Go.Pck
open Go.Cod Go.Huf
theorem num_byt2 {x : Nat} (h : x < 65536) : numP 2 (Pck.bytP 2 2 x) = x := by
  simp [numP, Pck.bytP, shF, leN, List.range_succ]
  omega
theorem num_byt4 {x : Nat} (h : x < 4294967296) : numP 2 (Pck.bytP 2 4 x) = x := by
  simp [numP, Pck.bytP, shF, leN, List.range_succ]
  omega
theorem enc_a : encP [97] = [0, 1, 97] := by
  obtain ⟨h1, h2⟩ := tok_size (b := [97]) (by simp) (by simp)
  have h3 : (tokP [97]).length ≤ 1 := tok_len 1 0
  have h4 := pack_ge (tokP [97]) (by omega)
  unfold encP packR
  rw [if_pos h1, if_neg (by show ¬ (packP (tokP [97])).length < 1; omega)]
  rfl
theorem cut_at {α : Type} {p q r : List α} : ((p ++ (q ++ r)).drop p.length).take q.length = q := by
  rw [List.drop_left, List.take_left]
theorem hd_parts (r k : Nat) (d t : List Nat) (hd : d.length = 32) : (hdB r k d ++ t).take 4 = magic ∧ ((hdB r k d ++ t).drop 4).take 2 = Pck.bytP 2 2 r ∧ ((hdB r k d ++ t).drop 6).take 2 = Pck.bytP 2 2 k ∧ ((hdB r k d ++ t).drop 8).take 32 = d ∧ (hdB r k d ++ t).drop 40 = t := by
  have l1 := bytP_len 2 2 r
  have l2 := bytP_len 2 2 k
  have e : hdB r k d ++ t = magic ++ (Pck.bytP 2 2 r ++ (Pck.bytP 2 2 k ++ (d ++ t))) := by simp [hdB, magic]
  have m4 : magic.length = 4 := rfl
  rw [e]
  refine ⟨by rw [← m4]; exact List.take_left, ?_, ?_, ?_, ?_⟩
  · have := cut_at (p := magic) (q := Pck.bytP 2 2 r) (r := Pck.bytP 2 2 k ++ (d ++ t))
    rw [l1, m4] at this
    exact this
  · have := cut_at (p := magic ++ Pck.bytP 2 2 r) (q := Pck.bytP 2 2 k) (r := d ++ t)
    rw [l2, List.length_append, l1, m4, List.append_assoc] at this
    exact this
  · have := cut_at (p := magic ++ Pck.bytP 2 2 r ++ Pck.bytP 2 2 k) (q := d) (r := t)
    rw [hd, List.length_append, List.length_append, l1, l2, m4, List.append_assoc, List.append_assoc] at this
    exact this
  · have h40 : (magic ++ (Pck.bytP 2 2 r ++ (Pck.bytP 2 2 k ++ d))).length = 40 := by simp [l1, l2, hd, m4]
    have e2 : magic ++ (Pck.bytP 2 2 r ++ (Pck.bytP 2 2 k ++ (d ++ t))) = (magic ++ (Pck.bytP 2 2 r ++ (Pck.bytP 2 2 k ++ d))) ++ t := by simp
    rw [e2, ← h40, List.drop_left]
theorem blk_len {c : List Nat} : (blkB c).length = 512 * blksP (encP c).length := by
  unfold blkB
  simp only [List.length_append, hdP_len, bytP_len, List.length_replicate]
  have : 44 + (encP c).length ≤ 512 * blksP (encP c).length := by unfold blksP; omega
  omega
theorem blk_lt {c : List Nat} (hc : ∀ x ∈ c, x < 256) (hl : c.length ≤ 2000) : ∀ x ∈ blkB c, x < 256 := by
  intro x hx
  unfold blkB at hx
  rcases List.mem_append.1 hx with hx | hx
  · rcases List.mem_append.1 hx with hx | hx
    · rcases List.mem_append.1 hx with hx | hx
      · exact hdB_lt (shaP_lt c) x hx
      · exact bytP_lt _ _ _ x hx
    · exact enc_lt hc (by omega) x hx
  · rw [(List.mem_replicate.1 hx).2]; omega
structure Parts (b : List Nat) (r k s : Nat) (d en z : List Nat) : Prop where
  len : 44 ≤ b.length
  mag : b.take 4 = magic
  raw : hdRaw b = r
  code : hdCode b = k
  dig : hdDig b = d
  sum : numP 2 ((b.drop 40).take 4) = s
  enc : codeB b = en
  rest : restB b = z
theorem parts_of (r k s : Nat) (d en z behind : List Nat) (hd : d.length = 32) (hr : r < 65536) (hk : en.length = k) (hk2 : k < 65536) (hs : s < 4294967296) (hz : z.length = 512 * blksP k - (44 + k)) :
    Parts (hdB r k d ++ (Pck.bytP 2 4 s ++ (en ++ (z ++ behind)))) r k s d en z := by
  obtain ⟨h1, h2, h3, h4, h5⟩ := hd_parts r k d (Pck.bytP 2 4 s ++ (en ++ (z ++ behind))) hd
  have hc : hdCode (hdB r k d ++ (Pck.bytP 2 4 s ++ (en ++ (z ++ behind)))) = k := by unfold hdCode; rw [h3, num_byt2 hk2]
  have l4 : (Pck.bytP 2 4 s).length = 4 := bytP_len _ _ _
  have h44 : (hdB r k d ++ (Pck.bytP 2 4 s ++ (en ++ (z ++ behind)))).drop 44 = en ++ (z ++ behind) := by
    rw [show 44 = 40 + 4 by rfl, ← List.drop_drop, h5]
    have := List.drop_left (l₁ := Pck.bytP 2 4 s) (l₂ := en ++ (z ++ behind))
    rw [l4] at this
    exact this
  refine ⟨?_, h1, by unfold hdRaw; rw [h2, num_byt2 hr], hc, h4, ?_, ?_, ?_⟩
  · rw [List.length_append, hdB_len hd, List.length_append, l4]; omega
  · rw [h5]
    have := List.take_left (l₁ := Pck.bytP 2 4 s) (l₂ := en ++ (z ++ behind))
    rw [l4] at this
    rw [this, num_byt4 hs]
  · unfold codeB
    rw [hc, h44, ← hk, List.take_left]
  · unfold restB
    rw [hc, h44, ← hk, List.drop_left]
    have e : blksP en.length * 512 - 44 - en.length = z.length := by rw [hz, hk]; omega
    rw [e, List.take_left]
theorem blk_parts (c behind : List Nat) (hl : c.length ≤ 2000) :
    Parts (blkB c ++ behind) c.length (encP c).length (sumP c) (shaP c) (encP c) (List.replicate (512 * blksP (encP c).length - (44 + (encP c).length)) 0) := by
  have hel := enc_len (b := c) (by omega)
  have := parts_of c.length (encP c).length (sumP c) (shaP c) (encP c) (List.replicate (512 * blksP (encP c).length - (44 + (encP c).length)) 0) behind (shaP_len c) (by omega) rfl (by omega) (sumP_lt c) (by simp)
  have e : blkB c ++ behind = hdB c.length (encP c).length (shaP c) ++ (Pck.bytP 2 4 (sumP c) ++ (encP c ++ (List.replicate (512 * blksP (encP c).length - (44 + (encP c).length)) 0 ++ behind))) := by
    simp [blkB, hdP]
  rw [e]
  exact this
theorem enc_pos (c : List Nat) : 1 ≤ (encP c).length := by unfold encP; split <;> simp
theorem ok_parts {b d en z : List Nat} {r k s : Nat} (h : Parts b r k s d en z) (hs : szOk r k = true) : hdOk b = true := by
  unfold hdOk hdIs
  rw [h.mag, h.raw, h.code, hs]
  have := h.len
  simp [this]
theorem sz_blk {c : List Nat} (h1 : 1 ≤ c.length) (hl : c.length ≤ 2000) : szOk c.length (encP c).length = true := by
  have hel := enc_len (b := c) (by omega)
  have := enc_pos c
  unfold szOk
  simp
  omega
theorem rd_back {c : List Nat} (behind : List Nat) (hc : ∀ x ∈ c, x < 256) (h1 : 1 ≤ c.length) (hl : c.length ≤ 2000) : rdP (blkB c ++ behind) = (c, blksP (encP c).length, 0) := by
  have hp := blk_parts c behind hl
  have hdec := dec_yes (dec_back hc (by omega : c.length ≤ 20000))
  unfold rdP
  rw [if_pos (ok_parts hp (sz_blk h1 hl)), hp.code, if_neg (by rw [List.length_append, blk_len]; omega), if_pos, if_pos, if_pos, if_pos, hp.enc, hdec.1]
  · rw [hp.enc, hp.dig, hdec.1]; simp
  · rw [hp.enc, hp.raw, hdec.1, hdec.2]; exact ⟨rfl, rfl⟩
  · rw [hp.rest]; simp [zerosB]
  · unfold crcOk
    rw [hp.sum, hp.raw, hp.code, hp.dig, hp.enc]
    simp [sumP, hdP]
end Go.Pck

namespace Go.Pck
open Go.Cod Go.Huf
theorem rd_or (x : List Nat) : (∃ E, E ≠ 0 ∧ rdP x = ([], 0, E)) ∨ (hdOk x = true ∧ ¬ x.length / 512 < blksP (hdCode x) ∧ crcOk x = true ∧ zerosB (restB x) = true ∧ decC (codeB x) = 0 ∧ (decT (codeB x)).length = hdRaw x ∧ shaP (decT (codeB x)) = hdDig x ∧ rdP x = (decT (codeB x), blksP (hdCode x), 0)) := by
  unfold rdP
  by_cases h1 : hdOk x = true
  · rw [if_pos h1]
    by_cases h2 : x.length / 512 < blksP (hdCode x)
    · rw [if_pos h2]; exact .inl ⟨11, by omega, rfl⟩
    · rw [if_neg h2]
      by_cases h3 : crcOk x = true
      · rw [if_pos h3]
        by_cases h4 : zerosB (restB x) = true
        · rw [if_pos h4]
          by_cases h5 : decC (codeB x) = 0 ∧ (decT (codeB x)).length = hdRaw x
          · rw [if_pos h5]
            by_cases h6 : (shaP (decT (codeB x)) == hdDig x) = true
            · rw [if_pos h6]; exact .inr ⟨h1, h2, h3, h4, h5.1, h5.2, by simpa using h6, rfl⟩
            · rw [if_neg h6]; exact .inl ⟨112, by omega, rfl⟩
          · rw [if_neg h5]; exact .inl ⟨113, by omega, rfl⟩
        · rw [if_neg h4]; exact .inl ⟨110, by omega, rfl⟩
      · rw [if_neg h3]; exact .inl ⟨111, by omega, rfl⟩
  · rw [if_neg h1]; exact .inl ⟨110, by omega, rfl⟩
structure Win (a : Nat) (x b : List Nat) : Prop where
  len : x.length = b.length
  ahead : x.take a = b.take a
  behind : x.drop (a + 4) = b.drop (a + 4)
theorem Win.lo {a : Nat} {x b : List Nat} (h : Win a x b) {i k : Nat} (hi : i + k ≤ a) : (x.drop i).take k = (b.drop i).take k := by
  have e : ∀ l : List Nat, (l.drop i).take k = ((l.take a).drop i).take k := fun l => by
    rw [List.drop_take, List.take_take, Nat.min_eq_left (by omega)]
  rw [e x, e b, h.ahead]
theorem Win.hi {a : Nat} {x b : List Nat} (h : Win a x b) {i : Nat} (hi : a + 4 ≤ i) : x.drop i = b.drop i := by
  have e : ∀ l : List Nat, l.drop i = (l.drop (a + 4)).drop (i - (a + 4)) := fun l => by
    rw [List.drop_drop]
    congr 1
    omega
  rw [e x, e b, h.behind]
end Go.Pck

