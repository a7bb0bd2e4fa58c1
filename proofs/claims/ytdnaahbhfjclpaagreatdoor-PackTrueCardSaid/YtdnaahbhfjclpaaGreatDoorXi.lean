/- The bytes that are left, and numbers of them: walked. -/
import Derived.Test.YtdnaahbhfjclpaaGreatDoorXf
import Derived.Test.YtdnaahbhfjclpaaGreatDoorWh
import Derived.Lib.SlBytesConst
set_option linter.unusedVariables false
set_option linter.unusedSimpArgs false
namespace Go.Proofs.YtdnaahbhfjclpaaGreatDoor
open Go.RowKit Go.Sal Go.Pck Go.Huf Go.Cod
def allR (R : List (Option Addr × List Nat × Nat)) : List Nat := R.flatMap fun r => r.2.1
def SmS (w : World) (h b0 : Nat) (Z : Array Value) (l : List Nat) (wr : World) : Prop := HashIs wr h (tak start8 l).1 (tak start8 l).2 l.length ∧ Blk wr b0 44 Z ∧ Keep [] w wr
theorem HashIs.keep {w w' : World} {g n : Nat} {s l : List Nat} (h : HashIs w g s l n) (k : Keep [] w w') : HashIs w' g s l n := by
  obtain ⟨A, c, h1, h2, h3, h4, h5⟩ := h
  exact ⟨A, c, h1.keep k (by simp), h2.keep k (fun a _ => by simp), fun a ha => ⟨(h3 a ha).1, Nat.lt_of_lt_of_le (h3 a ha).2 k.size⟩, h4, h5⟩
set_option maxRecDepth 20000 in
set_option maxHeartbeats 1000000 in
theorem sum_any (R : List (Option Addr × List Nat × Nat)) (gR n c : Nat) (w : World) (hn : n = R.length) (hn2 : n ≤ 1000) (hR : RowsAt w gR R) (hg : gR < w.heap.size) (hA : ∀ r ∈ R, ∀ a, r.1 = some a → a.block < w.heap.size) (hl : (allR R).length ≤ 90000) :
    Calls Tryz.prog 21 #[.slice (some ⟨gR, 0, none⟩) n c] w fun e w' => e = .returned (.agg (inB (shaP (allR R))).toArray) ∧ Keep [] w w' := by
  have z1 := zero44
  have HZ : Hid (Z32.size = 32) := Lib.hid rfl
  generalize Z32 = Z at *
  obtain ⟨w1, hw1⟩ : ∃ w1, w.alloc (.cells Z 44) = w1 := ⟨_, rfl⟩
  have k1 : Keep [] w w1 := by rw [← hw1]; exact (Keep.refl _ w).alloc _
  have hb1 : Blk w1 w.heap.size 44 Z := by rw [← hw1]; exact Blk.new w 44 Z
  have hs1 : w1.heap.size = w.heap.size + 1 := by rw [← hw1, size_al]
  have HN := Lib.hid (new_any w1)
  have H1 := Lib.hid (And.intro k1 (And.intro hb1 hs1))
  have HR : Hid (∀ wr, Keep [] w wr → RowsAt wr gR R) := Lib.hid (fun wr k i hi => by
    obtain ⟨m1, m2, m3⟩ := hR i hi
    exact ⟨(k.cell hg (by simp)).trans m1, m2.keep k (fun a _ => by simp), m3⟩)
  have HA := Lib.hid hA
  have Hl := Lib.hid hl
  have Hn := Lib.hid hn
  have Hw1 := Lib.hid hw1
  have Hb0 : Hid (∃ b0, b0 = w.heap.size) := Lib.hid ⟨_, rfl⟩
  clear k1 hb1 hs1 hR hA hl hn hw1
  go_enter Tryz.func21, Tryz.ntmps21
  go_upto_region 1 with (fail)
  rw [Hw1.out]
  go_wp2_with (go_at_call 40; refine HN.out.mono ?_; rintro e w2 ⟨h, rfl, hh, hH, hk⟩)
  have H0 : Hid (SmS w h w.heap.size Z (allR (R.take 0)) w2 ∧ w.heap.size < h) := Lib.hid ⟨⟨by simpa [allR, tak_end] using hH, H1.out.2.1.keep hk (by simp), H1.out.1.trans hk⟩, by have := H1.out.2.2; omega⟩
  have Hh := Lib.hid H0.out.2
  have H0 := Lib.hid H0.out.1
  clear hH hk hh H1 HN Hw1
  go_loopw [9, 5] (fun v9 _ wr => ∃ k : Nat, v9 = .int .i64 k ∧ k ≤ n ∧ Hid (SmS w h w.heap.size Z (allR (R.take k)) wr)) (fun v9 _ _ => n - (intOf v9).toNat)
  case atStart => exact ⟨0, rfl, by omega, H0⟩
  case round =>
    obtain ⟨k, rfl, hk, hI⟩ := hrel
    clear H0
    rcases Nat.lt_or_ge k n with hkn | hkn
    · as_aux_lemma =>
        have hki : (k : Int) < n := by omega
        have hwk : IntKind.i64.wrap ((k : Int) + 1) = (k : Int) + 1 := by rw [IntKind.wrap_i64]; omega
        have hkR : k < R.length := by have := Hn.out; omega
        obtain ⟨hH, hb, hkp⟩ := hI.out
        obtain ⟨m, hsrc, hl1⟩ := HR.out wr hkp k hkR
        have hgr := Nat.lt_of_lt_of_le hg hkp.size
        have hall : allR (R.take (k + 1)) = allR (R.take k) ++ R[k].2.1 := by unfold allR; rw [List.take_succ_eq_append_getElem hkR, List.flatMap_append]; simp
        have hlen : (allR (R.take (k + 1))).length ≤ (allR R).length := by
          have : allR R = allR (R.take (k + 1)) ++ allR (R.drop (k + 1)) := by
            unfold allR
            rw [← List.flatMap_append, List.take_append_drop]
          rw [this, List.length_append]; omega
        have hl90 := Hl.out
        have hlk : (allR (R.take k)).length + R[k].2.1.length = (allR (R.take (k + 1))).length := by rw [hall, List.length_append]
        have hlt := (tak_rest (allR (R.take k)).length start8 (allR (R.take k)) (Nat.le_refl _)).1
        have HT := Lib.hid ((take_any _ _ R[k].2.1 _ h R[k].2.2 R[k].1 wr hH hsrc (fun a ha => by
          have := HA.out _ (List.getElem_mem hkR) a ha
          have := Hh.out
          omega) (by omega) (by omega) (by omega)).mono (R' := fun e w' => e = .returned (.tuple #[]) ∧ SmS w h w.heap.size Z (allR (R.take (k + 1))) w') (fun e w' hq => by
            obtain ⟨q1, q2, q3⟩ := hq
            refine ⟨q1, ?_, hb.keep q3 (by have := Hh.out; simp; omega), hkp.step q3 (fun i hi => by have := Hh.out; simp at hi; omega)⟩
            have ha := tak_app (allR (R.take k)).length start8 (allR (R.take k)) R[k].2.1 (Nat.le_refl _)
            rw [ha, ← hall, hlk] at q2
            exact q2))
        generalize R[k].2.1.length = len at *
        generalize R[k].1 = A at *
        generalize R[k].2.2 = cc at *
        clear hI hH hb hkp hsrc hall hlen hl90 hlk hlt HR Hn hl1
        go_wp2_with (go_at_call 41; refine HT.out.mono ?_; rintro e w3 ⟨rfl, hq⟩)
        exact ⟨⟨k + 1, by simp, by omega, Lib.hid hq⟩, by simp [intOf]; omega⟩
    · as_aux_lemma =>
        obtain rfl : k = n := by omega
        have hki : ¬ (k : Int) < k := by omega
        have hS := hI.out
        rw [List.take_of_length_le (by have := Hn.out; omega)] at hS
        obtain ⟨hH, hb, hkp⟩ := hS
        have hlt := (tak_rest (allR R).length start8 (allR R) (Nat.le_refl _)).1
        have HE := Lib.hid (end_any _ _ _ h wr hH (by omega) (by have := Hl.out; omega))
        rw [tak_app _ _ _ _ (Nat.le_refl _)] at HE
        have HF : Hid (∀ w', Keep [] wr w' → Blk w' w.heap.size 44 Z ∧ Blk (w'.setRow w.heap.size (inB (shaP (allR R))).toArray) w.heap.size 44 (inB (shaP (allR R))).toArray ∧ Keep [] w (w'.setRow w.heap.size (inB (shaP (allR R))).toArray)) :=
          Lib.hid (fun w' k' => ⟨hb.keep k' (by simp), blk_same (hb.keep k' (by simp)), keep_setRow (hkp.trans k') (Nat.le_refl _) (hb.keep k' (by simp))⟩)
        have hszS : (inB (shaP (allR R))).toArray.size = 32 := by simp [inB_len, shaP_len]
        have hone : (inB (shaP (allR R))).toArray.all (·.oneCell') = true := all_oneCell_toArray (inB_one _)
        have HE2 : Hid (Calls Tryz.prog 42 #[.pointer (some ⟨h, 0, none⟩)] wr fun e w' => e = .returned (.agg (inB (shaP (allR R))).toArray) ∧ Keep [] wr w') := HE
        generalize hD : (inB (shaP (allR R))).toArray = D at *
        have HD := Lib.hid hD
        clear hI hH hb hkp hlt HR Hn hD HE
        go_upto_region 7 with (fail)
        refine wp_region_lit ?_
        refine wpList_plain rfl (fun K hK => ?_)
        go_simp
        refine hK _ _ ?_
        clear hK K
        refine wpList_plain rfl (fun K hK => ?_)
        go_simp
        go_at_call 42
        refine HE2.out.mono ?_
        rintro e w4 ⟨rfl, hk4⟩
        refine hK _ _ ?_
        clear hK K
        have HF4 := Lib.hid (HF.out w4 hk4)
        clear hk4
        refine wpList_store_row rfl 44 (.tmp 2) (.tmp 18) rfl w.heap.size D rfl rfl 44 Z HF4.out.1 (by rw [hszS]; exact size44) (by rw [hszS, HZ.out]) hone ?_
        go_wp2
        refine bodyPost_ret (v := .agg D) (results_cell_row (ty := 44) rfl _ _ w.heap.size 44 _ (0, 0) _ rfl HF4.out.2.1 Tryz.underlying44 rfl (by rw [hszS]; exact size44)) rfl ⟨by rw [HD.out], HF4.out.2.2⟩
end Go.Proofs.YtdnaahbhfjclpaaGreatDoor

namespace Go.Pck
def hdB (r k : Nat) (d : List Nat) : List Nat := [83, 67, 72, 75] ++ bytP 2 2 r ++ bytP 2 2 k ++ d
def blksP (k : Nat) : Nat := (k + 555) / 512
end Go.Pck
namespace Go.Proofs.YtdnaahbhfjclpaaGreatDoor
open Go.RowKit Go.Sal Go.Pck Go.Huf Go.Cod
def headC (r k : Nat) (d : List Nat) : List Value := [Value.int .i64 (r : Int), Value.int .i64 (k : Int)] ++ inB d
theorem headC_len {d : List Nat} (h : d.length = 32) (r k : Nat) : (headC r k d).length = 34 := by simp [headC, inB_len, h]
theorem headC_one (r k : Nat) (d : List Nat) : ∀ u ∈ headC r k d, u.oneCell' = true := by
  intro u hu
  rcases List.mem_append.1 hu with hu | hu
  · simp at hu
    rcases hu with rfl | rfl <;> rfl
  · exact inB_one d u hu
theorem size58 : (Tryz.prog.info? 58).map (·.size) = some 34 := by kernel_rfl
theorem head_cell0 {w : World} {g r k : Nat} {d : List Nat} (h : Blk w g 58 (headC r k d).toArray) : w.cell? ⟨g, 0, none⟩ = some (.int .i64 (r : Int)) := by rw [h.cell]; rfl
theorem head_cell1 {w : World} {g r k : Nat} {d : List Nat} (h : Blk w g 58 (headC r k d).toArray) : w.cell? ⟨g, 1, none⟩ = some (.int .i64 (k : Int)) := by rw [h.cell]; rfl
theorem head_dig {w : World} {g r k : Nat} {d : List Nat} (hd : ∀ x ∈ d, x < 256) (h : Blk w g 58 (headC r k d).toArray) : BySrc w (some ⟨g, 2, none⟩) d := by
  refine ⟨fun i hi => ⟨g, 2, rfl, h.lt, ?_⟩, hd⟩
  rw [h.cell, List.getElem?_toArray]
  unfold headC
  rw [List.getElem?_append_right (by simp)]
  simp [inB, hi]
set_option maxRecDepth 20000 in
set_option maxHeartbeats 1000000 in
theorem blocks_any (r k : Nat) (d : List Nat) (w : World) (hk : k ≤ 100000) :
    Calls Tryz.prog 24 #[.agg (headC r k d).toArray] w fun e w' => e = .returned (.int .i64 (blksP k : Nat)) ∧ Keep [] w w' := by
  have c1 := head_cell1 (Blk.new w 58 (headC r k d).toArray)
  have e1 : IntKind.i64.wrap (44 + (k : Int)) = 44 + (k : Int) := by rw [IntKind.wrap_i64]; omega
  have e2 : IntKind.i64.wrap (44 + (k : Int) + 512) = 44 + (k : Int) + 512 := by rw [IntKind.wrap_i64]; omega
  have e3 : IntKind.i64.wrap (44 + (k : Int) + 512 - 1) = 44 + (k : Int) + 511 := by rw [IntKind.wrap_i64]; omega
  have e4 : (44 + (k : Int) + 511).tdiv 512 = (blksP k : Nat) := by rw [Int.tdiv_eq_ediv_of_nonneg (by omega)]; unfold blksP; omega
  have e5 : (44 + (k : Int) + 511) / 512 = (blksP k : Nat) := by unfold blksP; omega
  have HF := Lib.hid ((Keep.refl [] w).alloc (.cells (headC r k d).toArray 58))
  generalize blksP k = q at *
  generalize (headC r k d).toArray = C at *
  go_enter Tryz.func24, Tryz.ntmps24
  go_wp2
  go_ret
  exact ⟨rfl, HF.out⟩
def OwB (w : World) (A : Option Addr) (c : Nat) (l : List Nat) (wr : World) : Prop := wr.ownsRow w.heap.size 5 1 (.slice A l.length c) l.length (inB l) ∧ Keep [] w wr
theorem OwB.app {w wr : World} {A B : Option Addr} {c d n : Nat} {l m : List Nat} (h : OwB w A c l wr) (hs : BySrc wr B m) (hn : n = l.length) (h1 : l.length ≤ 1000000) (h2 : m.length ≤ 1000000) :
    ∃ A' c' w' k, k = (l ++ m).length ∧ (Builtin.append_ #[22, 22] 22 #[.slice A n c, .slice B m.length d]).run Tryz.prog wr = .ok (.slice A' k c') w' ∧ OwB w A' c' (l ++ m) w' ∧ Keep (Value.slice A l.length c).ownBlock.toList wr w' ∧ (∀ b t cs, Blk wr b t cs → 5 ≠ t → Blk w' b t cs) := by
  subst hn
  obtain ⟨A', c', w', k, hk, hrun, ho, hkp⟩ := bytes_app' (d := d) h.1 (bsrc_src hs) (by omega) (by omega) h.2.size
  have e := own_b ho
  refine ⟨A', c', w', k, e, hrun, ⟨?_, h.2.step hkp (fun i hi => .inr (own_far h.1 i hi))⟩, hkp, fun b t cs hb hi => hb.keep hkp (fun hm => own_ne_blk h.1 hb hi (by simpa [Option.mem_toList] using hm))⟩
  rw [← e]; exact ho
theorem OwB.keep {w wr w' : World} {A : Option Addr} {c : Nat} {l : List Nat} (h : OwB w A c l wr) (k : Keep [] wr w') : OwB w A c l w' := ⟨ownsRow_keep h.1 k (by simp), h.2.trans k⟩
theorem OwB.src {w wr : World} {A : Option Addr} {c : Nat} {l : List Nat} (h : OwB w A c l wr) (hl : ∀ x ∈ l, x < 256) : BySrc wr A l := bsrc_own h.1 hl
theorem rowB_own {w w' : World} {l : List Nat} {e : Ending} (h : RowB w l e w') : ∃ A c, e = .returned (.slice A l.length c) ∧ OwB w A c l w' := h
theorem info5x : ∃ i, Tryz.prog.info? 5 = some i ∧ i.zero = some (.int .u8 0) ∧ i.size = 1 ∧ i.bytes = 1 := by
  cases hx : Tryz.prog.info? 5 with
  | none => have := u8info; rw [hx] at this; cases this
  | some i =>
    have := u8info
    rw [hx] at this
    simp only [Option.map_some, Option.some.injEq, Prod.mk.injEq] at this
    exact ⟨i, rfl, this.1, this.2.1, this.2.2⟩
set_option maxRecDepth 20000 in
theorem grow_app {w wr : World} {a : Addr} {B : Option Addr} {d : Nat} {l m : List Nat} (hk : Keep [] w wr) (h : BySrc wr (some a) l) (hs : BySrc wr B m) (hm : 0 < m.length) (h1 : l.length ≤ 1000000) (h2 : m.length ≤ 1000000) :
    ∃ A' c' w' k, k = (l ++ m).length ∧ (Builtin.append_ #[22, 22] 22 #[.slice (some a) l.length l.length, .slice B m.length d]).run Tryz.prog wr = .ok (.slice A' k c') w' ∧ OwB w A' c' (l ++ m) w' ∧ Keep [] wr w' := by
  obtain ⟨i, hi, hz, hsz, hby⟩ := info5x
  obtain ⟨bd, rfl, hcell⟩ := (bsrc_src hs).2 hm
  have holds : ∀ j v, (inB l)[j]? = some v → wr.cell? (a.add j) = some v := fun j u hu => by
    have hl0 : 0 < l.length := by
      have := (List.getElem?_eq_some_iff.1 hu).1
      rw [inB_len] at this
      omega
    obtain ⟨a', e, hc⟩ := (bsrc_src h).2 hl0
    injection e with e
    subst e
    exact hc j u hu
  have hr := run_append_grow (P := Tryz.prog) wr 22 22 5 i (.int .u8 0) Tryz.underlying22 hi hz a l.length l.length (inB l) (by rw [hsz, inB_len]; omega) holds bd m.length d (inB m) (by rw [hsz, inB_len]; omega) hcell (by omega) (by omega) (by rw [hby]; exact growslice_fits (by omega) (by omega))
  have hge := grownCap_ge wr (l.length + m.length) l.length 5
  have hcm : grownCap wr (l.length + m.length) l.length 5 ≤ maxLen := grownCap_le_maxLen wr (l.length + m.length) l.length 5 (by unfold maxLen; omega)
  have hL : (l ++ m).length = l.length + m.length := List.length_append
  have e1 : inB (l ++ m) = inB l ++ inB m := by simp [inB]
  refine ⟨_, _, _, _, hL.symm, hr, ⟨⟨by rw [inB_len]; omega, .inr ⟨wr.heap.size, _, _, by rw [hL], hk.size, heap_alloc_new wr.drew _, by rw [hL]; exact hge, hcm, ?_, ?_⟩⟩, (hk.drew).alloc _⟩, ((Keep.refl [] wr).drew).alloc _⟩
  · have hz1 : (Value.int IntKind.u8 0).cells.size = 1 := rfl
    simp only [Array.size_append, List.size_toArray, size_zeroCells, hz1, inB_len]
    omega
  · simp only [Array.toList_append, List.append_assoc]
    rw [← List.append_assoc, ← e1]
    have e2 : (l ++ m).length * 1 = (inB (l ++ m)).length := by rw [inB_len]; omega
    rw [e2]
    exact List.take_left
set_option maxRecDepth 20000 in
set_option maxHeartbeats 1000000 in
theorem hbytes_any (r k : Nat) (d : List Nat) (w : World) (hr : r < 65536) (hk : k < 65536) (hd : d.length = 32) (hd2 : ∀ x ∈ d, x < 256) :
    Calls Tryz.prog 28 #[.agg (headC r k d).toArray] w fun e w' => RowB w (hdB r k d) e w' := by
  obtain ⟨b, hb⟩ : ∃ b, b = w.heap.size := ⟨_, rfl⟩
  obtain ⟨w1, hw1⟩ : ∃ w1, w.alloc (.cells (headC r k d).toArray 58) = w1 := ⟨_, rfl⟩
  have hb1 : Blk w1 b 58 (headC r k d).toArray := by rw [← hw1, hb]; exact Blk.new w 58 _
  have hs1 : w1.heap.size = b + 1 := by rw [← hw1, size_al, hb]
  have k1 : Keep [] w w1 := by rw [← hw1]; exact (Keep.refl _ w).alloc _
  obtain ⟨C4, hC4⟩ : ∃ C4, (#[.int .u8 83, .int .u8 67, .int .u8 72, .int .u8 75] : Array Value) = C4 := ⟨_, rfl⟩
  obtain ⟨w2, hw2⟩ : ∃ w2, w1.alloc (.cells C4 5 (4, 4 + 1)) = w2 := ⟨_, rfl⟩
  have kc : (convert 22 22 (.slice (some ⟨b + 1, 0, none⟩) 4 4)).run Tryz.prog (w1.alloc (.cells C4 5)) = .ok (.slice (some ⟨b + 1, 0, none⟩) 4 4) w2 := by
    have := Lib.run_convert_bytes_const (P := Tryz.prog) w1 22 5 C4 4 4 Tryz.underlying22 Tryz.underlying5
    rw [show C4.size = 4 by rw [← hC4]; rfl, hw2, hs1] at this
    exact this
  have H2 : Hid (Keep [] w w2 ∧ Keep [] w1 w2 ∧ BySrc w2 (some ⟨b + 1, 0, none⟩) [83, 67, 72, 75]) := Lib.hid (by
    refine ⟨by rw [← hw2]; exact k1.alloc _, by rw [← hw2]; exact (Keep.refl _ w1).alloc _, fun i hi => ⟨b + 1, 0, rfl, by rw [← hw2, size_al]; omega, ?_⟩, by decide⟩
    have hh : w2.heap[b + 1]? = some (.cells C4 5 (4, 4 + 1)) := by rw [← hw2, ← hs1]; exact heap_alloc_last w1 _
    rw [Nat.zero_add, cell_of_row w2 (b + 1) i C4 5 _ hh, ← hC4]
    match i, hi with
    | 0, _ => rfl
    | 1, _ => rfl
    | 2, _ => rfl
    | 3, _ => rfl)
  have c0 := head_cell0 (hb1.keep H2.out.2.1 (by simp))
  have hlt2 : b < w2.heap.size := (hb1.keep H2.out.2.1 (by simp)).lt
  have HS := Lib.hid (And.intro (fun W => small_any r W hr) (fun W => small_any k W hk))
  have Hw1 := Lib.hid hw1
  have Hb1 := Lib.hid (And.intro hb1 (And.intro hd hd2))
  have Hs1 := Lib.hid hs1
  have Hb := Lib.hid hb
  have HC4 := Lib.hid hC4
  have Hkc := Lib.hid kc
  have HF : Hid ([83, 67, 72, 75] ++ bytP 2 2 r ++ bytP 2 2 k ++ d = hdB r k d) := Lib.hid rfl
  clear hr hk hd hd2 hw1 hw2 hb1 hs1 k1 hb hC4 kc
  go_enter Tryz.func28, Tryz.ntmps28
  go_upto_region 1 with (fail)
  rw [Hw1.out, ← Hb.out]
  refine wp_region_lit ?_
  refine wpList_plain rfl (fun K hK => ?_)
  go_simp
  refine hK _ _ ?_
  clear hK K
  rw [HC4.out, Hs1.out]
  refine wpList_plain rfl (fun K hK => ?_)
  go_simp
  rw [Hkc.out]
  go_simp
  refine hK _ _ ?_
  clear hK K
  go_upto_region 2 with (first
    | (go_at_call 46; refine (HS.out.1 _).mono ?_; rintro e w3 hq; obtain ⟨A3, c3, rfl, ho3⟩ := rowB_own hq; obtain ⟨A4, c4, w4, k4, hk4, hrun4, ho4, hkp4⟩ := grow_app (d := c3) (H2.out.1.trans ho3.2) (H2.out.2.2.keep ho3.2 (by simp)) (ho3.src (bytP_lt _ _ _)) (by simp [bytP_len]) (by simp) (by simp [bytP_len]); have HK4 := Lib.hid (And.intro hk4 (And.intro ho4 (H2.out.2.1.trans (ho3.2.trans hkp4)))); clear hq ho3 hk4 ho4 hkp4)
    | (at_builtin; refine wpList_append2 (v1 := .slice (some ⟨b + 1, 0, none⟩) 4 4) (v2 := .slice A3 (bytP 2 2 r).length c3) rfl (.tmp 5) (.tmp 8) rfl rfl rfl hrun4 ?_))
  have hbk := Hb1.out.1.keep HK4.out.2.2 (by simp)
  have c1 := head_cell1 hbk
  have hlt4 := hbk.lt
  have Hbk := Lib.hid hbk
  clear hrun4 c0 hbk
  go_upto_region 3 with (first
    | (go_at_call 46; refine (HS.out.2 _).mono ?_; rintro e w5 hq; obtain ⟨A5, c5, rfl, ho5⟩ := rowB_own hq; obtain ⟨A6, c6, w6, k6, hk6, hrun6, ho6, -, hkb⟩ := (HK4.out.2.1.keep ho5.2).app (d := c5) (ho5.src (bytP_lt _ _ _)) HK4.out.1 (by simp [bytP_len]) (by simp [bytP_len]); have HK6 := Lib.hid (And.intro hk6 (And.intro ho6 (hkb _ _ _ (Hbk.out.keep ho5.2 (by simp)) (by decide)))); clear hq ho5 hk6 ho6 hkb)
    | (at_builtin; refine wpList_append2 (v1 := .slice A4 k4 c4) (v2 := .slice A5 (bytP 2 2 k).length c5) rfl (.tmp 10) (.tmp 13) rfl rfl rfl hrun6 ?_))
  have hsl : ∀ W, (Instr.sliceAt 44 (.pointer (some ⟨b, 2, none⟩)) none none none).run Tryz.prog W = .ok (.slice (some ⟨b, 2, none⟩) 32 32) W := fun W => by
    rw [run_sliceAt_array_all (P := Tryz.prog) (w := W) 44 _ (by kernel_rfl), show Tryz.prog.elem 44 = 5 by kernel_rfl, Tryz.sizeOf5 W, show Tryz.prog.arrayLen 44 = 32 by kernel_rfl]
    simp [slicedAt, add_mk]
  obtain ⟨A7, c7, w7, k7, hk7, hrun7, ho7, -, -⟩ := HK6.out.2.1.app (d := 32) (head_dig Hb1.out.2.2 HK6.out.2.2) HK6.out.1 (by simp [bytP_len]) (by rw [Hb1.out.2.1]; omega)
  rw [Hb1.out.2.1] at hrun7
  have HK7 := Lib.hid (And.intro hk7 ho7)
  clear hrun6 c1 hk7 ho7
  go_wp2_with (at_builtin; refine wpList_append2 (v1 := .slice A6 k6 c6) (v2 := .slice (some ⟨b, 2, none⟩) 32 32) rfl (.tmp 15) (.tmp 17) rfl rfl rfl hrun7 ?_)
  go_ret
  refine ⟨A7, c7, ?_, ?_, HK7.out.2.2⟩
  · rw [HK7.out.1, HF.out]; rfl
  · have := HK7.out.2.1
    rw [HF.out] at this
    exact this
end Go.Proofs.YtdnaahbhfjclpaaGreatDoor

namespace Go.Proofs.YtdnaahbhfjclpaaGreatDoor
open Go.RowKit Go.Sal Go.Pck Go.Huf Go.Cod
theorem bsrc_drop {w : World} {A : Option Addr} {l : List Nat} (h : BySrc w A l) (k c : Nat) (hk : k ≤ l.length) (hc : l.length ≤ c) : BySrc w (if c = k then A else A.map (·.add (k * 1))) (l.drop k) := by
  refine ⟨fun i hi => ?_, fun x hx => h.2 x (List.mem_of_mem_drop hx)⟩
  rw [List.length_drop] at hi
  have hck : c ≠ k := by omega
  obtain ⟨g, o, rfl, hg, hcell⟩ := h.1 (k + i) (by omega)
  exact ⟨g, o + k, by rw [if_neg hck]; simp [add_mk], hg, by rw [Nat.add_assoc, hcell, List.getElem_drop]⟩
def LfS (w : World) (g B : Nat) (rest : List Nat) : Prop := ∃ A c, Blk w g 56 #[.slice A rest.length c] ∧ BySrc w A rest ∧ (∀ a, A = some a → a.block ≠ g ∧ a.block < B) ∧ rest.length ≤ c
theorem LfS.keep {w w' : World} {g B : Nat} {rest : List Nat} {F : List Nat} (h : LfS w g B rest) (k : Keep F w w') (hg : g ∉ F) (hF : ∀ A c, Blk w g 56 #[.slice A rest.length c] → ∀ a, A = some a → a.block ∉ F) : LfS w' g B rest := by
  obtain ⟨A, c, h1, h2, h3, h4⟩ := h
  exact ⟨A, c, h1.keep k hg, h2.keep k (hF A c h1), h3, h4⟩
theorem LfS.keep0 {w w' : World} {g B : Nat} {rest : List Nat} (h : LfS w g B rest) (k : Keep [] w w') : LfS w' g B rest := h.keep k (by simp) (fun _ _ _ a _ => by simp)
set_option maxRecDepth 20000 in
set_option maxHeartbeats 1000000 in
theorem ltake_any (k g B : Nat) (rest : List Nat) (w : World) (h : LfS w g B rest) (hk : k ≤ rest.length) :
    Calls Tryz.prog 26 #[.pointer (some ⟨g, 0, none⟩), .int .i64 (k : Nat)] w fun e w' => ∃ A, e = .returned (.slice A k k) ∧ BySrc w' A (rest.take k) ∧ (∀ a, A = some a → a.block ≠ g ∧ a.block < B) ∧ LfS w' g B (rest.drop k) ∧ Keep [g] w w' := by
  obtain ⟨A, c, hb, hs, hne, hc⟩ := h
  have c0 : w.cell? ⟨g, 0, none⟩ = some (.slice A rest.length c) := by rw [hb.cell]; rfl
  have f0 := hb.free 0
  have hg := hb.lt
  have h1 : ∀ W, (Instr.slice 22 (.slice A rest.length c) none (some (.int .i64 (k : Int))) (some (.int .i64 (k : Int)))).run Tryz.prog W = .ok (.slice A k k) W := fun W => by
    rw [run_slice_hm (P := Tryz.prog) (w := W) 22 A rest.length c (by kernel_rfl) .i64 .i64 (k : Int) (k : Int) (by omega) (by omega) (by omega), show Tryz.prog.elem 22 = 5 by kernel_rfl, Tryz.sizeOf5 W]
    simp only [Result.andThen_ok, sliced, Int.toNat_natCast, Nat.zero_mul, Nat.sub_zero]
    congr 2
    split
    · rfl
    · cases A <;> simp [Addr.add]
  obtain ⟨A2, hA2⟩ : ∃ A2, (if c = k then A else A.map (·.add (k * 1))) = A2 := ⟨_, rfl⟩
  have h2 : ∀ W, (Instr.slice 22 (.slice A rest.length c) (some (.int .i64 (k : Int))) none none).run Tryz.prog W = .ok (.slice A2 (rest.drop k).length (c - k)) W := fun W => by
    rw [List.length_drop, ← hA2]
    exact slice_tail (P := Tryz.prog) 22 5 Tryz.underlying22 A rest.length c k hk W 1 (by kernel_rfl)
  obtain ⟨w1, hw1⟩ : ∃ w1, w.setCell ⟨g, 0, none⟩ (.slice A2 (rest.drop k).length (c - k)) = w1 := ⟨_, rfl⟩
  have hkp : Keep [g] w w1 := by rw [← hw1]; exact (Keep.refl _ w).setCell (.inl (by simp)) _
  have HF : Hid (BySrc w1 A (rest.take k) ∧ (∀ a, A = some a → a.block ≠ g ∧ a.block < B) ∧ LfS w1 g B (rest.drop k) ∧ Keep [g] w w1) := Lib.hid (by
    have hs1 := hs.keep hkp (fun a ha => by simpa using (hne a ha).1)
    refine ⟨bsrc_head hs1 k, hne, ⟨A2, c - k, ?_, ?_, fun a ha => ?_, by rw [List.length_drop]; omega⟩, hkp⟩
    · rw [← hw1]
      have := hb.set_ 0 (.slice A2 (rest.drop k).length (c - k))
      exact this
    · rw [← hA2]; exact bsrc_drop hs1 k c hk hc
    · rw [← hA2] at ha
      split at ha
      · exact hne a ha
      · cases A with
        | none => simp at ha
        | some q =>
          obtain rfl : q.add (k * 1) = a := by simpa using ha
          rw [add_block]
          exact hne q rfl)
  have Hw1 := Lib.hid hw1
  clear hb hs hne hc hA2 hw1 hkp
  generalize (rest.drop k).length = q at *
  go_enter Tryz.func26, Tryz.ntmps26
  go_wp2
  rw [Hw1.out]
  go_ret
  exact ⟨A, rfl, HF.out⟩
set_option maxRecDepth 20000 in
set_option maxHeartbeats 400000 in
theorem lnumber_any (n g B : Nat) (rest : List Nat) (w : World) (h : LfS w g B rest) (hn : n = 2 ∨ n = 4) (hk : n ≤ rest.length) :
    Calls Tryz.prog 25 #[.pointer (some ⟨g, 0, none⟩), .int .i64 (8 * (n : Int))] w fun e w' => e = .returned (.int .i64 (numP 2 (rest.take n) : Nat)) ∧ LfS w' g B (rest.drop n) ∧ Keep [g] w w' := by
  have HT := Lib.hid (ltake_any n g B rest w h hk)
  have hl : (rest.take n).length = n := by rw [List.length_take]; omega
  have hW : ∀ A w', BySrc w' A (rest.take n) → Calls Tryz.prog 44 #[.slice A n n, .int .i64 (8 * (n : Int)), .int .i64 2] w' fun e w'' => e = .returned (.tuple #[.int .u64 (numP 2 (rest.take n) : Nat), .int .i64 0]) ∧ w'' = w' := fun A w' hs => by
    have h1 := word_any n 2 (rest.take n) A n w' (by unfold okB; omega) (.inr rfl) (by omega) (by omega) (by omega) hs
    have e2 : (rest.take n).take n = rest.take n := by rw [List.take_take, Nat.min_self]
    rw [e2] at h1
    have e3 : Value.slice A n n = .slice A (rest.take n).length n := by rw [hl]
    rw [e3]
    exact h1
  have HW := Lib.hid hW
  clear hW
  have hlt : numP 2 (rest.take n) < 2 ^ 32 := by
    obtain ⟨A, c, _, hs, _⟩ := h
    refine Nat.lt_of_lt_of_le (numP_lt 2 (fun x hx => hs.2 x (List.mem_of_mem_take hx))) (Nat.pow_le_pow_right (by omega) ?_)
    rw [hl]; omega
  have hw : IntKind.i64.wrap ((numP 2 (rest.take n) : Nat) : Int) = ((numP 2 (rest.take n) : Nat) : Int) := by rw [IntKind.wrap_i64]; omega
  have hn8 : n ≤ 8 ∧ 1 ≤ n := by omega
  have hwn : IntKind.i64.wrap (n : Int) = (n : Int) := by rw [IntKind.wrap_i64]; omega
  have hq : (8 * (n : Int)).tdiv 8 = (n : Int) := by rw [Int.tdiv_eq_ediv_of_nonneg (by omega)]; omega
  have hq2 : 8 * (n : Int) / 8 = (n : Int) := by omega
  generalize numP 2 (rest.take n) = x at *
  clear hn hk hl hlt h
  go_enter Tryz.func25, Tryz.ntmps25
  go_wp2_with (first
    | (go_at_call 26; refine HT.out.mono ?_; rintro e w1 ⟨A, rfl, hs, -, hL⟩; have HL := Lib.hid hL; have HWA := Lib.hid (HW.out A w1 hs); clear hs hL)
    | (go_at_call 44; refine HWA.out.mono ?_; rintro e w2 ⟨rfl, hww⟩; subst hww))
  go_ret
  exact ⟨rfl, HL.out⟩
end Go.Proofs.YtdnaahbhfjclpaaGreatDoor

