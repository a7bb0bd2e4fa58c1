/- Parts of blocks: loaded in a still region, stored; a hash in memory. -/
import Derived.Test.YtdnaahbhfjclpaaGreatDoorWk
import Derived.Great.BuildSlice
import Derived.Test.YtdnaahbhfjclpaaGreatDoorWc
import Derived.Lib.AppendZerosOnto
import Derived.Test.YtdnaahbhfjclpaaGreatDoorWh
import Derived.Test.YtdnaahbhfjclpaaGreatDoorBase
import Derived.Test.YtdnaahbhfjclpaaGreatDoorShelf
import Derived.Test.YtdnaahbhfjclpaaGreatDoorK3
import Derived.StillTailTactics
set_option linter.unusedVariables false
set_option linter.unusedSimpArgs false
namespace Go.Proofs.YtdnaahbhfjclpaaGreatDoor
open Go.RowKit Go.Sal Go.Pck Go.Huf Go.Cod
def Z8 : Array Value := (inW (List.replicate 8 0)).toArray
structure StpS (w : World) (b0 b2 g5 g6 g7 : Nat) (st S cur : List Nat) (wr : World) : Prop where
  k5 : Blk wr g5 179 (inW S).toArray
  k6 : Blk wr g6 179 (inW kTab).toArray
  k7 : Blk wr g7 115 (inW cur).toArray
  r0 : Blk wr b0 115 (inW st).toArray
  r2 : Blk wr b2 115 Z8
  kp : Keep [] w wr
section
variable {w wr : World} {b0 b2 g5 g6 g7 : Nat} {st S cur : List Nat}
theorem StpS.keep (h : StpS w b0 b2 g5 g6 g7 st S cur wr) {W : World} (k : Keep [] wr W) : StpS w b0 b2 g5 g6 g7 st S cur W :=
  ⟨h.k5.keep k (by simp), h.k6.keep k (by simp), h.k7.keep k (by simp), h.r0.keep k (by simp), h.r2.keep k (by simp), h.kp.trans k⟩
theorem StpS.row (h : StpS w b0 b2 g5 g6 g7 st S cur wr) {cur2 : List Nat} (hn : (inW cur2).toArray.size = 8) (h1 : w.heap.size ≤ g7) (h2 : g7 ≠ b0 ∧ g7 ≠ b2) (h3 : g7 ≠ g5 ∧ g7 ≠ g6) : StpS w b0 b2 g5 g6 g7 st S cur2 (wr.setRow g7 (inW cur2).toArray) :=
  have hf : ∀ {g t : Nat} {cs : Array Value}, g7 ≠ g → Blk wr g t cs → Blk (wr.setRow g7 (inW cur2).toArray) g t cs := fun hne hb => (setRow_other wr g7 _ _ (fun e => hne e.symm)).trans hb
  ⟨hf h3.1 h.k5, hf h3.2 h.k6, blk_same h.k7, hf h2.1 h.r0, hf h2.2 h.r2, keep_setRow h.kp h1 h.k7⟩
theorem cell_inW {g t i : Nat} {l : List Nat} (h : Blk wr g t (inW l).toArray) (hi : i < l.length) : wr.cell? ⟨g, i, none⟩ = some (.int .u32 (l.getD i 0 : Nat)) := by
  rw [h.cell i]; simp [inW, hi]
end
theorem bs1_walk (x : Nat) (h : x < 4294967296) : bits .xor .u32 (bits .xor .u32 ((rr x 6 : Nat) : Int) ((rr x 11 : Nat) : Int)) ((rr x 25 : Nat) : Int) = ((bs1 x : Nat) : Int) := by
  rw [u32_xor_nat _ _ (rr_lt h 6) (rr_lt h 11), u32_xor_nat _ _ (xor_lt (rr_lt h 6) (rr_lt h 11)) (rr_lt h 25)]
  rfl
theorem bs0_walk (x : Nat) (h : x < 4294967296) : bits .xor .u32 (bits .xor .u32 ((rr x 2 : Nat) : Int) ((rr x 13 : Nat) : Int)) ((rr x 22 : Nat) : Int) = ((bs0 x : Nat) : Int) := by
  rw [u32_xor_nat _ _ (rr_lt h 2) (rr_lt h 13), u32_xor_nat _ _ (xor_lt (rr_lt h 2) (rr_lt h 13)) (rr_lt h 22)]
  rfl
theorem chF_walk (e f g : Nat) (he : e < 4294967296) (hf : f < 4294967296) (hg : g < 4294967296) :
    bits .xor .u32 (bits .and .u32 (e : Int) (f : Int)) (bits .and .u32 (bits .xor .u32 (if IntKind.u32.signed = true then -1 else IntKind.u32.max) (e : Int)) (g : Int)) = ((chF e f g : Nat) : Int) := by
  have h0 : bits .xor .u32 (if IntKind.u32.signed = true then -1 else IntKind.u32.max) (e : Int) = ((n32 e : Nat) : Int) := unot32 e he
  rw [h0, u32_and_nat _ _ he hf, u32_and_nat _ _ (n32_lt e) hg, u32_xor_nat _ _ (and_lt he) (and_lt (n32_lt e))]
  rfl
theorem mjF_walk (a b c : Nat) (ha : a < 4294967296) (hb : b < 4294967296) (hc : c < 4294967296) :
    bits .xor .u32 (bits .xor .u32 (bits .and .u32 (a : Int) (b : Int)) (bits .and .u32 (a : Int) (c : Int))) (bits .and .u32 (b : Int) (c : Int)) = ((mjF a b c : Nat) : Int) := by
  rw [u32_and_nat _ _ ha hb, u32_and_nat _ _ ha hc, u32_and_nat _ _ hb hc, u32_xor_nat _ _ (and_lt ha) (and_lt ha), u32_xor_nat _ _ (xor_lt (and_lt ha) (and_lt ha)) (and_lt hb)]
  rfl
def addR (R st : List Nat) (k : Nat) : List Nat := (List.range 8).map fun i => if i < k then a32 (R.getD i 0) (st.getD i 0) else R.getD i 0
theorem addR_len (R st : List Nat) (k : Nat) : (addR R st k).length = 8 := by simp [addR]
theorem addR_zero {R st : List Nat} (h : R.length = 8) : addR R st 0 = R := by
  apply List.ext_getElem (by rw [addR_len, h])
  intro i h1 h2
  simp [addR, List.getD, h2]
theorem addR_all (R st : List Nat) : addR R st 8 = addL R st := by
  unfold addR addL
  apply List.map_congr_left
  intro i hi
  rw [if_pos (List.mem_range.1 hi)]
theorem addR_get {R st : List Nat} {k : Nat} (h : k < 8) : (addR R st k).getD k 0 = R.getD k 0 := by
  simp [addR, List.getD, h]
theorem addR_set {R st : List Nat} {k : Nat} (h : k < 8) : (addR R st k).set k (a32 (R.getD k 0) (st.getD k 0)) = addR R st (k + 1) := by
  apply List.ext_getElem (by rw [List.length_set, addR_len, addR_len])
  intro i h1 h2
  rw [addR_len] at h2
  by_cases hik : k = i
  · subst hik; simp [addR]
  · rw [List.getElem_set_ne hik]
    simp only [addR, List.getElem_map, List.getElem_range]
    by_cases h3 : i < k
    · rw [if_pos h3, if_pos (by omega)]
    · rw [if_neg h3, if_neg (by omega)]
theorem StpS.set {w wr : World} {b0 b2 g5 g6 g7 k v : Nat} {st S cur : List Nat} (h : StpS w b0 b2 g5 g6 g7 st S cur wr) (h1 : w.heap.size ≤ g7) (h2 : g7 ≠ b0 ∧ g7 ≠ b2) (h3 : g7 ≠ g5 ∧ g7 ≠ g6) :
    StpS w b0 b2 g5 g6 g7 st S (cur.set k v) (wr.setCell ⟨g7, k, none⟩ (.int .u32 (v : Nat))) :=
  ⟨h.k5.far h3.1.symm _, h.k6.far h3.2.symm _, by have := h.k7.set_ k (.int .u32 (v : Nat)); simpa [inW, List.map_set] using this, h.r0.far h2.1.symm _, h.r2.far h2.2.symm _, h.kp.setCell (.inr h1) _⟩
theorem run_index_arr {P : Program} (t e n k size : Nat) (C : Array Value) (v : Value) (d : TypeDesc) (W : World) (ht : P.underlying t = some (.array n e)) (he : P.underlying e = some d) (hd : d.isRow = false) (hs : (P.info? e).map (·.size) = some 1) (hk : k < n) (hC : C[k]? = some v) :
    (Instr.index t (.agg C) (.int .i64 (k : Nat))).run P W = .ok v W := by
  cases hx : P.info? e with
  | none => rw [hx] at hs; cases hs
  | some i =>
    have hs1 : i.size = 1 := by simpa [hx] using hs
    have hagg : (isAgg e).run P W = .ok false W := by
      unfold isAgg
      rw [Sem.run_bind, run_underlying he W]
      cases d <;> simp_all
    simp [Instr.index, asIntOf, run_underlying ht, sizeOf, typeInfo, hx, hs1, part, hagg, hC, hk]
theorem built115 (a b c d e f g h : Nat) : Tryz.prog.built 115 [(0, .int .u32 (a : Int)), (1, .int .u32 (b : Int)), (2, .int .u32 (c : Int)), (3, .int .u32 (d : Int)), (4, .int .u32 (e : Int)), (5, .int .u32 (f : Int)), (6, .int .u32 (g : Int)), (7, .int .u32 (h : Int))] = some (inW [a, b, c, d, e, f, g, h]).toArray := by kernel_rfl
set_option maxRecDepth 20000 in
set_option maxHeartbeats 1000000 in
theorem step_any (st b : List Nat) (w : World) (hst : st.length = 8) (hw : w32 st) (hl : b.length = 64) (hb : ∀ x ∈ b, x < 256) :
    Calls Tryz.prog 76 #[.agg (inW st).toArray, .agg (inB b).toArray] w fun e w' => e = .returned (enc32 (stepS st b)) ∧ Keep [] w w' := by
  go_enter Tryz.func76, Tryz.ntmps76
  go_upto_region 1 with (fail)
  obtain ⟨w3, hw3⟩ : ∃ w3, (((w.alloc (.cells (inW st).toArray 115)).alloc (.cells (inB b).toArray 120)).alloc (.cells Z8 115)) = w3 := ⟨_, rfl⟩
  have hb0 : Blk w3 w.heap.size 115 (inW st).toArray := by subst hw3; exact ((Blk.new w 115 _).alloc _).alloc _
  have hb1 : Blk w3 (w.heap.size + 1) 120 (inB b).toArray := by subst hw3; exact (blk_at (by rw [size_al]) 120 _).alloc _
  have hb2 : Blk w3 (w.heap.size + 1 + 1) 115 Z8 := by subst hw3; exact blk_at (by rw [size_al, size_al]) 115 _
  have hkp : Keep [] w w3 := by subst hw3; exact (((Keep.refl [] w).alloc _).alloc _).alloc _
  have hsz : w3.heap.size = w.heap.size + 1 + 1 + 1 := by subst hw3; rw [size_al, size_al, size_al]
  change Code.wp _ _ _ _ (((w.alloc (.cells (inW st).toArray 115)).alloc (.cells (inB b).toArray 120)).alloc (.cells Z8 115))
  rw [hw3]
  refine region76 w3 w.heap.size (w.heap.size + 1) _ _ _ st b hb0 hb1 hst hl hb ?_
  intro g5 g6 g7 W h5 h6 h7 k5 k6 k7 kW h56
  simp only [F76, pt]
  generalize hb0e : w.heap.size = b0 at *
  generalize hb1e : b0 + 1 = b1 at *
  generalize hb2e : b1 + 1 = b2 at *
  have hH : Hid (w.heap.size ≤ b2) := Lib.hid (by omega)
  have HH : Hid (w.heap.size ≤ g7 ∧ (g7 ≠ b0 ∧ g7 ≠ b2) ∧ (g7 ≠ g5 ∧ g7 ≠ g6)) := Lib.hid ⟨by omega, ⟨by omega, by omega⟩, fun e => (k5.ne_ k7 (by decide) e.symm), fun e => (k6.ne_ k7 (by decide) e.symm)⟩
  have H0 : Hid (StpS w b0 b2 g5 g6 g7 st (sched b) (rnds (sched b) st 0) W) := Lib.hid ⟨k5, k6, k7, hb0.keep kW (by simp), hb2.keep kW (by simp), hkp.trans kW⟩
  have HF : Hid (enc32 (stepS st b) = enc32 (addL (rnds (sched b) st 64) st)) := Lib.hid rfl
  have HS := Lib.hid (sched_w hb)
  have HSl := Lib.hid (sched_len b)
  have Hw := Lib.hid hw
  have HZ := Lib.hid hst
  generalize enc32 (sched b) = E1 at *
  generalize enc32 kTab = E2 at *
  generalize enc32 st = E3 at *
  generalize sched b = S at *
  clear hw hb hst hl k5 k6 k7 hb0 hb1 hb2 hkp kW hsz hb0e hb1e hb2e hw3 h5 h6 h7 h56
  go_wp2
  go_loopw [23, 8, 9, 10, 11, 12, 13, 14, 15, 16] (fun v23 v8 v9 v10 v11 v12 v13 v14 v15 v16 wr => ∃ k : Nat, v23 = .int .i64 k ∧ k ≤ 64 ∧ Hid (StpS w b0 b2 g5 g6 g7 st S (rnds S st k) wr)) (fun v23 _ _ _ _ _ _ _ _ _ _ => 64 - (intOf v23).toNat)
  case atStart => exact ⟨0, rfl, by omega, H0⟩
  case round =>
    obtain ⟨k, rfl, hk, hI⟩ := hrel
    clear H0
    rcases Nat.lt_or_ge k 64 with hk16 | hk16
    · as_aux_lemma =>
        have hki : (k : Int) < 64 := by omega
        have hwk : IntKind.i64.wrap ((k : Int) + 1) = (k : Int) + 1 := by rw [IntKind.wrap_i64]; omega
        have hS := hI.out
        have hcw := rnds_w S st Hw.out k
        have hcl := rnds_len S st HZ.out k
        have HN : Hid (rnd (rnds S st k) (kTab.getD k 0) (S.getD k 0) = rnds S st (k + 1)) := Lib.hid rfl
        generalize rnds S st k = cur at *
        generalize hc2 : rnds S st (k + 1) = cur2 at *
        have Hc2 := Lib.hid hc2
        clear hc2
        have hx := w32_get hcw
        have c0 := cell_inW hS.k7 (i := 0) (by omega)
        have c1 := cell_inW hS.k7 (i := 1) (by omega)
        have c2 := cell_inW hS.k7 (i := 2) (by omega)
        have c3 := cell_inW hS.k7 (i := 3) (by omega)
        have c4 := cell_inW hS.k7 (i := 4) (by omega)
        have c5 := cell_inW hS.k7 (i := 5) (by omega)
        have c6 := cell_inW hS.k7 (i := 6) (by omega)
        have c7 := cell_inW hS.k7 (i := 7) (by omega)
        have cw := cell_inW hS.k5 (i := k) (by have := HSl.out; omega)
        have ck := cell_inW hS.k6 (i := k) (by show k < 64; exact hk16)
        have hc0 := hx 0
        have hc1 := hx 1
        have hc2 := hx 2
        have hc3 := hx 3
        have hc4 := hx 4
        have hc5 := hx 5
        have hc6 := hx 6
        have hc7 := hx 7
        have hcw2 := w32_get HS.out k
        have hck : kTab.getD k 0 < 4294967296 := w32_get (by unfold w32 kTab; decide) k
        have hall : ∀ W, StpS w b0 b2 g5 g6 g7 st S cur W → W.cell? ⟨g7, 0, none⟩ = some (.int .u32 (cur.getD 0 0 : Nat)) ∧ W.cell? ⟨g7, 1, none⟩ = some (.int .u32 (cur.getD 1 0 : Nat)) ∧ W.cell? ⟨g7, 2, none⟩ = some (.int .u32 (cur.getD 2 0 : Nat)) ∧ W.cell? ⟨g7, 3, none⟩ = some (.int .u32 (cur.getD 3 0 : Nat)) ∧
            W.cell? ⟨g7, 4, none⟩ = some (.int .u32 (cur.getD 4 0 : Nat)) ∧ W.cell? ⟨g7, 5, none⟩ = some (.int .u32 (cur.getD 5 0 : Nat)) ∧ W.cell? ⟨g7, 6, none⟩ = some (.int .u32 (cur.getD 6 0 : Nat)) ∧ W.cell? ⟨g7, 7, none⟩ = some (.int .u32 (cur.getD 7 0 : Nat)) := fun W h =>
          ⟨cell_inW h.k7 (by omega), cell_inW h.k7 (by omega), cell_inW h.k7 (by omega), cell_inW h.k7 (by omega), cell_inW h.k7 (by omega), cell_inW h.k7 (by omega), cell_inW h.k7 (by omega), cell_inW h.k7 (by omega)⟩
        have e := HN.out
        unfold rnd tt1 tt2 at e
        generalize cur.getD 0 0 = s0 at *
        generalize cur.getD 1 0 = s1 at *
        generalize cur.getD 2 0 = s2 at *
        generalize cur.getD 3 0 = s3 at *
        generalize cur.getD 4 0 = s4 at *
        generalize cur.getD 5 0 = s5 at *
        generalize cur.getD 6 0 = s6 at *
        generalize cur.getD 7 0 = s7 at *
        generalize kTab.getD k 0 = kk at *
        generalize S.getD k 0 = ww at *
        have He := Lib.hid e
        have Hall := Lib.hid hall
        clear hall
        have HS7 := Lib.hid hS
        clear e HN hx hS hI hcw HS Hw HSl HZ
        go_upto_region 5 with (fail)
        go_quiet (fail)
        generalize nq = n1 at *
        go_upto_region 6 with (fail)
        go_quiet ((go_at_call 123; refine (right_z _ _ _ (by assumption) (by decide)).mono ?_; rintro e w' ⟨rfl, rfl⟩; exact ⟨rfl, _, rfl⟩))
        go_upto_region 8 with (go_at_call 123; refine (right_z _ _ _ (by assumption) (by decide)).mono ?_; rintro e w' ⟨rfl, rfl⟩)
        rw [bs1_walk s4 hc4, bs0_walk s0 hc0, chF_walk s4 s5 s6 hc4 hc5 hc6, mjF_walk s0 s1 s2 hc0 hc1 hc2]
        obtain ⟨q1, hq1⟩ : ∃ q, q = a32 (a32 (a32 (a32 s7 (bs1 s4)) (chF s4 s5 s6)) kk) ww := ⟨_, rfl⟩
        obtain ⟨q2, hq2⟩ : ∃ q, q = a32 (bs0 s0) (mjF s0 s1 s2) := ⟨_, rfl⟩
        have e1 : ((s7 : Int) + (bs1 s4 : Nat) + (chF s4 s5 s6 : Nat) + kk + ww) % 4294967296 = (q1 : Int) := by rw [hq1]; unfold a32; omega
        have e2 : (((bs0 s0 : Nat) : Int) + (mjF s0 s1 s2 : Nat)) % 4294967296 = (q2 : Int) := by rw [hq2]; unfold a32; omega
        rw [e1, e2]
        rw [← hq1, ← hq2] at He
        clear hq1 hq2 e1 e2
        have hKW : ∀ n, Keep [] wr (wr.drewN n) := fun n => (Keep.refl [] wr).drewN n
        obtain ⟨w5, hw5, HS8⟩ : ∃ w5, wr.drewN (n1 + nq) = w5 ∧ StpS w b0 b2 g5 g6 g7 st S cur w5 := ⟨_, rfl, HS7.out.keep (hKW _)⟩
        rw [hw5]
        clear hw5 hKW c0 c1 c2 c3 c4 c5 c6 c7 cw ck HS7
        obtain ⟨c0, c1, c2, c3, c4, c5, c6, c7⟩ := Hall.out w5 HS8
        have hk7 := HS8.k7
        have hsz : (inW cur).toArray.size = 8 := by simp [inW, hcl]
        have HS9 := Lib.hid HS8
        have Hk7 := Lib.hid hk7
        have Hsz := Lib.hid hsz
        have ha3 : IntKind.u32.wrap ((s3 : Int) + q1) = ((a32 s3 q1 : Nat) : Int) := by rw [IntKind.wrap_u32]; unfold a32; omega
        have ha0 : IntKind.u32.wrap ((q1 : Int) + q2) = ((a32 q1 q2 : Nat) : Int) := by rw [IntKind.wrap_u32]; unfold a32; omega
        clear HS8 Hall hk7 hsz
        generalize a32 s3 q1 = x4 at *
        generalize a32 q1 q2 = x0 at *
        refine wp_region_lit ?_
        iterate 13 (refine wpList_plain rfl (fun K hK => ?_); go_simp; refine hK _ _ ?_; clear hK K)
        refine wpList_buildTo rfl 115 _ rfl (some 99) rfl (inW cur2).toArray ?hf ?_
        case hf =>
          rewrite [← He.out]
          simp only [List.map_toArray, List.map_cons, List.map_nil]
          go_simp
          exact built115 _ _ _ _ _ _ _ _
        have hV8 : (inW cur2).toArray.size = 8 := by rw [← He.out]; rfl
        have hone : (inW cur2).toArray.all (·.oneCell') = true := all_oneCell_toArray (inW_one cur2)
        have HV := Lib.hid (And.intro hV8 hone)
        have HN : Hid (StpS w b0 b2 g5 g6 g7 st S cur2 (w5.setRow g7 (inW cur2).toArray)) := Lib.hid (HS9.out.row hV8 HH.out.1 HH.out.2.1 HH.out.2.2)
        have Hi : Hid ((Tryz.prog.info? 115).map (·.size) = some (inW cur2).toArray.size) := Lib.hid (by rw [hV8]; exact size115)
        clear He hV8 hone
        generalize (inW cur2).toArray = V at *
        simp only [Act.put, List.setIfInBounds_toArray, List.set_cons_zero, List.set_cons_succ]
        refine wpList_store_rowTo rfl 115 (.tmp 7) (.tmp 99) rfl rfl g7 V (by kernel_rfl) (by kernel_rfl) 115 (inW cur).toArray Hk7.out Hi.out (by rw [HV.out.1]; exact Hsz.out) HV.out.2 ?_
        go_wp2
        exact ⟨⟨k + 1, by simp, by omega, by rw [Hc2.out]; exact HN⟩, by simp [intOf]; omega⟩
    · as_aux_lemma =>
        obtain rfl : k = 64 := by omega
        have HI1 := Lib.hid hI.out
        have HR8 := Lib.hid (rnds_len S st HZ.out 64)
        have HRw := Lib.hid (rnds_w S st Hw.out 64)
        clear hI hk16 hk HS HSl
        generalize rnds S st 64 = R at *
        have Hst : Hid (Blk wr b0 115 (inW st).toArray ∧ (Tryz.prog.info? 115).map (·.size) = some (inW st).toArray.size) := Lib.hid ⟨HI1.out.r0, by rw [size115]; simp [inW, HZ.out]⟩
        have HC : Hid (∀ k, k < 8 → (inW st).toArray[k]? = some (.int .u32 (st.getD k 0 : Nat))) := Lib.hid (fun k hk => by have := HZ.out; simp [inW, show k < st.length by omega])
        have H8 : Hid (StpS w b0 b2 g5 g6 g7 st S (addR R st 0) wr) := Lib.hid (by rw [addR_zero HR8.out]; exact HI1.out)
        have HF2 : Hid (enc32 (stepS st b) = enc32 (addR R st 8)) := Lib.hid (by rw [HF.out, addR_all])
        clear HF
        have hz64 : ((64 : Nat) : Int) = 64 := rfl
        generalize (inW st).toArray = C at *
        go_upto_region 10 with (fail)
        refine wp_region_lit ?_
        refine wpList_load_row rfl 115 (.tmp 2) rfl b0 rfl 115 C (0, 0) _ Hst.out.1 Tryz.underlying115 rfl Hst.out.2 ?_
        go_wp2
        clear HI1 Hst hz64
        go_loopw [102, 17, 18] (fun v102 v17 v18 w2 => ∃ k : Nat, v102 = .int .i64 k ∧ k ≤ 8 ∧ Hid (StpS w b0 b2 g5 g6 g7 st S (addR R st k) w2)) (fun v102 _ _ _ => 8 - (intOf v102).toNat)
        case atStart => exact ⟨0, rfl, by omega, H8⟩
        case round =>
          obtain ⟨k, rfl, hk, hI⟩ := hrel
          clear H8
          rcases Nat.lt_or_ge k 8 with hk16 | hk16
          · as_aux_lemma =>
              have hki : (k : Int) < 8 := by omega
              have hwk : IntKind.i64.wrap ((k : Int) + 1) = (k : Int) + 1 := by rw [IntKind.wrap_i64]; omega
              have hS := hI.out
              have hlen := addR_len R st k
              have c0 := cell_inW hS.k7 (i := k) (by omega)
              have c1 := hS.k7.free k
              have c2 := hS.k7.lt
              have c3 := fun W => run_index_arr (P := Tryz.prog) 115 64 8 k 1 C _ _ W Tryz.underlying115 Tryz.underlying64 rfl (by kernel_rfl) hk16 (HC.out k hk16)
              have hadd := addR_set (R := R) (st := st) hk16
              have hset := hS.set (k := k) (v := a32 (R.getD k 0) (st.getD k 0)) HH.out.1 HH.out.2.1 HH.out.2.2
              rw [hadd] at hset
              have hgk : (addR R st k).getD k 0 = R.getD k 0 := addR_get hk16
              rw [hgk] at c0
              have hx := w32_get HRw.out k
              have hy := w32_get Hw.out k
              have HN := Lib.hid hset
              have hv : IntKind.u32.wrap (((R.getD k 0 : Nat) : Int) + (st.getD k 0 : Nat)) = ((a32 (R.getD k 0) (st.getD k 0) : Nat) : Int) := by rw [IntKind.wrap_u32]; unfold a32; omega
              generalize a32 (R.getD k 0) (st.getD k 0) = z at *
              generalize R.getD k 0 = x at *
              generalize st.getD k 0 = y at *
              clear hS hI hlen hadd hset hgk HC HRw Hw HF2
              go_wp2
              exact ⟨⟨k + 1, by simp, by omega, HN⟩, by simp [intOf]; omega⟩
          · as_aux_lemma =>
              obtain rfl : k = 8 := by omega
              have hS := hI.out
              have hlen := addR_len R st 8
              have hrow := hS.k7
              have hres := hS.r2
              have hszS : (inW (addR R st 8)).toArray.size = 8 := by simp [inW, hlen]
              have hszZ : Z8.size = 8 := rfl
              have hone := all_oneCell_toArray (inW_one (addR R st 8))
              have HR : Hid (enc32 (addR R st 8) = .agg (inW (addR R st 8)).toArray) := Lib.hid rfl
              have hb2 : Blk (wr.setRow b2 (inW (addR R st 8)).toArray) b2 115 (inW (addR R st 8)).toArray := blk_same hres
              have HFF := Lib.hid (And.intro hb2 (keep_setRow (c := (inW (addR R st 8)).toArray) hS.kp (by have := hH.out; omega) hres))
              generalize (inW (addR R st 8)).toArray = D at *
              generalize Z8 = Z at *
              clear hI hS hlen HC HRw Hw hb2
              go_upto_region 15 with (fail)
              refine wp_region_lit ?_
              refine wpList_load_row rfl 115 (.tmp 7) rfl g7 rfl 115 D (0, 0) _ hrow Tryz.underlying115 rfl (by rw [hszS]; exact size115) ?_
              refine wpList_store_row rfl 115 (.tmp 4) (.tmp 113) rfl b2 D rfl rfl 115 Z hres (by rw [hszS]; exact size115) (by rw [hszS, hszZ]) hone ?_
              go_wp2
              refine bodyPost_ret (v := .agg D) (results_cell_row (ty := 115) rfl _ _ b2 115 _ (0, 0) _ rfl HFF.out.1 Tryz.underlying115 rfl (by rw [hszS]; exact size115)) rfl ⟨by rw [HF2.out, HR.out], HFF.out.2⟩
end Go.Proofs.YtdnaahbhfjclpaaGreatDoor

namespace Go.Sal
open Go.RowKit
theorem zeroCells_one (z : Value) (n : Nat) : Builtin.zeroCells #[z] n = (List.replicate n z).toArray := by
  apply Array.ext
  · simp [Builtin.zeroCells]
  · intro i h1 h2
    simp [Builtin.zeroCells, Nat.mod_one]
section
variable {P : Program} (w : World)
theorem run_append_zeros_own (base : Nat) (t tn ty e : TypeId) (i : TypeInfo) (z : Value) (kq kn : IntKind) (ht : P.underlying t = some (.slice e)) (htn : P.underlying tn = some (.int kn)) (hi : P.info? e = some i) (hz : i.zero = some z)
    (hsize : i.size = 1) (hby : i.bytes = 1) (hzc : z.cells = #[z]) (hz1 : z.oneCell' = true) (v : Value) (n : Nat) (xs : List Value) (hown : w.ownsRow base e 1 v n xs) (k : Nat) (hk : n + k ≤ 1000000) (hbase : base ≤ w.heap.size) :
    ∃ v' w', (Builtin.append_ #[t, tn] ty #[v, .int kq k]).run P w = .ok v' w' ∧ w'.ownsRow base e 1 v' (n + k) (xs ++ List.replicate k z) ∧ w.grownBy w' v.ownBlock := by
  have hlen : (xs ++ List.replicate k z).length = (n + k) * 1 := by rw [List.length_append, hown.1, List.length_replicate]; omega
  have hxl := hown.1
  have grown : ∀ (old : Nat), old < n + k → ∀ (row : Option Nat),
      (w.drew.alloc (.cells (xs.toArray ++ Builtin.zeroCells z.cells k ++ Builtin.zeroCells z.cells (grownCap w (n + k) old e - (n + k))) e)).ownsRow base e 1
        (.slice (some ⟨w.heap.size, 0, none⟩) (n + k) (grownCap w (n + k) old e)) (n + k) (xs ++ List.replicate k z) ∧
      w.grownBy (w.drew.alloc (.cells (xs.toArray ++ Builtin.zeroCells z.cells k ++ Builtin.zeroCells z.cells (grownCap w (n + k) old e - (n + k))) e)) row := by
    intro old ho row
    have hge := grownCap_ge w (n + k) old e
    have hcm : grownCap w (n + k) old e ≤ maxLen := grownCap_le_maxLen w (n + k) old e (by unfold maxLen; omega)
    refine ⟨⟨hlen, .inr ⟨w.heap.size, _, _, rfl, hbase, heap_alloc_new w.drew _, hge, hcm, ?_, ?_⟩⟩, ⟨rfl, rfl, rfl, by simp, fun j hj _ => Below.heap_alloc w.drew _ j hj⟩⟩
    · rw [hzc, zeroCells_one, zeroCells_one]
      simp only [Array.size_append, List.size_toArray, List.length_replicate]
      omega
    · rw [hzc, zeroCells_one, zeroCells_one]
      simp only [Array.toList_append, List.append_assoc]
      rw [← List.append_assoc, ← hlen]
      exact List.take_left
  have hw : IntKind.i64.wrap (k : Int) = k := by rw [IntKind.wrap_i64]; omega
  have hw0 : IntKind.i64.wrap 0 = 0 := by rw [IntKind.wrap_i64]; rfl
  have hneg : ¬ ((k : Int) < 0) := by omega
  have h48i : ¬ (281474976710656 < (k : Int)) := by omega
  rcases hown.2 with ⟨rfl, rfl⟩ | ⟨g, cap, cur, rfl, hbg, hg, hnc, hcm, hcs, htake⟩
  · have hx : xs = [] := List.eq_nil_of_length_eq_zero (by simpa using hown.1)
    subst hx
    by_cases hm : k = 0
    · subst hm
      refine ⟨.slice none 0 0, w, ?_, World.ownsRow_nil w base e 1, ⟨rfl, rfl, rfl, Nat.le_refl _, fun _ _ _ => rfl⟩⟩
      simp [Builtin.append_, run_underlying ht, run_underlying htn, sizeOf, typeInfo, hi, asInt, asIntOf, hby, hw0]
    · have hr := Lib.run_append_nil_zeros (P := P) w t tn ty e i z kq kn ht htn hi hz k (by omega) (by omega) (by omega) (by rw [hby]; omega)
      have hgr := grown 0 (by omega) (Value.ownBlock (.slice none 0 0))
      simp only [Nat.zero_add, List.nil_append, Array.empty_append] at hgr ⊢
      exact ⟨_, _, hr, hgr.1, hgr.2⟩
  · by_cases hroom : n + k ≤ cap
    · by_cases hm : k = 0
      · subst hm
        refine ⟨.slice (some ⟨g, 0, none⟩) n cap, w, ?_, by simpa using hown, ⟨rfl, rfl, rfl, Nat.le_refl _, fun _ _ _ => rfl⟩⟩
        simp [Builtin.append_, run_underlying ht, run_underlying htn, sizeOf, typeInfo, hi, asInt, asIntOf, hby, hnc, storeCells, hsize, hw0]
      · have hfit : n * 1 + (List.replicate k z).length ≤ cur.size := by rw [List.length_replicate, hcs]; omega
        have hst := run_storeCells_at P g (n * 1) e (List.replicate k z) 0 cur w hg (by simpa using hfit) (fun u hu => by rw [(List.mem_replicate.1 hu).2]; exact hz1)
        simp only [Nat.add_zero] at hst
        have hr : (Builtin.append_ #[t, tn] ty #[.slice (some ⟨g, 0, none⟩) n cap, .int kq k]).run P w =
            .ok (.slice (some ⟨g, 0, none⟩) (n + k) cap) (w.setRow g (cur.toList.take (n * 1) ++ List.replicate k z ++ cur.toList.drop (n * 1 + (List.replicate k z).length)).toArray) := by
          simp [Builtin.append_, run_underlying ht, run_underlying htn, sizeOf, typeInfo, zeroValue, hi, hz, asInt, asIntOf, hw, hneg, hsize, hby, h48i, hroom, Addr.add_lit, hst, hm, hzc, zeroCells_one]
          have h2 : (storeCells ⟨g, n, none⟩ (List.replicate k z)).run P w = .ok () (w.setRow g (List.take n cur.toList ++ (List.replicate k z ++ List.drop (n + k) cur.toList)).toArray) := by simpa using hst
          rw [h2]
          rfl
        refine ⟨_, _, hr, ⟨hlen, .inr ⟨g, cap, _, rfl, hbg, setRow_heap w g cur _ e _ hg, hroom, hcm, ?_, ?_⟩⟩, ⟨rfl, rfl, rfl, by simp, fun k _ hk => setRow_other w g k _ (fun e => hk (by simp [Value.ownBlock, e]))⟩⟩
        · simp only [List.size_toArray, List.length_append, List.length_take, List.length_drop, Array.length_toList, List.length_replicate]
          omega
        · simp only [List.toList_toArray]
          rw [htake, ← hlen]
          exact List.take_left
    · have hold : (Builtin.firstCells i.size n (.slice (some ⟨g, 0, none⟩) n cap)).run P w.drew = .ok xs.toArray w.drew :=
        run_firstCells_some (P := P) w.drew i.size n ⟨g, 0, none⟩ n cap xs (by rw [hsize]; exact hown.1) (hown.cells (g := g) rfl)
      have hr := Lib.run_append_grow_zeros (P := P) w t tn ty e i z kq kn ht htn hi hz (some ⟨g, 0, none⟩) n cap xs hold k (by omega) (by omega) (by omega) (by omega) (by rw [hby]; omega)
        (by rw [hby]; exact growslice_fits (by omega) (by omega))
      have hgr := grown cap (by omega) (Value.ownBlock (.slice (some ⟨g, 0, none⟩) n cap))
      exact ⟨_, _, hr, hgr.1, hgr.2⟩
end
end Go.Sal

namespace Go.Pck
theorem bytP_be8 (x : Nat) : bytP 1 8 x = be8 x := by simp [bytP, shF, be8, List.range_succ]
theorem bytP_be4 (x : Nat) : bytP 1 4 x = be4 x := by simp [bytP, shF, be4, List.range_succ]
end Go.Pck
namespace Go.Proofs.YtdnaahbhfjclpaaGreatDoor
open Go.RowKit Go.Sal Go.Pck Go.Huf Go.Cod
theorem zeros_app {base n c : Nat} {A : Option Addr} {f : List Nat} {w : World} (tn : TypeId) (kn : IntKind) (htn : Tryz.prog.underlying tn = some (.int kn)) (h : w.ownsRow base 5 1 (.slice A n c) n (inB f)) (k : Nat) (hk : n + k ≤ 1000000) (hB : base ≤ w.heap.size) :
    ∃ A' c' w' m, m = n + k ∧ (Builtin.append_ #[22, tn] 22 #[.slice A n c, .int kn k]).run Tryz.prog w = .ok (.slice A' m c') w' ∧
      w'.ownsRow base 5 1 (.slice A' m c') m (inB (f ++ List.replicate k 0)) ∧ Keep (Value.slice A n c).ownBlock.toList w w' := by
  obtain ⟨i, hi, hz, hs, hby⟩ : ∃ i, Tryz.prog.info? 5 = some i ∧ i.zero = some (.int .u8 0) ∧ i.size = 1 ∧ i.bytes = 1 := by
    cases hx : Tryz.prog.info? 5 with
    | none => have := u8info; rw [hx] at this; cases this
    | some i =>
      have := u8info
      rw [hx] at this
      simp only [Option.map_some, Option.some.injEq, Prod.mk.injEq] at this
      exact ⟨i, rfl, this.1, this.2.1, this.2.2⟩
  obtain ⟨v', w', hrun, hown, hg⟩ := run_append_zeros_own (P := Tryz.prog) w base 22 tn 22 5 i (.int .u8 0) kn kn Tryz.underlying22 htn hi hz hs hby rfl rfl (.slice A n c) n (inB f) h k hk hB
  obtain ⟨A', c', rfl, _⟩ := own_slice hown
  exact ⟨A', c', w', _, rfl, hrun, by simpa [inB] using hown, (Keep.refl _ w).grown hg (fun k hk => .inl (by simp [hk]))⟩
theorem row1 (w : World) (x base : Nat) (hb : base ≤ w.heap.size) : (w.alloc (.cells #[.int .u8 (x : Nat)] 5)).ownsRow base 5 1 (.slice (some ⟨w.heap.size, 0, none⟩) 1 1) 1 (inB [x]) :=
  ⟨rfl, .inr ⟨w.heap.size, 1, _, rfl, hb, heap_alloc_new w _, Nat.le_refl _, by simp [maxLen], rfl, rfl⟩⟩
set_option maxRecDepth 20000 in
set_option maxHeartbeats 2000000 in
theorem pad_any (n : Nat) (w : World) (hn : n ≤ 1000000) : Calls Tryz.prog 77 #[.int .u64 (n : Nat)] w fun e w' => RowB w (padB n) e w' := by
  obtain ⟨q, hq⟩ : ∃ q, q = (119 - n % 64) % 64 := ⟨_, rfl⟩
  obtain ⟨r, hr⟩ : ∃ r, r = n % 64 := ⟨_, rfl⟩
  have e1 : (n : Int).tmod 64 = (r : Int) := by rw [Int.tmod_eq_emod_of_nonneg (by omega)]; omega
  have e2 : (n : Int) % 64 = (r : Int) := by omega
  have e3 : IntKind.u64.wrap (119 - (r : Int)) = 119 - (r : Int) := by rw [IntKind.wrap_u64]; omega
  have e4 : (119 - (r : Int)) % 64 = (q : Int) := by omega
  have e5 : (119 - (r : Int)).tmod 64 = (q : Int) := by rw [Int.tmod_eq_emod_of_nonneg (by omega)]; omega
  have e6 : IntKind.u64.wrap ((n : Int) * 8) = ((n * 8 : Nat) : Int) := by rw [IntKind.wrap_u64]; omega
  have hB := bytes_any (n * 8) 8 1 (by omega) (by unfold okB; omega) (.inl rfl)
  have HB : Hid (∀ w, Calls Tryz.prog 36 #[.int .u64 ((n * 8 : Nat) : Int), .int .i64 64, .int .i64 1] w fun e w' => ∃ A c, e = .returned (.tuple #[.slice A 8 c, .int .i64 0]) ∧ w'.ownsRow w.heap.size 5 1 (.slice A 8 c) 8 (inB (be8 (n * 8))) ∧ Keep [] w w') :=
    Lib.hid (by rw [bytP_be8] at hB; exact hB)
  obtain ⟨A1, c1, w1, m1, hm1, hrun1, hown1, hk1⟩ := zeros_app 69 .u64 Tryz.underlying69 (row1 w 128 w.heap.size (Nat.le_refl _)) q (by omega) (by simp)
  have Hk1 : Keep [] w w1 := ((Keep.refl [] w).alloc (.cells #[.int .u8 ((128 : Nat) : Int)] 5)).step hk1 (fun i hi => .inr (own_far (row1 w 128 w.heap.size (Nat.le_refl _)) i hi))
  have hall : ∀ w2 A2 c2, w2.ownsRow w1.heap.size 5 1 (.slice A2 8 c2) 8 (inB (be8 (n * 8))) → Keep [] w1 w2 →
      ∃ A3 c3 w3 k3, (Builtin.append_ #[22, 22] 22 #[.slice A1 m1 c1, .slice A2 8 c2]).run Tryz.prog w2 = .ok (.slice A3 k3 c3) w3 ∧ RowB w (padB n) (.returned (.slice A3 k3 c3)) w3 := by
    intro w2 A2 c2 ho hk
    have h1 := ownsRow_keep hown1 hk (by simp)
    obtain ⟨A3, c3, w3, k3, hk3, hrun3, hown3, hkp3⟩ := bytes_app' (d := c2) h1 (Src.of_own ho) (by omega) (by omega) (Nat.le_trans Hk1.size hk.size)
    refine ⟨A3, c3, w3, k3, hrun3, A3, c3, ?_, ?_, (Hk1.trans hk).step hkp3 (fun i hi => .inr (own_far h1 i hi))⟩
    · have := own_b hown3
      rw [this]
      simp [padB, hq]
    · have e : [128] ++ List.replicate q 0 ++ be8 (n * 8) = padB n := by simp [padB, hq]
      rw [e] at hown3
      have := own_b hown3
      rw [← this]
      exact hown3
  have Hall := Lib.hid hall
  clear hB hn hall hown1 hk1 Hk1 hm1 hq hr
  go_enter Tryz.func77, Tryz.ntmps77
  go_wp2_with (first
    | (go_at_call 36; refine (HB.out _).mono ?_; rintro e w2 ⟨A2, c2, rfl, HO⟩; obtain ⟨A3, c3, w3, k3, hrun3, HR⟩ := Hall.out w2 A2 c2 HO.1 HO.2; have HR := Lib.hid HR; clear HO Hall)
    | (at_builtin; refine wpList_append2 (v1 := .slice (some ⟨w.heap.size, 0, none⟩) 1 1) (v2 := .int .u64 q) rfl (.tmp 11) (.tmp 12) rfl rfl rfl hrun1 ?_)
    | (at_builtin; refine wpList_append2 (v1 := .slice A1 m1 c1) (v2 := .slice A2 8 c2) rfl (.tmp 20) (.tmp 21) rfl rfl rfl hrun3 ?_))
  go_ret
  exact HR.out
end Go.Proofs.YtdnaahbhfjclpaaGreatDoor

namespace Go.Proofs.YtdnaahbhfjclpaaGreatDoor
open Go.RowKit Go.Sal Go.Huf Go.Cod
theorem clone_any (l : List Nat) (A : Option Addr) (c : Nat) (w : World) (hs : BySrc w A l) (hl : l.length ≤ 1000000) :
    Calls Tryz.prog 60 #[.slice A l.length c] w fun e w' => RowB w l e w' := by
  cases A with
  | none =>
    have h0 : l = [] := by
      cases l with
      | nil => rfl
      | cons x l =>
        obtain ⟨g, o, h, _⟩ := hs.1 0 (by simp)
        cases h
    subst h0
    refine (Tryz.bytes_Clone_nil 0 c w).mono ?_
    rintro e w' ⟨rfl, rfl⟩
    exact ⟨none, 0, rfl, World.ownsRow_nil _ _ _ _, Keep.refl _ _⟩
  | some a =>
    refine (Tryz.bytes_Clone_at a l.length c (l.map fun (x : Nat) => (x : Int)) w (by simp) (by omega) (fun i hi => ?_)).mono ?_
    · obtain ⟨g, o, h, _, hc⟩ := hs.1 i hi
      injection h with h
      subst h
      rw [add_mk, hc, List.getD_eq_getElem?_getD, List.getElem?_map, List.getElem?_eq_getElem hi]
      rfl
    · rintro e w' ⟨v', rfl, ho, _, hb⟩
      obtain ⟨A', c', rfl, _⟩ := own_slice ho
      refine ⟨A', c', rfl, ?_, Keep.of_below hb⟩
      have e1 : (l.map fun (x : Nat) => (x : Int)).map (Value.int .u8) = inB l := by unfold inB; rw [List.map_map]; rfl
      rw [← e1]
      exact ho
end Go.Proofs.YtdnaahbhfjclpaaGreatDoor

namespace Go.Sal
open Go.RowKit
section
variable {P : Program}
def putA (cs : Array Value) (o : Nat) : List Value → Array Value
  | [] => cs
  | v :: r => putA (cs.setIfInBounds o v) (o + 1) r
theorem blk_setCells {g : Nat} {t : TypeId} : ∀ (vs : List Value) (o : Nat) (cs : Array Value) (w : World), Blk w g t cs → Blk (w.setCells g o vs) g t (putA cs o vs)
  | [], _, _, _, h => h
  | v :: r, o, cs, w, h => by
    rw [World.setCells, putA]
    exact blk_setCells r (o + 1) _ _ (h.set_ o v)
theorem putA_app : ∀ (Y L X R : List Value), X.length = Y.length → putA (L ++ (X ++ R)).toArray L.length Y = (L ++ (Y ++ R)).toArray
  | [], L, X, R, h => by
    have : X = [] := List.eq_nil_of_length_eq_zero (by simpa using h)
    subst this
    rfl
  | y :: Y, L, [], R, h => by simp at h
  | y :: Y, L, x :: X, R, h => by
    rw [putA]
    have e : (L ++ (x :: X ++ R)).toArray.setIfInBounds L.length y = (L ++ [y] ++ (X ++ R)).toArray := by
      simp [List.set_append_right]
    have e2 : L.length + 1 = (L ++ [y]).length := by simp
    rw [e, e2, putA_app Y (L ++ [y]) X R (by simpa using h)]
    simp
theorem putA_head (X Y R : List Value) (h : X.length = Y.length) : putA (X ++ R).toArray 0 Y = (Y ++ R).toArray := putA_app Y [] X R h
theorem keep_setCells {F : List Nat} {a : World} {g : Nat} (hg : g ∈ F ∨ a.heap.size ≤ g) : ∀ (vs : List Value) (o : Nat) (b : World), Keep F a b → Keep F a (b.setCells g o vs)
  | [], _, _, h => h
  | v :: r, o, b, h => by
    rw [World.setCells]
    exact keep_setCells hg r (o + 1) _ (h.setCell (p := ⟨g, o, none⟩) hg v)
theorem there_blk {w : World} {g : Nat} {t : TypeId} {cs : Array Value} (h : Blk w g t cs) (o n : Nat) (hn : o + n ≤ cs.size) : w.there g o n := fun j hj =>
  ⟨by rw [h.cell]; simp; omega, h.free _⟩
theorem rangeAt_blk {w : World} {g : Nat} {t : TypeId} {L X R : List Value} (h : Blk w g t (L ++ (X ++ R)).toArray) : w.rangeAt g L.length X := fun j v hv => by
  have hj : j < X.length := (List.getElem?_eq_some_iff.1 hv).1
  rw [h.cell, List.getElem?_toArray, List.getElem?_append_right (by omega), List.getElem?_append_left (by omega)]
  simpa using hv
theorem rangeAt_blk0 {w : World} {g : Nat} {t : TypeId} {X R : List Value} (h : Blk w g t (X ++ R).toArray) : w.rangeAt g 0 X := rangeAt_blk (L := []) h
end
end Go.Sal
namespace Go.Proofs.YtdnaahbhfjclpaaGreatDoor
open Go.RowKit Go.Sal Go.Pck Go.Huf Go.Cod
theorem rangeAt_src {w : World} {g o : Nat} {l : List Nat} (h : BySrc w (some ⟨g, o, none⟩) l) (k : Nat) : w.rangeAt g o (inB (l.take k)) := fun j v hv => by
  have hj : j < (inB (l.take k)).length := (List.getElem?_eq_some_iff.1 hv).1
  rw [inB_len, List.length_take] at hj
  obtain ⟨g', o', e, _, hc⟩ := h.1 j (by omega)
  injection e with e
  injection e with e1 e2
  subst e1; subst e2
  rw [hc]
  have : j < l.length := by omega
  simp [inB, this, List.getElem?_take] at hv
  exact congrArg some hv.2
def hashC (s : List Nat) (v : Value) (n : Nat) : List Value := inW s ++ [v, .int .u64 (n : Int), .bool true]
def HashIs (w : World) (g : Nat) (s l : List Nat) (n : Nat) : Prop := ∃ A c, Blk w g 118 (hashC s (.slice A l.length c) n).toArray ∧ BySrc w A l ∧ (∀ a, A = some a → a.block ≠ g ∧ a.block < w.heap.size) ∧ s.length = 8 ∧ w32 s
theorem size118 : (Tryz.prog.info? 118).map (·.size) = some 11 := by kernel_rfl
theorem hash_cell8 {w : World} {g : Nat} {s : List Nat} {v : Value} {n : Nat} (hs : s.length = 8) (h : Blk w g 118 (hashC s v n).toArray) : w.cell? ⟨g, 8, none⟩ = some v := by
  have h8 : (inW s).length = 8 := by rw [inW_len, hs]
  rw [h.cell]; unfold hashC; rw [List.getElem?_toArray, List.getElem?_append_right (by omega), h8]; rfl
theorem hash_cell9 {w : World} {g : Nat} {s : List Nat} {v : Value} {n : Nat} (hs : s.length = 8) (h : Blk w g 118 (hashC s v n).toArray) : w.cell? ⟨g, 9, none⟩ = some (.int .u64 (n : Int)) := by
  have h8 : (inW s).length = 8 := by rw [inW_len, hs]
  rw [h.cell]; unfold hashC; rw [List.getElem?_toArray, List.getElem?_append_right (by omega), h8]; rfl
theorem hash_set8 {w : World} {g : Nat} {s : List Nat} {v u : Value} {n : Nat} (hs : s.length = 8) (h : Blk w g 118 (hashC s v n).toArray) : Blk (w.setCell ⟨g, 8, none⟩ u) g 118 (hashC s u n).toArray := by
  have h8 : (inW s).length = 8 := by rw [inW_len, hs]
  have := h.set_ 8 u
  have e : (hashC s v n).toArray.setIfInBounds 8 u = (hashC s u n).toArray := by
    unfold hashC; simp [List.set_append_right, h8]
  rw [e] at this; exact this
theorem hash_set9 {w : World} {g : Nat} {s : List Nat} {v : Value} {n m : Nat} (hs : s.length = 8) (h : Blk w g 118 (hashC s v n).toArray) : Blk (w.setCell ⟨g, 9, none⟩ (.int .u64 (m : Int))) g 118 (hashC s v m).toArray := by
  have h8 : (inW s).length = 8 := by rw [inW_len, hs]
  have := h.set_ 9 (.int .u64 (m : Int))
  have e : (hashC s v n).toArray.setIfInBounds 9 (.int .u64 (m : Int)) = (hashC s v m).toArray := by
    unfold hashC; simp [List.set_append_right, h8]
  rw [e] at this; exact this
theorem hash_setS {w : World} {g : Nat} {s s2 : List Nat} {v : Value} {n : Nat} (hs : s.length = 8) (hs2 : s2.length = 8) (h : Blk w g 118 (hashC s v n).toArray) : Blk (w.setCells g 0 (inW s2)) g 118 (hashC s2 v n).toArray := by
  have := blk_setCells (inW s2) 0 _ _ h
  unfold hashC at this ⊢
  rw [putA_head _ _ _ (by rw [inW_len, inW_len, hs, hs2])] at this
  exact this
set_option maxRecDepth 20000 in
set_option maxHeartbeats 1000000 in
theorem new_any (w : World) : Calls Tryz.prog 40 #[] w fun e w' => ∃ g, e = .returned (.pointer (some ⟨g, 0, none⟩)) ∧ w.heap.size ≤ g ∧ HashIs w' g start8 [] 0 ∧ Keep [] w w' := by
  have HS := Lib.hid (start_any w)
  have hb : Tryz.prog.built 118 [(0, enc32 start8), (3, .bool true)] = some (hashC start8 (.slice none 0 0) 0).toArray := by kernel_rfl
  have hF : Hid (∀ w', Keep [] w w' → HashIs (w'.alloc (.cells (hashC start8 (.slice none 0 0) 0).toArray 118)) w'.heap.size start8 [] 0) :=
    Lib.hid (fun w' _ => ⟨none, 0, Blk.new w' 118 _, ⟨fun i hi => by simp at hi, fun x hx => by simp at hx⟩, by simp, rfl, start_w⟩)
  generalize enc32 start8 = E at *
  generalize hC : (hashC start8 (.slice none 0 0) 0).toArray = C at *
  clear hC
  go_enter Tryz.func40, Tryz.ntmps40
  go_upto_region 1 with (fail)
  refine wp_region_lit ?_
  refine wpList_plain rfl (fun K hK => ?_)
  go_simp
  go_at_call 75
  refine HS.out.mono ?_
  rintro e w' ⟨rfl, hk⟩
  have HK := Lib.hid hk
  clear hk
  refine hK _ _ ?_
  clear hK K
  refine wpList_buildTo rfl 118 _ rfl (some 2) rfl C ?hb ?_
  case hb =>
    simp only [List.map_toArray, List.map_cons, List.map_nil]
    go_simp
  go_wp2
  go_ret
  exact ⟨_, rfl, HK.out.size, hF.out _ HK.out, HK.out.alloc _⟩
end Go.Proofs.YtdnaahbhfjclpaaGreatDoor

