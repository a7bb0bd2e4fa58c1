/- Bits put behind bytes: (*writer).put. -/
import Derived.Test.YtdnaahbhfjclpaaGreatDoorK10
set_option linter.unusedVariables false
set_option linter.unusedSimpArgs false
namespace Go.Proofs.YtdnaahbhfjclpaaGreatDoor
open Go.RowKit Go.Sal Go.Huf Go.Cod
structure WS (B gw : Nat) (l : List Bool) (A : Option Addr) (n c : Nat) (wr : World) : Prop where
  blk : Blk wr gw 165 #[.slice A n c, .int .i64 (l.length : Nat)]
  own : wr.ownsRow B 5 1 (.slice A n c) n (inB (pack l))
  len : n = (pack l).length
  le : B ≤ wr.heap.size
structure WO (B gw : Nat) (l : List Bool) (A : Option Addr) (n c : Nat) (wr : World) : Prop where
  blk : Blk wr gw 165 #[.slice A n c, .int .i64 (l.length : Nat)]
  own : wr.ownsRow B 5 1 (.slice A n c) n (inB (packO l))
  len : n = l.length / 8 + 1
  le : B ≤ wr.heap.size
section
variable {B gw n c : Nat} {l : List Bool} {A : Option Addr} {wr : World}
theorem WS.ne (h : WS B gw l A n c wr) : (Value.slice A n c).ownBlock ≠ some gw := own_ne_blk h.own h.blk (by decide)
theorem WO.ne (h : WO B gw l A n c wr) : (Value.slice A n c).ownBlock ≠ some gw := own_ne_blk h.own h.blk (by decide)
theorem byte_append2 {base n c : Nat} {A : Option Addr} {f : List Nat} {w : World} (h : w.ownsRow base 5 1 (.slice A n c) n (inB f)) (hn2 : n ≤ 10000000) (hB : base ≤ w.heap.size) :
    ∃ A' c' w', (Builtin.append_ #[22, 22] 22 #[.slice A n c, .slice (some ⟨w.heap.size, 0, none⟩) 1 1]).run Tryz.prog (w.alloc (.cells #[.int .u8 0] 5)) = .ok (.slice A' (n + 1) c') w' ∧
      w'.ownsRow base 5 1 (.slice A' (n + 1) c') (n + 1) (inB (f ++ [0])) ∧ Keep (Value.slice A n c).ownBlock.toList w w' ∧
      ∀ i, (Value.slice A' (n + 1) c').ownBlock = some i → (Value.slice A n c).ownBlock = some i ∨ w.heap.size ≤ i := by
  have hka : Keep [] w (w.alloc (.cells #[.int .u8 0] 5)) := (Keep.refl [] w).alloc _
  obtain ⟨v', w', hrun, hown, hg, hat⟩ := run_append_src (P := Tryz.prog) (w.alloc (.cells #[.int .u8 0] 5)) 22 22 5 (.int .u8 0) 1 1 base Tryz.underlying22 u8info rfl (by omega) (.slice A n c) n (inB f) (ownsRow_keep h hka (by simp))
    (some ⟨w.heap.size, 0, none⟩) 1 1 [.int .u8 0] (src_new w 5 1 [.int .u8 0] rfl) (by simp [Value.oneCell']) (by unfold maxLen; omega) (by omega) (by simp; omega)
  obtain ⟨A', c', rfl, _⟩ := own_slice hown
  refine ⟨A', c', w', hrun, by simpa [inB] using hown, (hka.mono (by simp)).grown hg (fun k hk => .inl (by simp [hk])), fun i hi => ?_⟩
  rcases hat with hat | hat
  · rw [hat] at hi; exact .inl hi
  · rw [hat] at hi
    simp at hi
    exact .inr (by omega)
theorem WO.keep (h : WO B gw l A n c wr) {w1 : World} (k : Keep [] wr w1) : WO B gw l A n c w1 := ⟨h.blk.keep k (by simp), ownsRow_keep h.own k (by simp), h.len, Nat.le_trans h.le k.size⟩
theorem WS.keep (h : WS B gw l A n c wr) {w1 : World} (k : Keep [] wr w1) : WS B gw l A n c w1 := ⟨h.blk.keep k (by simp), ownsRow_keep h.own k (by simp), h.len, Nat.le_trans h.le k.size⟩
theorem WS.new (h : WS B gw l A n c wr) (h8 : l.length % 8 = 0) (hn : l.length ≤ 10000000) :
    n = l.length / 8 ∧ ∃ A' c' w', (Builtin.append_ #[22, 22] 22 #[.slice A n c, .slice (some ⟨wr.heap.size, 0, none⟩) 1 1]).run Tryz.prog (wr.alloc (.cells #[.int .u8 0] 5)) = .ok (.slice A' (n + 1) c') w' ∧
      w'.cell? ⟨gw, 0, none⟩ = some (.slice A n c) ∧ w'.frozen? ⟨gw, 0, none⟩ = false ∧ WO B gw l A' (n + 1) c' (w'.setCell ⟨gw, 0, none⟩ (.slice A' (n + 1) c')) ∧ gw < w'.heap.size ∧
      Keep (gw :: (Value.slice A n c).ownBlock.toList) wr (w'.setCell ⟨gw, 0, none⟩ (.slice A' (n + 1) c')) ∧
      ∀ i, (Value.slice A' (n + 1) c').ownBlock = some i → (Value.slice A n c).ownBlock = some i ∨ wr.heap.size ≤ i := by
  have hpl : n = l.length / 8 := by rw [h.len, pack_len]; omega
  obtain ⟨A', c', w', hrun, hown2, hk, hat⟩ := byte_append2 h.own (by omega) h.le
  have hb : Blk w' gw 165 #[.slice A n c, .int .i64 (l.length : Nat)] := h.blk.keep hk (fun hm => h.ne (by simpa using hm))
  have hk2 : Keep (gw :: (Value.slice A n c).ownBlock.toList) wr (w'.setCell ⟨gw, 0, none⟩ (.slice A' (n + 1) c')) := (hk.mono (fun i hi => List.mem_cons_of_mem _ hi)).setCell (.inl (by simp)) _
  refine ⟨hpl, A', c', w', hrun, hb.cell 0, hb.free 0, ⟨by have := hb.set_ 0 (.slice A' (n + 1) c'); simpa using this, ?_, by rw [hpl], Nat.le_trans h.le hk2.size⟩, hb.lt, hk2, hat⟩
  rw [packO_new h8]
  exact ownsRow_keep hown2 ((Keep.refl [gw] w').setCell (.inl (by simp)) _) (fun g hg hm => own_ne_blk hown2 hb (by decide) (by simp at hm; rw [hg, hm]))
theorem WS.old (h : WS B gw l A n c wr) (h8 : l.length % 8 ≠ 0) : WO B gw l A n c wr := by
  have hpl : (pack l).length = l.length / 8 + 1 := by rw [pack_len]; omega
  exact ⟨h.blk, by rw [packO_old h8]; exact h.own, by rw [h.len, hpl], h.le⟩
theorem WO.cell (h : WO B gw l A n c wr) : ∃ g, A = some ⟨g, 0, none⟩ ∧ g < wr.heap.size ∧ gw < wr.heap.size ∧ B ≤ g ∧ g ≠ gw ∧ wr.cell? ⟨gw, 0, none⟩ = some (.slice A n c) ∧ wr.cell? ⟨gw, 1, none⟩ = some (.int .i64 (l.length : Nat)) ∧
    wr.frozen? ⟨gw, 0, none⟩ = false ∧ wr.frozen? ⟨gw, 1, none⟩ = false ∧ wr.cell? ⟨g, l.length / 8, none⟩ = some (.int .u8 (byteAt l (l.length / 8) : Nat)) ∧ wr.frozen? ⟨g, l.length / 8, none⟩ = false := by
  have hn := h.len
  have hne := h.ne
  obtain ⟨g, rfl, h1, h2⟩ := own_some h.own (by omega)
  have := inB_cell h.own (i := l.length / 8) (by rw [packO_len]; omega)
  rw [packO_get] at this
  exact ⟨g, rfl, h1, h.blk.lt, h2, fun e => hne (by simp [Value.ownBlock, e]), h.blk.cell 0, h.blk.cell 1, h.blk.free 0, h.blk.free 1, this.1, this.2⟩
theorem WO.store {g : Nat} (h : WO B gw l (some ⟨g, 0, none⟩) n c wr) (x : Bool) :
    WS B gw (l ++ [x]) (some ⟨g, 0, none⟩) n c ((wr.setCell ⟨g, l.length / 8, none⟩ (.int .u8 ((byteAt l (l.length / 8) + (if x then 2 ^ (7 - l.length % 8) else 0) : Nat) : Int))).setCell ⟨gw, 1, none⟩ (.int .i64 ((l.length + 1 : Nat) : Int))) := by
  have hn := h.len
  have hne : g ≠ gw := fun e => h.ne (by simp [Value.ownBlock, e])
  have hset := inB_set h.own (i := l.length / 8) (by omega) (byteAt l (l.length / 8) + (if x then 2 ^ (7 - l.length % 8) else 0))
  rw [pack_snoc] at hset
  have hpl : (pack (l ++ [x])).length = l.length / 8 + 1 := by rw [pack_len, List.length_append, List.length_singleton]; omega
  have hb := (h.blk.far (p := ⟨g, l.length / 8, none⟩) (Ne.symm hne) (.int .u8 ((byteAt l (l.length / 8) + (if x then 2 ^ (7 - l.length % 8) else 0) : Nat) : Int))).set_ 1 (.int .i64 ((l.length + 1 : Nat) : Int))
  refine ⟨by simpa using hb, ?_, by rw [hpl, hn], ?_⟩
  · exact ownsRow_keep hset ((Keep.refl [gw] _).setCell (.inl (by simp)) _) (fun i hi hm => by simp [Value.ownBlock] at hi; simp at hm; omega)
  · have := h.le
    simpa [World.setCell] using this
end
theorem and64 {a : Nat} (ha : a < 18446744073709551616) : bits .and .u64 (a : Int) 1 = ((a % 2 : Nat) : Int) := by
  show IntKind.u64.wrap ((BitVec.ofInt 64 (a : Int) &&& BitVec.ofInt 64 1).toNat : Int) = _
  rw [BitVec.toNat_and, BitVec.ofInt_natCast, show BitVec.ofInt 64 1 = BitVec.ofNat 64 1 from rfl, BitVec.toNat_ofNat, BitVec.toNat_ofNat, Nat.mod_eq_of_lt (by omega)]
  rw [show 1 % 2 ^ 64 = 1 by rfl, Nat.and_one_is_mod, IntKind.wrap_u64]
  omega
theorem enc_byte64 {ba cv i r s : Nat} {bt : Bool} (hb : b2n bt = cv / 2 ^ i % 2) (hbn : b2n bt ≤ 1) (hcv : cv < 65536) (hr : r < 8) (hlow : ba ||| b2n bt * 2 ^ (7 - r) = s) (hlt : s < 256) (hba : ba < 256) :
    ∃ bb p : Nat, bits BinOp.and IntKind.u64 ((cv : Int) / 2 ^ i) 1 = (bb : Int) ∧ IntKind.u8.wrap (bb : Int) = (bb : Int) ∧ IntKind.u8.wrap ((bb : Int) * 2 ^ (7 - r)) = (p : Int) ∧ bits BinOp.or IntKind.u8 (ba : Int) (p : Int) = (s : Int) := by
  have h1 : (cv : Int) / 2 ^ i = ((cv / 2 ^ i : Nat) : Int) := by simp
  have h2 : cv / 2 ^ i ≤ cv := Nat.div_le_self _ _
  obtain ⟨h3, h4⟩ := shl8 hbn hr
  refine ⟨b2n bt, b2n bt * 2 ^ (7 - r), by rw [h1, and64 (by omega), ← hb], by rw [IntKind.wrap_u8]; omega, ?_, by rw [bits_or_u8 hba h4 (by omega), hlow]⟩
  rw [IntKind.wrap_u8, ← h3]
  have h5 : ((b2n bt : Nat) : Int) % 256 = (b2n bt : Nat) := by omega
  rw [h5]
set_option maxRecDepth 20000 in
set_option maxHeartbeats 4000000 in
theorem put_any (cv L : Nat) (hcv : cv < 65536) (hL : L ≤ 15) (B gw : Nat) (bs : List Bool) (A : Option Addr) (n c : Nat) (w : World) (h : WS B gw bs A n c w) (hl : bs.length ≤ 5000000) :
    Calls Tryz.prog 108 #[.pointer (some ⟨gw, 0, none⟩), .int .u64 (cv : Nat), .int .i64 (L : Nat)] w fun e w' => e = .returned (.tuple #[]) ∧ ∃ A' n' c', WS B gw (bs ++ bitsK cv L) A' n' c' w' ∧ Keep (gw :: (Value.slice A n c).ownBlock.toList) w w' := by
  have H0 := Lib.hid h
  have hwL : IntKind.i64.wrap ((L : Int) - 1) = (L : Int) - 1 := by rw [IntKind.wrap_i64]; omega
  clear h
  go_enter Tryz.func108, Tryz.ntmps108
  go_wp2
  go_loopw [6] (fun vi wr => ∃ (j : Nat) (A9 : Option Addr) (n9 c9 : Nat), vi = .int .i64 ((L : Int) - 1 - j) ∧ j ≤ L ∧ Hid (WS B gw (bs ++ (bitsK cv L).take j) A9 n9 c9 wr ∧ Keep (gw :: (Value.slice A n c).ownBlock.toList) w wr ∧ ∀ i, (Value.slice A9 n9 c9).ownBlock = some i → i ∈ (Value.slice A n c).ownBlock.toList ∨ w.heap.size ≤ i)) (fun vi _ => (intOf vi + 1).toNat)
  case atStart => exact ⟨0, A, n, c, by simp, by omega, Lib.hid ⟨by simpa using H0.out, Keep.refl _ _, fun i hi => .inl (by simp [hi])⟩⟩
  case round =>
    obtain ⟨j, A9, n9, c9, rfl, hj, hI⟩ := hrel
    clear H0
    rcases Nat.lt_or_ge j L with hjl | hjl
    · as_aux_lemma =>
        have hnl : (bs ++ (bitsK cv L).take j).length = bs.length + j := by
          rw [List.length_append, List.length_take, bitsK_len]; omega
        have htj : (bs ++ (bitsK cv L).take j) ++ [bitAt cv L j] = bs ++ (bitsK cv L).take (j + 1) := by rw [List.append_assoc, bitsK_take cv L hjl]
        have hb2 := b2n_bit cv L j
        generalize hBj : bs ++ (bitsK cv L).take j = Bj at *
        have hge : (0 : Int) ≤ (L : Int) - 1 - j := by omega
        obtain ⟨i, hi⟩ : ∃ i : Nat, (L : Int) - 1 - j = i := ⟨L - 1 - j, by omega⟩
        have hi2 : L - 1 - j = i := by omega
        rw [hi2] at hb2
        rw [hi]
        have hi15 : i ≤ 14 := by omega
        have hlow := byte_or Bj (bitAt cv L j)
        have hlt := byte_or_lt Bj (bitAt cv L j)
        have hat := byteAt_lt Bj (Bj.length / 8)
        obtain ⟨nq, hnq⟩ : ∃ nq, Bj.length = nq := ⟨_, rfl⟩
        obtain ⟨hW, hkp, hob⟩ := hI.out
        have hsto := fun (g : Nat) (n5 c5 : Nat) (W : World) (h : WO B gw Bj (some ⟨g, 0, none⟩) n5 c5 W) => h.store (bitAt cv L j)
        have hnew := fun h8 hn => hW.new h8 hn
        have hold := fun h8 => hW.old h8
        have hcel := fun (A5 : Option Addr) (n5 c5 : Nat) (W : World) (h : WO B gw Bj A5 n5 c5 W) => h.cell
        have hlen := fun (A5 : Option Addr) (n5 c5 : Nat) (W : World) (h : WO B gw Bj A5 n5 c5 W) => h.len
        have hb0 : wr.cell? ⟨gw, 0, none⟩ = some (.slice A9 n9 c9) := hW.blk.cell 0
        have hb1 : wr.cell? ⟨gw, 1, none⟩ = some (.int .i64 (Bj.length : Nat)) := hW.blk.cell 1
        rw [hnq] at hlow hlt hat hsto hnew hold hcel hlen hnl hb1
        rw [htj] at hsto
        obtain ⟨q, hq⟩ : ∃ q, nq / 8 = q := ⟨_, rfl⟩
        obtain ⟨r, hr⟩ : ∃ r, nq % 8 = r := ⟨_, rfl⟩
        have hr8 : r < 8 := by omega
        have htm : (nq : Int).tmod 8 = (r : Int) := by rw [Int.tmod_eq_emod_of_nonneg (by omega)]; omega
        have hwq : IntKind.i64.wrap (q : Int) = (q : Int) := by rw [IntKind.wrap_i64]; omega
        have hwr : IntKind.i64.wrap (r : Int) = (r : Int) := by rw [IntKind.wrap_i64]; omega
        have hw7 : IntKind.i64.wrap (7 - (r : Int)) = ((7 - r : Nat) : Int) := by rw [IntKind.wrap_i64]; omega
        have hwi : IntKind.u64.wrap (i : Int) = (i : Int) := by rw [IntKind.wrap_u64]; omega
        have hw7u : IntKind.u64.wrap ((7 - r : Nat) : Int) = ((7 - r : Nat) : Int) := by rw [IntKind.wrap_u64]; omega
        have hwn : IntKind.i64.wrap ((nq : Int) + 1) = (nq : Int) + 1 := by rw [IntKind.wrap_i64]; omega
        have hwi1 : IntKind.i64.wrap ((i : Int) - 1) = (i : Int) - 1 := by rw [IntKind.wrap_i64]; omega
        rw [hr, hq] at hlow hlt hsto
        rw [hq] at hat hcel hnew hlen
        rw [hr] at hnew hold
        generalize hbt : bitAt cv L j = bt at *
        have hbn : b2n bt ≤ 1 := by unfold b2n; split <;> omega
        obtain ⟨bb, p, k1, k2, k3, k4⟩ := enc_byte64 (cv := cv) (i := i) hb2 hbn hcv hr8 hlow hlt hat
        generalize hsm : byteAt Bj q + (if bt then 2 ^ (7 - r) else 0) = sm at *
        generalize hba : byteAt Bj q = ba at *
        have Hi := Lib.hid hi
        have Hj := Lib.hid (show j + 1 ≤ L by omega)
        have Hob := Lib.hid (And.intro hkp hob)
        have hbp : n9 ≤ 1000000 := by have := hW.len; rw [pack_len, hnq] at this; omega
        rcases Nat.eq_zero_or_pos r with hr0 | hr0
        · obtain ⟨hpl, A2, c2, w2, hap, m0, mf, hO, mz, hk2, hat2⟩ := hnew hr0 (by omega)
          obtain ⟨gb, rfl, hgb1, hgw1, hgb2, hgne, e0, e1, f0, f1, e2, f2⟩ := hcel _ _ _ _ hO
          subst hr0
          have hw70 : IntKind.i64.wrap 7 = 7 := rfl
          have hw71 : IntKind.u64.wrap 7 = 7 := rfl
          have k3' : IntKind.u8.wrap ((bb : Int) * 128) = (p : Int) := k3
          have hpl' : q = n9 := hpl.symm
          subst hpl'
          have hgb3 : gb < w2.heap.size := by simpa [World.setCell] using hgb1
          have hqb : (q : Int) < (q : Int) + 1 := by omega
          have HN := Lib.hid (hsto gb (q + 1) c2 _ (hO.keep ((Keep.refl [] _).drew)))
          have HK : Hid (Keep (gw :: (Value.slice A n c).ownBlock.toList) w (w2.setCell ⟨gw, 0, none⟩ (.slice (some ⟨gb, 0, none⟩) (q + 1) c2)) ∧ (gb ∈ (Value.slice A n c).ownBlock.toList ∨ w.heap.size ≤ gb)) := by
            refine Lib.hid ⟨Hob.out.1.step hk2 (fun i hi => ?_), ?_⟩
            · rcases List.mem_cons.1 hi with rfl | hi
              · exact .inl (by simp)
              · rcases Hob.out.2 i (by simpa using hi) with h | h
                · exact .inl (List.mem_cons_of_mem _ h)
                · exact .inr h
            · rcases hat2 gb rfl with h | h
              · exact Hob.out.2 gb h
              · exact .inr (Nat.le_trans Hob.out.1.size h)
          have HSS : Hid (∀ W : World, Keep [] (w2.setCell ⟨gw, 0, none⟩ (.slice (some ⟨gb, 0, none⟩) (q + 1) c2)) W → W.cell? ⟨gw, 0, none⟩ = some (.slice (some ⟨gb, 0, none⟩) (q + 1) c2) ∧ W.cell? ⟨gw, 1, none⟩ = some (.int .i64 (nq : Nat)) ∧ W.cell? ⟨gb, q, none⟩ = some (.int .u8 (ba : Nat))) :=
            Lib.hid (fun W k => ⟨(k.cell (p := ⟨gw, 0, none⟩) hgw1 (by simp)).trans e0, (k.cell (p := ⟨gw, 1, none⟩) hgw1 (by simp)).trans e1, (k.cell (p := ⟨gb, q, none⟩) hgb1 (by simp)).trans e2⟩)
          have hS5 := HSS.out _ ((Keep.refl [] _).drew)
          have Hap := Lib.hid hap
          generalize b2n bt = bn at *
          clear k3 hw7 hw7u hwr
          clear hI hW hkp hob hsto hnew hold hcel hlen hnl htj hb2 hlow hlt hnq hq hr hi hi2 hO hk2 hat2 hap hpl hBj
          have hap := Hap.out
          go_upto_region 5 with (at_builtin; refine wpList_append2 (v1 := .slice A9 q c9) (v2 := .slice (some ⟨wr.heap.size, 0, none⟩) 1 1) rfl (.tmp 23) (.tmp 24) rfl rfl rfl hap ?_)
          refine wp_region_G (fun W => W.cell? ⟨gw, 0, none⟩ = some (.slice (some ⟨gb, 0, none⟩) (q + 1) c2) ∧ W.cell? ⟨gw, 1, none⟩ = some (.int .i64 (nq : Nat)) ∧ W.cell? ⟨gb, q, none⟩ = some (.int .u8 (ba : Nat))) [28] #[false, false, false, false, false, false, false, false, false, false, false, false, false, false, false, false, false, false, false, false, false, false, false, false, false, false, false, false, false] 29 (by kernel_rfl) (by kernel_rfl) (by kernel_rfl) ?_
          refine wpAnyG_take0 (i := 0) (oi := ⟨_, _, _, _, _, _⟩) (v := ?vg1_0) rfl (by kernel_rfl) (by kernel_rfl) (by kernel_rfl) (by kernel_rfl) (fun _ _ _ h => h) (fun _ => hS5) (Or.inl ⟨by rfl, ?hg1_0⟩) ?_
          case hg1_0 => intro w _; go_simp; (try with_reducible rfl)
          try simp only [Act.put, List.setIfInBounds_toArray, List.set_cons_zero, List.set_cons_succ]
          refine wpAnyG_take0 (i := 1) (oi := ⟨_, _, _, _, _, _⟩) (v := ?vg1_1) rfl (by kernel_rfl) (by kernel_rfl) (by kernel_rfl) (by kernel_rfl) (fun _ _ _ h => h) (fun _ => hS5) (Or.inl ⟨by rfl, ?hg1_1⟩) ?_
          case hg1_1 => intro w _; go_simp; (try with_reducible rfl)
          try simp only [Act.put, List.setIfInBounds_toArray, List.set_cons_zero, List.set_cons_succ]
          refine wpAnyG_take0 (i := 2) (oi := ⟨_, _, _, _, _, _⟩) (v := ?vg1_2) rfl (by kernel_rfl) (by kernel_rfl) (by kernel_rfl) (by kernel_rfl) (fun _ _ _ h => h) (fun _ => hS5) (Or.inl ⟨by rfl, ?hg1_2⟩) ?_
          case hg1_2 => intro w _; go_simp; (try with_reducible rfl)
          try simp only [Act.put, List.setIfInBounds_toArray, List.set_cons_zero, List.set_cons_succ]
          refine wpAnyG_take (i := 3) (oi := ⟨_, _, _, _, _, _⟩) (v := ?vg1_3) [3, 10, 11, 26, 27, 28] rfl (by kernel_rfl) (by kernel_rfl) (by kernel_rfl) (by kernel_rfl) (by kernel_rfl) (fun _ _ _ h => h) (fun _ => hS5) (Or.inl ⟨by rfl, ?hg1_3⟩) ?_
          case hg1_3 => intro w hSw; (try dsimp only at hSw); go_simp; (try with_reducible rfl)
          try simp only [Act.put, List.setIfInBounds_toArray, List.set_cons_zero, List.set_cons_succ]
          refine wpAnyG_take0 (i := 4) (oi := ⟨_, _, _, _, _, _⟩) (v := ?vg1_4) rfl (by kernel_rfl) (by kernel_rfl) (by kernel_rfl) (by kernel_rfl) (fun _ _ _ h => h) (fun _ => hS5) (Or.inl ⟨by rfl, ?hg1_4⟩) ?_
          case hg1_4 => intro w _; go_simp; (try with_reducible rfl)
          try simp only [Act.put, List.setIfInBounds_toArray, List.set_cons_zero, List.set_cons_succ]
          refine wpAnyG_take0 (i := 5) (oi := ⟨_, _, _, _, _, _⟩) (v := ?vg1_5) rfl (by kernel_rfl) (by kernel_rfl) (by kernel_rfl) (by kernel_rfl) (fun _ _ _ h => h) (fun _ => hS5) (Or.inl ⟨by rfl, ?hg1_5⟩) ?_
          case hg1_5 => intro w _; go_simp; (try with_reducible rfl)
          try simp only [Act.put, List.setIfInBounds_toArray, List.set_cons_zero, List.set_cons_succ]
          refine wpAnyG_take0 (i := 6) (oi := ⟨_, _, _, _, _, _⟩) (v := ?vg1_6) rfl (by kernel_rfl) (by kernel_rfl) (by kernel_rfl) (by kernel_rfl) (fun _ _ _ h => h) (fun _ => hS5) (Or.inl ⟨by rfl, ?hg1_6⟩) ?_
          case hg1_6 => intro w _; go_simp; (try with_reducible rfl)
          try simp only [Act.put, List.setIfInBounds_toArray, List.set_cons_zero, List.set_cons_succ]
          refine wpAnyG_take (i := 7) (oi := ⟨_, _, _, _, _, _⟩) (v := ?vg1_7) [7, 8, 9, 10, 11, 26, 27, 28] rfl (by kernel_rfl) (by kernel_rfl) (by kernel_rfl) (by kernel_rfl) (by kernel_rfl) (fun _ _ _ h => h) (fun _ => hS5) (Or.inl ⟨by rfl, ?hg1_7⟩) ?_
          case hg1_7 => intro w hSw; (try dsimp only at hSw); go_simp; (try with_reducible rfl)
          try simp only [Act.put, List.setIfInBounds_toArray, List.set_cons_zero, List.set_cons_succ]
          refine wpAnyG_take (i := 8) (oi := ⟨_, _, _, _, _, _⟩) (v := ?vg1_8) [8, 9, 10, 11, 26, 27, 28] rfl (by kernel_rfl) (by kernel_rfl) (by kernel_rfl) (by kernel_rfl) (by kernel_rfl) (fun _ _ _ h => h) (fun _ => hS5) (Or.inl ⟨by rfl, ?hg1_8⟩) ?_
          case hg1_8 => intro w hSw; (try dsimp only at hSw); go_simp; (try with_reducible rfl)
          try simp only [Act.put, List.setIfInBounds_toArray, List.set_cons_zero, List.set_cons_succ]
          refine wpAnyG_take0 (i := 9) (oi := ⟨_, _, _, _, _, _⟩) (v := ?vg1_9) rfl (by kernel_rfl) (by kernel_rfl) (by kernel_rfl) (by kernel_rfl) (fun _ _ _ h => h) (fun _ => hS5) (Or.inl ⟨by rfl, ?hg1_9⟩) ?_
          case hg1_9 => intro w _; go_simp; (try with_reducible rfl)
          try simp only [Act.put, List.setIfInBounds_toArray, List.set_cons_zero, List.set_cons_succ]
          refine wpAnyG_take0 (i := 10) (oi := ⟨_, _, _, _, _, _⟩) (v := ?vg1_10) rfl (by kernel_rfl) (by kernel_rfl) (by kernel_rfl) (by kernel_rfl) (fun _ _ _ h => h) (fun _ => hS5) (Or.inl ⟨by rfl, ?hg1_10⟩) ?_
          case hg1_10 => intro w _; go_simp; (try with_reducible rfl)
          try simp only [Act.put, List.setIfInBounds_toArray, List.set_cons_zero, List.set_cons_succ]
          refine wpAnyG_take (i := 11) (oi := ⟨_, _, _, _, _, _⟩) (v := ?vg1_11) [11, 26, 27, 28] rfl (by kernel_rfl) (by kernel_rfl) (by kernel_rfl) (by kernel_rfl) (by kernel_rfl) (fun _ _ _ h => h) (fun _ => hS5) (Or.inl ⟨by rfl, ?hg1_11⟩) ?_
          case hg1_11 => intro w hSw; (try dsimp only at hSw); go_simp; (try with_reducible rfl)
          try simp only [Act.put, List.setIfInBounds_toArray, List.set_cons_zero, List.set_cons_succ]
          refine wpAnyG_take0 (i := 12) (oi := ⟨_, _, _, _, _, _⟩) (v := ?vg1_12) rfl (by kernel_rfl) (by kernel_rfl) (by kernel_rfl) (by kernel_rfl) (fun _ _ _ h => h) (fun _ => hS5) (Or.inl ⟨by rfl, ?hg1_12⟩) ?_
          case hg1_12 => intro w _; go_simp; (try with_reducible rfl)
          try simp only [Act.put, List.setIfInBounds_toArray, List.set_cons_zero, List.set_cons_succ]
          refine wpAnyG_take0 (i := 13) (oi := ⟨_, _, _, _, _, _⟩) (v := ?vg1_13) rfl (by kernel_rfl) (by kernel_rfl) (by kernel_rfl) (by kernel_rfl) (fun _ _ _ h => h) (fun _ => hS5) (Or.inl ⟨by rfl, ?hg1_13⟩) ?_
          case hg1_13 => intro w _; go_simp; (try with_reducible rfl)
          try simp only [Act.put, List.setIfInBounds_toArray, List.set_cons_zero, List.set_cons_succ]
          refine wpAnyG_take0 (i := 14) (oi := ⟨_, _, _, _, _, _⟩) (v := ?vg1_14) rfl (by kernel_rfl) (by kernel_rfl) (by kernel_rfl) (by kernel_rfl) (fun _ _ _ h => h) (fun _ => hS5) (Or.inl ⟨by rfl, ?hg1_14⟩) ?_
          case hg1_14 => intro w _; go_simp; (try with_reducible rfl)
          try simp only [Act.put, List.setIfInBounds_toArray, List.set_cons_zero, List.set_cons_succ]
          refine wpAnyG_take0 (i := 15) (oi := ⟨_, _, _, _, _, _⟩) (v := ?vg1_15) rfl (by kernel_rfl) (by kernel_rfl) (by kernel_rfl) (by kernel_rfl) (fun _ _ _ h => h) (fun _ => hS5) (Or.inl ⟨by rfl, ?hg1_15⟩) ?_
          case hg1_15 => intro w _; go_simp; (try with_reducible rfl)
          try simp only [Act.put, List.setIfInBounds_toArray, List.set_cons_zero, List.set_cons_succ]
          refine wpAnyG_take0 (i := 16) (oi := ⟨_, _, _, _, _, _⟩) (v := ?vg1_16) rfl (by kernel_rfl) (by kernel_rfl) (by kernel_rfl) (by kernel_rfl) (fun _ _ _ h => h) (fun _ => hS5) (Or.inl ⟨by rfl, ?hg1_16⟩) ?_
          case hg1_16 => intro w _; go_simp; (try with_reducible rfl)
          try simp only [Act.put, List.setIfInBounds_toArray, List.set_cons_zero, List.set_cons_succ]
          refine wpAnyG_take0 (i := 17) (oi := ⟨_, _, _, _, _, _⟩) (v := ?vg1_17) rfl (by kernel_rfl) (by kernel_rfl) (by kernel_rfl) (by kernel_rfl) (fun _ _ _ h => h) (fun _ => hS5) (Or.inl ⟨by rfl, ?hg1_17⟩) ?_
          case hg1_17 => intro w _; go_simp; (try with_reducible rfl)
          try simp only [Act.put, List.setIfInBounds_toArray, List.set_cons_zero, List.set_cons_succ]
          refine wpAnyG_take0 (i := 18) (oi := ⟨_, _, _, _, _, _⟩) (v := ?vg1_18) rfl (by kernel_rfl) (by kernel_rfl) (by kernel_rfl) (by kernel_rfl) (fun _ _ _ h => h) (fun _ => hS5) (Or.inl ⟨by rfl, ?hg1_18⟩) ?_
          case hg1_18 => intro w _; go_simp; (try with_reducible rfl)
          try simp only [Act.put, List.setIfInBounds_toArray, List.set_cons_zero, List.set_cons_succ]
          refine wpAnyG_take0 (i := 19) (oi := ⟨_, _, _, _, _, _⟩) (v := ?vg1_19) rfl (by kernel_rfl) (by kernel_rfl) (by kernel_rfl) (by kernel_rfl) (fun _ _ _ h => h) (fun _ => hS5) (Or.inl ⟨by rfl, ?hg1_19⟩) ?_
          case hg1_19 => intro w _; go_simp; (try with_reducible rfl)
          try simp only [Act.put, List.setIfInBounds_toArray, List.set_cons_zero, List.set_cons_succ]
          refine wpAnyG_take0 (i := 20) (oi := ⟨_, _, _, _, _, _⟩) (v := ?vg1_20) rfl (by kernel_rfl) (by kernel_rfl) (by kernel_rfl) (by kernel_rfl) (fun _ _ _ h => h) (fun _ => hS5) (Or.inl ⟨by rfl, ?hg1_20⟩) ?_
          case hg1_20 => intro w _; go_simp; (try with_reducible rfl)
          try simp only [Act.put, List.setIfInBounds_toArray, List.set_cons_zero, List.set_cons_succ]
          refine wpAnyG_take (i := 21) (oi := ⟨_, _, _, _, _, _⟩) (v := ?vg1_21) [21, 22, 23, 24, 25, 26, 27, 28] rfl (by kernel_rfl) (by kernel_rfl) (by kernel_rfl) (by kernel_rfl) (by kernel_rfl) (fun _ _ _ h => h) (fun _ => hS5) (Or.inl ⟨by rfl, ?hg1_21⟩) ?_
          case hg1_21 => intro w hSw; (try dsimp only at hSw); go_simp; (try with_reducible rfl)
          try simp only [Act.put, List.setIfInBounds_toArray, List.set_cons_zero, List.set_cons_succ]
          refine wpAnyG_take0 (i := 22) (oi := ⟨_, _, _, _, _, _⟩) (v := ?vg1_22) rfl (by kernel_rfl) (by kernel_rfl) (by kernel_rfl) (by kernel_rfl) (fun _ _ _ h => h) (fun _ => hS5) (Or.inl ⟨by rfl, ?hg1_22⟩) ?_
          case hg1_22 => intro w _; go_simp; (try with_reducible rfl)
          try simp only [Act.put, List.setIfInBounds_toArray, List.set_cons_zero, List.set_cons_succ]
          refine wpAnyG_take0 (i := 23) (oi := ⟨_, _, _, _, _, _⟩) (v := ?vg1_23) rfl (by kernel_rfl) (by kernel_rfl) (by kernel_rfl) (by kernel_rfl) (fun _ _ _ h => h) (fun _ => hS5) (Or.inl ⟨by rfl, ?hg1_23⟩) ?_
          case hg1_23 => intro w _; go_simp; (try with_reducible rfl)
          try simp only [Act.put, List.setIfInBounds_toArray, List.set_cons_zero, List.set_cons_succ]
          refine wpAnyG_take0 (i := 24) (oi := ⟨_, _, _, _, _, _⟩) (v := ?vg1_24) rfl (by kernel_rfl) (by kernel_rfl) (by kernel_rfl) (by kernel_rfl) (fun _ _ _ h => h) (fun _ => hS5) (Or.inl ⟨by rfl, ?hg1_24⟩) ?_
          case hg1_24 => intro w _; go_simp; (try with_reducible rfl)
          try simp only [Act.put, List.setIfInBounds_toArray, List.set_cons_zero, List.set_cons_succ]
          refine wpAnyG_take0 (i := 25) (oi := ⟨_, _, _, _, _, _⟩) (v := ?vg1_25) rfl (by kernel_rfl) (by kernel_rfl) (by kernel_rfl) (by kernel_rfl) (fun _ _ _ h => h) (fun _ => hS5) (Or.inl ⟨by rfl, ?hg1_25⟩) ?_
          case hg1_25 => intro w _; go_simp; (try with_reducible rfl)
          try simp only [Act.put, List.setIfInBounds_toArray, List.set_cons_zero, List.set_cons_succ]
          refine wpAnyG_take0 (i := 26) (oi := ⟨_, _, _, _, _, _⟩) (v := ?vg1_26) rfl (by kernel_rfl) (by kernel_rfl) (by kernel_rfl) (by kernel_rfl) (fun _ _ _ h => h) (fun _ => hS5) (Or.inl ⟨by rfl, ?hg1_26⟩) ?_
          case hg1_26 => intro w _; go_simp; (try with_reducible rfl)
          try simp only [Act.put, List.setIfInBounds_toArray, List.set_cons_zero, List.set_cons_succ]
          refine wpAnyG_take0 (i := 27) (oi := ⟨_, _, _, _, _, _⟩) (v := ?vg1_27) rfl (by kernel_rfl) (by kernel_rfl) (by kernel_rfl) (by kernel_rfl) (fun _ _ _ h => h) (fun _ => hS5) (Or.inl ⟨by rfl, ?hg1_27⟩) ?_
          case hg1_27 => intro w _; go_simp; (try with_reducible rfl)
          try simp only [Act.put, List.setIfInBounds_toArray, List.set_cons_zero, List.set_cons_succ]
          refine wpAnyG_step (i := 28) (oi := ⟨_, _, _, _, _, _⟩) rfl (by kernel_rfl) (by rfl) (fun K hK => ?_)
          go_simp
          refine hK _ _ (fun h => absurd h (Bool.eq_false_iff.1 (by kernel_rfl))) (fun _ => ?_)
          clear hK
          try simp only [Act.put, List.setIfInBounds_toArray, List.set_cons_zero, List.set_cons_succ]
          refine wpAnyG_done (by kernel_rfl) ?_ _
          go_wp2_with fail
          go_roundw
          case rel => exact ⟨j + 1, _, _, _, by rw [← Hi.out]; congr 1; omega, Hj.out, Lib.hid ⟨HN.out, (HK.out.1.drew.setCell (HK.out.2.elim (fun h => .inl (List.mem_cons_of_mem _ h)) .inr) _).setCell (.inl (by simp)) _, fun i hi => by simp [Value.ownBlock] at hi; subst hi; exact HK.out.2⟩⟩
          case measure => simp [intOf]
        · have hO := hold (by omega)
          obtain ⟨gb, rfl, hgb1, hgw1, hgb2, hgne, e0, e1, f0, f1, e2, f2⟩ := hcel _ _ _ _ hO
          have hrf : ((r : Int) == 0) = false := by simpa using (by omega : (r : Int) ≠ 0)
          obtain rfl : n9 = q + 1 := hlen _ _ _ _ hO
          have hqb : (q : Int) < (q : Int) + 1 := by omega
          have hmin : min (7 - r) 8 = 7 - r := by omega
          have HN := Lib.hid (hsto gb (q + 1) c9 _ (hO.keep ((Keep.refl [] _).drew)))
          have HK : Hid (Keep (gw :: (Value.slice A n c).ownBlock.toList) w wr ∧ (gb ∈ (Value.slice A n c).ownBlock.toList ∨ w.heap.size ≤ gb)) := Lib.hid ⟨Hob.out.1, Hob.out.2 gb rfl⟩
          have HSS : Hid (∀ W : World, Keep [] wr W → W.cell? ⟨gw, 0, none⟩ = some (.slice (some ⟨gb, 0, none⟩) (q + 1) c9) ∧ W.cell? ⟨gw, 1, none⟩ = some (.int .i64 (nq : Nat)) ∧ W.cell? ⟨gb, q, none⟩ = some (.int .u8 (ba : Nat))) :=
            Lib.hid (fun W k => ⟨(k.cell (p := ⟨gw, 0, none⟩) hgw1 (by simp)).trans e0, (k.cell (p := ⟨gw, 1, none⟩) hgw1 (by simp)).trans e1, (k.cell (p := ⟨gb, q, none⟩) hgb1 (by simp)).trans e2⟩)
          have hS5 := HSS.out _ ((Keep.refl [] _).drew)
          generalize b2n bt = bn at *
          clear hI hW hkp hob hsto hnew hold hcel hlen hnl htj hb2 hlow hlt hnq hq hr hi hi2 hO hBj hr0
          go_upto_region 5 with (fail)
          refine wp_region_G (fun W => W.cell? ⟨gw, 0, none⟩ = some (.slice (some ⟨gb, 0, none⟩) (q + 1) c9) ∧ W.cell? ⟨gw, 1, none⟩ = some (.int .i64 (nq : Nat)) ∧ W.cell? ⟨gb, q, none⟩ = some (.int .u8 (ba : Nat))) [28] #[false, false, false, false, false, false, false, false, false, false, false, false, false, false, false, false, false, false, false, false, false, false, false, false, false, false, false, false, false] 29 (by kernel_rfl) (by kernel_rfl) (by kernel_rfl) ?_
          refine wpAnyG_take0 (i := 0) (oi := ⟨_, _, _, _, _, _⟩) (v := ?vg2_0) rfl (by kernel_rfl) (by kernel_rfl) (by kernel_rfl) (by kernel_rfl) (fun _ _ _ h => h) (fun _ => hS5) (Or.inl ⟨by rfl, ?hg2_0⟩) ?_
          case hg2_0 => intro w _; go_simp; (try with_reducible rfl)
          try simp only [Act.put, List.setIfInBounds_toArray, List.set_cons_zero, List.set_cons_succ]
          refine wpAnyG_take0 (i := 1) (oi := ⟨_, _, _, _, _, _⟩) (v := ?vg2_1) rfl (by kernel_rfl) (by kernel_rfl) (by kernel_rfl) (by kernel_rfl) (fun _ _ _ h => h) (fun _ => hS5) (Or.inl ⟨by rfl, ?hg2_1⟩) ?_
          case hg2_1 => intro w _; go_simp; (try with_reducible rfl)
          try simp only [Act.put, List.setIfInBounds_toArray, List.set_cons_zero, List.set_cons_succ]
          refine wpAnyG_take0 (i := 2) (oi := ⟨_, _, _, _, _, _⟩) (v := ?vg2_2) rfl (by kernel_rfl) (by kernel_rfl) (by kernel_rfl) (by kernel_rfl) (fun _ _ _ h => h) (fun _ => hS5) (Or.inl ⟨by rfl, ?hg2_2⟩) ?_
          case hg2_2 => intro w _; go_simp; (try with_reducible rfl)
          try simp only [Act.put, List.setIfInBounds_toArray, List.set_cons_zero, List.set_cons_succ]
          refine wpAnyG_take (i := 3) (oi := ⟨_, _, _, _, _, _⟩) (v := ?vg2_3) [3, 10, 11, 26, 27, 28] rfl (by kernel_rfl) (by kernel_rfl) (by kernel_rfl) (by kernel_rfl) (by kernel_rfl) (fun _ _ _ h => h) (fun _ => hS5) (Or.inl ⟨by rfl, ?hg2_3⟩) ?_
          case hg2_3 => intro w hSw; (try dsimp only at hSw); go_simp; (try with_reducible rfl)
          try simp only [Act.put, List.setIfInBounds_toArray, List.set_cons_zero, List.set_cons_succ]
          refine wpAnyG_take0 (i := 4) (oi := ⟨_, _, _, _, _, _⟩) (v := ?vg2_4) rfl (by kernel_rfl) (by kernel_rfl) (by kernel_rfl) (by kernel_rfl) (fun _ _ _ h => h) (fun _ => hS5) (Or.inl ⟨by rfl, ?hg2_4⟩) ?_
          case hg2_4 => intro w _; go_simp; (try with_reducible rfl)
          try simp only [Act.put, List.setIfInBounds_toArray, List.set_cons_zero, List.set_cons_succ]
          refine wpAnyG_take0 (i := 5) (oi := ⟨_, _, _, _, _, _⟩) (v := ?vg2_5) rfl (by kernel_rfl) (by kernel_rfl) (by kernel_rfl) (by kernel_rfl) (fun _ _ _ h => h) (fun _ => hS5) (Or.inl ⟨by rfl, ?hg2_5⟩) ?_
          case hg2_5 => intro w _; go_simp; (try with_reducible rfl)
          try simp only [Act.put, List.setIfInBounds_toArray, List.set_cons_zero, List.set_cons_succ]
          refine wpAnyG_take0 (i := 6) (oi := ⟨_, _, _, _, _, _⟩) (v := ?vg2_6) rfl (by kernel_rfl) (by kernel_rfl) (by kernel_rfl) (by kernel_rfl) (fun _ _ _ h => h) (fun _ => hS5) (Or.inl ⟨by rfl, ?hg2_6⟩) ?_
          case hg2_6 => intro w _; go_simp; (try with_reducible rfl)
          try simp only [Act.put, List.setIfInBounds_toArray, List.set_cons_zero, List.set_cons_succ]
          refine wpAnyG_take (i := 7) (oi := ⟨_, _, _, _, _, _⟩) (v := ?vg2_7) [7, 8, 9, 10, 11, 26, 27, 28] rfl (by kernel_rfl) (by kernel_rfl) (by kernel_rfl) (by kernel_rfl) (by kernel_rfl) (fun _ _ _ h => h) (fun _ => hS5) (Or.inl ⟨by rfl, ?hg2_7⟩) ?_
          case hg2_7 => intro w hSw; (try dsimp only at hSw); go_simp; (try with_reducible rfl)
          try simp only [Act.put, List.setIfInBounds_toArray, List.set_cons_zero, List.set_cons_succ]
          refine wpAnyG_take (i := 8) (oi := ⟨_, _, _, _, _, _⟩) (v := ?vg2_8) [8, 9, 10, 11, 26, 27, 28] rfl (by kernel_rfl) (by kernel_rfl) (by kernel_rfl) (by kernel_rfl) (by kernel_rfl) (fun _ _ _ h => h) (fun _ => hS5) (Or.inl ⟨by rfl, ?hg2_8⟩) ?_
          case hg2_8 => intro w hSw; (try dsimp only at hSw); go_simp; (try with_reducible rfl)
          try simp only [Act.put, List.setIfInBounds_toArray, List.set_cons_zero, List.set_cons_succ]
          refine wpAnyG_take0 (i := 9) (oi := ⟨_, _, _, _, _, _⟩) (v := ?vg2_9) rfl (by kernel_rfl) (by kernel_rfl) (by kernel_rfl) (by kernel_rfl) (fun _ _ _ h => h) (fun _ => hS5) (Or.inl ⟨by rfl, ?hg2_9⟩) ?_
          case hg2_9 => intro w _; go_simp; (try with_reducible rfl)
          try simp only [Act.put, List.setIfInBounds_toArray, List.set_cons_zero, List.set_cons_succ]
          refine wpAnyG_take0 (i := 10) (oi := ⟨_, _, _, _, _, _⟩) (v := ?vg2_10) rfl (by kernel_rfl) (by kernel_rfl) (by kernel_rfl) (by kernel_rfl) (fun _ _ _ h => h) (fun _ => hS5) (Or.inl ⟨by rfl, ?hg2_10⟩) ?_
          case hg2_10 => intro w _; go_simp; (try with_reducible rfl)
          try simp only [Act.put, List.setIfInBounds_toArray, List.set_cons_zero, List.set_cons_succ]
          refine wpAnyG_take (i := 11) (oi := ⟨_, _, _, _, _, _⟩) (v := ?vg2_11) [11, 26, 27, 28] rfl (by kernel_rfl) (by kernel_rfl) (by kernel_rfl) (by kernel_rfl) (by kernel_rfl) (fun _ _ _ h => h) (fun _ => hS5) (Or.inl ⟨by rfl, ?hg2_11⟩) ?_
          case hg2_11 => intro w hSw; (try dsimp only at hSw); go_simp; (try with_reducible rfl)
          try simp only [Act.put, List.setIfInBounds_toArray, List.set_cons_zero, List.set_cons_succ]
          refine wpAnyG_take0 (i := 12) (oi := ⟨_, _, _, _, _, _⟩) (v := ?vg2_12) rfl (by kernel_rfl) (by kernel_rfl) (by kernel_rfl) (by kernel_rfl) (fun _ _ _ h => h) (fun _ => hS5) (Or.inl ⟨by rfl, ?hg2_12⟩) ?_
          case hg2_12 => intro w _; go_simp; (try with_reducible rfl)
          try simp only [Act.put, List.setIfInBounds_toArray, List.set_cons_zero, List.set_cons_succ]
          refine wpAnyG_take0 (i := 13) (oi := ⟨_, _, _, _, _, _⟩) (v := ?vg2_13) rfl (by kernel_rfl) (by kernel_rfl) (by kernel_rfl) (by kernel_rfl) (fun _ _ _ h => h) (fun _ => hS5) (Or.inl ⟨by rfl, ?hg2_13⟩) ?_
          case hg2_13 => intro w _; go_simp; (try with_reducible rfl)
          try simp only [Act.put, List.setIfInBounds_toArray, List.set_cons_zero, List.set_cons_succ]
          refine wpAnyG_take0 (i := 14) (oi := ⟨_, _, _, _, _, _⟩) (v := ?vg2_14) rfl (by kernel_rfl) (by kernel_rfl) (by kernel_rfl) (by kernel_rfl) (fun _ _ _ h => h) (fun _ => hS5) (Or.inl ⟨by rfl, ?hg2_14⟩) ?_
          case hg2_14 => intro w _; go_simp; (try with_reducible rfl)
          try simp only [Act.put, List.setIfInBounds_toArray, List.set_cons_zero, List.set_cons_succ]
          refine wpAnyG_take0 (i := 15) (oi := ⟨_, _, _, _, _, _⟩) (v := ?vg2_15) rfl (by kernel_rfl) (by kernel_rfl) (by kernel_rfl) (by kernel_rfl) (fun _ _ _ h => h) (fun _ => hS5) (Or.inl ⟨by rfl, ?hg2_15⟩) ?_
          case hg2_15 => intro w _; go_simp; (try with_reducible rfl)
          try simp only [Act.put, List.setIfInBounds_toArray, List.set_cons_zero, List.set_cons_succ]
          refine wpAnyG_take0 (i := 16) (oi := ⟨_, _, _, _, _, _⟩) (v := ?vg2_16) rfl (by kernel_rfl) (by kernel_rfl) (by kernel_rfl) (by kernel_rfl) (fun _ _ _ h => h) (fun _ => hS5) (Or.inl ⟨by rfl, ?hg2_16⟩) ?_
          case hg2_16 => intro w _; go_simp; (try with_reducible rfl)
          try simp only [Act.put, List.setIfInBounds_toArray, List.set_cons_zero, List.set_cons_succ]
          refine wpAnyG_take0 (i := 17) (oi := ⟨_, _, _, _, _, _⟩) (v := ?vg2_17) rfl (by kernel_rfl) (by kernel_rfl) (by kernel_rfl) (by kernel_rfl) (fun _ _ _ h => h) (fun _ => hS5) (Or.inl ⟨by rfl, ?hg2_17⟩) ?_
          case hg2_17 => intro w _; go_simp; (try with_reducible rfl)
          try simp only [Act.put, List.setIfInBounds_toArray, List.set_cons_zero, List.set_cons_succ]
          refine wpAnyG_take0 (i := 18) (oi := ⟨_, _, _, _, _, _⟩) (v := ?vg2_18) rfl (by kernel_rfl) (by kernel_rfl) (by kernel_rfl) (by kernel_rfl) (fun _ _ _ h => h) (fun _ => hS5) (Or.inl ⟨by rfl, ?hg2_18⟩) ?_
          case hg2_18 => intro w _; go_simp; (try with_reducible rfl)
          try simp only [Act.put, List.setIfInBounds_toArray, List.set_cons_zero, List.set_cons_succ]
          refine wpAnyG_take0 (i := 19) (oi := ⟨_, _, _, _, _, _⟩) (v := ?vg2_19) rfl (by kernel_rfl) (by kernel_rfl) (by kernel_rfl) (by kernel_rfl) (fun _ _ _ h => h) (fun _ => hS5) (Or.inl ⟨by rfl, ?hg2_19⟩) ?_
          case hg2_19 => intro w _; go_simp; (try with_reducible rfl)
          try simp only [Act.put, List.setIfInBounds_toArray, List.set_cons_zero, List.set_cons_succ]
          refine wpAnyG_take0 (i := 20) (oi := ⟨_, _, _, _, _, _⟩) (v := ?vg2_20) rfl (by kernel_rfl) (by kernel_rfl) (by kernel_rfl) (by kernel_rfl) (fun _ _ _ h => h) (fun _ => hS5) (Or.inl ⟨by rfl, ?hg2_20⟩) ?_
          case hg2_20 => intro w _; go_simp; (try with_reducible rfl)
          try simp only [Act.put, List.setIfInBounds_toArray, List.set_cons_zero, List.set_cons_succ]
          refine wpAnyG_take (i := 21) (oi := ⟨_, _, _, _, _, _⟩) (v := ?vg2_21) [21, 22, 23, 24, 25, 26, 27, 28] rfl (by kernel_rfl) (by kernel_rfl) (by kernel_rfl) (by kernel_rfl) (by kernel_rfl) (fun _ _ _ h => h) (fun _ => hS5) (Or.inl ⟨by rfl, ?hg2_21⟩) ?_
          case hg2_21 => intro w hSw; (try dsimp only at hSw); go_simp; (try with_reducible rfl)
          try simp only [Act.put, List.setIfInBounds_toArray, List.set_cons_zero, List.set_cons_succ]
          refine wpAnyG_take0 (i := 22) (oi := ⟨_, _, _, _, _, _⟩) (v := ?vg2_22) rfl (by kernel_rfl) (by kernel_rfl) (by kernel_rfl) (by kernel_rfl) (fun _ _ _ h => h) (fun _ => hS5) (Or.inl ⟨by rfl, ?hg2_22⟩) ?_
          case hg2_22 => intro w _; go_simp; (try with_reducible rfl)
          try simp only [Act.put, List.setIfInBounds_toArray, List.set_cons_zero, List.set_cons_succ]
          refine wpAnyG_take0 (i := 23) (oi := ⟨_, _, _, _, _, _⟩) (v := ?vg2_23) rfl (by kernel_rfl) (by kernel_rfl) (by kernel_rfl) (by kernel_rfl) (fun _ _ _ h => h) (fun _ => hS5) (Or.inl ⟨by rfl, ?hg2_23⟩) ?_
          case hg2_23 => intro w _; go_simp; (try with_reducible rfl)
          try simp only [Act.put, List.setIfInBounds_toArray, List.set_cons_zero, List.set_cons_succ]
          refine wpAnyG_take0 (i := 24) (oi := ⟨_, _, _, _, _, _⟩) (v := ?vg2_24) rfl (by kernel_rfl) (by kernel_rfl) (by kernel_rfl) (by kernel_rfl) (fun _ _ _ h => h) (fun _ => hS5) (Or.inl ⟨by rfl, ?hg2_24⟩) ?_
          case hg2_24 => intro w _; go_simp; (try with_reducible rfl)
          try simp only [Act.put, List.setIfInBounds_toArray, List.set_cons_zero, List.set_cons_succ]
          refine wpAnyG_take0 (i := 25) (oi := ⟨_, _, _, _, _, _⟩) (v := ?vg2_25) rfl (by kernel_rfl) (by kernel_rfl) (by kernel_rfl) (by kernel_rfl) (fun _ _ _ h => h) (fun _ => hS5) (Or.inl ⟨by rfl, ?hg2_25⟩) ?_
          case hg2_25 => intro w _; go_simp; (try with_reducible rfl)
          try simp only [Act.put, List.setIfInBounds_toArray, List.set_cons_zero, List.set_cons_succ]
          refine wpAnyG_take0 (i := 26) (oi := ⟨_, _, _, _, _, _⟩) (v := ?vg2_26) rfl (by kernel_rfl) (by kernel_rfl) (by kernel_rfl) (by kernel_rfl) (fun _ _ _ h => h) (fun _ => hS5) (Or.inl ⟨by rfl, ?hg2_26⟩) ?_
          case hg2_26 => intro w _; go_simp; (try with_reducible rfl)
          try simp only [Act.put, List.setIfInBounds_toArray, List.set_cons_zero, List.set_cons_succ]
          refine wpAnyG_take0 (i := 27) (oi := ⟨_, _, _, _, _, _⟩) (v := ?vg2_27) rfl (by kernel_rfl) (by kernel_rfl) (by kernel_rfl) (by kernel_rfl) (fun _ _ _ h => h) (fun _ => hS5) (Or.inl ⟨by rfl, ?hg2_27⟩) ?_
          case hg2_27 => intro w _; go_simp; (try with_reducible rfl)
          try simp only [Act.put, List.setIfInBounds_toArray, List.set_cons_zero, List.set_cons_succ]
          refine wpAnyG_step (i := 28) (oi := ⟨_, _, _, _, _, _⟩) rfl (by kernel_rfl) (by rfl) (fun K hK => ?_)
          go_simp
          refine hK _ _ (fun h => absurd h (Bool.eq_false_iff.1 (by kernel_rfl))) (fun _ => ?_)
          clear hK
          try simp only [Act.put, List.setIfInBounds_toArray, List.set_cons_zero, List.set_cons_succ]
          refine wpAnyG_done (by kernel_rfl) ?_ _
          go_wp2_with fail
          go_roundw
          case rel => exact ⟨j + 1, _, _, _, by rw [← Hi.out]; congr 1; omega, Hj.out, Lib.hid ⟨HN.out, (HK.out.1.drew.setCell (HK.out.2.elim (fun h => .inl (List.mem_cons_of_mem _ h)) .inr) _).setCell (.inl (by simp)) _, fun i hi => by simp [Value.ownBlock] at hi; subst hi; exact HK.out.2⟩⟩
          case measure => simp [intOf]
    · obtain rfl : j = L := by omega
      have htl : (bitsK cv j).take j = bitsK cv j := List.take_of_length_le (by rw [bitsK_len]; omega)
      rw [htl] at hI
      have hneg : (j : Int) - 1 - j = -1 := by omega
      rw [hneg]
      clear htl hneg
      go_wp2
      refine bodyPost_end (results_none rfl _ _ _) rfl ?_
      exact ⟨rfl, _, _, _, hI.out.1, hI.out.2.1⟩
end Go.Proofs.YtdnaahbhfjclpaaGreatDoor

