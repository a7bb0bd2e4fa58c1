/- digit, left, pair. -/
import Derived.Test.YtopfbbnpbobhaaaDoorP5
set_option linter.unusedVariables false
set_option linter.unusedSimpArgs false
namespace Go.Proofs.YtopfbbnpbobhaaaDoor
open Go.RowKit Go.Sal

theorem idx_dg16_fin : ∀ i : Fin 256, Lib.indexByte [48, 49, 50, 51, 52, 53, 54, 55, 56, 57, 97, 98, 99, 100, 101, 102] (UInt8.ofNat i.val) = dg16 (UInt8.ofNat i.val) := by decide +kernel
theorem idx_dg16 (c : UInt8) : Lib.indexByte [48, 49, 50, 51, 52, 53, 54, 55, 56, 57, 97, 98, 99, 100, 101, 102] c = dg16 c := by
  have := idx_dg16_fin ⟨c.toNat, c.toNat_lt⟩
  simpa using this
theorem idx_call (c : UInt8) (w : World) : Calls Tryd.prog 54 #[.string { data := #[48, 49, 50, 51, 52, 53, 54, 55, 56, 57, 97, 98, 99, 100, 101, 102] }, .int .u8 (c.toNat : Int)] w fun e w' => e = .returned (.int .i64 (dg16 c)) ∧ w' = w := by
  have h := Tryd.strings_IndexByte { data := #[48, 49, 50, 51, 52, 53, 54, 55, 56, 57, 97, 98, 99, 100, 101, 102] } (c.toNat : Int) w
  have e : (c.toNat : Int).toNat.toUInt8 = c := by simp
  rw [e] at h
  simp only [idx_dg16] at h
  exact h
theorem dg16_bd (c : UInt8) : -1 ≤ dg16 c ∧ dg16 c ≤ 15 := by
  have := c.toNat_lt
  unfold dg16
  split
  · omega
  · split <;> omega
theorem digA_bd (s : List UInt8) (i : Nat) : -1 ≤ digA s i ∧ digA s i ≤ 15 := by
  unfold digA
  split
  · omega
  · exact dg16_bd _
set_option maxRecDepth 20000 in
set_option maxHeartbeats 2000000 in
theorem digit_any (hb : Nat) (s : List UInt8) (i : Nat) (w : World) (hs : s.length ≤ 1000000) (hi : i ≤ 1000000) (h0 : w.cell? ⟨hb, 0, none⟩ = some (.string ⟨s.toArray⟩)) (h1 : w.cell? ⟨hb, 1, none⟩ = some (.int .i64 (i : Int))) :
    Calls Tryd.prog 36 #[.pointer (some ⟨hb, 0, none⟩)] w fun e w' => e = .returned (.int .i64 (digA s i)) ∧ Keep [] w w' := by
  go_enter Tryd.func36, Tryd.ntmps36
  rcases Nat.lt_or_ge i s.length with hlt | hge
  · have hd : digA s i = dg16 s[i] := by simp [digA, hlt]
    rw [hd]
    have hlt' : (i : Int) < (s.length : Int) := by omega
    have hlt2 : ¬ (s.length : Int) ≤ (i : Int) := by omega
    have hix : ∀ W, (Instr.index 9 (.string ⟨s.toArray⟩) (.int .i64 (i : Int))).run Tryd.prog W = .ok (.int .u8 (s[i].toNat : Int)) W := fun W => by
      rw [run_index_string _ _ _ _ _ Tryd.underlying9]
      exact dif_pos (show (0 : Int) ≤ (i : Int) ∧ (i : Int) < ((s.length : Nat) : Int) from ⟨by omega, by omega⟩)
    have Hc := idx_call s[i]
    generalize s[i] = c at *
    go_wp2
    go_quiet (fail)
    have k0 : w.cell? ⟨hb, 0, none⟩ = (w.drewN nq).cell? ⟨hb, 0, none⟩ := (World.cell?_drewN _ _ _).symm
    have k1 : w.cell? ⟨hb, 1, none⟩ = (w.drewN nq).cell? ⟨hb, 1, none⟩ := (World.cell?_drewN _ _ _).symm
    rw [k0] at h0
    rw [k1] at h1
    have hk := (Keep.refl [] w).drewN nq
    have Hk := Lib.hid hk
    clear k0 k1 hk
    generalize (World.drewN _ _) = w3 at *
    go_wp2
    go_quiet ((go_at_call 54; exact Calls.quiet_of_same (Hc _)))
    go_wp2
    go_ret
    exact ⟨rfl, Hk.out.drewN _⟩
  · have hd : digA s i = -1 := by simp [digA, hge]
    rw [hd]
    have hge' : (s.length : Int) ≤ (i : Int) := by omega
    go_wp2
    go_quiet (fail)
    go_wp2
    go_ret
    exact ⟨rfl, (Keep.refl [] w).drewN _⟩
theorem left_any (hb n c : Nat) (A : Option Addr) (w : World) (hn : n ≤ 1048576) (h2 : w.cell? ⟨hb, 2, none⟩ = some (.slice A n c)) :
    Calls Tryd.prog 37 #[.pointer (some ⟨hb, 0, none⟩)] w fun e w' => e = .returned (.int .i64 (1048576 - (n : Int))) ∧ w = w' := by
  have hw : IntKind.i64.wrap (1048576 - (n : Int)) = 1048576 - (n : Int) := by rw [IntKind.wrap_i64]; omega
  go_enter Tryd.func37, Tryd.ntmps37
  go_wp2
  go_ret
  exact ⟨rfl, rfl⟩
/-- the reader in memory -/
def HexA (s : List UInt8) (h : HS) (v : Value) : Array Value := #[.string ⟨s.toArray⟩, .int .i64 (h.pos : Int), v, .int .u8 (h.last.toNat : Int), .int .i64 (h.n : Int), .bool h.closed]
def HexIs (base hb : Nat) (s : List UInt8) (h : HS) (w : World) : Prop := base ≤ hb ∧ ∃ v, Blk w hb 51 (HexA s h v) ∧ w.ownsRow base 5 1 v h.out.length (byteCells h.out)
theorem HexIs.keep {base hb : Nat} {s : List UInt8} {h : HS} {w w' : World} (hh : HexIs base hb s h w) (k : Keep [] w w') : HexIs base hb s h w' := by
  obtain ⟨h0, v, h1, h2⟩ := hh
  exact ⟨h0, v, h1.keep k (by simp), ownsRow_keep h2 k (by simp)⟩
theorem byte_or_fin : ∀ (a b : Fin 16), (bits .or .i64 ((a.val : Int) * 16) (b.val : Int)) = (16 * a.val + b.val : Nat) := by decide +kernel
theorem hexA_set1 (s : List UInt8) (h : HS) (v : Value) (k : Nat) : (HexA s h v).setIfInBounds 1 (.int .i64 (k : Int)) = HexA s { h with pos := k } v := rfl
theorem hexA_set2 (s : List UInt8) (h : HS) (v u : Value) : (HexA s h v).setIfInBounds 2 u = HexA s h u := rfl
theorem hexA_set3 (s : List UInt8) (h : HS) (v : Value) (c : UInt8) : (HexA s h v).setIfInBounds 3 (.int .u8 (c.toNat : Int)) = HexA s { h with last := c } v := rfl
theorem hexA_set4 (s : List UInt8) (h : HS) (v : Value) (k : Nat) : (HexA s h v).setIfInBounds 4 (.int .i64 (k : Int)) = HexA s { h with n := k } v := rfl
theorem hexA_set5 (s : List UInt8) (h : HS) (v : Value) (b : Bool) : (HexA s h v).setIfInBounds 5 (.bool b) = HexA s { h with closed := b } v := rfl
theorem HexA_facts {w : World} {hb : Nat} {s : List UInt8} {h : HS} {v : Value} (B : Blk w hb 51 (HexA s h v)) :
    w.cell? ⟨hb, 0, none⟩ = some (.string ⟨s.toArray⟩) ∧ w.cell? ⟨hb, 1, none⟩ = some (.int .i64 (h.pos : Int)) ∧ w.cell? ⟨hb, 2, none⟩ = some v ∧ w.cell? ⟨hb, 3, none⟩ = some (.int .u8 (h.last.toNat : Int)) ∧
    w.cell? ⟨hb, 4, none⟩ = some (.int .i64 (h.n : Int)) ∧ w.cell? ⟨hb, 5, none⟩ = some (.bool h.closed) ∧ (∀ i, w.frozen? ⟨hb, i, none⟩ = false) :=
  ⟨B.cell 0, B.cell 1, B.cell 2, B.cell 3, B.cell 4, B.cell 5, B.free⟩
theorem own_cut {w : World} {base n : Nat} {xs ys : List Value} {v : Value} (h : w.ownsRow base 5 1 v n xs) (e : xs = ys) : w.ownsRow base 5 1 v n ys := e ▸ h
/-- append onto the reader's row, from whatever source -/
theorem hexApp {base hb : Nat} {s : List UInt8} {k : HS} {v : Value} {w6 : World} (h0 : base ≤ hb) (HB : Blk w6 hb 51 (HexA s k v)) (HO : w6.ownsRow base 5 1 v k.out.length (byteCells k.out)) (hB : base ≤ w6.heap.size)
    (A : Option Addr) (m c : Nat) (bs : List UInt8) (hs : Src w6 1 A m (byteCells bs)) (hl : k.out.length + bs.length ≤ 100000000) :
    ∃ A' n' c' w7, (Builtin.append_ #[22, 22] 22 #[v, .slice A m c]).run Tryd.prog w6 = .ok (.slice A' n' c') w7 ∧ w7.cell? ⟨hb, 2, none⟩ = some v ∧ w7.cell? ⟨hb, 3, none⟩ = some (.int .u8 (k.last.toNat : Int)) ∧ w7.cell? ⟨hb, 5, none⟩ = some (.bool k.closed) ∧ (∀ i, w7.frozen? ⟨hb, i, none⟩ = false) ∧
      HexIs base hb s { k with out := k.out ++ bs } (w7.setCell ⟨hb, 2, none⟩ (.slice A' n' c')) ∧ Below base w6 (w7.setCell ⟨hb, 2, none⟩ (.slice A' n' c')) := by
  have hm : m = bs.length := by have := hs.1; rw [byteCells_len] at this; omega
  subst hm
  obtain ⟨v', w7, hrun, hown, hgr, hor⟩ := run_append_src (P := Tryd.prog) w6 22 22 5 (.int .u8 0) 1 1 base Tryd.underlying22 info5 rfl (by decide) v _ _ HO A bs.length c (byteCells bs) hs (byteCells_one bs) (by unfold maxLen; omega) (by omega) hB
  have hne : v.ownBlock ≠ some hb := own_ne_blk HO HB (by decide)
  have HB7 : Blk w7 hb 51 (HexA s k v) := HB.grown hgr (fun e => hne e.symm)
  have HB8 := hexA_set2 s k v v' ▸ HB7.set_ 2 v'
  have hown7 : w7.ownsRow base 5 1 v' (k.out ++ bs).length (byteCells (k.out ++ bs)) := by
    have e : byteCells (k.out ++ bs) = byteCells k.out ++ byteCells bs := by simp [byteCells]
    rw [e, List.length_append]
    exact hown
  have hne7 : v'.ownBlock ≠ some hb := own_ne_blk hown7 HB7 (by decide)
  obtain ⟨A', n', c', rfl⟩ : ∃ A' n' c', v' = .slice A' n' c' := by
    rcases hown7.2 with ⟨rfl, h1⟩ | ⟨g, cap, cur, rfl, _⟩ <;> exact ⟨_, _, _, rfl⟩
  refine ⟨A', n', c', w7, hrun, HB7.cell 2, HB7.cell 3, HB7.cell 5, HB7.free, ⟨h0, _, HB8, ?_⟩, ?_⟩
  · exact ownsRow_keep hown7 ((Keep.refl [hb] w7).setCell (.inl (by simp)) _) (fun g hg hm => by
      simp only [List.mem_cons, List.not_mem_nil, or_false] at hm
      subst hm
      exact hne7 hg)
  · refine ((Below.refl base w6).grown hgr hB (fun g hg => ?_)).setCell (p := ⟨hb, 2, none⟩) h0 _
    exact (HO.lt g hg).1
theorem hexPush {base hb : Nat} {s : List UInt8} {k : HS} {v : Value} {w5 : World} (h0 : base ≤ hb) (HB : Blk w5 hb 51 (HexA s k v)) (HO : w5.ownsRow base 5 1 v k.out.length (byteCells k.out)) (hB : base ≤ w5.heap.size) (c : UInt8) (hl : k.out.length ≤ 1048576) :
    ∃ A' n' c' w7, (Builtin.append_ #[22, 22] 22 #[v, .slice (some ⟨w5.heap.size, 0, none⟩) 1 1]).run Tryd.prog (w5.alloc (.cells #[.int .u8 (c.toNat : Int)] 5)) = .ok (.slice A' n' c') w7 ∧ w7.cell? ⟨hb, 2, none⟩ = some v ∧ (∀ i, w7.frozen? ⟨hb, i, none⟩ = false) ∧
      HexIs base hb s { k with out := k.out ++ [c] } (w7.setCell ⟨hb, 2, none⟩ (.slice A' n' c')) ∧ Below base w5 (w7.setCell ⟨hb, 2, none⟩ (.slice A' n' c')) := by
  obtain ⟨A', n', c', w7, h1, h2, _, _, h3, h4, h5⟩ := hexApp h0 (HB.alloc (.cells #[.int .u8 (c.toNat : Int)] 5)) (HO.alloc _) (by simp; omega) (some ⟨w5.heap.size, 0, none⟩) 1 1 [c] (src_new w5 5 1 [.int .u8 (c.toNat : Int)] rfl) (by simp; omega)
  exact ⟨A', n', c', w7, h1, h2, h3, h4, ((Below.refl base w5).alloc hB _).trans h5⟩
set_option maxRecDepth 20000 in
set_option maxHeartbeats 4000000 in
theorem hpair_any (base hb : Nat) (s : List UInt8) (h : HS) (w : World) (hs : s.length ≤ 1000) (hpos : h.pos ≤ 1000) (hn : h.n ≤ 4) (hol : h.out.length ≤ 1048576) (H : HexIs base hb s h w) (hB : base ≤ w.heap.size) :
    Calls Tryd.prog 16 #[.pointer (some ⟨hb, 0, none⟩)] w fun e w' => e = .returned (.bool (pairS s h).1) ∧ HexIs base hb s (pairS s h).2 w' ∧ Below base w w' := by
  obtain ⟨h0, v, hb1, hown⟩ := H
  obtain ⟨A, cp, rfl⟩ : ∃ A cp, v = .slice A h.out.length cp := by
    rcases hown.2 with ⟨rfl, h1⟩ | ⟨g, cap, cur, rfl, _⟩
    · exact ⟨none, 0, by rw [h1]⟩
    · exact ⟨_, _, rfl⟩
  have HO := Lib.hid hown
  have HB := Lib.hid hb1
  clear hown hb1
  have c0 : w.cell? ⟨hb, 0, none⟩ = some (.string ⟨s.toArray⟩) := HB.out.cell 0
  have c1 : w.cell? ⟨hb, 1, none⟩ = some (.int .i64 (h.pos : Int)) := HB.out.cell 1
  have C0 := Lib.hid c0
  have C1 := Lib.hid c1
  clear c0 c1
  have hd1 := digA_bd s h.pos
  by_cases hlo : digA s h.pos < 0
  · have e : pairS s h = (false, h) := by unfold pairS; rw [if_pos (.inl hlo)]
    rw [e]
    have Hd := digit_any hb s h.pos w (by omega) (by omega) C0.out C1.out
    generalize digA s h.pos = hi at *
    have HD := Lib.hid Hd
    clear Hd e
    go_enter Tryd.func16, Tryd.ntmps16
    go_wp2_with (go_at_call 36; refine HD.out.mono ?_; rintro e w2 ⟨rfl, hk⟩)
    go_ret
    exact ⟨rfl, HexIs.keep ⟨h0, _, HB.out, HO.out⟩ hk, hk.belowB hB (by simp)⟩
  · have hlo' : 0 ≤ digA s h.pos := by omega
    have Hd := digit_any hb s h.pos w (by omega) (by omega) C0.out C1.out
    have Hdd := Lib.hid Hd
    clear Hd
    by_cases hfull : MF ≤ h.out.length
    · have e : pairS s h = (false, h) := by unfold pairS; rw [if_pos (.inr hfull)]
      rw [e]
      generalize digA s h.pos = hi at *
      have hle : (1048576 - (h.out.length : Int)) < 1 := by unfold MF at hfull; omega
      clear e
      go_enter Tryd.func16, Tryd.ntmps16
      go_wp2_with (first
        | (go_at_call 36; refine Hdd.out.mono ?_; rintro e w2 ⟨rfl, hk⟩; have Hk := Lib.hid hk; clear hk)
        | (go_at_call 37; refine (left_any hb h.out.length cp A w2 (by omega) (HexA_facts (HB.out.keep Hk.out (by simp))).2.2.1).mono ?_; rintro e w3 ⟨rfl, rfl⟩))
      go_ret
      exact ⟨rfl, HexIs.keep ⟨h0, _, HB.out, HO.out⟩ Hk.out, Hk.out.belowB hB (by simp)⟩
    · have hnf : ¬ (1048576 - (h.out.length : Int)) < 1 := by unfold MF at hfull; omega
      have hd2 := digA_bd s (h.pos + 1)
      have hw1 : IntKind.i64.wrap ((h.pos : Int) + 1) = (h.pos : Int) + 1 := by rw [IntKind.wrap_i64]; omega
      have hpos' : (h.pos : Int) ≤ 1000 := by omega
      have hps : pairS s h = if digA s (h.pos + 1) < 0 then (false, { h with pos := h.pos + 1 })
          else if (0 < h.n ∧ byteOf (digA s h.pos) (digA s (h.pos + 1)) = h.last) ∧ (h.closed = true ∨ h.n = 4) then (false, { h with pos := h.pos + 1 })
          else if 0 < h.n ∧ byteOf (digA s h.pos) (digA s (h.pos + 1)) = h.last then (true, { h with pos := h.pos + 2, out := h.out ++ [byteOf (digA s h.pos) (digA s (h.pos + 1))], n := h.n + 1 })
          else (true, { pos := h.pos + 2, out := h.out ++ [byteOf (digA s h.pos) (digA s (h.pos + 1))], last := byteOf (digA s h.pos) (digA s (h.pos + 1)), n := 1, closed := false }) := by
        conv => lhs; unfold pairS
        rw [if_neg (by omega)]
      have Hps := Lib.hid hps
      clear hps
      go_enter Tryd.func16, Tryd.ntmps16
      go_wp2_with (fail)
      refine Hdd.out.mono ?_
      rintro e w2 ⟨rfl, hk⟩
      have Hk := Lib.hid hk
      clear hk
      have HB2 := HB.out.keep Hk.out (by simp)
      obtain ⟨d0, d1, d2, d3, d4, d5, df⟩ := HexA_facts HB2
      have hl := left_any hb h.out.length cp A w2 (by omega) d2
      have Hl := Lib.hid hl
      have HB3 := hexA_set1 s h (.slice A h.out.length cp) (h.pos + 1) ▸ HB2.set_ 1 (.int .i64 ((h.pos + 1 : Nat) : Int))
      have hdg := digit_any hb s (h.pos + 1) _ (by omega) (by omega) (HexA_facts HB3).1 (HexA_facts HB3).2.1
      rw [Int.natCast_add, Int.natCast_one] at hdg
      rw [Int.natCast_add, Int.natCast_one] at HB3
      have Hdg := Lib.hid hdg
      have HHB3 := Lib.hid HB3
      clear hl HB3 HB2 hdg
      generalize digA s h.pos = hi at *
      generalize digA s (h.pos + 1) = lo at *
      go_wp2_with (fail)
      refine Hl.out.mono ?_
      rintro e w3 ⟨rfl, rfl⟩
      go_wp2_with (fail)
      refine Hdg.out.mono ?_
      rintro e w4 ⟨rfl, hk4⟩
      have hK : Keep [hb] w w4 := ((Hk.out.mono (G := [hb]) (by simp)).setCell (.inl (by simp)) _).trans (hk4.mono (by simp))
      have hB4 : Blk w4 hb 51 (HexA s { h with pos := h.pos + 1 } (.slice A h.out.length cp)) := HHB3.out.keep hk4 (by simp)
      have hown4 : w4.ownsRow base 5 1 (.slice A h.out.length cp) h.out.length (byteCells h.out) := ownsRow_keep HO.out hK (fun g hg hm => by
        simp only [List.mem_cons, List.not_mem_nil, or_false] at hm
        subst hm
        exact own_ne_blk HO.out HB.out (by decide) hg)
      have HK := Lib.hid hK
      have HB4 := Lib.hid hB4
      have HO4 := Lib.hid hown4
      clear hK hB4 hown4 hk4 d0 d1 d2 d3 d4 d5 df
      by_cases hl2 : lo < 0
      · go_wp2
        go_ret
        rw [Hps.out, if_pos hl2]
        exact ⟨rfl, ⟨h0, _, HB4.out, HO4.out⟩, HK.out.belowB hB (by simp; omega)⟩
      · have hl2' : 0 ≤ lo := by omega
        obtain ⟨a, rfl⟩ : ∃ a : Nat, hi = a := ⟨hi.toNat, by omega⟩
        obtain ⟨b, rfl⟩ : ∃ b : Nat, lo = b := ⟨lo.toNat, by omega⟩
        have ha : a < 16 := by omega
        have hb2 : b < 16 := by omega
        go_upto_region 9 with (fail)
        obtain ⟨c, hc, hcb⟩ : ∃ c : UInt8, bits .or .i64 ((a : Int) * 16) (b : Int) % 256 = (c.toNat : Int) ∧ byteOf (a : Int) (b : Int) = c := by
          have := byte_or_fin ⟨a, ha⟩ ⟨b, hb2⟩
          simp only at this
          refine ⟨_, ?_, rfl⟩
          rw [this]
          simp [byteOf]
        rw [hc]
        rw [hcb] at Hps
        clear hc hcb
        obtain ⟨f0, f1, f2, f3, f4, f5, ff⟩ := HexA_facts HB4.out
        simp only at f0 f1 f2 f3 f4 f5
        by_cases hsame : 0 < h.n ∧ c = h.last
        · obtain ⟨hn0, rfl⟩ := hsame
          have hn0' : (0 : Int) < (h.n : Int) := by omega
          by_cases hcl : h.closed = true
          · rw [hcl] at f5
            go_wp2
            go_ret
            rw [Hps.out, if_neg (by omega), if_pos ⟨⟨hn0, by first | rfl | trivial⟩, .inl hcl⟩]
            exact ⟨rfl, ⟨h0, _, HB4.out, HO4.out⟩, HK.out.belowB hB (by simp; omega)⟩
          · have hcl2 : h.closed = false := by simpa using hcl
            rw [hcl2] at f5
            by_cases h4n : h.n = 4
            · have h4e : (h.n : Int) = 4 := by omega
              rw [h4e] at f4
              clear h4e hn0' hcl2
              go_wp2
              go_ret
              rw [Hps.out, if_neg (by omega), if_pos ⟨⟨hn0, by first | rfl | trivial⟩, .inr h4n⟩]
              exact ⟨rfl, ⟨h0, _, HB4.out, HO4.out⟩, HK.out.belowB hB (by simp; omega)⟩
            · have h4b : ((h.n : Int) == 4) = false := by rw [beq_eq_false_iff_ne]; omega
              have h4c : ¬ (h.n : Int) = 4 := by omega
              have hcl3 := Lib.hid hcl2
              clear hcl2
              have hB5 := (HB4.out.set_ 1 (.int .i64 (h.pos + 1 + 1))).set_ 4 (.int .i64 (h.n + 1))
              have hK5 : Keep [hb] w4 ((w4.setCell ⟨hb, 1, none⟩ (.int .i64 (h.pos + 1 + 1))).setCell ⟨hb, 4, none⟩ (.int .i64 (h.n + 1))) :=
                ((Keep.refl [hb] w4).setCell (.inl (by simp)) _).setCell (.inl (by simp)) _
              go_upto_region 16 with (fail)
              obtain ⟨w5, hw5⟩ : ∃ w5, ((w4.setCell ⟨hb, 1, none⟩ (.int .i64 (h.pos + 1 + 1))).setCell ⟨hb, 4, none⟩ (.int .i64 (h.n + 1))) = w5 := ⟨_, rfl⟩
              rw [hw5] at hB5 hK5 ⊢
              clear hw5
              have hB6 : Blk w5 hb 51 (HexA s { h with pos := h.pos + 2, n := h.n + 1 } (.slice A h.out.length cp)) := hB5
              have HO5 := ownsRow_keep HO4.out hK5 (fun g hg hm => by
                simp only [List.mem_cons, List.not_mem_nil, or_false] at hm
                subst hm
                exact own_ne_blk HO.out HB.out (by decide) hg)
              have hb5 : Below base w w5 := (HK.out.trans hK5).belowB hB (by simp; omega)
              obtain ⟨A', n', c', w7, hrun, g2, gf, hh, hbb⟩ := hexPush h0 hB6 HO5 (Nat.le_trans hB hb5.size) h.last (by simp only; omega)
              have e2 : w5.cell? ⟨hb, 2, none⟩ = some (.slice A h.out.length cp) := (HexA_facts hB6).2.2.1
              have HH := Lib.hid (And.intro hh (hb5.trans hbb))
              clear hB5 hK5 hB6 HO5 hb5 hh hbb f0 f1 f2 f3 f4 f5 ff
              go_wp2_with (at_builtin; refine wpList_append2 (v1 := .slice A h.out.length cp) (v2 := .slice (some ⟨w5.heap.size, 0, none⟩) 1 1) rfl (.tmp 89) (.tmp 91) rfl rfl rfl hrun ?_)
              go_ret
              rw [Hps.out, if_neg (by omega), if_neg (by rintro ⟨_, h1 | h1⟩; exact hcl h1; exact h4n h1), if_pos ⟨hn0, by first | rfl | trivial⟩]
              exact ⟨rfl, HH.out⟩
        · by_cases hn0 : 0 < h.n
          · have hn0' : (0 : Int) < (h.n : Int) := by omega
            have hcne : ((c.toNat : Int) == (h.last.toNat : Int)) = false := by
              rw [beq_eq_false_iff_ne]
              intro e
              exact hsame ⟨hn0, UInt8.toNat_inj.1 (by omega)⟩
            have hcn2 : (c.toNat == h.last.toNat) = false := by
              rw [beq_eq_false_iff_ne]
              intro e
              exact hsame ⟨hn0, UInt8.toNat_inj.1 e⟩
            have hB5 := ((((HB4.out.set_ 1 (.int .i64 (h.pos + 1 + 1))).set_ 4 (.int .i64 0)).set_ 3 (.int .u8 (c.toNat : Int))).set_ 5 (.bool false)).set_ 4 (.int .i64 1)
            have hK5 : Keep [hb] w4 (((((w4.setCell ⟨hb, 1, none⟩ (.int .i64 (h.pos + 1 + 1))).setCell ⟨hb, 4, none⟩ (.int .i64 0)).setCell ⟨hb, 3, none⟩ (.int .u8 (c.toNat : Int))).setCell ⟨hb, 5, none⟩ (.bool false)).setCell ⟨hb, 4, none⟩ (.int .i64 1)) :=
              (((((Keep.refl [hb] w4).setCell (.inl (by simp)) _).setCell (.inl (by simp)) _).setCell (.inl (by simp)) _).setCell (.inl (by simp)) _).setCell (.inl (by simp)) _
            go_upto_region 16 with (fail)
            obtain ⟨w5, hw5⟩ : ∃ w5, (((((w4.setCell ⟨hb, 1, none⟩ (.int .i64 (h.pos + 1 + 1))).setCell ⟨hb, 4, none⟩ (.int .i64 0)).setCell ⟨hb, 3, none⟩ (.int .u8 (c.toNat : Int))).setCell ⟨hb, 5, none⟩ (.bool false)).setCell ⟨hb, 4, none⟩ (.int .i64 1)) = w5 := ⟨_, rfl⟩
            rw [hw5] at hB5 hK5 ⊢
            clear hw5
            have hB6 : Blk w5 hb 51 (HexA s { h with pos := h.pos + 2, n := 1, last := c, closed := false } (.slice A h.out.length cp)) := hB5
            have HO5 := ownsRow_keep HO4.out hK5 (fun g hg hm => by
              simp only [List.mem_cons, List.not_mem_nil, or_false] at hm
              subst hm
              exact own_ne_blk HO.out HB.out (by decide) hg)
            have hb5 : Below base w w5 := (HK.out.trans hK5).belowB hB (by simp; omega)
            obtain ⟨A', n', c', w7, hrun, g2, gf, hh, hbb⟩ := hexPush h0 hB6 HO5 (Nat.le_trans hB hb5.size) c (by simp only; omega)
            have e2 : w5.cell? ⟨hb, 2, none⟩ = some (.slice A h.out.length cp) := (HexA_facts hB6).2.2.1
            have HH := Lib.hid (And.intro hh (hb5.trans hbb))
            clear hB5 hK5 hB6 HO5 hb5 hh hbb f0 f1 f2 f3 f4 f5 ff
            go_wp2_with (at_builtin; refine wpList_append2 (v1 := .slice A h.out.length cp) (v2 := .slice (some ⟨w5.heap.size, 0, none⟩) 1 1) rfl (.tmp 89) (.tmp 91) rfl rfl rfl hrun ?_)
            go_ret
            rw [Hps.out, if_neg (by omega), if_neg (by rintro ⟨h1, _⟩; exact hsame h1), if_neg hsame]
            exact ⟨rfl, HH.out⟩
          · have hnz : h.n = 0 := by omega
            rw [hnz] at f4
            clear hn0 hnz
            have hB5 := ((((HB4.out.set_ 1 (.int .i64 (h.pos + 1 + 1))).set_ 4 (.int .i64 0)).set_ 3 (.int .u8 (c.toNat : Int))).set_ 5 (.bool false)).set_ 4 (.int .i64 1)
            have hK5 : Keep [hb] w4 (((((w4.setCell ⟨hb, 1, none⟩ (.int .i64 (h.pos + 1 + 1))).setCell ⟨hb, 4, none⟩ (.int .i64 0)).setCell ⟨hb, 3, none⟩ (.int .u8 (c.toNat : Int))).setCell ⟨hb, 5, none⟩ (.bool false)).setCell ⟨hb, 4, none⟩ (.int .i64 1)) :=
              (((((Keep.refl [hb] w4).setCell (.inl (by simp)) _).setCell (.inl (by simp)) _).setCell (.inl (by simp)) _).setCell (.inl (by simp)) _).setCell (.inl (by simp)) _
            go_upto_region 16 with (fail)
            obtain ⟨w5, hw5⟩ : ∃ w5, (((((w4.setCell ⟨hb, 1, none⟩ (.int .i64 (h.pos + 1 + 1))).setCell ⟨hb, 4, none⟩ (.int .i64 0)).setCell ⟨hb, 3, none⟩ (.int .u8 (c.toNat : Int))).setCell ⟨hb, 5, none⟩ (.bool false)).setCell ⟨hb, 4, none⟩ (.int .i64 1)) = w5 := ⟨_, rfl⟩
            rw [hw5] at hB5 hK5 ⊢
            clear hw5
            have hB6 : Blk w5 hb 51 (HexA s { h with pos := h.pos + 2, n := 1, last := c, closed := false } (.slice A h.out.length cp)) := hB5
            have HO5 := ownsRow_keep HO4.out hK5 (fun g hg hm => by
              simp only [List.mem_cons, List.not_mem_nil, or_false] at hm
              subst hm
              exact own_ne_blk HO.out HB.out (by decide) hg)
            have hb5 : Below base w w5 := (HK.out.trans hK5).belowB hB (by simp; omega)
            obtain ⟨A', n', c', w7, hrun, g2, gf, hh, hbb⟩ := hexPush h0 hB6 HO5 (Nat.le_trans hB hb5.size) c (by simp only; omega)
            have e2 : w5.cell? ⟨hb, 2, none⟩ = some (.slice A h.out.length cp) := (HexA_facts hB6).2.2.1
            have HH := Lib.hid (And.intro hh (hb5.trans hbb))
            clear hB5 hK5 hB6 HO5 hb5 hh hbb f0 f1 f2 f3 f4 f5 ff
            go_wp2_with (at_builtin; refine wpList_append2 (v1 := .slice A h.out.length cp) (v2 := .slice (some ⟨w5.heap.size, 0, none⟩) 1 1) rfl (.tmp 89) (.tmp 91) rfl rfl rfl hrun ?_)
            go_ret
            rw [Hps.out, if_neg (by omega), if_neg (by rintro ⟨h1, _⟩; exact hsame h1), if_neg hsame]
            exact ⟨rfl, HH.out⟩
end Go.Proofs.YtopfbbnpbobhaaaDoor
