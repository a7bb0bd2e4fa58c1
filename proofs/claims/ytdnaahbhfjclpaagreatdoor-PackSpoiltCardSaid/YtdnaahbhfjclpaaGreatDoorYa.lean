/- Arguments opened; empty chunks; chunks asked. -/
import Derived.Test.YtdnaahbhfjclpaaGreatDoorXp
import Derived.Test.YtdnaahbhfjclpaaGreatDoorReg2
import Derived.ProofKit
import Derived.SizedLaws
import Derived.Deep.Slices
import Derived.Deep.Fields
import Derived.Lib.SmallJoins
set_option linter.unusedVariables false
set_option linter.unusedSimpArgs false
namespace Go.Pck
open Go.Cod Go.Huf
theorem rd_or (x : List Nat) : (∃ E, E ≠ 0 ∧ rdP x = ([], 0, E)) ∨ (hdOk x = true ∧ ¬ x.length / 512 < blksP (hdCode x) ∧ crcOk x = true ∧ zerosB (restB x) = true ∧ decC (codeB x) = 0 ∧ (decT (codeB x)).length = hdRaw x ∧ shaP (decT (codeB x)) = hdDig x ∧ rdP x = (decT (codeB x), blksP (hdCode x), 0)) := by
  unfold rdP
  by_cases h1 : hdOk x = true
  · rw [if_pos h1]
    by_cases h2 : x.length / 512 < blksP (hdCode x)
    · rw [if_pos h2]; exact .inl ⟨11, by omega, rfl⟩
    · rw [if_neg h2]
      by_cases h3 : crcOk x = true
      · rw [if_pos h3]
        by_cases h4 : zerosB (restB x) = true
        · rw [if_pos h4]
          by_cases h5 : decC (codeB x) = 0 ∧ (decT (codeB x)).length = hdRaw x
          · rw [if_pos h5]
            by_cases h6 : (shaP (decT (codeB x)) == hdDig x) = true
            · rw [if_pos h6]; exact .inr ⟨h1, h2, h3, h4, h5.1, h5.2, by simpa using h6, rfl⟩
            · rw [if_neg h6]; exact .inl ⟨112, by omega, rfl⟩
          · rw [if_neg h5]; exact .inl ⟨113, by omega, rfl⟩
        · rw [if_neg h4]; exact .inl ⟨110, by omega, rfl⟩
      · rw [if_neg h3]; exact .inl ⟨111, by omega, rfl⟩
  · rw [if_neg h1]; exact .inl ⟨110, by omega, rfl⟩
structure Win (a : Nat) (x b : List Nat) : Prop where
  len : x.length = b.length
  ahead : x.take a = b.take a
  behind : x.drop (a + 4) = b.drop (a + 4)
theorem Win.lo {a : Nat} {x b : List Nat} (h : Win a x b) {i k : Nat} (hi : i + k ≤ a) : (x.drop i).take k = (b.drop i).take k := by
  have e : ∀ l : List Nat, (l.drop i).take k = ((l.take a).drop i).take k := fun l => by
    rw [List.drop_take, List.take_take, Nat.min_eq_left (by omega)]
  rw [e x, e b, h.ahead]
theorem Win.lo0 {a : Nat} {x b : List Nat} (h : Win a x b) {k : Nat} (hk : k ≤ a) : x.take k = b.take k := by
  have := h.lo (i := 0) (k := k) (by omega)
  simpa using this
theorem Win.hi {a : Nat} {x b : List Nat} (h : Win a x b) {i : Nat} (hi : a + 4 ≤ i) : x.drop i = b.drop i := by
  have e : ∀ l : List Nat, l.drop i = (l.drop (a + 4)).drop (i - (a + 4)) := fun l => by
    rw [List.drop_drop]
    congr 1
    omega
  rw [e x, e b, h.behind]
theorem num2_inj : ∀ {l m : List Nat}, l.length = 2 → m.length = 2 → (∀ x ∈ l, x < 256) → (∀ x ∈ m, x < 256) → numP 2 l = numP 2 m → l = m
  | [a, b], [c, d], _, _, h1, h2, h => by
    have q1 := h1 a (by simp)
    have q2 := h1 b (by simp)
    have q3 := h2 c (by simp)
    have q4 := h2 d (by simp)
    simp [numP, leN] at h
    have : a = c ∧ b = d := by omega
    rw [this.1, this.2]
theorem num4_inj : ∀ {l m : List Nat}, l.length = 4 → m.length = 4 → (∀ x ∈ l, x < 256) → (∀ x ∈ m, x < 256) → numP 2 l = numP 2 m → l = m
  | [a, b, c, d], [e, f, g, i], _, _, h1, h2, h => by
    have q1 := h1 a (by simp)
    have q2 := h1 b (by simp)
    have q3 := h1 c (by simp)
    have q4 := h1 d (by simp)
    have r1 := h2 e (by simp)
    have r2 := h2 f (by simp)
    have r3 := h2 g (by simp)
    have r4 := h2 i (by simp)
    simp [numP, leN] at h
    have : a = e ∧ b = f ∧ c = g ∧ d = i := by omega
    rw [this.1, this.2.1, this.2.2.1, this.2.2.2]
theorem parts3 (l : List Nat) (i k : Nat) : l = l.take i ++ ((l.drop i).take k ++ l.drop (i + k)) := by
  conv => lhs; rw [← List.take_append_drop i l]
  congr 1
  conv => lhs; rw [← List.take_append_drop k (l.drop i)]
  rw [List.drop_drop]
theorem crcL_two (h e : List Nat) : crcL 0 [h, e] = not32 (crcF (not32 (crcA 0 h)) e) := rfl
theorem not32_inj {a b : Nat} (ha : a < 4294967296) (hb : b < 4294967296) (h : not32 a = not32 b) : a = b := by unfold not32 at h; omega
theorem crc_code {h e f : List Nat} {o : Nat} (he : ∀ x ∈ e, x < 256) (hf : ∀ x ∈ f, x < 256) (hl : e.length = f.length) (h1 : e.take o = f.take o) (h2 : e.drop (o + 4) = f.drop (o + 4)) (hc : crcL 0 [h, e] = crcL 0 [h, f]) : e = f := by
  rw [crcL_two, crcL_two] at hc
  have hs := not_lt (crcA 0 h)
  have hc2 := not32_inj (crcF_lt e _ hs he) (crcF_lt f _ hs hf) hc
  have p1 := parts3 e o 4
  have p2 := parts3 f o 4
  rw [h1, h2] at p1
  rw [p1] at hc2
  conv at hc2 => rhs; rw [p2]
  have sub : ∀ (l : List Nat) i k, (∀ x ∈ l, x < 256) → ∀ x ∈ (l.drop i).take k, x < 256 := fun l i k hx x hm => hx x (List.mem_of_mem_drop (List.mem_of_mem_take hm))
  have := crc_window hs (fun x hx => hf x (List.mem_of_mem_take hx)) (sub e o 4 he) (sub f o 4 hf) (fun x hx => hf x (List.mem_of_mem_drop hx)) (by rw [List.length_take, List.length_take, List.length_drop, List.length_drop, hl]) (by rw [List.length_take]; omega) hc2
  rw [p1, this]
  exact p2.symm
theorem spoilt {c x : List Nat} {a : Nat} (hc : ∀ y ∈ c, y < 256) (h1 : 1 ≤ c.length) (hl : c.length ≤ 2000) (hx : ∀ y ∈ x, y < 256) (hw : Win a x (blkB c)) (ha : a ≤ 2 ∨ (8 ≤ a ∧ a ≤ 40) ∨ 44 ≤ a) (hne : x ≠ blkB c) :
    ∃ E, E ≠ 0 ∧ rdP x = ([], 0, E) := by
  rcases rd_or x with h | ⟨k1, k2, k3, k4, k5, k6, k7, -⟩
  · exact h
  exfalso
  have hp := blk_parts c [] hl
  rw [List.append_nil] at hp
  have hbl := blk_lt hc hl
  have hdec := dec_yes (dec_back hc (by omega : c.length ≤ 20000))
  have hblen := blk_len (c := c)
  have hlen : 44 + (encP c).length ≤ 512 * blksP (encP c).length := by unfold blksP; omega
  have sub : ∀ (l : List Nat) i k, (∀ x ∈ l, x < 256) → ∀ x ∈ (l.drop i).take k, x < 256 := fun l i k hx x hm => hx x (List.mem_of_mem_drop (List.mem_of_mem_take hm))
  have l2 : ∀ (l : List Nat) i k, l.length = (blkB c).length → i + k ≤ 44 → ((l.drop i).take k).length = k := fun l i k h hi => by rw [List.length_take, List.length_drop]; omega
  have hmag : x.take 4 = (blkB c).take 4 := by
    rw [hp.mag]
    unfold hdOk hdIs at k1
    simp only [Bool.and_eq_true, beq_iff_eq] at k1
    exact k1.1.2
  rcases ha with ha | ha | ha
  · -- the head's size
    have e6 : x.drop 6 = (blkB c).drop 6 := hw.hi (by omega)
    have hd : ∀ i, 6 ≤ i → x.drop i = (blkB c).drop i := fun i hi => hw.hi (by omega)
    have hcode : codeB x = encP c := by
      rw [← hp.enc]
      unfold codeB hdCode
      rw [e6, hd 44 (by omega)]
    have hraw : hdRaw x = hdRaw (blkB c) := by rw [← k6, hcode, hdec.1, hp.raw]
    have e4 := num2_inj (l2 x 4 2 hw.len (by omega)) (l2 _ 4 2 rfl (by omega)) (sub x 4 2 hx) (sub _ 4 2 hbl) hraw
    refine hne ?_
    rw [parts3 x 4 2, parts3 (blkB c) 4 2, hmag, e4, e6]
  · have hd : x.drop 44 = (blkB c).drop 44 := hw.hi (by omega)
    have t8 : x.take 8 = (blkB c).take 8 := hw.lo0 (by omega)
    have r4 : (x.drop 4).take 2 = ((blkB c).drop 4).take 2 := hw.lo (by omega)
    have r6 : (x.drop 6).take 2 = ((blkB c).drop 6).take 2 := hw.lo (by omega)
    have hcd : hdCode x = hdCode (blkB c) := by unfold hdCode; rw [r6]
    have hrw : hdRaw x = hdRaw (blkB c) := by unfold hdRaw; rw [r4]
    have hcode : codeB x = encP c := by
      rw [← hp.enc]
      unfold codeB
      rw [hcd, hd]
    have hdig : hdDig x = hdDig (blkB c) := by rw [← k7, hcode, hdec.1, hp.dig]
    have hcr : numP 2 ((x.drop 40).take 4) = numP 2 (((blkB c).drop 40).take 4) := by
      unfold crcOk at k3
      rw [hcd, hrw, hdig, hcode, hp.raw, hp.code, hp.dig] at k3
      rw [hp.sum]
      simpa [sumP, Pck.hdP] using k3
    have e40 := num4_inj (l2 x 40 4 hw.len (by omega)) (l2 _ 40 4 rfl (by omega)) (sub x 40 4 hx) (sub _ 40 4 hbl) hcr
    have e8 : (x.drop 8).take 32 = ((blkB c).drop 8).take 32 := hdig
    refine hne ?_
    rw [parts3 x 8 32, parts3 (blkB c) 8 32, t8, e8]
    congr 2
    have q1 := parts3 (x.drop 40) 0 4
    have q2 := parts3 ((blkB c).drop 40) 0 4
    simp only [List.take_zero, List.nil_append, List.drop_zero, List.drop_drop] at q1 q2
    show x.drop 40 = (blkB c).drop 40
    rw [q1, q2, e40]
    congr 1
  · have r : ∀ i k, i + k ≤ 44 → (x.drop i).take k = ((blkB c).drop i).take k := fun i k h => hw.lo (by omega)
    have hcd : hdCode x = hdCode (blkB c) := by unfold hdCode; rw [r 6 2 (by omega)]
    have hrw : hdRaw x = hdRaw (blkB c) := by unfold hdRaw; rw [r 4 2 (by omega)]
    have hdig : hdDig x = hdDig (blkB c) := by unfold hdDig; rw [r 8 32 (by omega)]
    have t44 : x.take 44 = (blkB c).take 44 := hw.lo0 (by omega)
    have hk := hp.code
    have hcl : ∀ l : List Nat, l.length = (blkB c).length → ((l.drop 44).take (encP c).length).length = (encP c).length := fun l h => by rw [List.length_take, List.length_drop]; omega
    have ec : codeB x = codeB (blkB c) := by
      have hcr : crcL 0 [hdB (hdRaw (blkB c)) (hdCode (blkB c)) (hdDig (blkB c)), codeB x] = crcL 0 [hdB (hdRaw (blkB c)) (hdCode (blkB c)) (hdDig (blkB c)), codeB (blkB c)] := by
        unfold crcOk at k3
        rw [r 40 4 (by omega), hp.sum, hcd, hrw, hdig] at k3
        have : sumP c = crcL 0 [hdB (hdRaw (blkB c)) (hdCode (blkB c)) (hdDig (blkB c)), codeB (blkB c)] := by rw [hp.raw, hp.code, hp.dig, hp.enc]; rfl
        rw [← this]
        exact (by simpa using k3 : sumP c = _).symm
      have hx44 : ∀ l : List Nat, codeB l = (l.drop 44).take (hdCode l) := fun l => rfl
      refine crc_code (o := a - 44) (by unfold codeB; exact sub x 44 _ hx) (by unfold codeB; exact sub _ 44 _ hbl) ?_ ?_ ?_ hcr
      · rw [hx44, hx44, hcd, hk, hcl x hw.len, hcl _ rfl]
      · rw [hx44, hx44, hcd, hk, List.take_take, List.take_take]
        exact hw.lo (by omega)
      · rw [hx44, hx44, hcd, hk, List.drop_take, List.drop_take, List.drop_drop, List.drop_drop, show 44 + (a - 44 + 4) = a + 4 by omega, hw.behind]
    have er : restB x = restB (blkB c) := by
      have hz := (zerosB_iff _).1 k4
      have hz2 : restB (blkB c) = List.replicate (restB (blkB c)).length 0 := by rw [hp.rest]; simp
      have hz1 : restB x = List.replicate (restB x).length 0 := List.eq_replicate_of_mem hz
      have hle : (restB x).length = (restB (blkB c)).length := by
        unfold restB
        rw [hcd]
        simp only [List.length_take, List.length_drop, hw.len]
      rw [hz1, hz2, hle]
    refine hne ?_
    have hk2 : hdCode (blkB c) = (encP c).length := hk
    have full : ∀ l : List Nat, l.length = (blkB c).length → hdCode l = (encP c).length → l = l.take 44 ++ (codeB l ++ restB l) := fun l hl hcd => by
      have q := parts3 l 44 (encP c).length
      unfold codeB restB
      rw [hcd]
      conv => lhs; rw [q]
      congr 2
      rw [List.drop_drop, List.take_of_length_le]
      rw [List.length_drop]; omega
    rw [full x hw.len (by rw [hcd, hk2]), full (blkB c) rfl hk2, t44, ec, er]
end Go.Pck

namespace Go.Proofs.YtdnaahbhfjclpaaGreatDoor
open Go.RowKit Go.Sal Go.Pck Go.Huf Go.Cod
theorem strB {l m : List Nat} (h : l = m) : ((strN l).toList == m.map UInt8.ofNat) = true := by
  subst h
  rw [ByteArray.toList_eq]
  have e1 : (strN l).data.toList = l.map UInt8.ofNat := by simp [strN]
  rw [e1]
  simp
theorem blk_a8 : (blkB [97]).take 8 = [83, 67, 72, 75, 1, 0, 3, 0] := by
  unfold blkB Pck.hdP
  rw [enc_a]
  simp [hdB, Pck.bytP, shF, List.range_succ]
theorem blk_a : (blkB [97]).length = 512 := by rw [blk_len, enc_a]; rfl
theorem rd_a : rdP (blkB [97]) = ([97], 1, 0) := by
  have := rd_back (c := [97]) [] (by simp) (by simp) (by simp)
  rw [List.append_nil, enc_a] at this
  exact this
set_option maxRecDepth 20000 in
set_option maxHeartbeats 1000000 in
theorem alive_any (w : World) : Calls Tryz.prog 12 #[] w fun e w' => e = .returned (.bool true) ∧ Keep [] w w' := by
  obtain ⟨C4, hC4⟩ : ∃ C4, (#[.int .u8 97] : Array Value) = C4 := ⟨_, rfl⟩
  obtain ⟨w1, hw1⟩ : ∃ w1, w.alloc (.cells C4 5 (1, 1 + 1)) = w1 := ⟨_, rfl⟩
  have kc : (convert 22 22 (.slice (some ⟨w.heap.size, 0, none⟩) 1 1)).run Tryz.prog (w.alloc (.cells C4 5)) = .ok (.slice (some ⟨w.heap.size, 0, none⟩) 1 1) w1 := by
    have := Lib.run_convert_bytes_const (P := Tryz.prog) w 22 5 C4 1 1 Tryz.underlying22 Tryz.underlying5
    rw [show C4.size = 1 by rw [← hC4]; rfl, hw1] at this
    exact this
  have hh : w1.heap[w.heap.size]? = some (.cells C4 5 (1, 1 + 1)) := by rw [← hw1]; exact heap_alloc_last w _
  have k1 : Keep [] w w1 := by rw [← hw1]; exact (Keep.refl _ w).alloc _
  have hs : BySrc w1 (some ⟨w.heap.size, 0, none⟩) [97] := by
    refine ⟨fun i hi => ⟨w.heap.size, 0, rfl, by rw [← hw1, size_al]; omega, ?_⟩, by decide⟩
    rw [Nat.zero_add, cell_of_row w1 w.heap.size i C4 5 _ hh, ← hC4]
    match i, hi with
    | 0, _ => rfl
  have HB : Hid (Calls Tryz.prog 13 #[.slice (some ⟨w.heap.size, 0, none⟩) 1 1] w1 fun e w' => ∃ A c, e = .returned (.tuple #[.slice A 512 c, .int .i64 0]) ∧ OwB w1 A c (blkB [97]) w') := Lib.hid (by
    refine (pbytes_any [97] (some ⟨w.heap.size, 0, none⟩) 1 w1 hs (by simp) (fun a ha => by injection ha with ha; subst ha; rw [← hw1, size_al]; exact Nat.lt_succ_self _) (by simp) (by simp)).mono ?_
    rintro e w' ⟨A, c, rfl, ho, hk⟩
    exact ⟨A, c, by rw [blk_a], ho, hk⟩)
  have HR : Hid (∀ A c w2, OwB w1 A c (blkB [97]) w2 → Calls Tryz.prog 10 #[.slice A 512 c] w2 fun e w' => ∃ A3 c3, e = .returned (.tuple #[.slice A3 1 c3, .int .i64 1, .int .i64 0]) ∧ Keep [] w w' ∧ (∀ W, Keep [] w' W → (convert 22 9 (.slice A 8 c)).run Tryz.prog W = .ok (.string (strN ((blkB [97]).take 8))) W ∧ (convert 22 9 (.slice A3 1 c3)).run Tryz.prog W = .ok (.string (strN [97])) W)) := Lib.hid (by
    intro A c w2 ho
    have hlt := blk_lt (c := [97]) (by simp) (by simp)
    have h := pread_any (blkB [97]) A c w2 (ho.src hlt) (own_cap' ho.1) (own_blk_lt ho.1) (by rw [blk_a]; omega)
    rw [blk_a, rd_a] at h
    refine h.mono ?_
    rintro e w3 ⟨A3, c3, rfl, ho3, hk3⟩
    refine ⟨A3, c3, rfl, k1.trans (ho.2.trans hk3), fun W kk => ⟨?_, ?_⟩⟩
    · have h8 : ((blkB [97]).take 8).length = 8 := by rw [blk_a8]; rfl
      have := str_src (bsrc_head ((ho.keep (hk3.trans kk)).src hlt) 8) c
      rw [h8] at this
      exact this
    · exact str_src ((bsrc_own ho3 (by simp)).keep kk (fun a _ => by simp)) c3)
  have hS8 : ((strN ((blkB [97]).take 8)).toList == [83, 67, 72, 75, 1, 0, 3, 0]) = true := strB blk_a8
  have hS1 : ((strN [97]).toList == [97]) = true := strB rfl
  have hsl : ∀ A c W, 8 ≤ c → (Instr.slice 22 (.slice A 512 c) none (some (.int .i64 8)) none).run Tryz.prog W = .ok (.slice A 8 c) W := fun A c W hc => slice_head (P := Tryz.prog) 22 5 Tryz.underlying22 A 512 c 8 hc W 1 (by kernel_rfl)
  have Hsl := Lib.hid hsl
  have Hkc := Lib.hid kc
  have HC4 := Lib.hid hC4
  clear hw1 hh k1 hs hC4 kc hsl
  generalize strN ((blkB [97]).take 8) = S8 at *
  generalize strN [97] = S1 at *
  go_enter Tryz.func12, Tryz.ntmps12
  go_upto_region 1 with (fail)
  refine wp_region_lit ?_
  refine wpList_plain rfl (fun K hK => ?_)
  go_simp
  refine hK _ _ ?_
  clear hK K
  rw [HC4.out]
  refine wpList_plain rfl (fun K hK => ?_)
  go_simp
  rw [Hkc.out]
  go_simp
  refine hK _ _ ?_
  clear hK K
  go_upto_region 3 with (first
    | (go_at_call 13; refine HB.out.mono ?_; rintro e w2 ⟨A, c, rfl, ho⟩; have hc8 : 8 ≤ c := (by have := own_cap' ho.1; rw [blk_a] at this; omega); have HR2 := Lib.hid (HR.out A c w2 ho); clear ho)
    | (go_at_call 10; refine HR2.out.mono ?_; rintro e w3 ⟨A3, c3, rfl, hk3, hcv⟩; have HK := Lib.hid hk3; have h1 := (hcv w3 (Keep.refl _ _)).1; have h2 := (hcv w3 (Keep.refl _ _)).2; clear hk3 hcv))
  have h8 := fun W => Hsl.out A c W hc8
  clear HR HR2 HB
  go_wp2
  go_ret
  exact ⟨rfl, HK.out⟩
set_option maxHeartbeats 1000000 in
theorem cut_any (A : Option Addr) (l c n : Nat) (w : World) (hc : l ≤ c) (hl : l ≤ 9223372036854775807) :
    Calls Tryz.prog 9 #[.slice A l c, .int .i64 (n : Nat)] w fun e w' => e = .returned (.slice A (min l n) c) ∧ w' = w := by
  rcases Nat.lt_or_ge n l with h | h
  · have h1 : (n : Int) < (l : Int) := by omega
    have hs : ∀ W, (Instr.slice 22 (.slice A l c) none (some (.int .i64 (n : Int))) none).run Tryz.prog W = .ok (.slice A n c) W := fun W => slice_head (P := Tryz.prog) 22 5 Tryz.underlying22 A l c n (by omega) W 1 (by kernel_rfl)
    rw [Nat.min_eq_right (by omega)]
    go_enter Tryz.func9, Tryz.ntmps9
    go_wp2
    go_ret
    exact ⟨rfl, rfl⟩
  · have h1 : ¬ (n : Int) < (l : Int) := by omega
    rw [Nat.min_eq_left h]
    go_enter Tryz.func9, Tryz.ntmps9
    go_wp2
    go_ret
    exact ⟨rfl, rfl⟩
end Go.Proofs.YtdnaahbhfjclpaaGreatDoor

namespace Go.Sal
open Go.ChangeShapes Go.WideShapes Go.ChangeAt Go.RowKit Go.Deep
section
variable {H : Type} {enc : TypeId × Value → H} {P : Program} {w : World} {base : Nat} {spare : Nat → Bool} {held : Bool}
theorem u8_back {n : Int} (h : (Lit.int .u8 n).wf = true) : n = ((UInt8.ofNat n.toNat).toNat : Int) := by
  simp [Lit.wf, IntKind.min, IntKind.max, IntKind.bits, IntKind.signed] at h
  simp
  omega
theorem reads_of_trod {t e : TypeId} {fuel : Nat} {v : Value} {y : DataW H × List MemPlace} (ht : P.underlying t = some (.slice e)) (he : P.underlying e = some (.int .u8)) (hC : P.cellsOf e = 1)
    (h : DataW.trod enc P w base spare held fuel t [v] = some y) : ∃ b, Reads w.heap.size e w v b := by
  rcases open_ints ht he hC h with ⟨hcs, _⟩ | ⟨a, len, cap, zs, hcs, _, hl, hm, hz, _, hcell, hwz⟩
  · injection hcs with hcs
    subst hcs
    exact ⟨[], Reads.nil _ _ _⟩
  · injection hcs with hcs
    subst hcs
    have hlz : len ≤ zs.length := by
      rw [hz]
      split <;> omega
    refine ⟨(zs.take len).map fun n => UInt8.ofNat n.toNat, some a, cap, ?_, ?_, hm, fun hne => ⟨a, rfl, ?_, fun i hi => ?_⟩⟩
    · simp
      omega
    · simp
      omega
    · have h0 : 0 < zs.length := by
        rcases Nat.eq_zero_or_pos zs.length with h0 | h0
        · have := List.eq_nil_of_length_eq_zero h0
          subst this
          simp at hne
        · exact h0
      have := World.block_lt_of_cell? _ _ (hcell 0 h0)
      rw [add_block] at this
      exact ⟨this, .inl this⟩
    · have hi' : i < len ∧ i < zs.length := by simp at hi; omega
      rw [hcell i hi'.2]
      simp only [List.getElem_map, List.getElem_take]
      have hg : zs.getD i 0 = zs[i] := by simp [List.getD, hi'.2]
      rw [hg, ← u8_back (hwz _ (List.getElem_mem hi'.2))]
theorem post_of_below {f : Func} {s : ChangeSpec} {apart fresh handsOn again : Bool} {W W' : World} {args : Array Value} {v : Value} {ds gs : List (DataW H)} {before pa pv : List MemPlace}
    (hW : DataW.Whole enc P f.params.toList s.vars apart W args.toList ds gs before)
    (hres : ∀ (b : Nat) (sp : Nat → Bool) (hd : Bool), DataW.TrodAll enc P W' b sp hd f.resultTypes.toList (v.resultList f.resultTypes.size) (s.fn H (ds ++ gs)).results [])
    (hargs : ∀ sp : Nat → Bool, (∀ p ∈ before, sp p.block = true) → DataW.TrodAll enc P W' 0 sp true f.params.toList args.toList (s.fn H (ds ++ gs)).args pa)
    (hvars : ∀ sp : Nat → Bool, (∀ p ∈ before, sp p.block = true) → DataW.TrodVars enc P W' sp s.vars (s.fn H (ds ++ gs)).vars pv)
    (hps : before = pa ++ pv) (hb : Below W.heap.size W W')
    (hok : ∀ (j : Nat) (t : TypeId) (r : Value), f.resultTypes[j]? = some t → (v.resultList f.resultTypes.size)[j]? = some r → Value.okWide P W' .any 0 t r) :
    s.post enc P f apart fresh handsOn again W args v W' := by
  have hlt : ∀ p ∈ before, p.block < W.heap.size := fun p hp => hW.lt p hp
  have hold : ∀ p ∈ before, (fun b => decide (b < W.heap.size)) p.block = true := fun p hp => by simpa using hlt p hp
  refine ⟨ds, gs, before, [], pa, pv, hW, hres _ _ _, hargs _ hold, hvars _ hold, World.keptBut_mono (fun p hp => ⟨hp, ?_⟩) (hb.frame (· ∈ before)), fun _ => ?_⟩
  · rw [hps, List.mem_append] at hp
    exact Or.inr hp
  · obtain ⟨_, _, _, _, _, hz, hn⟩ := hW
    refine ⟨hok, _, _, ([] ++ pa) ++ pv, ⟨[] ++ pa, pv, trodAll_append (hargs _ (fun _ _ => rfl)) (hres _ _ _), hvars _ (fun _ _ => rfl), rfl, ?_, ?_⟩, ?_⟩
    · intro b off hp
      have hin : MemPlace.cell b off ∈ before := by rw [hps]; simpa using hp
      rw [hb.frozen (hlt _ hin)]
      exact hz b off hin
    · intro ha
      have := hn ha
      rw [hps] at this
      simpa using this
    · intro p hp _
      rw [hps]
      simpa using hp
end
end Go.Sal

namespace Go.Sal
theorem spot_of_cell {w : World} {a : Addr} {v : Value} (h : w.cell? a = some v) : a.spot = none := by
  unfold World.cell? at h
  split at h
  · split at h
    · cases h
    · rename_i h1
      simpa using h1
  · cases h
theorem okWide_block {P : Program} {w : World} {r : Reach} {base : Nat} {t e : TypeId} {a : Addr} {n c : Nat} (ht : P.underlying t = some (.slice e)) (h : Value.okWide P w r base t (.slice (some a) n c)) : a.block < w.heap.size := by
  simp only [Value.okWide, ht, Cell.okWide, Cell.ok] at h
  obtain ⟨_, _, _, _, row, cells, hs, _⟩ := h
  rcases Nat.lt_or_ge a.block w.heap.size with h1 | h1
  · exact h1
  · rw [World.shape?, Array.getElem?_eq_none h1] at hs
    cases hs
end Go.Sal
namespace Go.Proofs.YtdnaahbhfjclpaaGreatDoor
open Go.ChangeShapes Go.WideShapes Go.ChangeAt Go.RowKit Go.Sal Go.Huf Go.Cod Go.Pck
theorem Tryz.own : ownKnob Tryz.prog.godebug = none := by kernel_rfl
theorem Tryz.laidOut : laidOutB Tryz.prog = true := by kernel_rfl
def BytArg (w : World) (v : Value) (l : List Nat) : Prop :=
  ∃ A c, v = .slice A l.length c ∧ l.length ≤ c ∧ c ≤ maxLen ∧ BySrc w A l ∧ ∀ a, A = some a → a.block < w.heap.size
set_option maxRecDepth 100000 in
theorem bytArg_of {H : Type} {enc : TypeId × Value → H} {w : World} {base b0 : Nat} {r : Reach} {spare : Nat → Bool} {held : Bool} {fuel : Nat} {v : Value} {y : DataW H × List MemPlace}
    (ho : Value.okWide Tryz.prog w r b0 22 v) (h : DataW.trod enc Tryz.prog w base spare held fuel 22 [v] = some y) : ∃ l, BytArg w v l := by
  obtain ⟨b, A, c, rfl, h1, h2, h3⟩ := reads_of_trod Tryz.underlying22 Tryz.underlying5 (by kernel_rfl) h
  have hA : ∀ a, A = some a → a.block < w.heap.size := fun a ha => by
    subst ha
    exact okWide_block Tryz.underlying22 ho
  refine ⟨b.map fun x => x.toNat, A, c, by simp, by simpa using h1, h2, ⟨fun i hi => ?_, fun x hx => ?_⟩, hA⟩
  · simp at hi
    obtain ⟨a, rfl, _, hc⟩ := h3 (fun e => by subst e; simp at hi)
    have hc0 := hc i hi
    have hsp : a.spot = none := by
      have := spot_of_cell (hc 0 (by omega))
      simpa [Addr.add] using this
    obtain ⟨g, o, rfl⟩ : ∃ g o, a = ⟨g, o, none⟩ := ⟨a.block, a.off, by cases a; simp_all⟩
    rw [add_mk] at hc0
    exact ⟨g, o, rfl, hA _ rfl, by rw [hc0]; simp⟩
  · simp at hx
    obtain ⟨z, _, rfl⟩ := hx
    exact z.toNat_lt
theorem cut_arg {w : World} {v : Value} {l : List Nat} (h : BytArg w v l) (n : Nat) :
    Calls Tryz.prog 9 #[v, .int .i64 (n : Nat)] w fun e w' => ∃ A c, e = .returned (.slice A (l.take n).length c) ∧ (l.take n).length ≤ c ∧ BySrc w A (l.take n) ∧ (∀ a, A = some a → a.block < w.heap.size) ∧ w = w' := by
  obtain ⟨A, c, rfl, h1, h2, h3, h4⟩ := h
  refine (cut_any A l.length c n w h1 (by unfold maxLen at h2; omega)).mono ?_
  rintro e w' ⟨rfl, rfl⟩
  have hl : (l.take n).length = min l.length n := by rw [List.length_take, Nat.min_comm]
  exact ⟨A, c, by rw [hl], by omega, bsrc_head h3 n, h4, rfl⟩
theorem pbytes_no (A : Option Addr) (n c : Nat) (w : World) (hn : n = 0 ∨ 4096 < n) (hn2 : n ≤ 1000000) : Calls Tryz.prog 13 #[.slice A n c] w fun e w' => e = .returned (.tuple #[.slice none 0 0, .int .i64 113]) ∧ w' = w := by
  rcases hn with rfl | hn
  · go_enter Tryz.func13, Tryz.ntmps13
    go_wp2
    go_ret2
    exact ⟨rfl, rfl⟩
  · have h1 : ¬ (n : Int) < 1 := by omega
    have h2 : (4096 : Int) < (n : Int) := by omega
    go_enter Tryz.func13, Tryz.ntmps13
    go_wp2
    go_ret2
    exact ⟨rfl, rfl⟩
theorem owB_empty (w wr : World) (hk : Keep [] w wr) : OwB w (some ⟨wr.heap.size, 0, none⟩) 0 [] (wr.alloc (.cells #[] 5)) :=
  ⟨⟨rfl, .inr ⟨wr.heap.size, 0, #[], rfl, hk.size, heap_alloc_new wr _, Nat.le_refl _, by simp [maxLen], rfl, rfl⟩⟩, hk.alloc _⟩
theorem mke (W : World) : (Instr.buildSlice 22 0 #[]).run Tryz.prog W = .ok (.slice (some ⟨W.heap.size, 0, none⟩) 0 0) (W.alloc (.cells #[] 5)) := run_empty_slice (P := Tryz.prog) 22 5 (some (.int .u8 0)) 1 1 Tryz.underlying22 u8info W
end Go.Proofs.YtdnaahbhfjclpaaGreatDoor

