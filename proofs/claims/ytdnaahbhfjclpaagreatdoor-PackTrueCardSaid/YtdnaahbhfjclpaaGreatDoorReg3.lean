/- A region that draws its order, by what holds at every stage of it. -/
import Derived.Test.YtdnaahbhfjclpaaGreatDoorWh
import Derived.Deep.QuietTactic
import Derived.BigQuiet
import Derived.StillTailTactics
import Derived.Test.YtdnaahbhfjclpaaGreatDoorWc
set_option linter.unusedVariables false
set_option linter.unusedSimpArgs false
namespace Go.Pck
theorem getD_eq {l : List Nat} {i : Nat} (h : i < l.length) : l.getD i 0 = l[i] := by rw [List.getD_eq_getElem?_getD, List.getElem?_eq_getElem h]; rfl
theorem getD_left {l r : List Nat} {i : Nat} (h : i < l.length) : (l ++ r).getD i 0 = l.getD i 0 := by
  rw [List.getD_eq_getElem?_getD, List.getD_eq_getElem?_getD, List.getElem?_append_left h]
theorem wNext_left {l r : List Nat} {i : Nat} (h1 : 16 ≤ i) (h2 : i ≤ l.length) : wNext (l ++ r) i = wNext l i := by
  unfold wNext
  rw [getD_left (by omega), getD_left (by omega), getD_left (by omega), getD_left (by omega)]
theorem schF_pre : ∀ (n : Nat) (w : List Nat), ∃ r, schF n w = w ++ r
  | 0, w => ⟨[], by simp [schF]⟩
  | n + 1, w => by
    obtain ⟨r, hr⟩ := schF_pre n (w ++ [wNext w w.length])
    exact ⟨wNext w w.length :: r, by rw [schF, hr]; simp⟩
theorem schF_next : ∀ (n : Nat) (w : List Nat), 16 ≤ w.length → ∀ i, w.length ≤ i → i < w.length + n → (schF n w).getD i 0 = wNext (schF n w) i
  | 0, w, _, i, h1, h2 => by omega
  | n + 1, w, hw, i, h1, h2 => by
    rw [schF]
    by_cases hi : i = w.length
    · subst hi
      obtain ⟨r, hr⟩ := schF_pre n (w ++ [wNext w w.length])
      rw [hr, getD_left (by simp), List.append_assoc, wNext_left hw (Nat.le_refl _)]
      simp
    · exact schF_next n _ (by simp; omega) i (by simp; omega) (by simp; omega)
theorem sched_next (b : List Nat) {i : Nat} (h1 : 16 ≤ i) (h2 : i < 64) : (sched b).getD i 0 = wNext (sched b) i := by
  unfold sched
  exact schF_next 48 _ (by rw [words_len]; omega) i (by rw [words_len]; omega) (by rw [words_len]; omega)
theorem sched_words (b : List Nat) {i : Nat} (h : i < 16) : (sched b).getD i 0 = (words b).getD i 0 := by
  unfold sched
  obtain ⟨r, hr⟩ := schF_pre 48 (words b)
  rw [hr, getD_left (by rw [words_len]; omega)]
def rowN (S : List Nat) (k : Nat) : List Nat := S.take k ++ List.replicate (S.length - k) 0
theorem rowN_get (S : List Nat) {i k : Nat} (h : i < k) (hk : k ≤ S.length) : (rowN S k)[i]? = some (S.getD i 0) := by
  unfold rowN
  rw [List.getElem?_append_left (by rw [List.length_take]; omega), List.getElem?_take, if_pos h, getD_eq (by omega), List.getElem?_eq_getElem]
theorem rowN_zero (S : List Nat) {k : Nat} (hk : k < S.length) : (rowN S k)[k]? = some 0 := by
  unfold rowN
  rw [List.getElem?_append_right (by rw [List.length_take]; omega), List.length_take, show k - min k S.length = 0 by omega, List.getElem?_replicate, if_pos (by omega)]
theorem rowN_set (S : List Nat) {k : Nat} (hk : k < S.length) : (rowN S k).set k (S.getD k 0) = rowN S (k + 1) := by
  unfold rowN
  have hl : (S.take k).length = k := by rw [List.length_take]; omega
  rw [List.set_append_right _ _ (by omega), hl, Nat.sub_self, show S.length - k = (S.length - (k + 1)) + 1 by omega, List.replicate_succ, List.set_cons_zero, List.take_succ_eq_append_getElem hk, getD_eq hk, List.append_assoc]
  rfl
theorem rowN_all (S : List Nat) : rowN S S.length = S := by simp [rowN]
theorem rowN_start (S : List Nat) : rowN S 0 = List.replicate S.length 0 := by simp [rowN]
end Go.Pck
namespace Go.Proofs.YtdnaahbhfjclpaaGreatDoor
open Go.RowKit Go.Sal Go.Pck Go.Huf Go.Cod
set_option maxRecDepth 20000 in
set_option maxHeartbeats 2000000 in
theorem right_any (x n : Nat) (w : World) (hx : x < 4294967296) (h1 : 1 ≤ n) (h2 : n ≤ 31) :
    Calls Tryz.prog 123 #[.int .u32 (x : Nat), .int .u64 (n : Nat)] w fun e w' => e = .returned (.int .u32 (rr x n : Nat)) ∧ w' = w := by
  have hs : IntKind.u64.wrap (32 - (n : Int)) = 32 - (n : Int) := by rw [IntKind.wrap_u64]; omega
  have hor : bits .or .u32 ((x : Int) / 2 ^ n) ((x : Int) * 2 ^ (32 - n) % 4294967296) = ((rr x n : Nat) : Int) := by
    have h := u32_or_nat (x / 2 ^ n) (x * 2 ^ (32 - n) % 4294967296) (Nat.lt_of_le_of_lt (Nat.div_le_self _ _) hx) (Nat.mod_lt _ (by omega))
    have e1 : (x : Int) / 2 ^ n = ((x / 2 ^ n : Nat) : Int) := by simp
    have e2 : (x : Int) * 2 ^ (32 - n) % 4294967296 = ((x * 2 ^ (32 - n) % 4294967296 : Nat) : Int) := by simp
    rw [e1, e2, h]
    rfl
  have hn64 : n < 64 := by omega
  have Hor := Lib.hid hor
  clear hor
  go_enter Tryz.func123, Tryz.ntmps123
  go_wp2
  go_ret
  exact ⟨by rw [← Hor.out]; rfl, rfl⟩
theorem right_z (x : Nat) (z : Int) (w : World) (hx : x < 4294967296) (hz : 1 ≤ z ∧ z ≤ 31) :
    Calls Tryz.prog 123 #[.int .u32 (x : Nat), .int .u64 z] w fun e w' => e = .returned (.int .u32 (rr x z.toNat : Nat)) ∧ w' = w := by
  obtain ⟨n, rfl⟩ := Int.eq_ofNat_of_zero_le (a := z) (by omega)
  exact right_any x n w hx (by omega) (by omega)
theorem sg0_walk (x : Nat) (h : x < 4294967296) : bits .xor .u32 (bits .xor .u32 ((rr x 7 : Nat) : Int) ((rr x 18 : Nat) : Int)) ((x : Int) / 8) = ((sg0 x : Nat) : Int) := by
  rw [u32_xor_nat _ _ (rr_lt h 7) (rr_lt h 18), show (x : Int) / 8 = ((x / 8 : Nat) : Int) by omega, u32_xor_nat _ _ (xor_lt (rr_lt h 7) (rr_lt h 18)) (by omega)]
  rfl
theorem sg1_walk (x : Nat) (h : x < 4294967296) : bits .xor .u32 (bits .xor .u32 ((rr x 17 : Nat) : Int) ((rr x 19 : Nat) : Int)) ((x : Int) / 1024) = ((sg1 x : Nat) : Int) := by
  rw [u32_xor_nat _ _ (rr_lt h 17) (rr_lt h 19), show (x : Int) / 1024 = ((x / 1024 : Nat) : Int) by omega, u32_xor_nat _ _ (xor_lt (rr_lt h 17) (rr_lt h 19)) (by omega)]
  rfl
theorem heap_setRow_other (w : World) (g : Nat) (c : Array Value) {i : Nat} (h : i ≠ g) : (w.setRow g c).heap[i]? = w.heap[i]? := by
  simp only [World.setRow]
  rw [Array.getElem?_modify, if_neg (fun e => h e.symm)]
theorem keep_setRow {w wr : World} {g : Nat} {t : TypeId} {old c : Array Value} (h : Keep [] w wr) (hg : w.heap.size ≤ g) (hb : Blk wr g t old) : Keep [] w (wr.setRow g c) :=
  ⟨h.os, h.tape, h.output, by simpa [World.setRow] using h.size, fun i hi hn => by rw [heap_setRow_other _ _ _ (by omega)]; exact h.block i hi hn⟩
theorem blk_at {w : World} {n : Nat} (h : w.heap.size = n) (t : TypeId) (cs : Array Value) : Blk (w.alloc (.cells cs t)) n t cs := by
  subst h; exact Blk.new w t cs
theorem size_al (w : World) (o : Obj) : (w.alloc o).heap.size = w.heap.size + 1 := by show (w.heap.push o).size = _; exact Array.size_push ..
structure SchS (w : World) (b2 b3 : Nat) (Z : Array Value) (S : List Nat) (k : Nat) (wr : World) : Prop where
  res : Blk wr b2 179 Z
  row : Blk wr b3 179 (inW (rowN S k)).toArray
  kp : Keep [] w wr
section
variable {w wr : World} {b2 b3 k : Nat} {Z : Array Value} {S : List Nat}
theorem SchS.get (h : SchS w b2 b3 Z S k wr) {i : Nat} (hi : i < k) (hk : k ≤ S.length) : wr.cell? ⟨b3, i, none⟩ = some (.int .u32 (S.getD i 0 : Nat)) := by
  rw [h.row.cell i]
  simp [inW, rowN_get S hi hk]
theorem SchS.old (h : SchS w b2 b3 Z S k wr) (hk : k < S.length) : wr.cell? ⟨b3, k, none⟩ = some (.int .u32 0) := by
  rw [h.row.cell k]
  simp [inW, rowN_zero S hk]
theorem SchS.set (h : SchS w b2 b3 Z S k wr) (hk : k < S.length) (h23 : b2 ≠ b3) (h3 : w.heap.size ≤ b3) : SchS w b2 b3 Z S (k + 1) (wr.setCell ⟨b3, k, none⟩ (.int .u32 (S.getD k 0 : Nat))) := by
  refine ⟨h.res.far h23 _, ?_, h.kp.setCell (.inr h3) _⟩
  have := h.row.set_ k (.int .u32 (S.getD k 0 : Nat))
  rw [← rowN_set S hk]
  simpa [inW, List.map_set] using this
theorem SchS.keep (h : SchS w b2 b3 Z S k wr) {w2 : World} (hk : Keep [] wr w2) : SchS w b2 b3 Z S k w2 := ⟨h.res.keep hk (by simp), h.row.keep hk (by simp), h.kp.trans hk⟩
end
set_option maxRecDepth 20000 in
set_option maxHeartbeats 2000000 in
theorem sched_any (b : List Nat) (w : World) (hl : b.length = 64) (hb : ∀ x ∈ b, x < 256) :
    Calls Tryz.prog 121 #[.agg (inB b).toArray] w fun e w' => e = .returned (enc32 (sched b)) ∧ Keep [] w w' := by
  have z := zero179
  generalize hz : Z64 = Z at *
  go_enter Tryz.func121, Tryz.ntmps121
  go_upto_region 2 with (fail)
  obtain ⟨w3, hw3⟩ : ∃ w3, (((w.alloc (.cells (inB b).toArray 120)).alloc (.cells Z 179)).alloc (.cells Z 179)) = w3 := ⟨_, rfl⟩
  obtain ⟨b2, hb2⟩ : ∃ b2, b2 = w.heap.size + 1 := ⟨_, rfl⟩
  obtain ⟨b3, hb3⟩ : ∃ b3, b3 = b2 + 1 := ⟨_, rfl⟩
  rw [hw3, ← hb2, ← hb3]
  have hblk : Blk w3 w.heap.size 120 (inB b).toArray := by subst hw3; exact ((Blk.new w 120 _).alloc _).alloc _
  have h0 : SchS w b2 b3 Z (sched b) 0 w3 := by
    subst hw3
    refine ⟨?_, ?_, (((Keep.refl [] w).alloc _).alloc _).alloc _⟩
    · exact (blk_at (by rw [size_al, hb2]) 179 Z).alloc _
    · rw [rowN_start, sched_len]
      have : (inW (List.replicate 64 0)).toArray = Z := hz
      rw [this]
      exact blk_at (by rw [size_al, size_al, hb3, hb2]) 179 Z
  have hsrc : BySrc w3 (some ⟨w.heap.size, 0, none⟩) b := by
    refine ⟨fun i hi => ⟨_, 0, rfl, hblk.lt, ?_⟩, hb⟩
    rw [Nat.zero_add, hblk.cell i]
    simp [inB, hi]
  have HW : Hid (∀ _ : True, Calls Tryz.prog 151 #[.slice (some ⟨w.heap.size, 0, none⟩) 64 64, .int .i64 32, .int .i64 1] w3 fun e w' => ∃ A c', e = .returned (.tuple #[.slice A 16 c', .int .i64 0]) ∧ w'.ownsRow w3.heap.size 69 1 (.slice A 16 c') 16 (in64 (wordsR b 16)) ∧ Keep [] w3 w') := Lib.hid (fun _ => by
    have := words_any 16 b w.heap.size 0 64 w3 (by omega) (by omega) hsrc (by omega)
    rw [hl] at this
    exact this)
  have H0 := Lib.hid h0
  have hsl : ∀ W, (Instr.sliceAt 120 (.pointer (some ⟨w.heap.size, 0, none⟩)) none none none).run Tryz.prog W = .ok (.slice (some ⟨w.heap.size, 0, none⟩) 64 64) W := fun W => by
    rw [run_sliceAt_array_all (P := Tryz.prog) W 120 _ (by kernel_rfl), show Tryz.prog.elem 120 = 5 by kernel_rfl, Tryz.sizeOf5 W, show Tryz.prog.arrayLen 120 = 64 by kernel_rfl]
    rfl
  have h23 : b2 ≠ b3 := by omega
  have Hle2 : Hid (w.heap.size ≤ b2) := Lib.hid (by omega)
  have HZ := Lib.hid hz
  have Hle : Hid (w.heap.size ≤ b3 ∧ w3.heap.size = b3 + 1) := Lib.hid ⟨by omega, by subst hw3; rw [size_al, size_al, size_al]; omega⟩
  have HS := Lib.hid (sched_w hb)
  have HW2 := Lib.hid (wordsR_all hl)
  have Hn : Hid (∀ i, 16 ≤ i → i < 64 → (sched b).getD i 0 = wNext (sched b) i) := Lib.hid (fun i h1 h2 => sched_next b h1 h2)
  have Hn1 : Hid (∀ i, i < 16 → (sched b).getD i 0 = (words b).getD i 0) := Lib.hid (fun i h => sched_words b h)
  have HL := Lib.hid (sched_len b)
  clear hblk hsrc h0 hw3 hb2 hb3 hb hl z hz
  generalize hSe : sched b = S at *
  have HSe := Lib.hid hSe
  clear hSe
  go_wp2_with (go_at_call 151; refine (HW.out trivial).mono ?_; rintro e w4 ⟨A, c', rfl, HO⟩)
  obtain ⟨ga, rfl, hga, -⟩ := own_some HO.1 (by omega)
  have HI0 : Hid (SchS w b2 b3 Z S 0 w4 ∧ w4.ownsRow w3.heap.size 69 1 (.slice (some ⟨ga, 0, none⟩) 16 c') 16 (in64 (words b))) := Lib.hid ⟨H0.out.keep HO.2, by rw [← HW2.out]; exact HO.1⟩
  clear HO HW HW2 H0 hsl hga
  go_loopw [20, 6, 7] (fun v20 v6 v7 wr => ∃ k : Nat, v20 = .int .i64 k ∧ k ≤ 16 ∧ Hid (SchS w b2 b3 Z S k wr ∧ wr.ownsRow w3.heap.size 69 1 (.slice (some ⟨ga, 0, none⟩) 16 c') 16 (in64 (words b)))) (fun v20 _ _ _ => 16 - (intOf v20).toNat)
  case atStart => exact ⟨0, rfl, by omega, HI0⟩
  case round =>
    obtain ⟨k, rfl, hk, hI⟩ := hrel
    clear HI0
    rcases Nat.lt_or_ge k 16 with hk16 | hk16
    · as_aux_lemma =>
        have hki : (k : Int) < 16 := by omega
        have hwk : IntKind.i64.wrap ((k : Int) + 1) = (k : Int) + 1 := by rw [IntKind.wrap_i64]; omega
        obtain ⟨hS, hO⟩ := hI.out
        have hkS : k < S.length := by have := HL.out; omega
        have m1 := (in64_cell hO (i := k) (by rw [words_len]; omega)).1
        have hga := (hO.lt _ rfl).2
        have hx := w32_get HS.out k
        have he : (words b)[k]'(by rw [words_len]; omega) = S.getD k 0 := by rw [Hn1.out k hk16, getD_eq]
        rw [he] at m1
        have m2 := hS.old hkS
        have m3 := hS.row.lt
        have m4 := hS.row.free k
        have hset := hS.set hkS h23 Hle.out.1
        generalize S.getD k 0 = x at *
        have hwx : IntKind.u32.wrap (x : Int) = (x : Int) := by rw [IntKind.wrap_u32]; omega
        have HN := Lib.hid (And.intro hset (ownsRow_keep hO ((Keep.refl [b3] wr).setCell (p := ⟨b3, k, none⟩) (.inl (by simp)) (.int .u32 (x : Nat))) (fun i hi hm => by
          have := own_far hO i (by simp [hi])
          have h2 := Hle.out.2
          simp at hm
          omega)))
        clear hI hS hO he hset HL HS Hn Hn1 hkS
        go_wp2
        exact ⟨⟨k + 1, by simp, by omega, HN⟩, by simp [intOf]; omega⟩
    · obtain rfl : k = 16 := by omega
      have hki : ¬ ((16 : Nat) : Int) < 16 := by omega
      have HI1 := Lib.hid hI.out.1
      clear hI hk16 hk Hn1
      go_wp2
      go_loopw [8, 9, 10, 11, 12] (fun v8 v9 v10 v11 v12 wr => ∃ k : Nat, v8 = .int .i64 k ∧ 16 ≤ k ∧ k ≤ 64 ∧ Hid (SchS w b2 b3 Z S k wr)) (fun v8 _ _ _ _ _ => 64 - (intOf v8).toNat)
      case atStart => exact ⟨16, rfl, by omega, by omega, HI1⟩
      case round =>
        obtain ⟨k, rfl, hk, hk2, hI⟩ := hrel
        clear HI1
        rcases Nat.lt_or_ge k 64 with hk16 | hk16
        · as_aux_lemma =>
            have hki : (k : Int) < 64 := by omega
            have hwk : IntKind.i64.wrap ((k : Int) + 1) = (k : Int) + 1 := by rw [IntKind.wrap_i64]; omega
            have hS := hI.out
            have hkS : k < S.length := by have := HL.out; omega
            have hnx := Hn.out k hk hk16
            have hx16 := w32_get HS.out (k - 16)
            have hx15 := w32_get HS.out (k - 15)
            have hx7 := w32_get HS.out (k - 7)
            have hx2 := w32_get HS.out (k - 2)
            unfold wNext at hnx
            have m15 := hS.get (i := k - 15) (by omega) (by omega)
            have m2 := hS.get (i := k - 2) (by omega) (by omega)
            have mlt := hS.row.lt
            have hall : ∀ W, Keep [] wr W → W.cell? ⟨b3, k - 16, none⟩ = some (.int .u32 (S.getD (k - 16) 0 : Nat)) ∧ W.cell? ⟨b3, k - 7, none⟩ = some (.int .u32 (S.getD (k - 7) 0 : Nat)) ∧ W.cell? ⟨b3, k, none⟩ = some (.int .u32 0) ∧ b3 < W.heap.size ∧ W.frozen? ⟨b3, k, none⟩ = false ∧ SchS w b2 b3 Z S (k + 1) (W.setCell ⟨b3, k, none⟩ (.int .u32 (S.getD k 0 : Nat))) := fun W hk => by
              have hS := hS.keep hk
              exact ⟨hS.get (i := k - 16) (by omega) (by omega), hS.get (i := k - 7) (by omega) (by omega), hS.old hkS, hS.row.lt, hS.row.free k, hS.set hkS h23 Hle.out.1⟩
            obtain ⟨p16, hp16⟩ : ∃ p, p = k - 16 := ⟨_, rfl⟩
            obtain ⟨p15, hp15⟩ : ∃ p, p = k - 15 := ⟨_, rfl⟩
            obtain ⟨p7, hp7⟩ : ∃ p, p = k - 7 := ⟨_, rfl⟩
            obtain ⟨p2, hp2⟩ : ∃ p, p = k - 2 := ⟨_, rfl⟩
            have hw16 : IntKind.i64.wrap ((k : Int) - 16) = (p16 : Int) := by rw [IntKind.wrap_i64]; omega
            have hw15 : IntKind.i64.wrap ((k : Int) - 15) = (p15 : Int) := by rw [IntKind.wrap_i64]; omega
            have hw7 : IntKind.i64.wrap ((k : Int) - 7) = (p7 : Int) := by rw [IntKind.wrap_i64]; omega
            have hw2 : IntKind.i64.wrap ((k : Int) - 2) = (p2 : Int) := by rw [IntKind.wrap_i64]; omega
            have l16 : (p16 : Int) < 64 := by omega
            have l15 : (p15 : Int) < 64 := by omega
            have l7 : (p7 : Int) < 64 := by omega
            have l2 : (p2 : Int) < 64 := by omega
            rw [← hp16] at hall hnx hx16
            rw [← hp15] at m15 hnx hx15
            rw [← hp7] at hall hnx hx7
            rw [← hp2] at m2 hnx hx2
            generalize S.getD p16 0 = a16 at *
            generalize S.getD p15 0 = a15 at *
            generalize S.getD p7 0 = a7 at *
            generalize S.getD p2 0 = a2 at *
            generalize S.getD k 0 = ak at *
            have Hnx := Lib.hid hnx
            have Hall := Lib.hid hall
            clear hp16 hp15 hp7 hp2 hS hI HL HS Hn hkS hnx hall Hle
            go_upto_region 11 with (fail)
            go_quiet (fail)
            go_upto_region 14 with (go_at_call 123; refine (right_z _ _ _ (by assumption) (by decide)).mono ?_; rintro e w' ⟨rfl, rfl⟩)
            rw [sg0_walk a15 hx15, sg1_walk a2 hx2]
            have h0 := sg0_lt hx15
            have h1 := sg1_lt hx2
            generalize sg0 a15 = s0 at *
            generalize sg1 a2 = s1 at *
            refine wp_region_still_tail 14 (by kernel_rfl) (by kernel_rfl) ?_
            simp only [List.take_succ_cons, List.take_zero, List.drop_succ_cons, List.drop_zero]
            change wpStill _ _ (wr.drewN nq).drew _ _ _
            have hKW : Keep [] wr (wr.drewN nq).drew := ((Keep.refl [] wr).drewN nq).drew
            obtain ⟨W, hW⟩ : ∃ W, (wr.drewN nq).drew = W := ⟨_, rfl⟩
            rw [hW] at hKW ⊢
            have HW := Lib.hid hW
            clear hW
            obtain ⟨m16, m7, mo, mlt, mfr, hset⟩ := Hall.out W hKW
            repeat still_step
            refine wpStill_nil ?_
            change wpList _ _ _ _ _ (wr.drewN nq).drew
            rw [HW.out]
            go_wp2
            have e : ((a16 : Int) + s0 + a7 + s1) % 4294967296 = (ak : Int) := by
              rw [Hnx.out]; unfold a32; omega
            rw [e]
            exact ⟨⟨k + 1, by simp, by omega, by omega, Lib.hid hset⟩, by simp [intOf]; omega⟩
        · as_aux_lemma =>
            obtain rfl : k = 64 := by omega
            have hki : ¬ ((64 : Nat) : Int) < 64 := by omega
            have hS := hI.out
            have hrow := hS.row
            have hL := HL.out
            have e1 : rowN S 64 = S := by rw [← hL]; exact rowN_all S
            rw [e1] at hrow
            have hres := hS.res
            have hkp := hS.kp
            have hszS : (inW S).toArray.size = 64 := by simp [inW, hL]
            have hszZ : Z.size = 64 := by rw [← HZ.out]; rfl
            have hone := all_oneCell_toArray (inW_one S)
            have HR : Hid (enc32 S = .agg (inW S).toArray) := Lib.hid rfl
            have hb2 : Blk (wr.setRow b2 (inW S).toArray) b2 179 (inW S).toArray := setRow_heap wr b2 Z _ 179 (0, 0) hres
            have HF := Lib.hid (And.intro hb2 (keep_setRow (c := (inW S).toArray) hkp Hle2.out hres))
            generalize (inW S).toArray = C at *
            clear hI hS HL HS Hn Hle hb2
            go_upto_region 15 with (fail)
            refine wp_region_lit ?_
            refine wpList_load_row rfl 179 (.tmp 3) rfl b3 rfl 179 C (0, 0) _ hrow Tryz.underlying179 rfl (by rw [hszS]; exact size179) ?_
            refine wpList_store_row rfl 179 (.tmp 2) (.tmp 73) rfl b2 C rfl rfl 179 Z hres (by rw [hszS]; exact size179) (by rw [hszS, hszZ]) hone ?_
            go_wp2
            refine bodyPost_ret (v := .agg C) (results_cell_row (ty := 179) rfl _ _ b2 179 _ (0, 0) _ rfl HF.out.1 Tryz.underlying179 rfl (by rw [hszS]; exact size179)) rfl ⟨by rw [HSe.out, HR.out], HF.out.2⟩
end Go.Proofs.YtdnaahbhfjclpaaGreatDoor

namespace Go.Pck
theorem turn1_lt {x : Nat} (h : x < 4294967296) : turn1 x < 4294967296 := by unfold turn1; omega
end Go.Pck
namespace Go.Proofs.YtdnaahbhfjclpaaGreatDoor
open Go.RowKit Go.Sal Go.Huf Go.Pck
theorem rightR_any (x n : Nat) (w : World) (hx : x < 4294967296) (hn : n ≤ 31) :
    Calls Tryz.prog 124 #[.int .u32 (x : Nat), .int .i64 (n : Nat)] w fun e w' => e = .returned (.int .u32 (rr x n : Nat)) ∧ w' = w := by
  rw [rr_eq hn hx]
  go_enter Tryz.func124, Tryz.ntmps124
  go_wp2
  go_loop [1, 0] (fun v1 v0 => ∃ k y : Nat, v1 = .int .i64 k ∧ v0 = .int .u32 y ∧ k ≤ 31 ∧ y < 4294967296 ∧ rrI k y = rrI n x) (fun v1 _ => (intOf v1).toNat)
  case atStart => exact ⟨n, x, rfl, rfl, hn, hx, rfl⟩
  case round =>
    obtain ⟨k, y, rfl, rfl, hk, hy, he⟩ := hrel
    cases k with
    | zero =>
      rw [rrI] at he
      have HE := Lib.hid he
      clear he
      go_wp2
      go_ret
      exact ⟨by rw [← HE.out]; rfl, rfl⟩
    | succ k =>
      rw [rrI] at he
      have hki : (0 : Int) < ((k + 1 : Nat) : Int) := by omega
      have hwk : IntKind.i64.wrap (((k + 1 : Nat) : Int) - 1) = (k : Int) := by rw [IntKind.wrap_i64]; omega
      obtain ⟨q, hq⟩ : ∃ q, q = k + 1 := ⟨_, rfl⟩
      rw [← hq] at hki hwk ⊢
      have ht : turn1 y < 4294967296 := turn1_lt hy
      have h1 : IntKind.u32.wrap ((y : Int) / 2) = (y : Int) / 2 := by rw [IntKind.wrap_u32]; omega
      have h2 : IntKind.u32.wrap ((y : Int) % 2 * 2147483648) = (y : Int) % 2 * 2147483648 := by rw [IntKind.wrap_u32]; omega
      have h3 : IntKind.u32.wrap ((y : Int) / 2 + (y : Int) % 2 * 2147483648) = ((turn1 y : Nat) : Int) := by unfold turn1 at ht ⊢; rw [IntKind.wrap_u32]; omega
      have HT := Lib.hid (And.intro ht (And.intro he hq))
      generalize turn1 y = y2 at *
      clear ht he hq
      go_wp2
      exact ⟨⟨k, y2, by simp, rfl, by omega, HT.out.1, HT.out.2.1⟩, by simp [intOf]; have := HT.out.2.2; omega⟩
theorem rightRz_any (x : Nat) (z : Int) (w : World) (hx : x < 4294967296) (hz : 1 ≤ z ∧ z ≤ 31) : Calls Tryz.prog 124 #[.int .u32 (x : Nat), .int .i64 z] w fun e w' => e = .returned (.int .u32 (rr x z.toNat : Nat)) ∧ w' = w := by
  have := rightR_any x z.toNat w hx (by omega)
  rwa [Int.toNat_of_nonneg (by omega)] at this
theorem movedR_any (x n : Nat) (w : World) (hx : x < 4294967296) (hn : n ≤ 31) :
    Calls Tryz.prog 125 #[.int .u32 (x : Nat), .int .i64 (n : Nat)] w fun e w' => e = .returned (.int .u32 (mvI n x : Nat)) ∧ w' = w := by
  go_enter Tryz.func125, Tryz.ntmps125
  go_wp2
  go_loop [1, 0] (fun v1 v0 => ∃ k y : Nat, v1 = .int .i64 k ∧ v0 = .int .u32 y ∧ k ≤ 31 ∧ y < 4294967296 ∧ mvI k y = mvI n x) (fun v1 _ => (intOf v1).toNat)
  case atStart => exact ⟨n, x, rfl, rfl, hn, hx, rfl⟩
  case round =>
    obtain ⟨k, y, rfl, rfl, hk, hy, he⟩ := hrel
    cases k with
    | zero =>
      rw [mvI] at he
      have HE := Lib.hid he
      clear he
      go_wp2
      go_ret
      exact ⟨by rw [← HE.out]; rfl, rfl⟩
    | succ k =>
      rw [mvI] at he
      have hki : (0 : Int) < ((k + 1 : Nat) : Int) := by omega
      have hwk : IntKind.i64.wrap (((k + 1 : Nat) : Int) - 1) = (k : Int) := by rw [IntKind.wrap_i64]; omega
      obtain ⟨q, hq⟩ : ∃ q, q = k + 1 := ⟨_, rfl⟩
      rw [← hq] at hki hwk ⊢
      have h1 : IntKind.u32.wrap ((y : Int) / 2) = (y : Int) / 2 := by rw [IntKind.wrap_u32]; omega
      have HT := Lib.hid (And.intro he (And.intro hq hy))
      clear he hq
      go_wp2
      exact ⟨⟨k, y / 2, by simp, rfl, by omega, by omega, HT.out.1⟩, by simp [intOf]; have := HT.out.2.1; omega⟩
theorem movedRz_any (x : Nat) (z : Int) (w : World) (hx : x < 4294967296) (hz : 1 ≤ z ∧ z ≤ 31) : Calls Tryz.prog 125 #[.int .u32 (x : Nat), .int .i64 z] w fun e w' => e = .returned (.int .u32 (x / 2 ^ z.toNat : Nat)) ∧ w' = w := by
  have := movedR_any x z.toNat w hx (by omega)
  rw [mvI_eq] at this
  rwa [Int.toNat_of_nonneg (by omega)] at this
set_option maxRecDepth 20000 in
set_option maxHeartbeats 1000000 in
theorem startR_any (w : World) : Calls Tryz.prog 79 #[] w fun e w' => e = .returned (enc32 start8) ∧ Keep [] w w' := by
  go_enter Tryz.func79, Tryz.ntmps79
  go_wp2
  refine bodyPost_ret (v := enc32 start8) (results_cell_row (ty := 115) rfl _ _ w.heap.size 115 _ (0, 0) _ rfl (heap_alloc_last w _) Tryz.underlying115 rfl (by kernel_rfl)) rfl ⟨rfl, (Keep.refl [] w).alloc _⟩
set_option maxRecDepth 20000 in
set_option maxHeartbeats 1000000 in
theorem constsR_any (w : World) : Calls Tryz.prog 126 #[] w fun e w' => e = .returned (enc32 kTab) ∧ Keep [] w w' := by
  have z := zero179
  generalize hz : Z64 = Z at *
  go_enter Tryz.func126, Tryz.ntmps126
  go_upto_region 1 with (fail)
  refine wp_region_lit ?_
  refine wpList_build_as rfl 179 _ rfl (inW kTab).toArray (by kernel_rfl) ?_
  refine wpList_store_row rfl 179 (.tmp 0) (.tmp 1) rfl w.heap.size (inW kTab).toArray rfl rfl 179 Z (heap_alloc_last w _) (by kernel_rfl) (by rw [← hz]; rfl) (by kernel_rfl) ?_
  rw [World.setRow_alloc_new]
  generalize hk : (inW kTab).toArray = K at *
  go_wp2
  refine bodyPost_ret (v := .agg K) (results_cell_row (ty := 179) rfl _ _ w.heap.size 179 _ (0, 0) _ rfl (heap_alloc_last w _) Tryz.underlying179 rfl (by rw [← hk]; kernel_rfl)) rfl ⟨by rw [← hk]; rfl, (Keep.refl [] w).alloc _⟩
end Go.Proofs.YtdnaahbhfjclpaaGreatDoor

namespace Go.Proofs.YtdnaahbhfjclpaaGreatDoor
section
variable {P : Program} {md : Region.Mode} {ops : Array Oper} {Q : Exit → Act → World → Prop}
theorem countP_less {p q : Nat → Bool} : ∀ {l : List Nat} {i : Nat}, i ∈ l → (∀ j, q j = true → p j = true) → p i = true → q i = false → l.countP q < l.countP p
  | [], i, h, _, _, _ => by cases h
  | x :: l, i, h, hle, hp, hq => by
    have hmono : l.countP q ≤ l.countP p := List.countP_mono_left (fun j _ hj => hle j hj)
    rcases List.mem_cons.1 h with rfl | h
    · rw [List.countP_cons_of_pos hp, List.countP_cons_of_neg (by simp [hq])]
      omega
    · have ih := countP_less h hle hp hq
      by_cases hx : q x = true
      · rw [List.countP_cons_of_pos hx, List.countP_cons_of_pos (hle x hx)]; omega
      · rw [List.countP_cons_of_neg hx]
        by_cases hy : p x = true
        · rw [List.countP_cons_of_pos hy]; omega
        · rw [List.countP_cons_of_neg hy]; exact ih
def unl (n : Nat) (listed : Array Bool) : Nat := (List.range n).countP fun j => !(listed.getD j true)
theorem unl_set {n i : Nat} {listed : Array Bool} (hi : i < n) (h : listed.getD i true = false) : unl n (listed.setIfInBounds i true) < unl n listed := by
  refine countP_less (List.mem_range.2 hi) (fun j hj => ?_) (by simp only [h]; rfl) ?_
  · by_cases hij : i = j
    · subst hij; simp only [h]; rfl
    · rwa [getD_set_ne true hij] at hj
  · have : i < listed.size := by
      rcases Nat.lt_or_ge i listed.size with h' | h'
      · exact h'
      · simp [Array.getElem?_eq_none h'] at h
    simp [this]
theorem wpAny_inv (Inv : Array Bool → Act → World → Prop)
    (step : ∀ listed a w i oi, Inv listed a w → ops[i]? = some oi → listed.getD i true = false → (∀ e ∈ oi.after, Region.binds md e = true → listed.getD e.on false = true) →
      Region.wanted oi (yielded ops a.tmps) = true ∧ oi.wp P a w (fun a' w' => Inv (listed.setIfInBounds i true) a' w') Q)
    (fin : ∀ listed a w, Inv listed a w → Region.ready md ops listed = [] → Q .normal a w) :
    ∀ (fuel : Nat) (listed : Array Bool) (a : Act) (w : World), unl ops.size listed ≤ fuel → Inv listed a w → wpAny P md ops Q fuel listed a w := by
  have key : ∀ (listed : Array Bool) (a : Act) (w : World), Inv listed a w → ∀ i ∈ Region.ready md ops listed, i < ops.size ∧ listed.getD i true = false ∧ wpOp P ops Q i (fun a' w' => Inv (listed.setIfInBounds i true) a' w') a w := by
    intro listed a w hI i hi
    obtain ⟨h0, oi, hoi, hall⟩ := mem_ready.1 hi
    obtain ⟨hw, hwp⟩ := step listed a w i oi hI hoi h0 hall
    refine ⟨(Array.getElem?_eq_some_iff.1 hoi).1, h0, ?_⟩
    unfold wpOp
    simp only [hoi, hw, if_true]
    exact .inl hwp
  intro fuel
  induction fuel with
  | zero =>
    intro listed a w hf hI
    have hr : Region.ready md ops listed = [] := by
      cases hr : Region.ready md ops listed with
      | nil => rfl
      | cons i l =>
        obtain ⟨h1, h2, _⟩ := key listed a w hI i (by rw [hr]; simp)
        have := unl_set h1 h2
        omega
    exact ⟨hr, fin _ _ _ hI hr⟩
  | succ fuel ih =>
    intro listed a w hf hI
    refine ⟨fin _ _ _ hI, fun i hi => ?_⟩
    obtain ⟨h1, h2, h3⟩ := key listed a w hI i hi
    have := unl_set h1 h2
    exact wpOp_mono (fun a' w' h => ih _ a' w' (by omega) h) h3
theorem unl_le (n : Nat) (listed : Array Bool) : unl n listed ≤ n := by
  unfold unl
  have := List.countP_le_length (p := fun j => !(listed.getD j true)) (l := List.range n)
  simpa using this
def aheadB (ops : Array Oper) : Bool := (List.range ops.size).all fun i => match ops[i]? with
  | some o => o.after.all fun e => !(Region.binds .any e) || decide (e.on < i)
  | none => true
theorem all_listed (hB : aheadB ops = true) {listed : Array Bool} (hr : Region.ready .any ops listed = []) (hs : listed.size = ops.size) : ∀ i, i < ops.size → listed.getD i false = true := by
  intro i
  induction i using Nat.strongRecOn with
  | ind i ih =>
    intro hi
    cases h : listed.getD i false with
    | true => rfl
    | false =>
      exfalso
      have ho : ops[i]? = some ops[i] := Array.getElem?_eq_getElem hi
      have hb := List.all_eq_true.1 hB i (List.mem_range.2 hi)
      rw [ho] at hb
      have hlt : i < listed.size := by omega
      have hmem : i ∈ Region.ready .any ops listed := mem_ready.2 ⟨by simp [hlt] at h ⊢; exact h, _, ho, fun e he hbd => by
        have h1 := Array.all_eq_true_iff_forall_mem.1 hb e he
        rw [hbd] at h1
        have h2 : e.on < i := by simpa using h1
        exact ih _ h2 (by omega)⟩
      rw [hr] at hmem
      cases hmem
theorem wp_region_inv {id : Nat} {a : Act} {w : World} (Inv : Array Bool → Act → World → Prop) (hm : P.follows .mixedOrders = true) (hB : aheadB ops = true)
    (h0 : Inv (Array.replicate ops.size false) a w.drew)
    (step : ∀ listed a w i oi, listed.size = ops.size → Inv listed a w → ops[i]? = some oi → listed.getD i true = false → (∀ e ∈ oi.after, Region.binds .any e = true → listed.getD e.on false = true) →
      Region.wanted oi (yielded ops a.tmps) = true ∧ oi.wp P a w (fun a' w' => Inv (listed.setIfInBounds i true) a' w') Q)
    (fin : ∀ listed a w, (∀ i, i < ops.size → listed.getD i false = true) → Inv listed a w → Q .normal a w) : (Code.region id ops true).wp P Q a w := by
  refine wp_region_any hm ?_
  refine wpAny_inv (fun listed a w => listed.size = ops.size ∧ Inv listed a w) ?_ ?_ _ _ _ _ (unl_le _ _) ⟨by simp, h0⟩
  · rintro listed a w i oi ⟨hs, hI⟩ hoi hun hall
    obtain ⟨h1, h2⟩ := step listed a w i oi hs hI hoi hun hall
    exact ⟨h1, Oper.wp_mono (fun a' w' h => ⟨by simpa using hs, h⟩) h2⟩
  · rintro listed a w ⟨hs, hI⟩ hr
    exact fin listed a w (all_listed hB hr hs) hI
end
end Go.Proofs.YtdnaahbhfjclpaaGreatDoor

