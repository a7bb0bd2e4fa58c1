/- The document's answer: little words, blocks, sizes. -/
import Derived.Test.YtdnaahbhfjclpaaGreatDoorYc
import Derived.Test.YtdnaahbhfjclpaaGreatDoorWc
import Derived.ProofKit
import Derived.SizedLaws
import Derived.Deep.Slices
import Derived.Deep.Fields
import Derived.Lib.SmallJoins
import Derived.StillTailTactics
import Derived.Laws.BitsAllLaws
import Derived.Test.YtdnaahbhfjclpaaGreatDoorXk
set_option linter.unusedVariables false
set_option linter.unusedSimpArgs false
namespace Go.Proofs.YtdnaahbhfjclpaaGreatDoor
open Go.RowKit Go.Sal Go.Pck Go.Huf Go.Cod
theorem strB {l m : List Nat} (h : l = m) : ((strN l).toList == m.map UInt8.ofNat) = true := by
  subst h
  rw [ByteArray.toList_eq]
  have e1 : (strN l).data.toList = l.map UInt8.ofNat := by simp [strN]
  rw [e1]
  simp
theorem blk_a8 : (blkB [97]).take 8 = [83, 67, 72, 75, 1, 0, 3, 0] := by
  unfold blkB Pck.hdP
  rw [enc_a]
  simp [hdB, Pck.bytP, shF, List.range_succ]
theorem blk_a : (blkB [97]).length = 512 := by rw [blk_len, enc_a]; rfl
theorem rd_a : rdP (blkB [97]) = ([97], 1, 0) := by
  have := rd_back (c := [97]) [] (by simp) (by simp) (by simp)
  rw [List.append_nil, enc_a] at this
  exact this
set_option maxRecDepth 20000 in
set_option maxHeartbeats 1000000 in
theorem alive_any (w : World) : Calls Tryz.prog 12 #[] w fun e w' => e = .returned (.bool true) ∧ Keep [] w w' := by
  obtain ⟨C4, hC4⟩ : ∃ C4, (#[.int .u8 97] : Array Value) = C4 := ⟨_, rfl⟩
  obtain ⟨w1, hw1⟩ : ∃ w1, w.alloc (.cells C4 5 (1, 1 + 1)) = w1 := ⟨_, rfl⟩
  have kc : (convert 22 22 (.slice (some ⟨w.heap.size, 0, none⟩) 1 1)).run Tryz.prog (w.alloc (.cells C4 5)) = .ok (.slice (some ⟨w.heap.size, 0, none⟩) 1 1) w1 := by
    have := Lib.run_convert_bytes_const (P := Tryz.prog) w 22 5 C4 1 1 Tryz.underlying22 Tryz.underlying5
    rw [show C4.size = 1 by rw [← hC4]; rfl, hw1] at this
    exact this
  have hh : w1.heap[w.heap.size]? = some (.cells C4 5 (1, 1 + 1)) := by rw [← hw1]; exact heap_alloc_last w _
  have k1 : Keep [] w w1 := by rw [← hw1]; exact (Keep.refl _ w).alloc _
  have hs : BySrc w1 (some ⟨w.heap.size, 0, none⟩) [97] := by
    refine ⟨fun i hi => ⟨w.heap.size, 0, rfl, by rw [← hw1, size_al]; omega, ?_⟩, by decide⟩
    rw [Nat.zero_add, cell_of_row w1 w.heap.size i C4 5 _ hh, ← hC4]
    match i, hi with
    | 0, _ => rfl
  have HB : Hid (Calls Tryz.prog 13 #[.slice (some ⟨w.heap.size, 0, none⟩) 1 1] w1 fun e w' => ∃ A c, e = .returned (.tuple #[.slice A 512 c, .int .i64 0]) ∧ OwB w1 A c (blkB [97]) w') := Lib.hid (by
    refine (pbytes_any [97] (some ⟨w.heap.size, 0, none⟩) 1 w1 hs (by simp) (fun a ha => by injection ha with ha; subst ha; rw [← hw1, size_al]; exact Nat.lt_succ_self _) (by simp) (by simp)).mono ?_
    rintro e w' ⟨A, c, rfl, ho, hk⟩
    exact ⟨A, c, by rw [blk_a], ho, hk⟩)
  have HR : Hid (∀ A c w2, OwB w1 A c (blkB [97]) w2 → Calls Tryz.prog 10 #[.slice A 512 c] w2 fun e w' => ∃ A3 c3, e = .returned (.tuple #[.slice A3 1 c3, .int .i64 1, .int .i64 0]) ∧ Keep [] w w' ∧ (∀ W, Keep [] w' W → (convert 22 9 (.slice A 8 c)).run Tryz.prog W = .ok (.string (strN ((blkB [97]).take 8))) W ∧ (convert 22 9 (.slice A3 1 c3)).run Tryz.prog W = .ok (.string (strN [97])) W)) := Lib.hid (by
    intro A c w2 ho
    have hlt := blk_lt (c := [97]) (by simp) (by simp)
    have h := pread_any (blkB [97]) A c w2 (ho.src hlt) (own_cap' ho.1) (own_blk_lt ho.1) (by rw [blk_a]; omega)
    rw [blk_a, rd_a] at h
    refine h.mono ?_
    rintro e w3 ⟨A3, c3, rfl, ho3, hk3⟩
    refine ⟨A3, c3, rfl, k1.trans (ho.2.trans hk3), fun W kk => ⟨?_, ?_⟩⟩
    · have h8 : ((blkB [97]).take 8).length = 8 := by rw [blk_a8]; rfl
      have := str_src (bsrc_head ((ho.keep (hk3.trans kk)).src hlt) 8) c
      rw [h8] at this
      exact this
    · exact str_src ((bsrc_own ho3 (by simp)).keep kk (fun a _ => by simp)) c3)
  have hS8 : ((strN ((blkB [97]).take 8)).toList == [83, 67, 72, 75, 1, 0, 3, 0]) = true := strB blk_a8
  have hS1 : ((strN [97]).toList == [97]) = true := strB rfl
  have hsl : ∀ A c W, 8 ≤ c → (Instr.slice 22 (.slice A 512 c) none (some (.int .i64 8)) none).run Tryz.prog W = .ok (.slice A 8 c) W := fun A c W hc => slice_head (P := Tryz.prog) 22 5 Tryz.underlying22 A 512 c 8 hc W 1 (by kernel_rfl)
  have Hsl := Lib.hid hsl
  have Hkc := Lib.hid kc
  have HC4 := Lib.hid hC4
  clear hw1 hh k1 hs hC4 kc hsl
  generalize strN ((blkB [97]).take 8) = S8 at *
  generalize strN [97] = S1 at *
  go_enter Tryz.func12, Tryz.ntmps12
  go_upto_region 1 with (fail)
  refine wp_region_lit ?_
  refine wpList_plain rfl (fun K hK => ?_)
  go_simp
  refine hK _ _ ?_
  clear hK K
  rw [HC4.out]
  refine wpList_plain rfl (fun K hK => ?_)
  go_simp
  rw [Hkc.out]
  go_simp
  refine hK _ _ ?_
  clear hK K
  go_upto_region 3 with (first
    | (go_at_call 13; refine HB.out.mono ?_; rintro e w2 ⟨A, c, rfl, ho⟩; have hc8 : 8 ≤ c := (by have := own_cap' ho.1; rw [blk_a] at this; omega); have HR2 := Lib.hid (HR.out A c w2 ho); clear ho)
    | (go_at_call 10; refine HR2.out.mono ?_; rintro e w3 ⟨A3, c3, rfl, hk3, hcv⟩; have HK := Lib.hid hk3; have h1 := (hcv w3 (Keep.refl _ _)).1; have h2 := (hcv w3 (Keep.refl _ _)).2; clear hk3 hcv))
  have h8 := fun W => Hsl.out A c W hc8
  clear HR HR2 HB
  go_wp2
  go_ret
  exact ⟨rfl, HK.out⟩
set_option maxHeartbeats 1000000 in
theorem cut_any (A : Option Addr) (l c n : Nat) (w : World) (hc : l ≤ c) (hl : l ≤ 9223372036854775807) :
    Calls Tryz.prog 9 #[.slice A l c, .int .i64 (n : Nat)] w fun e w' => e = .returned (.slice A (min l n) c) ∧ w' = w := by
  rcases Nat.lt_or_ge n l with h | h
  · have h1 : (n : Int) < (l : Int) := by omega
    have hs : ∀ W, (Instr.slice 22 (.slice A l c) none (some (.int .i64 (n : Int))) none).run Tryz.prog W = .ok (.slice A n c) W := fun W => slice_head (P := Tryz.prog) 22 5 Tryz.underlying22 A l c n (by omega) W 1 (by kernel_rfl)
    rw [Nat.min_eq_right (by omega)]
    go_enter Tryz.func9, Tryz.ntmps9
    go_wp2
    go_ret
    exact ⟨rfl, rfl⟩
  · have h1 : ¬ (n : Int) < (l : Int) := by omega
    rw [Nat.min_eq_left h]
    go_enter Tryz.func9, Tryz.ntmps9
    go_wp2
    go_ret
    exact ⟨rfl, rfl⟩
end Go.Proofs.YtdnaahbhfjclpaaGreatDoor

namespace Go.Sal
open Go.ChangeShapes Go.WideShapes Go.ChangeAt Go.RowKit Go.Deep
section
variable {H : Type} {enc : TypeId × Value → H} {P : Program} {w : World} {base : Nat} {spare : Nat → Bool} {held : Bool}
theorem u8_back {n : Int} (h : (Lit.int .u8 n).wf = true) : n = ((UInt8.ofNat n.toNat).toNat : Int) := by
  simp [Lit.wf, IntKind.min, IntKind.max, IntKind.bits, IntKind.signed] at h
  simp
  omega
theorem reads_of_trod {t e : TypeId} {fuel : Nat} {v : Value} {y : DataW H × List MemPlace} (ht : P.underlying t = some (.slice e)) (he : P.underlying e = some (.int .u8)) (hC : P.cellsOf e = 1)
    (h : DataW.trod enc P w base spare held fuel t [v] = some y) : ∃ b, Reads w.heap.size e w v b := by
  rcases open_ints ht he hC h with ⟨hcs, _⟩ | ⟨a, len, cap, zs, hcs, _, hl, hm, hz, _, hcell, hwz⟩
  · injection hcs with hcs
    subst hcs
    exact ⟨[], Reads.nil _ _ _⟩
  · injection hcs with hcs
    subst hcs
    have hlz : len ≤ zs.length := by
      rw [hz]
      split <;> omega
    refine ⟨(zs.take len).map fun n => UInt8.ofNat n.toNat, some a, cap, ?_, ?_, hm, fun hne => ⟨a, rfl, ?_, fun i hi => ?_⟩⟩
    · simp
      omega
    · simp
      omega
    · have h0 : 0 < zs.length := by
        rcases Nat.eq_zero_or_pos zs.length with h0 | h0
        · have := List.eq_nil_of_length_eq_zero h0
          subst this
          simp at hne
        · exact h0
      have := World.block_lt_of_cell? _ _ (hcell 0 h0)
      rw [add_block] at this
      exact ⟨this, .inl this⟩
    · have hi' : i < len ∧ i < zs.length := by simp at hi; omega
      rw [hcell i hi'.2]
      simp only [List.getElem_map, List.getElem_take]
      have hg : zs.getD i 0 = zs[i] := by simp [List.getD, hi'.2]
      rw [hg, ← u8_back (hwz _ (List.getElem_mem hi'.2))]
theorem post_of_below {f : Func} {s : ChangeSpec} {apart fresh handsOn again : Bool} {W W' : World} {args : Array Value} {v : Value} {ds gs : List (DataW H)} {before pa pv : List MemPlace}
    (hW : DataW.Whole enc P f.params.toList s.vars apart W args.toList ds gs before)
    (hres : ∀ (b : Nat) (sp : Nat → Bool) (hd : Bool), DataW.TrodAll enc P W' b sp hd f.resultTypes.toList (v.resultList f.resultTypes.size) (s.fn H (ds ++ gs)).results [])
    (hargs : ∀ sp : Nat → Bool, (∀ p ∈ before, sp p.block = true) → DataW.TrodAll enc P W' 0 sp true f.params.toList args.toList (s.fn H (ds ++ gs)).args pa)
    (hvars : ∀ sp : Nat → Bool, (∀ p ∈ before, sp p.block = true) → DataW.TrodVars enc P W' sp s.vars (s.fn H (ds ++ gs)).vars pv)
    (hps : before = pa ++ pv) (hb : Below W.heap.size W W')
    (hok : ∀ (j : Nat) (t : TypeId) (r : Value), f.resultTypes[j]? = some t → (v.resultList f.resultTypes.size)[j]? = some r → Value.okWide P W' .any 0 t r) :
    s.post enc P f apart fresh handsOn again W args v W' := by
  have hlt : ∀ p ∈ before, p.block < W.heap.size := fun p hp => hW.lt p hp
  have hold : ∀ p ∈ before, (fun b => decide (b < W.heap.size)) p.block = true := fun p hp => by simpa using hlt p hp
  refine ⟨ds, gs, before, [], pa, pv, hW, hres _ _ _, hargs _ hold, hvars _ hold, World.keptBut_mono (fun p hp => ⟨hp, ?_⟩) (hb.frame (· ∈ before)), fun _ => ?_⟩
  · rw [hps, List.mem_append] at hp
    exact Or.inr hp
  · obtain ⟨_, _, _, _, _, hz, hn⟩ := hW
    refine ⟨hok, _, _, ([] ++ pa) ++ pv, ⟨[] ++ pa, pv, trodAll_append (hargs _ (fun _ _ => rfl)) (hres _ _ _), hvars _ (fun _ _ => rfl), rfl, ?_, ?_⟩, ?_⟩
    · intro b off hp
      have hin : MemPlace.cell b off ∈ before := by rw [hps]; simpa using hp
      rw [hb.frozen (hlt _ hin)]
      exact hz b off hin
    · intro ha
      have := hn ha
      rw [hps] at this
      simpa using this
    · intro p hp _
      rw [hps]
      simpa using hp
end
end Go.Sal

namespace Go.Sal
theorem spot_of_cell {w : World} {a : Addr} {v : Value} (h : w.cell? a = some v) : a.spot = none := by
  unfold World.cell? at h
  split at h
  · split at h
    · cases h
    · rename_i h1
      simpa using h1
  · cases h
theorem okWide_block {P : Program} {w : World} {r : Reach} {base : Nat} {t e : TypeId} {a : Addr} {n c : Nat} (ht : P.underlying t = some (.slice e)) (h : Value.okWide P w r base t (.slice (some a) n c)) : a.block < w.heap.size := by
  simp only [Value.okWide, ht, Cell.okWide, Cell.ok] at h
  obtain ⟨_, _, _, _, row, cells, hs, _⟩ := h
  rcases Nat.lt_or_ge a.block w.heap.size with h1 | h1
  · exact h1
  · rw [World.shape?, Array.getElem?_eq_none h1] at hs
    cases hs
end Go.Sal
namespace Go.Proofs.YtdnaahbhfjclpaaGreatDoor
open Go.ChangeShapes Go.WideShapes Go.ChangeAt Go.RowKit Go.Sal Go.Huf Go.Cod Go.Pck
theorem Tryz.own : ownKnob Tryz.prog.godebug = none := by kernel_rfl
theorem Tryz.laidOut : laidOutB Tryz.prog = true := by kernel_rfl
def BytArg (w : World) (v : Value) (l : List Nat) : Prop :=
  ∃ A c, v = .slice A l.length c ∧ l.length ≤ c ∧ c ≤ maxLen ∧ BySrc w A l ∧ ∀ a, A = some a → a.block < w.heap.size
set_option maxRecDepth 100000 in
theorem bytArg_of {H : Type} {enc : TypeId × Value → H} {w : World} {base b0 : Nat} {r : Reach} {spare : Nat → Bool} {held : Bool} {fuel : Nat} {v : Value} {y : DataW H × List MemPlace}
    (ho : Value.okWide Tryz.prog w r b0 22 v) (h : DataW.trod enc Tryz.prog w base spare held fuel 22 [v] = some y) : ∃ l, BytArg w v l := by
  obtain ⟨b, A, c, rfl, h1, h2, h3⟩ := reads_of_trod Tryz.underlying22 Tryz.underlying5 (by kernel_rfl) h
  have hA : ∀ a, A = some a → a.block < w.heap.size := fun a ha => by
    subst ha
    exact okWide_block Tryz.underlying22 ho
  refine ⟨b.map fun x => x.toNat, A, c, by simp, by simpa using h1, h2, ⟨fun i hi => ?_, fun x hx => ?_⟩, hA⟩
  · simp at hi
    obtain ⟨a, rfl, _, hc⟩ := h3 (fun e => by subst e; simp at hi)
    have hc0 := hc i hi
    have hsp : a.spot = none := by
      have := spot_of_cell (hc 0 (by omega))
      simpa [Addr.add] using this
    obtain ⟨g, o, rfl⟩ : ∃ g o, a = ⟨g, o, none⟩ := ⟨a.block, a.off, by cases a; simp_all⟩
    rw [add_mk] at hc0
    exact ⟨g, o, rfl, hA _ rfl, by rw [hc0]; simp⟩
  · simp at hx
    obtain ⟨z, _, rfl⟩ := hx
    exact z.toNat_lt
theorem cut_arg {w : World} {v : Value} {l : List Nat} (h : BytArg w v l) (n : Nat) :
    Calls Tryz.prog 9 #[v, .int .i64 (n : Nat)] w fun e w' => ∃ A c, e = .returned (.slice A (l.take n).length c) ∧ (l.take n).length ≤ c ∧ BySrc w A (l.take n) ∧ (∀ a, A = some a → a.block < w.heap.size) ∧ w = w' := by
  obtain ⟨A, c, rfl, h1, h2, h3, h4⟩ := h
  refine (cut_any A l.length c n w h1 (by unfold maxLen at h2; omega)).mono ?_
  rintro e w' ⟨rfl, rfl⟩
  have hl : (l.take n).length = min l.length n := by rw [List.length_take, Nat.min_comm]
  exact ⟨A, c, by rw [hl], by omega, bsrc_head h3 n, h4, rfl⟩
end Go.Proofs.YtdnaahbhfjclpaaGreatDoor

namespace Go.Pck
def turnK (b M : List Nat) (a k : Nat) : List Nat := (List.range b.length).map fun j => if a ≤ j ∧ j < a + k then b.getD j 0 ^^^ M.getD (j - a) 0 else b.getD j 0
theorem turn_len (b M : List Nat) (a k : Nat) : (turnK b M a k).length = b.length := by simp [turnK]
theorem turn_set {b M : List Nat} {a k : Nat} (h : a + k < b.length) : (turnK b M a k).set (a + k) (b.getD (a + k) 0 ^^^ M.getD k 0) = turnK b M a (k + 1) := by
  apply List.ext_getElem (by rw [List.length_set, turn_len, turn_len])
  intro i h1 h2
  by_cases hi : a + k = i
  · subst hi
    rw [List.getElem_set_self]
    simp only [turnK, List.getElem_map, List.getElem_range]
    rw [if_pos (by omega), show a + k - a = k by omega]
  · rw [List.getElem_set_ne hi]
    simp only [turnK, List.getElem_map, List.getElem_range]
    by_cases h3 : a ≤ i ∧ i < a + k
    · rw [if_pos h3, if_pos (by omega)]
    · rw [if_neg h3, if_neg (by omega)]
end Go.Pck
namespace Go.Proofs.YtdnaahbhfjclpaaGreatDoor
open Go.RowKit Go.Sal Go.Huf Go.Cod Go.Pck
structure SpS (w : World) (g g4 c4 : Nat) (M b : List Nat) (a k : Nat) (wr : World) : Prop where
  own : OwB w (some ⟨g4, 0, none⟩) c4 (turnK b M a k) wr
  ne : g ≠ g4
  msk : Blk wr g 31 (inB M).toArray
theorem BytArg.keep {w w' : World} {v : Value} {l : List Nat} (h : BytArg w v l) (k : Keep [] w w') : BytArg w' v l := by
  obtain ⟨A, c, h1, h2, h3, h4, h5⟩ := h
  exact ⟨A, c, h1, h2, h3, h4.keep k (fun a _ => by simp), fun a ha => Nat.lt_of_lt_of_le (h5 a ha) k.size⟩
theorem SpS.step {w wr : World} {g g4 c4 a k : Nat} {M b : List Nat} (h : SpS w g g4 c4 M b a k wr) (hk : a + k < b.length) : SpS w g g4 c4 M b a (k + 1) (wr.setCell ⟨g4, a + k, none⟩ (.int .u8 ((b.getD (a + k) 0 ^^^ M.getD k 0 : Nat) : Int))) := by
  have hl := turn_len b M a k
  have hs := inB_set h.own.1 (i := a + k) (by omega) (b.getD (a + k) 0 ^^^ M.getD k 0)
  rw [turn_set hk] at hs
  have hg := (h.own.1.lt _ rfl).1
  refine ⟨⟨?_, Keep.setCell (p := ⟨g4, a + k, none⟩) h.own.2 (.inr hg) _⟩, h.ne, h.msk.far h.ne _⟩
  rw [turn_len, ← hl]
  exact hs
theorem getD_lt {l : List Nat} (h : ∀ x ∈ l, x < 256) (i : Nat) : l.getD i 0 < 256 := by
  rw [List.getD_eq_getElem?_getD]
  cases hi : l[i]? with
  | none => simp
  | some y => exact h y (List.mem_of_getElem? hi)
theorem SpS.keep {w wr W : World} {g g4 c4 a k : Nat} {M b : List Nat} (h : SpS w g g4 c4 M b a k wr) (kk : Keep [] wr W) : SpS w g g4 c4 M b a k W := ⟨h.own.keep kk, h.ne, h.msk.keep kk (by simp)⟩
end Go.Proofs.YtdnaahbhfjclpaaGreatDoor

namespace Go.Pck
def tailN (l : List Nat) (k : Nat) : Nat := leN (l.drop (l.length - k))
theorem tailN_zero (l : List Nat) : tailN l 0 = 0 := by simp [tailN, leN]
theorem tailN_all (l : List Nat) : tailN l l.length = leN l := by simp [tailN]
theorem tailN_succ {l : List Nat} {k : Nat} (h : k < l.length) : tailN l (k + 1) = tailN l k * 256 + l.getD (l.length - 1 - k) 0 := by
  unfold tailN
  have hi : l.length - (k + 1) < l.length := by omega
  rw [List.drop_eq_getElem_cons hi, show l.length - (k + 1) + 1 = l.length - k by omega, leN, List.getD_eq_getElem?_getD, show l.length - 1 - k = l.length - (k + 1) by omega, List.getElem?_eq_getElem hi]
  simp
  omega
theorem tailN_lt {l : List Nat} {k : Nat} (h : ∀ x ∈ l, x < 256) (hk : k ≤ l.length) : tailN l k < 2 ^ (8 * k) := by
  have := leN_lt (l.drop (l.length - k)) (fun x hx => h x (List.mem_of_mem_drop hx))
  rw [List.length_drop, show l.length - (l.length - k) = k by omega] at this
  exact this
end Go.Pck
namespace Go.Proofs.YtdnaahbhfjclpaaGreatDoor
open Go.RowKit Go.Sal Go.Huf Go.Cod Go.Pck
theorem widthR_any (n : Nat) (hn : n = 2 ∨ n = 4) (w : World) : Calls Tryz.prog 95 #[.int .i64 ((8 * n : Nat) : Int)] w fun e w' => e = .returned (.bool true) ∧ w' = w := by
  rcases hn with rfl | rfl
  all_goals
    go_enter Tryz.func95, Tryz.ntmps95
    go_wp2
    go_ret
    exact ⟨rfl, rfl⟩
theorem askedR_any (n : Nat) (hn : n = 2 ∨ n = 4) (w : World) : Calls Tryz.prog 61 #[.int .i64 ((8 * n : Nat) : Int), .int .i64 2] w fun e w' => e = .returned (.int .i64 0) ∧ w' = w := by
  have HW := Lib.hid (widthR_any n hn)
  rcases hn with rfl | rfl
  all_goals
    go_enter Tryz.func61, Tryz.ntmps61
    go_wp2_with (go_at_call 95; refine (HW.out _).mono ?_; rintro e w' ⟨rfl, rfl⟩)
    go_ret
    exact ⟨rfl, rfl⟩
set_option maxRecDepth 20000 in
set_option maxHeartbeats 2000000 in
theorem wordR_any (n : Nat) (l : List Nat) (A : Option Addr) (c : Nat) (w : World) (hn : n = 2 ∨ n = 4) (hl : n ≤ l.length) (hb : BySrc w A l) :
    Calls Tryz.prog 32 #[.slice A l.length c, .int .i64 ((8 * n : Nat) : Int), .int .i64 2] w fun e w' => e = .returned (.tuple #[.int .u64 (numP 2 (l.take n) : Nat), .int .i64 0]) ∧ w' = w := by
  have HA := Lib.hid (askedR_any n hn)
  obtain ⟨t, ht⟩ : ∃ t, t = l.take n := ⟨_, rfl⟩
  have htl : t.length = n := by rw [ht, List.length_take]; omega
  have htb : ∀ x ∈ t, x < 256 := fun x hx => hb.2 x (List.mem_of_mem_take (ht ▸ hx))
  have hnum : numP 2 (l.take n) = tailN t n := by
    rw [← ht, ← htl, tailN_all]; rfl
  rw [hnum]
  have hget : ∀ i, i < n → ∃ g o, A = some ⟨g, o, none⟩ ∧ g < w.heap.size ∧ w.cell? ⟨g, o + i, none⟩ = some (.int .u8 (t.getD i 0 : Nat)) ∧ t.getD i 0 < 256 ∧ i < l.length := fun i hi => by
    obtain ⟨g, o, e, h1, h2⟩ := bsrc_at hb (by omega)
    refine ⟨g, o, e, h1, ?_, getD_lt htb i, by omega⟩
    rw [h2 i (by omega), ht]
    simp [List.getD, List.getElem?_take, hi]
  have HG := Lib.hid hget
  have HS := Lib.hid (fun k (h : k < n) => tailN_succ (l := t) (k := k) (by omega))
  have HB := Lib.hid (fun k (h : k ≤ n) => tailN_lt (k := k) htb (by omega))
  have Htl := Lib.hid htl
  generalize l.length = ll at *
  clear hb hnum hget htb ht htl
  have hnl : ¬ (ll : Int) < (n : Int) := by omega
  rcases hn with rfl | rfl
  · go_enter Tryz.func32, Tryz.ntmps32
    go_wp2_with (go_at_call 61; refine (HA.out _).mono ?_; rintro e w' ⟨rfl, rfl⟩)
    go_loop [10, 9] (fun v10 v9 => ∃ k : Nat, v10 = .int .i64 k ∧ v9 = .int .u64 (tailN t k : Nat) ∧ k ≤ 2) (fun v10 _ => 2 - (intOf v10).toNat)
    case atStart => exact ⟨0, rfl, by rw [tailN_zero]; rfl, by omega⟩
    case round =>
      obtain ⟨k, rfl, rfl, hk⟩ := hrel
      rcases Nat.lt_or_ge k 2 with hkl | hkl
      · as_aux_lemma =>
          have hki : (k : Int) < 2 := by omega
          have hwk : IntKind.i64.wrap ((k : Int) + 1) = (k : Int) + 1 := by rw [IntKind.wrap_i64]; omega
          obtain ⟨q, hq⟩ : ∃ q, q = 2 - 1 - k := ⟨_, rfl⟩
          have hwq : IntKind.i64.wrap (1 - (k : Int)) = (q : Int) := by rw [IntKind.wrap_i64]; omega
          obtain ⟨g, o, rfl, hg, m, hx, hqi⟩ := HG.out q (by omega)
          have hql : (q : Int) < ll := by omega
          have hst := HS.out k hkl
          rw [Htl.out, ← hq] at hst
          have hb := HB.out (k + 1) hkl
          have hb2 : tailN t (k + 1) < 18446744073709551616 := Nat.lt_of_lt_of_le hb (Nat.le_trans (Nat.pow_le_pow_right (by omega) (show 8 * (k + 1) ≤ 64 by omega)) (by decide))
          generalize t.getD q 0 = x at *
          have hm1 : IntKind.u64.wrap ((tailN t k : Int) * 256) = (tailN t k : Int) * 256 := by rw [IntKind.wrap_u64]; omega
          have hm2 : IntKind.u64.wrap ((tailN t k : Int) * 256 + (x : Int)) = ((tailN t (k + 1) : Nat) : Int) := by rw [IntKind.wrap_u64, hst]; omega
          have hxx : IntKind.u64.wrap (x : Int) = (x : Int) := by rw [IntKind.wrap_u64]; omega
          obtain ⟨acc2, hacc⟩ : ∃ q, q = tailN t (k + 1) := ⟨_, rfl⟩
          rw [← hacc] at hm2
          have HA2 := Lib.hid hacc
          generalize tailN t k = acc at *
          clear HS HB HG HA hst hb hb2 hq hacc Htl
          go_wp2
          exact ⟨⟨k + 1, by simp, by rw [HA2.out], by omega⟩, by simp [intOf]; omega⟩
      · obtain rfl : k = 2 := by omega
        obtain ⟨q, hq⟩ : ∃ q, q = tailN t 2 := ⟨_, rfl⟩
        rw [← hq]
        have HQ := Lib.hid hq
        clear HS HB HG HA hq hk hkl
        go_wp2
        go_ret2
        exact ⟨by rw [HQ.out]; rfl, rfl⟩
  · go_enter Tryz.func32, Tryz.ntmps32
    go_wp2_with (go_at_call 61; refine (HA.out _).mono ?_; rintro e w' ⟨rfl, rfl⟩)
    go_loop [10, 9] (fun v10 v9 => ∃ k : Nat, v10 = .int .i64 k ∧ v9 = .int .u64 (tailN t k : Nat) ∧ k ≤ 4) (fun v10 _ => 4 - (intOf v10).toNat)
    case atStart => exact ⟨0, rfl, by rw [tailN_zero]; rfl, by omega⟩
    case round =>
      obtain ⟨k, rfl, rfl, hk⟩ := hrel
      rcases Nat.lt_or_ge k 4 with hkl | hkl
      · as_aux_lemma =>
          have hki : (k : Int) < 4 := by omega
          have hwk : IntKind.i64.wrap ((k : Int) + 1) = (k : Int) + 1 := by rw [IntKind.wrap_i64]; omega
          obtain ⟨q, hq⟩ : ∃ q, q = 4 - 1 - k := ⟨_, rfl⟩
          have hwq : IntKind.i64.wrap (3 - (k : Int)) = (q : Int) := by rw [IntKind.wrap_i64]; omega
          obtain ⟨g, o, rfl, hg, m, hx, hqi⟩ := HG.out q (by omega)
          have hql : (q : Int) < ll := by omega
          have hst := HS.out k hkl
          rw [Htl.out, ← hq] at hst
          have hb := HB.out (k + 1) hkl
          have hb2 : tailN t (k + 1) < 18446744073709551616 := Nat.lt_of_lt_of_le hb (Nat.le_trans (Nat.pow_le_pow_right (by omega) (show 8 * (k + 1) ≤ 64 by omega)) (by decide))
          generalize t.getD q 0 = x at *
          have hm1 : IntKind.u64.wrap ((tailN t k : Int) * 256) = (tailN t k : Int) * 256 := by rw [IntKind.wrap_u64]; omega
          have hm2 : IntKind.u64.wrap ((tailN t k : Int) * 256 + (x : Int)) = ((tailN t (k + 1) : Nat) : Int) := by rw [IntKind.wrap_u64, hst]; omega
          have hxx : IntKind.u64.wrap (x : Int) = (x : Int) := by rw [IntKind.wrap_u64]; omega
          obtain ⟨acc2, hacc⟩ : ∃ q, q = tailN t (k + 1) := ⟨_, rfl⟩
          rw [← hacc] at hm2
          have HA2 := Lib.hid hacc
          generalize tailN t k = acc at *
          clear HS HB HG HA hst hb hb2 hq hacc Htl
          go_wp2
          exact ⟨⟨k + 1, by simp, by rw [HA2.out], by omega⟩, by simp [intOf]; omega⟩
      · obtain rfl : k = 4 := by omega
        obtain ⟨q, hq⟩ : ∃ q, q = tailN t 4 := ⟨_, rfl⟩
        rw [← hq]
        have HQ := Lib.hid hq
        clear HS HB HG HA hq hk hkl
        go_wp2
        go_ret2
        exact ⟨by rw [HQ.out]; rfl, rfl⟩
set_option maxRecDepth 20000 in
theorem blksR_any (k : Nat) (w : World) (hk : k ≤ 1000000) : Calls Tryz.prog 39 #[.int .i64 ((44 + k : Nat) : Int)] w fun e w' => e = .returned (.int .i64 (blksP k : Nat)) ∧ w' = w := by
  obtain ⟨q, hq⟩ : ∃ q, q = 44 + k := ⟨_, rfl⟩
  have h1 : IntKind.i64.wrap ((q : Int) + 512) = (q : Int) + 512 := by rw [IntKind.wrap_i64]; omega
  have h2 : IntKind.i64.wrap ((q : Int) + 512 - 1) = ((q + 511 : Nat) : Int) := by rw [IntKind.wrap_i64]; omega
  have hb : blksP k = (q + 511) / 512 := by unfold blksP; rw [hq]; congr 1; omega
  rw [← hq]
  obtain ⟨m, hm⟩ : ∃ m, m = q + 511 := ⟨_, rfl⟩
  rw [← hm] at h2 hb
  have HB : Hid ((((m : Int) / 512) : Int) = ((blksP k : Nat) : Int)) := Lib.hid (by rw [hb]; omega)
  have hm2 : 0 ≤ (m : Int) / 512 ∧ (m : Int) / 512 ≤ 1000000 := by omega
  have h3 : IntKind.i64.wrap ((m : Int) / 512) = (m : Int) / 512 := by rw [IntKind.wrap_i64]; omega
  clear hq hb hk hm
  go_enter Tryz.func39, Tryz.ntmps39
  go_wp2
  go_ret
  exact ⟨by first | rw [← HB.out]; rfl | skip, rfl⟩
theorem src_at {w : World} {A : Option Addr} {l : List Nat} (h : BySrc w A l) (hl : 0 < l.length) : ∃ g o, A = some ⟨g, o, none⟩ ∧ ∀ i, i < l.length → BySrc w (some ⟨g, o + i, none⟩) (l.drop i) := by
  obtain ⟨g, o, rfl, hg, hc⟩ := bsrc_at h hl
  refine ⟨g, o, rfl, fun i hi => ?_⟩
  have := bsrc_mid (i := i) (j := l.length) h (by omega) (by omega)
  rwa [List.take_of_length_le (by rw [List.length_drop]; omega)] at this
set_option maxRecDepth 20000 in
set_option maxHeartbeats 2000000 in
theorem sizesR_any (b : List Nat) (A : Option Addr) (c : Nat) (w : World) (hs : BySrc w A b) (hc : b.length ≤ c) (hl : b.length ≤ 1000000) :
    Calls Tryz.prog 31 #[.slice A b.length c] w fun e w' => ∃ r k : Nat, e = .returned (.tuple #[.int .i64 r, .int .i64 k, .bool (hdOk b)]) ∧ w' = w ∧ (hdOk b = true → r = hdRaw b ∧ k = hdCode b ∧ 44 ≤ b.length ∧ 1 ≤ k ∧ k ≤ 4100) := by
  rcases Nat.lt_or_ge b.length 44 with h44 | h44
  · have hlt : (b.length : Int) < 44 := by omega
    have HF : Hid (hdOk b = false) := Lib.hid (by unfold hdOk hdIs; rw [decide_eq_false (by omega)]; rfl)
    generalize b.length = n at *
    clear hs hc hl h44
    refine (show Calls Tryz.prog 31 _ w (fun e w' => e = .returned (.tuple #[.int .i64 0, .int .i64 0, .bool false]) ∧ w' = w) from ?_).mono ?_
    · go_enter Tryz.func31, Tryz.ntmps31
      go_wp2
      go_ret3
      exact ⟨rfl, rfl⟩
    · rintro e w' ⟨rfl, rfl⟩
      exact ⟨0, 0, by rw [HF.out]; rfl, rfl, fun h => by rw [HF.out] at h; cases h⟩
  · have hge : ¬ (b.length : Int) < 44 := by omega
    have hge2 : decide (44 ≤ b.length) = true := by simpa using h44
    obtain ⟨g, o, rfl, hat⟩ := src_at hs (by omega)
    have hcv : (convert 22 9 (.slice (some ⟨g, o, none⟩) 4 c)).run Tryz.prog w = .ok (.string (strN (b.take 4))) w := by
      have := str_src (bsrc_head hs 4) c
      rwa [List.length_take, Nat.min_eq_left (by omega)] at this
    have hmb := magB (l := b.take 4) (fun x hx => hs.2 x (List.mem_of_mem_take hx))
    have h4 : (b.drop 4).length = b.length - 4 := List.length_drop
    have h6 : (b.drop 6).length = b.length - 6 := List.length_drop
    have HW1 := Lib.hid (fun w0 (h : BySrc w0 (some ⟨g, o + 4, none⟩) (b.drop 4)) => wordR_any 2 (b.drop 4) (some ⟨g, o + 4, none⟩) (c - 4) w0 (.inl rfl) (by omega) h)
    have hw1 := wordR_any 2 (b.drop 4) (some ⟨g, o + 4, none⟩) (c - 4) w (.inl rfl) (by omega) (hat 4 (by omega))
    have hw2 := wordR_any 2 (b.drop 6) (some ⟨g, o + 6, none⟩) (c - 6) w (.inl rfl) (by omega) (hat 6 (by omega))
    rw [h4] at hw1
    rw [h6] at hw2
    have hr : hdRaw b < 65536 := numP_bd (fun x hx => hs.2 x (List.mem_of_mem_drop (List.mem_of_mem_take hx))) 2 (by rw [List.length_take]; omega) 2
    have hk : hdCode b < 65536 := numP_bd (fun x hx => hs.2 x (List.mem_of_mem_drop (List.mem_of_mem_take hx))) 2 (by rw [List.length_take]; omega) 2
    change Calls _ _ _ _ (fun e w' => e = .returned (.tuple #[.int .u64 (hdRaw b : Nat), .int .i64 0]) ∧ w' = w) at hw1
    change Calls _ _ _ _ (fun e w' => e = .returned (.tuple #[.int .u64 (hdCode b : Nat), .int .i64 0]) ∧ w' = w) at hw2
    have Hw1 : Hid (Calls Tryz.prog 32 #[.slice (some ⟨g, o + 4, none⟩) (b.length - 4) (c - 4), .int .i64 16, .int .i64 2] w fun e w' => e = .returned (.tuple #[.int .u64 (hdRaw b : Nat), .int .i64 0]) ∧ w' = w) := Lib.hid hw1
    have Hw2 : Hid (Calls Tryz.prog 32 #[.slice (some ⟨g, o + 6, none⟩) (b.length - 6) (c - 6), .int .i64 16, .int .i64 2] w fun e w' => e = .returned (.tuple #[.int .u64 (hdCode b : Nat), .int .i64 0]) ∧ w' = w) := Lib.hid hw2
    have hok : hdOk b = ((b.take 4 == magic) && szOk (hdRaw b) (hdCode b)) := by unfold hdOk hdIs; rw [hge2]; rfl
    have hi1 : IntKind.i64.wrap (hdRaw b : Int) = (hdRaw b : Int) := by rw [IntKind.wrap_i64]; omega
    have hi2 : IntKind.i64.wrap (hdCode b : Int) = (hdCode b : Int) := by rw [IntKind.wrap_i64]; omega
    have hll : (4 : Int) ≤ b.length ∧ (6 : Int) ≤ b.length := by omega
    have hlc : (4 : Int) ≤ c := by omega
    have hwl4 : IntKind.i64.wrap ((b.length : Int) - 4) = ((b.length - 4 : Nat) : Int) := by rw [IntKind.wrap_i64]; omega
    obtain ⟨h4l, h6l⟩ := hll
    cases hm : (b.take 4 == magic) with
    | false =>
      rw [hm] at hmb hok
      have HF : Hid (hdOk b = false) := Lib.hid hok
      clear HW1 hw1 hw2 Hw1 Hw2 hm hok hat hs hge2
      generalize strN (b.take 4) = S at *
      generalize b.length = n at *
      clear hr hk hi1 hi2 h4 h6 h44
      refine (show Calls Tryz.prog 31 _ w (fun e w' => e = .returned (.tuple #[.int .i64 0, .int .i64 0, .bool false]) ∧ w' = w) from ?_).mono ?_
      · go_enter Tryz.func31, Tryz.ntmps31
        go_wp2
        go_ret3
        exact ⟨rfl, rfl⟩
      · rintro e w' ⟨rfl, rfl⟩
        exact ⟨0, 0, by rw [HF.out]; rfl, rfl, fun h => by rw [HF.out] at h; cases h⟩
    | true =>
      rw [hm] at hmb hok
      have HF : Hid (hdOk b = szOk (hdRaw b) (hdCode b)) := Lib.hid hok
      clear HW1 hw1 hw2 hm hok hat hs hge2
      have H44 := Lib.hid h44
      generalize strN (b.take 4) = S at *
      obtain ⟨r, hrr⟩ : ∃ r, r = hdRaw b := ⟨_, rfl⟩
      obtain ⟨k, hkk⟩ : ∃ k, k = hdCode b := ⟨_, rfl⟩
      rw [← hrr] at HF Hw1 hr hi1
      rw [← hkk] at HF Hw2 hk hi2
      have HE := Lib.hid (And.intro hrr hkk)
      generalize b.length = n at *
      clear h4 h6 h44 hwl4 hrr hkk
      have hcase : (r = 0 ∧ szOk r k = false) ∨ (¬ r = 0 ∧ 4096 < r ∧ szOk r k = false) ∨ (¬ r = 0 ∧ r ≤ 4096 ∧ k = 0 ∧ szOk r k = false) ∨ (¬ r = 0 ∧ r ≤ 4096 ∧ ¬ k = 0 ∧ 4100 < k ∧ szOk r k = false) ∨ (¬ r = 0 ∧ r ≤ 4096 ∧ ¬ k = 0 ∧ k ≤ 4100 ∧ szOk r k = true) := by
        by_cases a1 : r = 0
        · exact .inl ⟨a1, by simp [szOk, a1]⟩
        by_cases a2 : r ≤ 4096
        · by_cases a3 : k = 0
          · exact .inr (.inr (.inl ⟨a1, a2, a3, by simp [szOk, a3]⟩))
          by_cases a4 : k ≤ 4100
          · exact .inr (.inr (.inr (.inr ⟨a1, a2, a3, a4, by simp [szOk]; omega⟩)))
          · exact .inr (.inr (.inr (.inl ⟨a1, a2, a3, by omega, by simp [szOk]; omega⟩)))
        · exact .inr (.inl ⟨a1, by omega, by simp [szOk]; omega⟩)
      have hfin : ∀ (B : Bool), szOk r k = B → (∀ (e : Ending) w', e = .returned (.tuple #[.int .i64 (r : Nat), .int .i64 (k : Nat), .bool B]) ∧ w' = w → ∃ r k : Nat, e = .returned (.tuple #[.int .i64 r, .int .i64 k, .bool (hdOk b)]) ∧ w' = w ∧ (hdOk b = true → r = hdRaw b ∧ k = hdCode b ∧ 44 ≤ n ∧ 1 ≤ k ∧ k ≤ 4100)) := by
        rintro B hB e w' ⟨rfl, rfl⟩
        rw [HF.out]
        refine ⟨r, k, by rw [hB], rfl, fun h => ⟨HE.out.1, HE.out.2, H44.out, ?_⟩⟩
        simp [szOk] at h
        omega
      have Hfin := Lib.hid hfin
      clear hfin HF HE H44
      rcases hcase with ⟨m1, e⟩ | ⟨m1, m2, e⟩ | ⟨m1, m2, m3, e⟩ | ⟨m1, m2, m3, m4, e⟩ | ⟨m1, m2, m3, m4, e⟩
      · refine (show Calls Tryz.prog 31 _ w (fun e w' => e = .returned (.tuple #[.int .i64 (r : Nat), .int .i64 (k : Nat), .bool false]) ∧ w' = w) from ?_).mono ?_
        rotate_left
        · exact fun e1 w1 h => Hfin.out _ e e1 w1 h
        clear Hfin e
        have d1 : ¬ (1 : Int) ≤ r := by omega
        clear m1
        go_enter Tryz.func31, Tryz.ntmps31
        go_upto_region 4 with (go_at_call 32; refine Hw1.out.mono ?_; rintro e w' ⟨rfl, rfl⟩)
        go_wp2_with (go_at_call 32; refine Hw2.out.mono ?_; rintro e w' ⟨rfl, rfl⟩)
        go_ret3
        first | exact ⟨rfl, rfl⟩ | (refine ⟨?_, rfl⟩; show Ending.returned (.tuple #[.int .i64 (r : Nat), .int .i64 (k : Nat), .bool (decide ((k : Int) ≤ 4100))]) = _; first | rw [decide_eq_false (by omega)] | rw [decide_eq_true (by omega)])
      · refine (show Calls Tryz.prog 31 _ w (fun e w' => e = .returned (.tuple #[.int .i64 (r : Nat), .int .i64 (k : Nat), .bool false]) ∧ w' = w) from ?_).mono ?_
        rotate_left
        · exact fun e1 w1 h => Hfin.out _ e e1 w1 h
        clear Hfin e
        have d1 : (1 : Int) ≤ r := by omega
        have d2 : ¬ (r : Int) ≤ 4096 := by omega
        clear m1 m2
        go_enter Tryz.func31, Tryz.ntmps31
        go_upto_region 4 with (go_at_call 32; refine Hw1.out.mono ?_; rintro e w' ⟨rfl, rfl⟩)
        go_wp2_with (go_at_call 32; refine Hw2.out.mono ?_; rintro e w' ⟨rfl, rfl⟩)
        go_ret3
        first | exact ⟨rfl, rfl⟩ | (refine ⟨?_, rfl⟩; show Ending.returned (.tuple #[.int .i64 (r : Nat), .int .i64 (k : Nat), .bool (decide ((k : Int) ≤ 4100))]) = _; first | rw [decide_eq_false (by omega)] | rw [decide_eq_true (by omega)])
      · refine (show Calls Tryz.prog 31 _ w (fun e w' => e = .returned (.tuple #[.int .i64 (r : Nat), .int .i64 (k : Nat), .bool false]) ∧ w' = w) from ?_).mono ?_
        rotate_left
        · exact fun e1 w1 h => Hfin.out _ e e1 w1 h
        clear Hfin e
        have d1 : (1 : Int) ≤ r := by omega
        have d2 : (r : Int) ≤ 4096 := by omega
        have d3 : ¬ (1 : Int) ≤ k := by omega
        clear m1 m2 m3
        go_enter Tryz.func31, Tryz.ntmps31
        go_upto_region 4 with (go_at_call 32; refine Hw1.out.mono ?_; rintro e w' ⟨rfl, rfl⟩)
        go_wp2_with (go_at_call 32; refine Hw2.out.mono ?_; rintro e w' ⟨rfl, rfl⟩)
        go_ret3
        first | exact ⟨rfl, rfl⟩ | (refine ⟨?_, rfl⟩; show Ending.returned (.tuple #[.int .i64 (r : Nat), .int .i64 (k : Nat), .bool (decide ((k : Int) ≤ 4100))]) = _; first | rw [decide_eq_false (by omega)] | rw [decide_eq_true (by omega)])
      · refine (show Calls Tryz.prog 31 _ w (fun e w' => e = .returned (.tuple #[.int .i64 (r : Nat), .int .i64 (k : Nat), .bool false]) ∧ w' = w) from ?_).mono ?_
        rotate_left
        · exact fun e1 w1 h => Hfin.out _ e e1 w1 h
        clear Hfin e
        have d1 : (1 : Int) ≤ r := by omega
        have d2 : (r : Int) ≤ 4096 := by omega
        have d3 : (1 : Int) ≤ k := by omega
        have d4 : ¬ (k : Int) ≤ 4100 := by omega
        clear m1 m2 m3 m4
        go_enter Tryz.func31, Tryz.ntmps31
        go_upto_region 4 with (go_at_call 32; refine Hw1.out.mono ?_; rintro e w' ⟨rfl, rfl⟩)
        go_wp2_with (go_at_call 32; refine Hw2.out.mono ?_; rintro e w' ⟨rfl, rfl⟩)
        go_ret3
        first | exact ⟨rfl, rfl⟩ | (refine ⟨?_, rfl⟩; show Ending.returned (.tuple #[.int .i64 (r : Nat), .int .i64 (k : Nat), .bool (decide ((k : Int) ≤ 4100))]) = _; first | rw [decide_eq_false (by omega)] | rw [decide_eq_true (by omega)])
      · refine (show Calls Tryz.prog 31 _ w (fun e w' => e = .returned (.tuple #[.int .i64 (r : Nat), .int .i64 (k : Nat), .bool true]) ∧ w' = w) from ?_).mono ?_
        rotate_left
        · exact fun e1 w1 h => Hfin.out _ e e1 w1 h
        clear Hfin e
        have d1 : (1 : Int) ≤ r := by omega
        have d2 : (r : Int) ≤ 4096 := by omega
        have d3 : (1 : Int) ≤ k := by omega
        have d4 : (k : Int) ≤ 4100 := by omega
        clear m1 m2 m3 m4
        go_enter Tryz.func31, Tryz.ntmps31
        go_upto_region 4 with (go_at_call 32; refine Hw1.out.mono ?_; rintro e w' ⟨rfl, rfl⟩)
        go_wp2_with (go_at_call 32; refine Hw2.out.mono ?_; rintro e w' ⟨rfl, rfl⟩)
        go_ret3
        first | exact ⟨rfl, rfl⟩ | (refine ⟨?_, rfl⟩; show Ending.returned (.tuple #[.int .i64 (r : Nat), .int .i64 (k : Nat), .bool (decide ((k : Int) ≤ 4100))]) = _; first | rw [decide_eq_false (by omega)] | rw [decide_eq_true (by omega)])
end Go.Proofs.YtdnaahbhfjclpaaGreatDoor

