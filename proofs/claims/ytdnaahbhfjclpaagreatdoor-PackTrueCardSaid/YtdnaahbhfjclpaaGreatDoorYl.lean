/- The document's digests: the padding. -/
import Derived.Test.YtdnaahbhfjclpaaGreatDoorYc
import Derived.Test.YtdnaahbhfjclpaaGreatDoorWc
import Derived.ProofKit
import Derived.SizedLaws
import Derived.Deep.Slices
import Derived.Deep.Fields
import Derived.Lib.SmallJoins
import Derived.StillTailTactics
import Derived.Laws.BitsAllLaws
import Derived.Test.YtdnaahbhfjclpaaGreatDoorXk
import Derived.Test.YtdnaahbhfjclpaaGreatDoorW3
import Derived.Test.YtdnaahbhfjclpaaGreatDoorReg3
import Derived.Test.YtdnaahbhfjclpaaGreatDoorXd
import Derived.Test.YtdnaahbhfjclpaaGreatDoorXi
set_option linter.unusedVariables false
set_option linter.unusedSimpArgs false
namespace Go.Proofs.YtdnaahbhfjclpaaGreatDoor
open Go.RowKit Go.Sal Go.Pck Go.Huf Go.Cod
theorem strB {l m : List Nat} (h : l = m) : ((strN l).toList == m.map UInt8.ofNat) = true := by
  subst h
  rw [ByteArray.toList_eq]
  have e1 : (strN l).data.toList = l.map UInt8.ofNat := by simp [strN]
  rw [e1]
  simp
theorem blk_a8 : (blkB [97]).take 8 = [83, 67, 72, 75, 1, 0, 3, 0] := by
  unfold blkB Pck.hdP
  rw [enc_a]
  simp [hdB, Pck.bytP, shF, List.range_succ]
theorem blk_a : (blkB [97]).length = 512 := by rw [blk_len, enc_a]; rfl
theorem rd_a : rdP (blkB [97]) = ([97], 1, 0) := by
  have := rd_back (c := [97]) [] (by simp) (by simp) (by simp)
  rw [List.append_nil, enc_a] at this
  exact this
set_option maxRecDepth 20000 in
set_option maxHeartbeats 1000000 in
theorem alive_any (w : World) : Calls Tryz.prog 12 #[] w fun e w' => e = .returned (.bool true) ∧ Keep [] w w' := by
  obtain ⟨C4, hC4⟩ : ∃ C4, (#[.int .u8 97] : Array Value) = C4 := ⟨_, rfl⟩
  obtain ⟨w1, hw1⟩ : ∃ w1, w.alloc (.cells C4 5 (1, 1 + 1)) = w1 := ⟨_, rfl⟩
  have kc : (convert 22 22 (.slice (some ⟨w.heap.size, 0, none⟩) 1 1)).run Tryz.prog (w.alloc (.cells C4 5)) = .ok (.slice (some ⟨w.heap.size, 0, none⟩) 1 1) w1 := by
    have := Lib.run_convert_bytes_const (P := Tryz.prog) w 22 5 C4 1 1 Tryz.underlying22 Tryz.underlying5
    rw [show C4.size = 1 by rw [← hC4]; rfl, hw1] at this
    exact this
  have hh : w1.heap[w.heap.size]? = some (.cells C4 5 (1, 1 + 1)) := by rw [← hw1]; exact heap_alloc_last w _
  have k1 : Keep [] w w1 := by rw [← hw1]; exact (Keep.refl _ w).alloc _
  have hs : BySrc w1 (some ⟨w.heap.size, 0, none⟩) [97] := by
    refine ⟨fun i hi => ⟨w.heap.size, 0, rfl, by rw [← hw1, size_al]; omega, ?_⟩, by decide⟩
    rw [Nat.zero_add, cell_of_row w1 w.heap.size i C4 5 _ hh, ← hC4]
    match i, hi with
    | 0, _ => rfl
  have HB : Hid (Calls Tryz.prog 13 #[.slice (some ⟨w.heap.size, 0, none⟩) 1 1] w1 fun e w' => ∃ A c, e = .returned (.tuple #[.slice A 512 c, .int .i64 0]) ∧ OwB w1 A c (blkB [97]) w') := Lib.hid (by
    refine (pbytes_any [97] (some ⟨w.heap.size, 0, none⟩) 1 w1 hs (by simp) (fun a ha => by injection ha with ha; subst ha; rw [← hw1, size_al]; exact Nat.lt_succ_self _) (by simp) (by simp)).mono ?_
    rintro e w' ⟨A, c, rfl, ho, hk⟩
    exact ⟨A, c, by rw [blk_a], ho, hk⟩)
  have HR : Hid (∀ A c w2, OwB w1 A c (blkB [97]) w2 → Calls Tryz.prog 10 #[.slice A 512 c] w2 fun e w' => ∃ A3 c3, e = .returned (.tuple #[.slice A3 1 c3, .int .i64 1, .int .i64 0]) ∧ Keep [] w w' ∧ (∀ W, Keep [] w' W → (convert 22 9 (.slice A 8 c)).run Tryz.prog W = .ok (.string (strN ((blkB [97]).take 8))) W ∧ (convert 22 9 (.slice A3 1 c3)).run Tryz.prog W = .ok (.string (strN [97])) W)) := Lib.hid (by
    intro A c w2 ho
    have hlt := blk_lt (c := [97]) (by simp) (by simp)
    have h := pread_any (blkB [97]) A c w2 (ho.src hlt) (own_cap' ho.1) (own_blk_lt ho.1) (by rw [blk_a]; omega)
    rw [blk_a, rd_a] at h
    refine h.mono ?_
    rintro e w3 ⟨A3, c3, rfl, ho3, hk3⟩
    refine ⟨A3, c3, rfl, k1.trans (ho.2.trans hk3), fun W kk => ⟨?_, ?_⟩⟩
    · have h8 : ((blkB [97]).take 8).length = 8 := by rw [blk_a8]; rfl
      have := str_src (bsrc_head ((ho.keep (hk3.trans kk)).src hlt) 8) c
      rw [h8] at this
      exact this
    · exact str_src ((bsrc_own ho3 (by simp)).keep kk (fun a _ => by simp)) c3)
  have hS8 : ((strN ((blkB [97]).take 8)).toList == [83, 67, 72, 75, 1, 0, 3, 0]) = true := strB blk_a8
  have hS1 : ((strN [97]).toList == [97]) = true := strB rfl
  have hsl : ∀ A c W, 8 ≤ c → (Instr.slice 22 (.slice A 512 c) none (some (.int .i64 8)) none).run Tryz.prog W = .ok (.slice A 8 c) W := fun A c W hc => slice_head (P := Tryz.prog) 22 5 Tryz.underlying22 A 512 c 8 hc W 1 (by kernel_rfl)
  have Hsl := Lib.hid hsl
  have Hkc := Lib.hid kc
  have HC4 := Lib.hid hC4
  clear hw1 hh k1 hs hC4 kc hsl
  generalize strN ((blkB [97]).take 8) = S8 at *
  generalize strN [97] = S1 at *
  go_enter Tryz.func12, Tryz.ntmps12
  go_upto_region 1 with (fail)
  refine wp_region_lit ?_
  refine wpList_plain rfl (fun K hK => ?_)
  go_simp
  refine hK _ _ ?_
  clear hK K
  rw [HC4.out]
  refine wpList_plain rfl (fun K hK => ?_)
  go_simp
  rw [Hkc.out]
  go_simp
  refine hK _ _ ?_
  clear hK K
  go_upto_region 3 with (first
    | (go_at_call 13; refine HB.out.mono ?_; rintro e w2 ⟨A, c, rfl, ho⟩; have hc8 : 8 ≤ c := (by have := own_cap' ho.1; rw [blk_a] at this; omega); have HR2 := Lib.hid (HR.out A c w2 ho); clear ho)
    | (go_at_call 10; refine HR2.out.mono ?_; rintro e w3 ⟨A3, c3, rfl, hk3, hcv⟩; have HK := Lib.hid hk3; have h1 := (hcv w3 (Keep.refl _ _)).1; have h2 := (hcv w3 (Keep.refl _ _)).2; clear hk3 hcv))
  have h8 := fun W => Hsl.out A c W hc8
  clear HR HR2 HB
  go_wp2
  go_ret
  exact ⟨rfl, HK.out⟩
set_option maxHeartbeats 1000000 in
theorem cut_any (A : Option Addr) (l c n : Nat) (w : World) (hc : l ≤ c) (hl : l ≤ 9223372036854775807) :
    Calls Tryz.prog 9 #[.slice A l c, .int .i64 (n : Nat)] w fun e w' => e = .returned (.slice A (min l n) c) ∧ w' = w := by
  rcases Nat.lt_or_ge n l with h | h
  · have h1 : (n : Int) < (l : Int) := by omega
    have hs : ∀ W, (Instr.slice 22 (.slice A l c) none (some (.int .i64 (n : Int))) none).run Tryz.prog W = .ok (.slice A n c) W := fun W => slice_head (P := Tryz.prog) 22 5 Tryz.underlying22 A l c n (by omega) W 1 (by kernel_rfl)
    rw [Nat.min_eq_right (by omega)]
    go_enter Tryz.func9, Tryz.ntmps9
    go_wp2
    go_ret
    exact ⟨rfl, rfl⟩
  · have h1 : ¬ (n : Int) < (l : Int) := by omega
    rw [Nat.min_eq_left h]
    go_enter Tryz.func9, Tryz.ntmps9
    go_wp2
    go_ret
    exact ⟨rfl, rfl⟩
end Go.Proofs.YtdnaahbhfjclpaaGreatDoor

namespace Go.Sal
open Go.ChangeShapes Go.WideShapes Go.ChangeAt Go.RowKit Go.Deep
section
variable {H : Type} {enc : TypeId × Value → H} {P : Program} {w : World} {base : Nat} {spare : Nat → Bool} {held : Bool}
theorem u8_back {n : Int} (h : (Lit.int .u8 n).wf = true) : n = ((UInt8.ofNat n.toNat).toNat : Int) := by
  simp [Lit.wf, IntKind.min, IntKind.max, IntKind.bits, IntKind.signed] at h
  simp
  omega
theorem reads_of_trod {t e : TypeId} {fuel : Nat} {v : Value} {y : DataW H × List MemPlace} (ht : P.underlying t = some (.slice e)) (he : P.underlying e = some (.int .u8)) (hC : P.cellsOf e = 1)
    (h : DataW.trod enc P w base spare held fuel t [v] = some y) : ∃ b, Reads w.heap.size e w v b := by
  rcases open_ints ht he hC h with ⟨hcs, _⟩ | ⟨a, len, cap, zs, hcs, _, hl, hm, hz, _, hcell, hwz⟩
  · injection hcs with hcs
    subst hcs
    exact ⟨[], Reads.nil _ _ _⟩
  · injection hcs with hcs
    subst hcs
    have hlz : len ≤ zs.length := by
      rw [hz]
      split <;> omega
    refine ⟨(zs.take len).map fun n => UInt8.ofNat n.toNat, some a, cap, ?_, ?_, hm, fun hne => ⟨a, rfl, ?_, fun i hi => ?_⟩⟩
    · simp
      omega
    · simp
      omega
    · have h0 : 0 < zs.length := by
        rcases Nat.eq_zero_or_pos zs.length with h0 | h0
        · have := List.eq_nil_of_length_eq_zero h0
          subst this
          simp at hne
        · exact h0
      have := World.block_lt_of_cell? _ _ (hcell 0 h0)
      rw [add_block] at this
      exact ⟨this, .inl this⟩
    · have hi' : i < len ∧ i < zs.length := by simp at hi; omega
      rw [hcell i hi'.2]
      simp only [List.getElem_map, List.getElem_take]
      have hg : zs.getD i 0 = zs[i] := by simp [List.getD, hi'.2]
      rw [hg, ← u8_back (hwz _ (List.getElem_mem hi'.2))]
theorem post_of_below {f : Func} {s : ChangeSpec} {apart fresh handsOn again : Bool} {W W' : World} {args : Array Value} {v : Value} {ds gs : List (DataW H)} {before pa pv : List MemPlace}
    (hW : DataW.Whole enc P f.params.toList s.vars apart W args.toList ds gs before)
    (hres : ∀ (b : Nat) (sp : Nat → Bool) (hd : Bool), DataW.TrodAll enc P W' b sp hd f.resultTypes.toList (v.resultList f.resultTypes.size) (s.fn H (ds ++ gs)).results [])
    (hargs : ∀ sp : Nat → Bool, (∀ p ∈ before, sp p.block = true) → DataW.TrodAll enc P W' 0 sp true f.params.toList args.toList (s.fn H (ds ++ gs)).args pa)
    (hvars : ∀ sp : Nat → Bool, (∀ p ∈ before, sp p.block = true) → DataW.TrodVars enc P W' sp s.vars (s.fn H (ds ++ gs)).vars pv)
    (hps : before = pa ++ pv) (hb : Below W.heap.size W W')
    (hok : ∀ (j : Nat) (t : TypeId) (r : Value), f.resultTypes[j]? = some t → (v.resultList f.resultTypes.size)[j]? = some r → Value.okWide P W' .any 0 t r) :
    s.post enc P f apart fresh handsOn again W args v W' := by
  have hlt : ∀ p ∈ before, p.block < W.heap.size := fun p hp => hW.lt p hp
  have hold : ∀ p ∈ before, (fun b => decide (b < W.heap.size)) p.block = true := fun p hp => by simpa using hlt p hp
  refine ⟨ds, gs, before, [], pa, pv, hW, hres _ _ _, hargs _ hold, hvars _ hold, World.keptBut_mono (fun p hp => ⟨hp, ?_⟩) (hb.frame (· ∈ before)), fun _ => ?_⟩
  · rw [hps, List.mem_append] at hp
    exact Or.inr hp
  · obtain ⟨_, _, _, _, _, hz, hn⟩ := hW
    refine ⟨hok, _, _, ([] ++ pa) ++ pv, ⟨[] ++ pa, pv, trodAll_append (hargs _ (fun _ _ => rfl)) (hres _ _ _), hvars _ (fun _ _ => rfl), rfl, ?_, ?_⟩, ?_⟩
    · intro b off hp
      have hin : MemPlace.cell b off ∈ before := by rw [hps]; simpa using hp
      rw [hb.frozen (hlt _ hin)]
      exact hz b off hin
    · intro ha
      have := hn ha
      rw [hps] at this
      simpa using this
    · intro p hp _
      rw [hps]
      simpa using hp
end
end Go.Sal

namespace Go.Sal
theorem spot_of_cell {w : World} {a : Addr} {v : Value} (h : w.cell? a = some v) : a.spot = none := by
  unfold World.cell? at h
  split at h
  · split at h
    · cases h
    · rename_i h1
      simpa using h1
  · cases h
theorem okWide_block {P : Program} {w : World} {r : Reach} {base : Nat} {t e : TypeId} {a : Addr} {n c : Nat} (ht : P.underlying t = some (.slice e)) (h : Value.okWide P w r base t (.slice (some a) n c)) : a.block < w.heap.size := by
  simp only [Value.okWide, ht, Cell.okWide, Cell.ok] at h
  obtain ⟨_, _, _, _, row, cells, hs, _⟩ := h
  rcases Nat.lt_or_ge a.block w.heap.size with h1 | h1
  · exact h1
  · rw [World.shape?, Array.getElem?_eq_none h1] at hs
    cases hs
end Go.Sal
namespace Go.Proofs.YtdnaahbhfjclpaaGreatDoor
open Go.ChangeShapes Go.WideShapes Go.ChangeAt Go.RowKit Go.Sal Go.Huf Go.Cod Go.Pck
theorem Tryz.own : ownKnob Tryz.prog.godebug = none := by kernel_rfl
theorem Tryz.laidOut : laidOutB Tryz.prog = true := by kernel_rfl
def BytArg (w : World) (v : Value) (l : List Nat) : Prop :=
  ∃ A c, v = .slice A l.length c ∧ l.length ≤ c ∧ c ≤ maxLen ∧ BySrc w A l ∧ ∀ a, A = some a → a.block < w.heap.size
set_option maxRecDepth 100000 in
theorem bytArg_of {H : Type} {enc : TypeId × Value → H} {w : World} {base b0 : Nat} {r : Reach} {spare : Nat → Bool} {held : Bool} {fuel : Nat} {v : Value} {y : DataW H × List MemPlace}
    (ho : Value.okWide Tryz.prog w r b0 22 v) (h : DataW.trod enc Tryz.prog w base spare held fuel 22 [v] = some y) : ∃ l, BytArg w v l := by
  obtain ⟨b, A, c, rfl, h1, h2, h3⟩ := reads_of_trod Tryz.underlying22 Tryz.underlying5 (by kernel_rfl) h
  have hA : ∀ a, A = some a → a.block < w.heap.size := fun a ha => by
    subst ha
    exact okWide_block Tryz.underlying22 ho
  refine ⟨b.map fun x => x.toNat, A, c, by simp, by simpa using h1, h2, ⟨fun i hi => ?_, fun x hx => ?_⟩, hA⟩
  · simp at hi
    obtain ⟨a, rfl, _, hc⟩ := h3 (fun e => by subst e; simp at hi)
    have hc0 := hc i hi
    have hsp : a.spot = none := by
      have := spot_of_cell (hc 0 (by omega))
      simpa [Addr.add] using this
    obtain ⟨g, o, rfl⟩ : ∃ g o, a = ⟨g, o, none⟩ := ⟨a.block, a.off, by cases a; simp_all⟩
    rw [add_mk] at hc0
    exact ⟨g, o, rfl, hA _ rfl, by rw [hc0]; simp⟩
  · simp at hx
    obtain ⟨z, _, rfl⟩ := hx
    exact z.toNat_lt
theorem cut_arg {w : World} {v : Value} {l : List Nat} (h : BytArg w v l) (n : Nat) :
    Calls Tryz.prog 9 #[v, .int .i64 (n : Nat)] w fun e w' => ∃ A c, e = .returned (.slice A (l.take n).length c) ∧ (l.take n).length ≤ c ∧ BySrc w A (l.take n) ∧ (∀ a, A = some a → a.block < w.heap.size) ∧ w = w' := by
  obtain ⟨A, c, rfl, h1, h2, h3, h4⟩ := h
  refine (cut_any A l.length c n w h1 (by unfold maxLen at h2; omega)).mono ?_
  rintro e w' ⟨rfl, rfl⟩
  have hl : (l.take n).length = min l.length n := by rw [List.length_take, Nat.min_comm]
  exact ⟨A, c, by rw [hl], by omega, bsrc_head h3 n, h4, rfl⟩
theorem ischunk_any (A : Option Addr) (n c : Nat) (w : World) (hn : n ≤ 1000000) : Calls Tryz.prog 20 #[.slice A n c] w fun e w' => e = .returned (.bool (decide (1 ≤ n) && decide (n ≤ 4096))) ∧ w' = w := by
  rcases Nat.lt_or_ge n 1 with h | h
  · obtain rfl : n = 0 := by omega
    go_enter Tryz.func20, Tryz.ntmps20
    go_wp2
    go_ret
    exact ⟨rfl, rfl⟩
  · have h1 : (1 : Int) ≤ (n : Int) := by omega
    rcases Nat.lt_or_ge 4096 n with h2 | h2
    · have h3 : ¬ (n : Int) ≤ 4096 := by omega
      rw [show (decide (1 ≤ n) && decide (n ≤ 4096)) = false by simp; omega]
      go_enter Tryz.func20, Tryz.ntmps20
      go_wp2
      go_ret
      exact ⟨rfl, rfl⟩
    · have h3 : (n : Int) ≤ 4096 := by omega
      rw [show (decide (1 ≤ n) && decide (n ≤ 4096)) = true by simp; omega]
      go_enter Tryz.func20, Tryz.ntmps20
      go_wp2
      go_ret
      exact ⟨rfl, rfl⟩
end Go.Proofs.YtdnaahbhfjclpaaGreatDoor

namespace Go.Pck
def turnK (b M : List Nat) (a k : Nat) : List Nat := (List.range b.length).map fun j => if a ≤ j ∧ j < a + k then b.getD j 0 ^^^ M.getD (j - a) 0 else b.getD j 0
theorem turn_len (b M : List Nat) (a k : Nat) : (turnK b M a k).length = b.length := by simp [turnK]
theorem turn_set {b M : List Nat} {a k : Nat} (h : a + k < b.length) : (turnK b M a k).set (a + k) (b.getD (a + k) 0 ^^^ M.getD k 0) = turnK b M a (k + 1) := by
  apply List.ext_getElem (by rw [List.length_set, turn_len, turn_len])
  intro i h1 h2
  by_cases hi : a + k = i
  · subst hi
    rw [List.getElem_set_self]
    simp only [turnK, List.getElem_map, List.getElem_range]
    rw [if_pos (by omega), show a + k - a = k by omega]
  · rw [List.getElem_set_ne hi]
    simp only [turnK, List.getElem_map, List.getElem_range]
    by_cases h3 : a ≤ i ∧ i < a + k
    · rw [if_pos h3, if_pos (by omega)]
    · rw [if_neg h3, if_neg (by omega)]
end Go.Pck
namespace Go.Proofs.YtdnaahbhfjclpaaGreatDoor
open Go.RowKit Go.Sal Go.Huf Go.Cod Go.Pck
structure SpS (w : World) (g g4 c4 : Nat) (M b : List Nat) (a k : Nat) (wr : World) : Prop where
  own : OwB w (some ⟨g4, 0, none⟩) c4 (turnK b M a k) wr
  ne : g ≠ g4
  msk : Blk wr g 31 (inB M).toArray
theorem BytArg.keep {w w' : World} {v : Value} {l : List Nat} (h : BytArg w v l) (k : Keep [] w w') : BytArg w' v l := by
  obtain ⟨A, c, h1, h2, h3, h4, h5⟩ := h
  exact ⟨A, c, h1, h2, h3, h4.keep k (fun a _ => by simp), fun a ha => Nat.lt_of_lt_of_le (h5 a ha) k.size⟩
theorem SpS.step {w wr : World} {g g4 c4 a k : Nat} {M b : List Nat} (h : SpS w g g4 c4 M b a k wr) (hk : a + k < b.length) : SpS w g g4 c4 M b a (k + 1) (wr.setCell ⟨g4, a + k, none⟩ (.int .u8 ((b.getD (a + k) 0 ^^^ M.getD k 0 : Nat) : Int))) := by
  have hl := turn_len b M a k
  have hs := inB_set h.own.1 (i := a + k) (by omega) (b.getD (a + k) 0 ^^^ M.getD k 0)
  rw [turn_set hk] at hs
  have hg := (h.own.1.lt _ rfl).1
  refine ⟨⟨?_, Keep.setCell (p := ⟨g4, a + k, none⟩) h.own.2 (.inr hg) _⟩, h.ne, h.msk.far h.ne _⟩
  rw [turn_len, ← hl]
  exact hs
theorem getD_lt {l : List Nat} (h : ∀ x ∈ l, x < 256) (i : Nat) : l.getD i 0 < 256 := by
  rw [List.getD_eq_getElem?_getD]
  cases hi : l[i]? with
  | none => simp
  | some y => exact h y (List.mem_of_getElem? hi)
theorem SpS.keep {w wr W : World} {g g4 c4 a k : Nat} {M b : List Nat} (h : SpS w g g4 c4 M b a k wr) (kk : Keep [] wr W) : SpS w g g4 c4 M b a k W := ⟨h.own.keep kk, h.ne, h.msk.keep kk (by simp)⟩
end Go.Proofs.YtdnaahbhfjclpaaGreatDoor

namespace Go.Pck
end Go.Pck
namespace Go.Proofs.YtdnaahbhfjclpaaGreatDoor
open Go.RowKit Go.Sal Go.Huf Go.Cod Go.Pck
end Go.Proofs.YtdnaahbhfjclpaaGreatDoor

namespace Go.Proofs.YtdnaahbhfjclpaaGreatDoor
open Go.RowKit Go.Sal Go.Huf Go.Cod Go.Pck
theorem info43 : (Tryz.prog.info? 43).map (fun i => (i.zero, i.size)) = some (some (.agg Z32), 32) := by kernel_rfl
theorem zero43 (w : World) : (zeroValue 43).run Tryz.prog w = .ok (.agg Z32) w := (zero_of_info info43).1 w
theorem size43 : (Tryz.prog.info? 43).map (·.size) = some 32 := (zero_of_info info43).2
structure DigS (w : World) (b2 b3 : Nat) (Z : Array Value) (S : List Nat) (k : Nat) (wr : World) : Prop where
  res : Blk wr b2 43 Z
  row : Blk wr b3 43 (inB (rowN S k)).toArray
  kp : Keep [] w wr
section
variable {w wr : World} {b2 b3 k : Nat} {Z : Array Value} {S : List Nat}
theorem DigS.old (h : DigS w b2 b3 Z S k wr) (hk : k < S.length) : wr.cell? ⟨b3, k, none⟩ = some (.int .u8 0) := by
  rw [h.row.cell k]
  simp [inB, rowN_zero S hk]
theorem DigS.set (h : DigS w b2 b3 Z S k wr) (hk : k < S.length) (h23 : b2 ≠ b3) (h3 : w.heap.size ≤ b3) : DigS w b2 b3 Z S (k + 1) (wr.setCell ⟨b3, k, none⟩ (.int .u8 (S.getD k 0 : Nat))) := by
  refine ⟨h.res.far h23 _, ?_, h.kp.setCell (.inr h3) _⟩
  have := h.row.set_ k (.int .u8 (S.getD k 0 : Nat))
  rw [← rowN_set S hk]
  simpa [inB, List.map_set] using this
theorem DigS.keep (h : DigS w b2 b3 Z S k wr) {w2 : World} (hk : Keep [] wr w2) : DigS w b2 b3 Z S k w2 := ⟨h.res.keep hk (by simp), h.row.keep hk (by simp), h.kp.trans hk⟩
end
end Go.Proofs.YtdnaahbhfjclpaaGreatDoor

namespace Go.Pck
def dv : Nat → Nat → Nat
  | 0, x => x
  | n + 1, x => dv n (x / 256)
theorem digB_get : ∀ (s : List Nat) (i : Nat), i < 4 * s.length → (digB s).getD i 0 = dv (3 - i % 4) (s.getD (i / 4) 0) % 256
  | [], i, h => by simp at h
  | x :: s, i, h => by
    have e : digB (x :: s) = be4 x ++ digB s := by simp [digB]
    rw [e]
    by_cases h4 : i < 4
    · have hl : i < (be4 x).length := by simp [be4]; omega
      rw [getD_left hl, show i / 4 = 0 by omega]
      have hc : i = 0 ∨ i = 1 ∨ i = 2 ∨ i = 3 := by omega
      rcases hc with rfl | rfl | rfl | rfl <;> simp [be4, dv, Nat.div_div_eq_div_mul]
    · have ih := digB_get s (i - 4) (by simp at h; omega)
      rw [List.getD_eq_getElem?_getD, List.getElem?_append_right (by simp [be4]; omega), ← List.getD_eq_getElem?_getD]
      rw [show i - (be4 x).length = i - 4 from rfl, ih, show (i - 4) % 4 = i % 4 by omega, show i / 4 = (i - 4) / 4 + 1 by omega]
      rfl
end Go.Pck
namespace Go.Proofs.YtdnaahbhfjclpaaGreatDoor
open Go.RowKit Go.Sal Go.Huf Go.Pck
set_option maxRecDepth 20000 in
set_option maxHeartbeats 2000000 in
theorem bytesR_any (s : List Nat) (w : World) (hs : w32 s) (hl : s.length = 8) :
    Calls Tryz.prog 81 #[enc32 s] w fun e w' => e = .returned (.agg (inB (digB s)).toArray) ∧ Keep [] w w' := by
  have z1 := zero43
  have hZ32 : Z32.size = 32 := rfl
  have HZE : Hid ((inB (List.replicate 32 0)).toArray = Z32) := Lib.hid rfl
  have hoZ : Z32.all (·.oneCell') = true := by rw [← HZE.out]; exact all_oneCell_toArray (inB_one _)
  obtain ⟨b1, hb1⟩ : ∃ b1, b1 = w.heap.size := ⟨_, rfl⟩
  obtain ⟨w1, hw1⟩ : ∃ w1, w.alloc (.cells (inW s).toArray 115) = w1 := ⟨_, rfl⟩
  have hs1 : w1.heap.size = b1 + 1 := by rw [← hw1, size_al, hb1]
  obtain ⟨w2, hw2⟩ : ∃ w2, w1.alloc (.cells Z32 43) = w2 := ⟨_, rfl⟩
  obtain ⟨b2, hb2⟩ : ∃ b2, b2 = b1 + 1 := ⟨_, rfl⟩
  obtain ⟨b3, hb3⟩ : ∃ b3, b3 = w2.heap.size := ⟨_, rfl⟩
  obtain ⟨w3, hw3⟩ : ∃ w3, w2.alloc (.cells Z32 43) = w3 := ⟨_, rfl⟩
  have hs2 : w2.heap.size = w1.heap.size + 1 := by rw [← hw2, size_al]
  have hB1 : Blk w3 b1 115 (inW s).toArray := by rw [← hw3, ← hw2, ← hw1, hb1]; exact ((Blk.new w 115 _).alloc _).alloc _
  have hB2 : Blk w3 b2 43 Z32 := by rw [← hw3, ← hw2, hb2, ← hs1]; exact (Blk.new w1 43 _).alloc _
  have hB3 : Blk w3 b3 43 Z32 := by rw [← hw3, hb3]; exact Blk.new w2 43 _
  have k3 : Keep [] w w3 := by rw [← hw3, ← hw2, ← hw1]; exact (((Keep.refl [] w).alloc _).alloc _).alloc _
  have hne : b1 ≠ b3 ∧ b2 ≠ b3 ∧ w.heap.size ≤ b2 ∧ w.heap.size ≤ b3 := by omega
  have hdl : (digB s).length = 32 := by rw [digB_len, hl]
  have HI0 : Hid (DigS w b2 b3 Z32 (digB s) 0 w3 ∧ Blk w3 b1 115 (inW s).toArray) := Lib.hid ⟨⟨hB2, by rw [rowN_start, hdl, HZE.out]; exact hB3, k3⟩, hB1⟩
  have Hget : Hid (∀ i, i < 32 → (digB s).getD i 0 = dv (3 - i % 4) (s.getD (i / 4) 0) % 256) := Lib.hid (fun i hi => digB_get s i (by omega))
  have Hs := Lib.hid hs
  have Hl := Lib.hid hl
  have HL := Lib.hid hdl
  have Hne := Lib.hid hne
  have Hw1 := Lib.hid hw1
  have Hw2 := Lib.hid hw2
  have Hw3 := Lib.hid hw3
  have Hb1 := Lib.hid hb1
  have Hb2 := Lib.hid hb2
  have Hb3 := Lib.hid hb3
  generalize hD : digB s = D at *
  have HD := Lib.hid hD
  unfold enc32
  generalize hS : (inW s).toArray = S at *
  have HS := Lib.hid hS
  generalize Z32 = Z at *
  clear hb1 hb2 hb3 hw1 hw2 hw3 hs1 hs2 hB1 hB2 hB3 k3 hne hdl hs hl hD hS
  go_enter Tryz.func81, Tryz.ntmps81
  go_upto_region 1 with (fail)
  rw [Hw1.out, Hw2.out, ← Hb1.out, ← Hb2.out]
  go_upto_region 2 with (fail)
  rw [Hw3.out, ← Hb3.out]
  go_wp2
  go_loopw [4, 5, 6] (fun v4 v5 v6 wr => ∃ i : Nat, v4 = .int .i64 i ∧ i ≤ 32 ∧ Hid (DigS w b2 b3 Z D i wr ∧ Blk wr b1 115 S)) (fun v4 _ _ _ => 32 - (intOf v4).toNat)
  case atStart => exact ⟨0, rfl, by omega, HI0⟩
  case round =>
    obtain ⟨i, rfl, hi, hI⟩ := hrel
    clear HI0
    rcases Nat.lt_or_ge i 32 with hi32 | hi32
    · as_aux_lemma =>
        have hki : (i : Int) < 32 := by omega
        have hwk : IntKind.i64.wrap ((i : Int) + 1) = (i : Int) + 1 := by rw [IntKind.wrap_i64]; omega
        obtain ⟨hS, hB⟩ := hI.out
        have hkD : i < D.length := by have := HL.out; omega
        have hgt := Hget.out i hi32
        obtain ⟨q, hq⟩ : ∃ q, q = i / 4 := ⟨_, rfl⟩
        obtain ⟨r, hr⟩ : ∃ r, r = i % 4 := ⟨_, rfl⟩
        have hw4 : IntKind.i64.wrap ((i : Int) / 4) = (q : Int) := by rw [IntKind.wrap_i64]; omega
        have hw5 : IntKind.i64.wrap ((i : Int) % 4) = (r : Int) := by rw [IntKind.wrap_i64]; omega
        have hq4 : (i : Int) / 4 = (q : Int) := by omega
        have hr4 : (i : Int) % 4 = (r : Int) := by omega
        have hq8 : q < 8 := by omega
        have m0 : wr.cell? ⟨b1, q, none⟩ = some (.int .u32 (s.getD q 0 : Nat)) := cell_inW (by rw [← HS.out] at hB; exact hB) (by rw [Hl.out]; exact hq8)
        have mlt := hB.lt
        have hx := w32_get Hs.out q
        have m2 := hS.old hkD
        have m3 := hS.row.lt
        have m4 := hS.row.free i
        have HN := Lib.hid (And.intro (hS.set hkD Hne.out.2.1 Hne.out.2.2.2) (hB.far (p := ⟨b3, i, none⟩) Hne.out.1 (.int .u8 (D.getD i 0 : Nat))))
        rw [← hq, ← hr] at hgt
        have hr3 : r ≤ 3 := by omega
        generalize s.getD q 0 = x at *
        generalize D.getD i 0 = y at *
        have HG := Lib.hid hgt
        clear hI hS hB HL Hne Hget HD Hs Hl hkD hgt hq hr HZE Hw1 Hw2 Hw3 Hb1 Hb2 Hb3 HS
        go_wp2
        go_loop [6, 5] (fun v6 v5 => ∃ k m z : Nat, v6 = .int .i64 k ∧ v5 = .int .u32 z ∧ k + m = 3 ∧ z < 4294967296 ∧ dv m z = dv (3 - r) x) (fun v6 _ => 3 - (intOf v6).toNat)
        case atStart => exact ⟨r, 3 - r, x, by rw [hr4], rfl, by omega, hx, rfl⟩
        case round =>
          obtain ⟨k, m, z, rfl, rfl, hkm, hz, he⟩ := hrel
          cases m with
          | succ m =>
            rw [dv] at he
            have a1 : (k : Int) < 3 := by omega
            have a2 : IntKind.i64.wrap ((k : Int) + 1) = (k : Int) + 1 := by rw [IntKind.wrap_i64]; omega
            have h1 : IntKind.u32.wrap ((z : Int) / 256) = (z : Int) / 256 := by rw [IntKind.wrap_u32]; omega
            have HT := Lib.hid (And.intro he hkm)
            clear he hkm m2 m3 m4 m0 mlt hki
            go_wp2
            exact ⟨⟨k + 1, m, z / 256, by simp, rfl, by have := HT.out.2; omega, by omega, HT.out.1⟩, by simp [intOf]; omega⟩
          | zero =>
            obtain rfl : k = 3 := by omega
            rw [dv] at he
            have hy : y = z % 256 := by rw [HG.out, he]
            have a1 : IntKind.u32.wrap ((z : Int) % 256) = (y : Int) := by rw [IntKind.wrap_u32]; omega
            have a2 : IntKind.u8.wrap ((z : Int) % 256) = (y : Int) := by rw [IntKind.wrap_u8]; omega
            have a3 : IntKind.u8.wrap (y : Int) = (y : Int) := by rw [IntKind.wrap_u8]; omega
            have a4 : (z : Int) % 256 = (y : Int) := by omega
            clear he hy HG hkm m0 hz hx
            go_wp2
            exact ⟨⟨i + 1, by simp, by omega, HN⟩, by simp [intOf]; omega⟩
    · as_aux_lemma =>
        obtain rfl : i = 32 := by omega
        have hki : ¬ ((32 : Nat) : Int) < 32 := by omega
        obtain ⟨hS, hB⟩ := hI.out
        have hrow := hS.row
        have e1 : rowN D 32 = D := by rw [← HL.out]; exact rowN_all D
        rw [e1] at hrow
        have hres := hS.res
        have hD32 : (inB D).toArray.size = 32 := by rw [List.size_toArray, inB_len, HL.out]
        have hoD : (inB D).toArray.all (·.oneCell') = true := all_oneCell_toArray (inB_one _)
        have HF := Lib.hid (And.intro (blk_same (c := (inB D).toArray) hres) (keep_setRow (c := (inB D).toArray) hS.kp Hne.out.2.2.1 hres))
        generalize hDL : (inB D).toArray = DL at *
        have HDL := Lib.hid hDL
        clear hDL hI hS hB HL Hne Hget HD Hs Hl HZE Hw1 Hw2 Hw3 Hb1 Hb2 Hb3 HS e1 hi hi32
        go_upto_region 11 with (fail)
        refine wp_region_lit ?_
        refine wpList_load_row rfl 43 (.tmp 3) rfl b3 rfl 43 DL (0, 0) _ hrow Tryz.underlying43 rfl (by rw [hD32]; exact size43) ?_
        refine wpList_store_row rfl 43 (.tmp 2) (.tmp 28) rfl b2 DL rfl rfl 43 Z hres (by rw [hD32]; exact size43) (by rw [hD32]; exact hZ32) hoD ?_
        go_wp2
        refine bodyPost_ret (v := .agg DL) (results_cell_row (ty := 43) rfl _ _ b2 43 _ (0, 0) _ rfl HF.out.1 Tryz.underlying43 rfl (by rw [hD32]; exact size43)) rfl ⟨by rw [HDL.out], HF.out.2⟩
end Go.Proofs.YtdnaahbhfjclpaaGreatDoor

namespace Go.Pck
def shU (N i : Nat) : Nat := N * 256 ^ i % 18446744073709551616
theorem shU_succ (N i : Nat) : shU N i * 256 % 18446744073709551616 = shU N (i + 1) := by
  unfold shU
  rw [Nat.mod_mul_mod, Nat.mul_assoc, ← Nat.pow_succ]
theorem shU_lt (N i : Nat) : shU N i < 18446744073709551616 := Nat.mod_lt _ (by omega)
theorem be8_get (N i : Nat) (hi : i < 8) : (be8 N).getD i 0 = shU N i / 72057594037927936 := by
  have hc : i = 0 ∨ i = 1 ∨ i = 2 ∨ i = 3 ∨ i = 4 ∨ i = 5 ∨ i = 6 ∨ i = 7 := by omega
  unfold shU be8
  rcases hc with rfl | rfl | rfl | rfl | rfl | rfl | rfl | rfl <;> simp <;> omega
theorem be8_take {N i : Nat} (hi : i < 8) : (be8 N).take (i + 1) = (be8 N).take i ++ [shU N i / 72057594037927936] := by
  rw [← be8_get N i hi]
  have hl : i < (be8 N).length := hi
  rw [List.take_succ_eq_append_getElem hl, getD_eq hl]
end Go.Pck
namespace Go.Proofs.YtdnaahbhfjclpaaGreatDoor
open Go.RowKit Go.Sal Go.Huf Go.Pck Go.Cod
def slen : Value → Nat
  | .slice _ n _ => n
  | _ => 0
theorem OwB.byte {w wr : World} {A : Option Addr} {c q : Nat} {l : List Nat} (h : OwB w A c l wr) (x : Nat) (hq : q = l.length) (hl : l.length ≤ 1000000) :
    ∃ A' c' w', (Builtin.append_ #[22, 22] 22 #[.slice A q c, .slice (some ⟨wr.heap.size, 0, none⟩) 1 1]).run Tryz.prog (wr.alloc (.cells #[.int .u8 (x : Nat)] 5)) = .ok (.slice A' (q + 1) c') w' ∧ OwB w A' c' (l ++ [x]) w' := by
  subst hq
  obtain ⟨A', c', w', h1, h2, h3⟩ := byte_app h.1 x (by omega) h.2.size
  exact ⟨A', c', w', h1, ⟨by rw [List.length_append]; exact h2, h.2.step h3 (fun i hi => .inr (own_far h.1 i hi))⟩⟩
set_option maxRecDepth 20000 in
set_option maxHeartbeats 2000000 in
theorem padR_any (n : Nat) (w : World) (hn : n ≤ 1000000) : Calls Tryz.prog 78 #[.int .u64 (n : Nat)] w fun e w' => RowB w (padB n) e w' := by
  obtain ⟨z, hz⟩ : ∃ z, z = (119 - n % 64) % 64 := ⟨_, rfl⟩
  have hpad : padB n = (128 :: List.replicate z 0) ++ be8 (n * 8) := by unfold padB; rw [← hz]; rfl
  have H0 : Hid (OwB w (some ⟨w.heap.size, 0, none⟩) 1 (128 :: List.replicate 0 0) (w.alloc (.cells #[.int .u8 ((128 : Nat) : Int)] 5))) := Lib.hid ⟨row1 w 128 _ (Nat.le_refl _), (Keep.refl [] w).alloc _⟩
  have HP := Lib.hid hpad
  have h8 : IntKind.u64.wrap ((n : Int) * 8) = ((n * 8 : Nat) : Int) := by rw [IntKind.wrap_u64]; omega
  obtain ⟨N, hN⟩ : ∃ N, N = n * 8 := ⟨_, rfl⟩
  rw [← hN] at h8 HP
  have HN := Lib.hid hN
  clear hpad hN
  go_enter Tryz.func78, Tryz.ntmps78
  go_wp2
  go_loopw [3] (fun v3 wr => ∃ (A : Option Addr) (c q : Nat), v3 = .slice A q c ∧ 1 ≤ q ∧ q ≤ z + 1 ∧ Hid (OwB w A c (128 :: List.replicate (q - 1) 0) wr)) (fun v3 _ => 100 - slen v3)
  case atStart => exact ⟨_, _, 1, rfl, by omega, by omega, H0⟩
  case round =>
    obtain ⟨A, c, q, rfl, hq1, hq2, hI⟩ := hrel
    clear H0
    have a1 : IntKind.u64.wrap (q : Int) = (q : Int) := by rw [IntKind.wrap_u64]; omega
    obtain ⟨s, hs⟩ : ∃ s, s = n % 64 + q := ⟨_, rfl⟩
    obtain ⟨t, ht⟩ : ∃ t, t = n % 64 + q + 8 := ⟨_, rfl⟩
    have a2 : IntKind.u64.wrap ((n : Int) % 64 + (q : Int)) = (s : Int) := by rw [IntKind.wrap_u64]; omega
    have a3 : IntKind.u64.wrap ((s : Int) + 8) = (t : Int) := by rw [IntKind.wrap_u64]; omega
    rcases Nat.lt_or_ge q (z + 1) with hqz | hqz
    · as_aux_lemma =>
        have a4 : ¬ (t : Int) % 64 = 0 := by omega
        obtain ⟨A', c', w', hrun, hI2⟩ := hI.out.byte (q := q) 0 (by simp; omega) (by simp; omega)
        have e : (128 :: List.replicate (q - 1) 0) ++ [0] = 128 :: List.replicate (q + 1 - 1) 0 := by
          rw [show q + 1 - 1 = (q - 1) + 1 by omega, List.replicate_succ', List.cons_append]
        rw [e] at hI2
        have HI := Lib.hid hI2
        have Hz := Lib.hid hz
        clear hI hI2 e hz hs ht HP HN h8
        go_wp2_with (at_builtin; refine wpList_append2 (v1 := .slice A q c) (v2 := .slice (some ⟨wr.heap.size, 0, none⟩) 1 1) rfl (.tmp 16) (.tmp 17) rfl rfl rfl hrun ?_)
        exact ⟨⟨A', c', q + 1, rfl, by omega, by omega, HI⟩, by simp [slen]; have := Hz.out; omega⟩
    · as_aux_lemma =>
        obtain rfl : q = z + 1 := by omega
        have a4 : (t : Int) % 64 = 0 := by omega
        have HI0 : Hid (OwB w A c ((128 :: List.replicate z 0) ++ (be8 N).take 0) wr) := Lib.hid (by rw [List.take_zero, List.append_nil]; exact hI.out)
        have HU : Hid (N = shU N 0) := Lib.hid (by unfold shU; have := HN.out; omega)
        have hzl : z + 1 ≤ 64 := by omega
        clear hI hs ht hq1 hq2 hqz hz
        obtain ⟨L, hL⟩ : ∃ L, L = z + 1 := ⟨_, rfl⟩
        rw [← hL] at a1 a2 hzl ⊢
        have HL := Lib.hid hL
        clear hL
        go_wp2
        go_loopw [5, 3, 4] (fun v5 v3 v4 wr => ∃ (i : Nat) (A : Option Addr) (c : Nat), v5 = .int .i64 i ∧ v3 = .slice A (L + i) c ∧ v4 = .int .u64 (shU N i : Nat) ∧ i ≤ 8 ∧ Hid (OwB w A c ((128 :: List.replicate z 0) ++ (be8 N).take i) wr)) (fun v5 _ _ _ => 8 - (intOf v5).toNat)
        case atStart => exact ⟨0, A, c, rfl, rfl, by rw [← HU.out], by omega, HI0⟩
        case round =>
          obtain ⟨i, A1, c1, rfl, rfl, rfl, hi, hI⟩ := hrel
          clear HI0 HU a1 a2 a3 a4 h8
          rcases Nat.lt_or_ge i 8 with hi8 | hi8
          · as_aux_lemma =>
              have hki : (i : Int) < 8 := by omega
              have hwk : IntKind.i64.wrap ((i : Int) + 1) = (i : Int) + 1 := by rw [IntKind.wrap_i64]; omega
              obtain ⟨p, hp⟩ : ∃ p, p = L + i := ⟨_, rfl⟩
              have hup := shU_succ N i
              have hlt := shU_lt N i
              obtain ⟨y, hy⟩ : ∃ y, y = shU N i / 72057594037927936 := ⟨_, rfl⟩
              obtain ⟨A', c', w', hrun, hI2⟩ := hI.out.byte (q := p) y (by simp [be8]; have := HL.out; omega) (by simp [be8]; have := HL.out; omega)
              rw [List.append_assoc, hy, ← be8_take hi8] at hI2
              have HI := Lib.hid hI2
              obtain ⟨u, hu⟩ : ∃ u, u = shU N i := ⟨_, rfl⟩
              obtain ⟨u2, hu2⟩ : ∃ u, u = shU N (i + 1) := ⟨_, rfl⟩
              rw [← hu] at hup hlt hy ⊢
              rw [← hu2] at hup
              have b1 : IntKind.u64.wrap (y : Int) = (y : Int) := by rw [IntKind.wrap_u64]; omega
              have b5 : (y : Int) % 256 = (y : Int) := by omega
              have b2 : (u : Int) / 72057594037927936 = (y : Int) := by omega
              have b3 : IntKind.u8.wrap (y : Int) = (y : Int) := by rw [IntKind.wrap_u8]; omega
              have b4 : IntKind.u64.wrap ((u : Int) * 256) = (u2 : Int) := by rw [IntKind.wrap_u64]; omega
              have HE := Lib.hid (And.intro hp hu2)
              rw [← hp]
              clear hI hI2 hup hlt hy hu hu2 hp HP HN HL hzl
              go_wp2_with (at_builtin; refine wpList_append2 (v1 := .slice A1 p c1) (v2 := .slice (some ⟨wr.heap.size, 0, none⟩) 1 1) rfl (.tmp 25) (.tmp 29) rfl rfl rfl hrun ?_)
              exact ⟨⟨i + 1, A', c', by simp, by rw [HE.out.1]; rfl, by rw [HE.out.2], by omega, HI⟩, by simp [intOf]; omega⟩
          · as_aux_lemma =>
              obtain rfl : i = 8 := by omega
              have hki : ¬ ((8 : Nat) : Int) < 8 := by omega
              have HF : Hid (OwB w A1 c1 (padB n) wr ∧ L + 8 = (padB n).length) := Lib.hid (by
                have h := hI.out
                rw [show (be8 N).take 8 = be8 N from rfl] at h
                have e := HP.out
                rw [e]
                exact ⟨h, by simp [be8]; have := HL.out; omega⟩)
              clear hI hzl HP HN HL
              go_wp2
              go_ret
              exact ⟨A1, c1, by rw [← HF.out.2]; rfl, HF.out.1⟩
end Go.Proofs.YtdnaahbhfjclpaaGreatDoor

