/- PackBack, walked. -/
import Derived.Test.YtdnaahbhfjclpaaGreatDoorXp
import Derived.Test.YtdnaahbhfjclpaaGreatDoorWc
import Derived.ProofKit
import Derived.SizedLaws
import Derived.Deep.Slices
import Derived.Deep.Fields
import Derived.Lib.SmallJoins
set_option linter.unusedVariables false
set_option linter.unusedSimpArgs false
namespace Go.Proofs.YtdnaahbhfjclpaaGreatDoor
open Go.RowKit Go.Sal Go.Pck Go.Huf Go.Cod
theorem strB {l m : List Nat} (h : l = m) : ((strN l).toList == m.map UInt8.ofNat) = true := by
  subst h
  rw [ByteArray.toList_eq]
  have e1 : (strN l).data.toList = l.map UInt8.ofNat := by simp [strN]
  rw [e1]
  simp
theorem blk_a8 : (blkB [97]).take 8 = [83, 67, 72, 75, 1, 0, 3, 0] := by
  unfold blkB Pck.hdP
  rw [enc_a]
  simp [hdB, Pck.bytP, shF, List.range_succ]
theorem blk_a : (blkB [97]).length = 512 := by rw [blk_len, enc_a]; rfl
theorem rd_a : rdP (blkB [97]) = ([97], 1, 0) := by
  have := rd_back (c := [97]) [] (by simp) (by simp) (by simp)
  rw [List.append_nil, enc_a] at this
  exact this
set_option maxRecDepth 20000 in
set_option maxHeartbeats 1000000 in
theorem alive_any (w : World) : Calls Tryz.prog 12 #[] w fun e w' => e = .returned (.bool true) ∧ Keep [] w w' := by
  obtain ⟨C4, hC4⟩ : ∃ C4, (#[.int .u8 97] : Array Value) = C4 := ⟨_, rfl⟩
  obtain ⟨w1, hw1⟩ : ∃ w1, w.alloc (.cells C4 5 (1, 1 + 1)) = w1 := ⟨_, rfl⟩
  have kc : (convert 22 22 (.slice (some ⟨w.heap.size, 0, none⟩) 1 1)).run Tryz.prog (w.alloc (.cells C4 5)) = .ok (.slice (some ⟨w.heap.size, 0, none⟩) 1 1) w1 := by
    have := Lib.run_convert_bytes_const (P := Tryz.prog) w 22 5 C4 1 1 Tryz.underlying22 Tryz.underlying5
    rw [show C4.size = 1 by rw [← hC4]; rfl, hw1] at this
    exact this
  have hh : w1.heap[w.heap.size]? = some (.cells C4 5 (1, 1 + 1)) := by rw [← hw1]; exact heap_alloc_last w _
  have k1 : Keep [] w w1 := by rw [← hw1]; exact (Keep.refl _ w).alloc _
  have hs : BySrc w1 (some ⟨w.heap.size, 0, none⟩) [97] := by
    refine ⟨fun i hi => ⟨w.heap.size, 0, rfl, by rw [← hw1, size_al]; omega, ?_⟩, by decide⟩
    rw [Nat.zero_add, cell_of_row w1 w.heap.size i C4 5 _ hh, ← hC4]
    match i, hi with
    | 0, _ => rfl
  have HB : Hid (Calls Tryz.prog 13 #[.slice (some ⟨w.heap.size, 0, none⟩) 1 1] w1 fun e w' => ∃ A c, e = .returned (.tuple #[.slice A 512 c, .int .i64 0]) ∧ OwB w1 A c (blkB [97]) w') := Lib.hid (by
    refine (pbytes_any [97] (some ⟨w.heap.size, 0, none⟩) 1 w1 hs (by simp) (fun a ha => by injection ha with ha; subst ha; rw [← hw1, size_al]; exact Nat.lt_succ_self _) (by simp) (by simp)).mono ?_
    rintro e w' ⟨A, c, rfl, ho, hk⟩
    exact ⟨A, c, by rw [blk_a], ho, hk⟩)
  have HR : Hid (∀ A c w2, OwB w1 A c (blkB [97]) w2 → Calls Tryz.prog 10 #[.slice A 512 c] w2 fun e w' => ∃ A3 c3, e = .returned (.tuple #[.slice A3 1 c3, .int .i64 1, .int .i64 0]) ∧ Keep [] w w' ∧ (∀ W, Keep [] w' W → (convert 22 9 (.slice A 8 c)).run Tryz.prog W = .ok (.string (strN ((blkB [97]).take 8))) W ∧ (convert 22 9 (.slice A3 1 c3)).run Tryz.prog W = .ok (.string (strN [97])) W)) := Lib.hid (by
    intro A c w2 ho
    have hlt := blk_lt (c := [97]) (by simp) (by simp)
    have h := pread_any (blkB [97]) A c w2 (ho.src hlt) (own_cap' ho.1) (own_blk_lt ho.1) (by rw [blk_a]; omega)
    rw [blk_a, rd_a] at h
    refine h.mono ?_
    rintro e w3 ⟨A3, c3, rfl, ho3, hk3⟩
    refine ⟨A3, c3, rfl, k1.trans (ho.2.trans hk3), fun W kk => ⟨?_, ?_⟩⟩
    · have h8 : ((blkB [97]).take 8).length = 8 := by rw [blk_a8]; rfl
      have := str_src (bsrc_head ((ho.keep (hk3.trans kk)).src hlt) 8) c
      rw [h8] at this
      exact this
    · exact str_src ((bsrc_own ho3 (by simp)).keep kk (fun a _ => by simp)) c3)
  have hS8 : ((strN ((blkB [97]).take 8)).toList == [83, 67, 72, 75, 1, 0, 3, 0]) = true := strB blk_a8
  have hS1 : ((strN [97]).toList == [97]) = true := strB rfl
  have hsl : ∀ A c W, 8 ≤ c → (Instr.slice 22 (.slice A 512 c) none (some (.int .i64 8)) none).run Tryz.prog W = .ok (.slice A 8 c) W := fun A c W hc => slice_head (P := Tryz.prog) 22 5 Tryz.underlying22 A 512 c 8 hc W 1 (by kernel_rfl)
  have Hsl := Lib.hid hsl
  have Hkc := Lib.hid kc
  have HC4 := Lib.hid hC4
  clear hw1 hh k1 hs hC4 kc hsl
  generalize strN ((blkB [97]).take 8) = S8 at *
  generalize strN [97] = S1 at *
  go_enter Tryz.func12, Tryz.ntmps12
  go_upto_region 1 with (fail)
  refine wp_region_lit ?_
  refine wpList_plain rfl (fun K hK => ?_)
  go_simp
  refine hK _ _ ?_
  clear hK K
  rw [HC4.out]
  refine wpList_plain rfl (fun K hK => ?_)
  go_simp
  rw [Hkc.out]
  go_simp
  refine hK _ _ ?_
  clear hK K
  go_upto_region 3 with (first
    | (go_at_call 13; refine HB.out.mono ?_; rintro e w2 ⟨A, c, rfl, ho⟩; have hc8 : 8 ≤ c := (by have := own_cap' ho.1; rw [blk_a] at this; omega); have HR2 := Lib.hid (HR.out A c w2 ho); clear ho)
    | (go_at_call 10; refine HR2.out.mono ?_; rintro e w3 ⟨A3, c3, rfl, hk3, hcv⟩; have HK := Lib.hid hk3; have h1 := (hcv w3 (Keep.refl _ _)).1; have h2 := (hcv w3 (Keep.refl _ _)).2; clear hk3 hcv))
  have h8 := fun W => Hsl.out A c W hc8
  clear HR HR2 HB
  go_wp2
  go_ret
  exact ⟨rfl, HK.out⟩
set_option maxHeartbeats 1000000 in
theorem cut_any (A : Option Addr) (l c n : Nat) (w : World) (hc : l ≤ c) (hl : l ≤ 9223372036854775807) :
    Calls Tryz.prog 9 #[.slice A l c, .int .i64 (n : Nat)] w fun e w' => e = .returned (.slice A (min l n) c) ∧ w' = w := by
  rcases Nat.lt_or_ge n l with h | h
  · have h1 : (n : Int) < (l : Int) := by omega
    have hs : ∀ W, (Instr.slice 22 (.slice A l c) none (some (.int .i64 (n : Int))) none).run Tryz.prog W = .ok (.slice A n c) W := fun W => slice_head (P := Tryz.prog) 22 5 Tryz.underlying22 A l c n (by omega) W 1 (by kernel_rfl)
    rw [Nat.min_eq_right (by omega)]
    go_enter Tryz.func9, Tryz.ntmps9
    go_wp2
    go_ret
    exact ⟨rfl, rfl⟩
  · have h1 : ¬ (n : Int) < (l : Int) := by omega
    rw [Nat.min_eq_left h]
    go_enter Tryz.func9, Tryz.ntmps9
    go_wp2
    go_ret
    exact ⟨rfl, rfl⟩
end Go.Proofs.YtdnaahbhfjclpaaGreatDoor

namespace Go.Sal
open Go.ChangeShapes Go.WideShapes Go.ChangeAt Go.RowKit Go.Deep
section
variable {H : Type} {enc : TypeId × Value → H} {P : Program} {w : World} {base : Nat} {spare : Nat → Bool} {held : Bool}
theorem u8_back {n : Int} (h : (Lit.int .u8 n).wf = true) : n = ((UInt8.ofNat n.toNat).toNat : Int) := by
  simp [Lit.wf, IntKind.min, IntKind.max, IntKind.bits, IntKind.signed] at h
  simp
  omega
theorem reads_of_trod {t e : TypeId} {fuel : Nat} {v : Value} {y : DataW H × List MemPlace} (ht : P.underlying t = some (.slice e)) (he : P.underlying e = some (.int .u8)) (hC : P.cellsOf e = 1)
    (h : DataW.trod enc P w base spare held fuel t [v] = some y) : ∃ b, Reads w.heap.size e w v b := by
  rcases open_ints ht he hC h with ⟨hcs, _⟩ | ⟨a, len, cap, zs, hcs, _, hl, hm, hz, _, hcell, hwz⟩
  · injection hcs with hcs
    subst hcs
    exact ⟨[], Reads.nil _ _ _⟩
  · injection hcs with hcs
    subst hcs
    have hlz : len ≤ zs.length := by
      rw [hz]
      split <;> omega
    refine ⟨(zs.take len).map fun n => UInt8.ofNat n.toNat, some a, cap, ?_, ?_, hm, fun hne => ⟨a, rfl, ?_, fun i hi => ?_⟩⟩
    · simp
      omega
    · simp
      omega
    · have h0 : 0 < zs.length := by
        rcases Nat.eq_zero_or_pos zs.length with h0 | h0
        · have := List.eq_nil_of_length_eq_zero h0
          subst this
          simp at hne
        · exact h0
      have := World.block_lt_of_cell? _ _ (hcell 0 h0)
      rw [add_block] at this
      exact ⟨this, .inl this⟩
    · have hi' : i < len ∧ i < zs.length := by simp at hi; omega
      rw [hcell i hi'.2]
      simp only [List.getElem_map, List.getElem_take]
      have hg : zs.getD i 0 = zs[i] := by simp [List.getD, hi'.2]
      rw [hg, ← u8_back (hwz _ (List.getElem_mem hi'.2))]
theorem post_of_below {f : Func} {s : ChangeSpec} {apart fresh handsOn again : Bool} {W W' : World} {args : Array Value} {v : Value} {ds gs : List (DataW H)} {before pa pv : List MemPlace}
    (hW : DataW.Whole enc P f.params.toList s.vars apart W args.toList ds gs before)
    (hres : ∀ (b : Nat) (sp : Nat → Bool) (hd : Bool), DataW.TrodAll enc P W' b sp hd f.resultTypes.toList (v.resultList f.resultTypes.size) (s.fn H (ds ++ gs)).results [])
    (hargs : ∀ sp : Nat → Bool, (∀ p ∈ before, sp p.block = true) → DataW.TrodAll enc P W' 0 sp true f.params.toList args.toList (s.fn H (ds ++ gs)).args pa)
    (hvars : ∀ sp : Nat → Bool, (∀ p ∈ before, sp p.block = true) → DataW.TrodVars enc P W' sp s.vars (s.fn H (ds ++ gs)).vars pv)
    (hps : before = pa ++ pv) (hb : Below W.heap.size W W')
    (hok : ∀ (j : Nat) (t : TypeId) (r : Value), f.resultTypes[j]? = some t → (v.resultList f.resultTypes.size)[j]? = some r → Value.okWide P W' .any 0 t r) :
    s.post enc P f apart fresh handsOn again W args v W' := by
  have hlt : ∀ p ∈ before, p.block < W.heap.size := fun p hp => hW.lt p hp
  have hold : ∀ p ∈ before, (fun b => decide (b < W.heap.size)) p.block = true := fun p hp => by simpa using hlt p hp
  refine ⟨ds, gs, before, [], pa, pv, hW, hres _ _ _, hargs _ hold, hvars _ hold, World.keptBut_mono (fun p hp => ⟨hp, ?_⟩) (hb.frame (· ∈ before)), fun _ => ?_⟩
  · rw [hps, List.mem_append] at hp
    exact Or.inr hp
  · obtain ⟨_, _, _, _, _, hz, hn⟩ := hW
    refine ⟨hok, _, _, ([] ++ pa) ++ pv, ⟨[] ++ pa, pv, trodAll_append (hargs _ (fun _ _ => rfl)) (hres _ _ _), hvars _ (fun _ _ => rfl), rfl, ?_, ?_⟩, ?_⟩
    · intro b off hp
      have hin : MemPlace.cell b off ∈ before := by rw [hps]; simpa using hp
      rw [hb.frozen (hlt _ hin)]
      exact hz b off hin
    · intro ha
      have := hn ha
      rw [hps] at this
      simpa using this
    · intro p hp _
      rw [hps]
      simpa using hp
end
end Go.Sal

namespace Go.Sal
theorem spot_of_cell {w : World} {a : Addr} {v : Value} (h : w.cell? a = some v) : a.spot = none := by
  unfold World.cell? at h
  split at h
  · split at h
    · cases h
    · rename_i h1
      simpa using h1
  · cases h
theorem okWide_block {P : Program} {w : World} {r : Reach} {base : Nat} {t e : TypeId} {a : Addr} {n c : Nat} (ht : P.underlying t = some (.slice e)) (h : Value.okWide P w r base t (.slice (some a) n c)) : a.block < w.heap.size := by
  simp only [Value.okWide, ht, Cell.okWide, Cell.ok] at h
  obtain ⟨_, _, _, _, row, cells, hs, _⟩ := h
  rcases Nat.lt_or_ge a.block w.heap.size with h1 | h1
  · exact h1
  · rw [World.shape?, Array.getElem?_eq_none h1] at hs
    cases hs
end Go.Sal
namespace Go.Proofs.YtdnaahbhfjclpaaGreatDoor
open Go.ChangeShapes Go.WideShapes Go.ChangeAt Go.RowKit Go.Sal Go.Huf Go.Cod Go.Pck
theorem Tryz.own : ownKnob Tryz.prog.godebug = none := by kernel_rfl
theorem Tryz.laidOut : laidOutB Tryz.prog = true := by kernel_rfl
def BytArg (w : World) (v : Value) (l : List Nat) : Prop :=
  ∃ A c, v = .slice A l.length c ∧ l.length ≤ c ∧ c ≤ maxLen ∧ BySrc w A l ∧ ∀ a, A = some a → a.block < w.heap.size
set_option maxRecDepth 100000 in
theorem bytArg_of {H : Type} {enc : TypeId × Value → H} {w : World} {base b0 : Nat} {r : Reach} {spare : Nat → Bool} {held : Bool} {fuel : Nat} {v : Value} {y : DataW H × List MemPlace}
    (ho : Value.okWide Tryz.prog w r b0 22 v) (h : DataW.trod enc Tryz.prog w base spare held fuel 22 [v] = some y) : ∃ l, BytArg w v l := by
  obtain ⟨b, A, c, rfl, h1, h2, h3⟩ := reads_of_trod Tryz.underlying22 Tryz.underlying5 (by kernel_rfl) h
  have hA : ∀ a, A = some a → a.block < w.heap.size := fun a ha => by
    subst ha
    exact okWide_block Tryz.underlying22 ho
  refine ⟨b.map fun x => x.toNat, A, c, by simp, by simpa using h1, h2, ⟨fun i hi => ?_, fun x hx => ?_⟩, hA⟩
  · simp at hi
    obtain ⟨a, rfl, _, hc⟩ := h3 (fun e => by subst e; simp at hi)
    have hc0 := hc i hi
    have hsp : a.spot = none := by
      have := spot_of_cell (hc 0 (by omega))
      simpa [Addr.add] using this
    obtain ⟨g, o, rfl⟩ : ∃ g o, a = ⟨g, o, none⟩ := ⟨a.block, a.off, by cases a; simp_all⟩
    rw [add_mk] at hc0
    exact ⟨g, o, rfl, hA _ rfl, by rw [hc0]; simp⟩
  · simp at hx
    obtain ⟨z, _, rfl⟩ := hx
    exact z.toNat_lt
theorem cut_arg {w : World} {v : Value} {l : List Nat} (h : BytArg w v l) (n : Nat) :
    Calls Tryz.prog 9 #[v, .int .i64 (n : Nat)] w fun e w' => ∃ A c, e = .returned (.slice A (l.take n).length c) ∧ (l.take n).length ≤ c ∧ BySrc w A (l.take n) ∧ (∀ a, A = some a → a.block < w.heap.size) ∧ w = w' := by
  obtain ⟨A, c, rfl, h1, h2, h3, h4⟩ := h
  refine (cut_any A l.length c n w h1 (by unfold maxLen at h2; omega)).mono ?_
  rintro e w' ⟨rfl, rfl⟩
  have hl : (l.take n).length = min l.length n := by rw [List.length_take, Nat.min_comm]
  exact ⟨A, c, by rw [hl], by omega, bsrc_head h3 n, h4, rfl⟩
theorem ischunk_any (A : Option Addr) (n c : Nat) (w : World) (hn : n ≤ 1000000) : Calls Tryz.prog 20 #[.slice A n c] w fun e w' => e = .returned (.bool (decide (1 ≤ n) && decide (n ≤ 4096))) ∧ w' = w := by
  rcases Nat.lt_or_ge n 1 with h | h
  · obtain rfl : n = 0 := by omega
    go_enter Tryz.func20, Tryz.ntmps20
    go_wp2
    go_ret
    exact ⟨rfl, rfl⟩
  · have h1 : (1 : Int) ≤ (n : Int) := by omega
    rcases Nat.lt_or_ge 4096 n with h2 | h2
    · have h3 : ¬ (n : Int) ≤ 4096 := by omega
      rw [show (decide (1 ≤ n) && decide (n ≤ 4096)) = false by simp; omega]
      go_enter Tryz.func20, Tryz.ntmps20
      go_wp2
      go_ret
      exact ⟨rfl, rfl⟩
    · have h3 : (n : Int) ≤ 4096 := by omega
      rw [show (decide (1 ≤ n) && decide (n ≤ 4096)) = true by simp; omega]
      go_enter Tryz.func20, Tryz.ntmps20
      go_wp2
      go_ret
      exact ⟨rfl, rfl⟩
theorem pbytes_no (A : Option Addr) (n c : Nat) (w : World) (hn : n = 0 ∨ 4096 < n) (hn2 : n ≤ 1000000) : Calls Tryz.prog 13 #[.slice A n c] w fun e w' => e = .returned (.tuple #[.slice none 0 0, .int .i64 113]) ∧ w' = w := by
  rcases hn with rfl | hn
  · go_enter Tryz.func13, Tryz.ntmps13
    go_wp2
    go_ret2
    exact ⟨rfl, rfl⟩
  · have h1 : ¬ (n : Int) < 1 := by omega
    have h2 : (4096 : Int) < (n : Int) := by omega
    go_enter Tryz.func13, Tryz.ntmps13
    go_wp2
    go_ret2
    exact ⟨rfl, rfl⟩
theorem owB_empty (w wr : World) (hk : Keep [] w wr) : OwB w (some ⟨wr.heap.size, 0, none⟩) 0 [] (wr.alloc (.cells #[] 5)) :=
  ⟨⟨rfl, .inr ⟨wr.heap.size, 0, #[], rfl, hk.size, heap_alloc_new wr _, Nat.le_refl _, by simp [maxLen], rfl, rfl⟩⟩, hk.alloc _⟩
theorem mke (W : World) : (Instr.buildSlice 22 0 #[]).run Tryz.prog W = .ok (.slice (some ⟨W.heap.size, 0, none⟩) 0 0) (W.alloc (.cells #[] 5)) := run_empty_slice (P := Tryz.prog) 22 5 (some (.int .u8 0)) 1 1 Tryz.underlying22 u8info W
end Go.Proofs.YtdnaahbhfjclpaaGreatDoor

namespace Go.Proofs.YtdnaahbhfjclpaaGreatDoor
open Go.RowKit Go.Sal Go.Huf Go.Cod Go.Pck
set_option maxRecDepth 20000 in
set_option maxHeartbeats 1000000 in
theorem law7_any (v0 v1 : Value) (l0 l1 : List Nat) (w : World) (h0 : BytArg w v0 l0) (h1 : BytArg w v1 l1) : Calls Tryz.prog 7 #[v0, v1] w fun e w' => e = .returned (.bool true) ∧ Keep [] w w' := by
  have H0 : Hid (Calls Tryz.prog 9 #[v0, .int .i64 900] w fun e w' => ∃ A c, e = .returned (.slice A (l0.take 900).length c) ∧ (l0.take 900).length ≤ c ∧ BySrc w A (l0.take 900) ∧ (∀ a, A = some a → a.block < w.heap.size) ∧ w = w') := Lib.hid (cut_arg h0 900)
  have H1 : Hid (Calls Tryz.prog 9 #[v1, .int .i64 900] w fun e w' => ∃ A c, e = .returned (.slice A (l1.take 900).length c) ∧ (l1.take 900).length ≤ c ∧ BySrc w A (l1.take 900) ∧ (∀ a, A = some a → a.block < w.heap.size) ∧ w = w') := Lib.hid (cut_arg h1 900)
  have hl0 : (l0.take 900).length ≤ 900 := by rw [List.length_take]; omega
  have hl1 : (l1.take 900).length ≤ 900 := by rw [List.length_take]; omega
  generalize l0.take 900 = c at *
  generalize l1.take 900 = bh at *
  have HAl := Lib.hid alive_any
  clear h0 h1
  go_enter Tryz.func7, Tryz.ntmps7
  have TK : True := trivial
  go_upto_region 2 with (first
    | (go_at_call 9; clear TK; refine H0.out.mono ?_; rintro e w' ⟨A0, c0, rfl, hc0, hs0, ha0, rfl⟩; have HC0 := Lib.hid (And.intro hc0 (And.intro hs0 ha0)); clear hc0 hs0 ha0)
    | (go_at_call 9; refine H1.out.mono ?_; rintro e w' ⟨A1, c1, rfl, hc1, hs1, ha1, rfl⟩; have HC1 := Lib.hid (And.intro hc1 (And.intro hs1 ha1)); clear hc1 hs1 ha1))
  clear H0 H1
  rcases Nat.eq_zero_or_pos c.length with hz | hz
  · have HB := Lib.hid (pbytes_no A0 c.length c0 w (.inl hz) (by omega))
    have HI := Lib.hid (fun w => ischunk_any A0 c.length c0 w (by omega))
    have hq : (decide (1 ≤ c.length) && decide (c.length ≤ 4096)) = false := by simp; omega
    rw [hq] at HI
    clear hz hq HC0 HC1
    generalize c.length = n at *
    go_wp2_with (first
      | (go_at_call 13; refine HB.out.mono ?_; rintro e w' ⟨rfl, rfl⟩)
      | (go_at_call 20; refine (HI.out _).mono ?_; rintro e w' ⟨rfl, rfl⟩)
      | (go_at_call 12; refine (HAl.out _).mono ?_; rintro e w' ⟨rfl, hk⟩; have HK := Lib.hid hk; clear hk))
    go_ret
    exact ⟨rfl, HK.out⟩
  · have HB := Lib.hid (pbytes_any c A0 c0 w HC0.out.2.1 HC0.out.1 HC0.out.2.2 hz (by omega))
    have hbl := blk_len (c := c)
    have hblt := blk_lt (c := c) HC0.out.2.1.2 (by omega)
    have hel := enc_len (b := c) (by omega)
    have hb10 : blksP (encP c).length ≤ 2 := by unfold blksP; omega
    have hbk := rd_back (c := c) bh HC0.out.2.1.2 hz (by omega)
    obtain ⟨hd1, hd2, hd3⟩ := hed_back (c := c) [] hz (by omega)
    rw [List.append_nil] at hd1 hd2 hd3
    have HP := Lib.hid (And.intro hblt (And.intro hbk (And.intro hd1 (And.intro hd2 hd3))))
    have hlt0 := Lib.hid HC0.out.2.1.2
    obtain ⟨nb, hnb⟩ : ∃ nb, nb = blksP (encP c).length := ⟨_, rfl⟩
    rw [← hnb] at hbl hb10 HP
    have hbl2 : (blkB c).length ≤ 1024 := by omega
    have Hbl := Lib.hid hbl
    clear hblt hbk hd1 hd2 hd3 hel hnb hbl
    go_upto_region 5 with (go_at_call 13; refine HB.out.mono ?_; rintro e w2 ⟨A2, c2, rfl, ho2, hk2⟩; have H2 := Lib.hid (show OwB w A2 c2 (blkB c) w2 from ⟨ho2, hk2⟩); clear ho2 hk2)
    have hmk := mke w2
    have He := Lib.hid (owB_empty w2 w2 (Keep.refl [] w2))
    have k3 : Keep [] w2 (w2.alloc (.cells #[] 5)) := (Keep.refl [] w2).alloc _
    obtain ⟨A4, c4, w4, k4, hk4, hrun4, ho4, -, -⟩ := He.out.app (d := c2) (n := 0) ((H2.out.keep k3).src HP.out.1) rfl (by simp) (by omega)
    obtain ⟨A5, c5, w5, k5, hk5, hrun5, ho5, -, -⟩ := ho4.app (d := c1) (n := k4) (HC1.out.2.1.keep (H2.out.2.trans ho4.2) (fun a _ => by simp)) hk4 (by simp; omega) (by omega)
    rw [List.nil_append] at hk4 ho4 hk5 ho5
    have hbhlt : ∀ x ∈ blkB c ++ bh, x < 256 := fun x hx => by
      rcases List.mem_append.1 hx with hx | hx
      · exact HP.out.1 x hx
      · exact HC1.out.2.1.2 x hx
    have HR : Hid (Calls Tryz.prog 10 #[.slice A5 k5 c5] w5 fun e w' => ∃ A c', e = .returned (.tuple #[.slice A c.length c', .int .i64 (nb : Nat), .int .i64 0]) ∧ OwB w5 A c' c w') := Lib.hid (by
      have h := pread_any (blkB c ++ bh) A5 c5 w5 (ho5.src hbhlt) (own_cap' ho5.1) (own_blk_lt ho5.1) (by rw [List.length_append]; omega)
      rw [← hk5, HP.out.2.1] at h
      refine h.mono ?_
      rintro e w' ⟨A, c', rfl, ho, hk⟩
      exact ⟨A, c', rfl, ho, hk⟩)
    have HHd : Hid (∀ w6, Keep [] w5 w6 → Calls Tryz.prog 18 #[.slice A2 (blkB c).length c2] w6 fun e w' => e = .returned (.tuple #[.agg (inB (shaP c)).toArray, .int .i64 (nb : Nat), .int .i64 0]) ∧ Keep [] w6 w') := Lib.hid (fun w6 k6 => by
      have ho := (H2.out.keep (ho5.2.trans k6))
      have h := phead_any (blkB c) A2 c2 w6 (ho.src HP.out.1) (own_cap' ho.1) (own_blk_lt ho.1) (by omega)
      rw [HP.out.2.2.1, HP.out.2.2.2.1, HP.out.2.2.2.2] at h
      exact h)
    have HK5 := Lib.hid (H2.out.2.trans ho5.2)
    have z1 := zero44
    have hZ32 : Z32.size = 32 := rfl
    generalize Z32 = Z at *
    obtain ⟨DL, hDL⟩ : ∃ DL, DL = inB (shaP c) := ⟨_, rfl⟩
    have heq := fun W => eq_dig (x := shaP c) (y := shaP c) (shaP_len c) (shaP_len c) (shaP_lt c) (shaP_lt c) W
    have hbb : (shaP c == shaP c) = true := by simp
    rw [hbb, ← hDL] at heq
    have hD32 : DL.toArray.size = 32 := by rw [List.size_toArray, hDL, inB_len, shaP_len]
    have hoD : DL.toArray.all (·.oneCell') = true := by rw [hDL]; exact all_oneCell_toArray (inB_one _)
    have hD44 : (Tryz.prog.info? 44).map (·.size) = some DL.length := by rw [← List.size_toArray, hD32]; exact size44
    rw [← hDL] at HHd
    have HDL := Lib.hid hDL
    have hm2 : IntKind.i64.wrap ((nb : Int) * 512) = ((blkB c).length : Int) := by have := Hbl.out; rw [IntKind.wrap_i64]; omega
    clear hk4 ho4 hk5 ho5 hbhlt k3 He hDL HB hb10 hbl2
    go_upto_region 6 with (first
      | (at_builtin; refine wpList_append2 (v1 := .slice (some ⟨w2.heap.size, 0, none⟩) 0 0) (v2 := .slice A2 (blkB c).length c2) rfl (.tmp 36) (.tmp 37) rfl rfl rfl hrun4 ?_)
      | (at_builtin; refine wpList_append2 (v1 := .slice A4 k4 c4) (v2 := .slice A1 bh.length c1) rfl (.tmp 38) (.tmp 39) rfl rfl rfl hrun5 ?_)
      | (go_at_call 10; refine HR.out.mono ?_; rintro e w6 ⟨A6, c6, rfl, ho6⟩; have H6 := Lib.hid ho6; clear ho6))
    have HH6 := Lib.hid (HHd.out w6 H6.out.2)
    refine wp_region_lit ?_
    refine wpList_plain rfl (fun K hK => ?_)
    go_simp
    refine hK _ _ ?_
    clear hK K
    refine wpList_plain rfl (fun K hK => ?_)
    go_simp
    go_at_call 18
    refine HH6.out.mono ?_
    rintro e w7 ⟨rfl, hk7⟩
    have H7 := Lib.hid hk7
    refine hK _ _ ?_
    clear hK K hk7 HHd HH6
    iterate 5 (refine wpList_plain rfl (fun K hK => ?_); go_simp; refine hK _ _ ?_; clear hK K)
    refine wpList_store_rowTo rfl 44 (.tmp 10) (.tmp 48) rfl rfl w7.heap.size DL.toArray rfl rfl 44 Z (heap_alloc_last w7 _) (by rw [hD32]; exact size44) (by rw [hD32]; exact hZ32) hoD ?_
    rw [World.setRow_alloc_new]
    obtain ⟨gd, hgd⟩ : ∃ gd, gd = w7.heap.size := ⟨_, rfl⟩
    obtain ⟨w8, hw8⟩ : ∃ w8, w7.alloc (.cells DL.toArray 44) = w8 := ⟨_, rfl⟩
    rw [hw8, ← hgd]
    have k8 : Keep [] w6 w8 := by rw [← hw8]; exact H7.out.alloc _
    have hb8 : Blk w8 gd 44 DL.toArray := by rw [← hw8, hgd]; exact Blk.new w7 44 _
    have hr2 : ∀ W, Keep [] w8 W → W.rangeAt gd 0 DL := fun W kk => rangeAt_blk0 (R := []) (by rw [List.append_nil]; exact hb8.keep kk (by simp))
    have Hlt := hb8.lt
    have kw8 : Keep [] w w8 := HK5.out.trans (H6.out.2.trans k8)
    have hcv1 : ∀ W, Keep [] w8 W → (convert 22 9 (.slice A6 c.length c6)).run Tryz.prog W = .ok (.string (strN c)) W := fun W kk => str_src ((H6.out.keep (k8.trans kk)).src hlt0.out) c6
    have hcv0 : ∀ W, Keep [] w8 W → (convert 22 9 (.slice A0 c.length c0)).run Tryz.prog W = .ok (.string (strN c)) W := fun W kk => str_src (HC0.out.2.1.keep (kw8.trans kk) (fun a _ => by simp)) c0
    have HS : Hid (Calls Tryz.prog 21 #[.slice (some ⟨w8.heap.size, 0, none⟩) 1 1] ((w8.drew).alloc (.cells #[.slice A0 c.length c0] 22)) fun e w' => e = .returned (.agg DL.toArray) ∧ Keep [] ((w8.drew).alloc (.cells #[.slice A0 c.length c0] 22)) w') := Lib.hid (by
      have kk : Keep [] w8 ((w8.drew).alloc (.cells #[.slice A0 c.length c0] 22)) := ((Keep.refl [] w8).drew).alloc _
      have hb : Blk ((w8.drew).alloc (.cells #[.slice A0 c.length c0] 22)) w8.heap.size 22 #[.slice A0 c.length c0] := Blk.new w8.drew 22 _
      have h := sum_any [(A0, c, c0)] w8.heap.size 1 1 _ rfl (by omega) (rows1 hb (HC0.out.2.1.keep (kw8.trans kk) (fun a _ => by simp)) (by omega)) hb.lt (fun r hr a ha => by
        simp at hr
        subst hr
        exact Nat.lt_of_lt_of_le (HC0.out.2.2 a ha) (kw8.trans kk).size) (by simp [allR]; omega)
      have e : allR [(A0, c, c0)] = c := by simp [allR]
      rw [e, ← HDL.out] at h
      exact h)
    have HKw := Lib.hid kw8
    clear hw8 hgd k8 hb8 kw8 H7 hrun4 hrun5 HR hmk z1
    generalize strN c = S at *
    go_upto_region 7 with (fail)
    refine wp_region_G (fun W => Keep [] w8 W) [] #[false, false, false, false, false, false, false, false, false, false, false, false, false, false, false, false, false, false, false, false, false, false, false, false, false, false, false, false, false, false, false, false, false, false, false, false] 36 (by kernel_rfl) (by kernel_rfl) (by kernel_rfl) ?_
    refine wpAnyG_take0 (i := 0) (oi := ⟨_, _, _, _, _, _⟩) (v := ?vg1_0) rfl (by kernel_rfl) (by kernel_rfl) (by kernel_rfl) (by kernel_rfl) (fun _ _ _ h => h) (fun _ => ((Keep.refl [] w8).drew)) (Or.inl ⟨by rfl, ?hg1_0⟩) ?_
    case hg1_0 => intro w _; go_simp; (try with_reducible rfl)
    try simp only [Act.put, List.setIfInBounds_toArray, List.set_cons_zero, List.set_cons_succ]
    refine wpAnyG_take0 (i := 1) (oi := ⟨_, _, _, _, _, _⟩) (v := ?vg1_1) rfl (by kernel_rfl) (by kernel_rfl) (by kernel_rfl) (by kernel_rfl) (fun _ _ _ h => h) (fun _ => ((Keep.refl [] w8).drew)) (Or.inl ⟨by rfl, ?hg1_1⟩) ?_
    case hg1_1 => intro w _; go_simp; (try with_reducible rfl)
    try simp only [Act.put, List.setIfInBounds_toArray, List.set_cons_zero, List.set_cons_succ]
    refine wpAnyG_take0 (i := 2) (oi := ⟨_, _, _, _, _, _⟩) (v := ?vg1_2) rfl (by kernel_rfl) (by kernel_rfl) (by kernel_rfl) (by kernel_rfl) (fun _ _ _ h => h) (fun _ => ((Keep.refl [] w8).drew)) (Or.inl ⟨by rfl, ?hg1_2⟩) ?_
    case hg1_2 => intro w _; go_simp; (try with_reducible rfl)
    try simp only [Act.put, List.setIfInBounds_toArray, List.set_cons_zero, List.set_cons_succ]
    refine wpAnyG_take0 (i := 3) (oi := ⟨_, _, _, _, _, _⟩) (v := ?vg1_3) rfl (by kernel_rfl) (by kernel_rfl) (by kernel_rfl) (by kernel_rfl) (fun _ _ _ h => h) (fun _ => ((Keep.refl [] w8).drew)) (Or.inl ⟨by rfl, ?hg1_3⟩) ?_
    case hg1_3 => intro w _; go_simp; (try with_reducible rfl)
    try simp only [Act.put, List.setIfInBounds_toArray, List.set_cons_zero, List.set_cons_succ]
    refine wpAnyG_take0 (i := 4) (oi := ⟨_, _, _, _, _, _⟩) (v := ?vg1_4) rfl (by kernel_rfl) (by kernel_rfl) (by kernel_rfl) (by kernel_rfl) (fun _ _ _ h => h) (fun _ => ((Keep.refl [] w8).drew)) (Or.inl ⟨by rfl, ?hg1_4⟩) ?_
    case hg1_4 => intro w _; go_simp; (try with_reducible rfl)
    try simp only [Act.put, List.setIfInBounds_toArray, List.set_cons_zero, List.set_cons_succ]
    refine wpAnyG_take0 (i := 5) (oi := ⟨_, _, _, _, _, _⟩) (v := ?vg1_5) rfl (by kernel_rfl) (by kernel_rfl) (by kernel_rfl) (by kernel_rfl) (fun _ _ _ h => h) (fun _ => ((Keep.refl [] w8).drew)) (Or.inl ⟨by rfl, ?hg1_5⟩) ?_
    case hg1_5 => intro w _; go_simp; (try with_reducible rfl)
    try simp only [Act.put, List.setIfInBounds_toArray, List.set_cons_zero, List.set_cons_succ]
    refine wpAnyG_take0 (i := 6) (oi := ⟨_, _, _, _, _, _⟩) (v := ?vg1_6) rfl (by kernel_rfl) (by kernel_rfl) (by kernel_rfl) (by kernel_rfl) (fun _ _ _ h => h) (fun _ => ((Keep.refl [] w8).drew)) (Or.inl ⟨by rfl, ?hg1_6⟩) ?_
    case hg1_6 => intro w _; go_simp; (try with_reducible rfl)
    try simp only [Act.put, List.setIfInBounds_toArray, List.set_cons_zero, List.set_cons_succ]
    refine wpAnyG_take0 (i := 7) (oi := ⟨_, _, _, _, _, _⟩) (v := ?vg1_7) rfl (by kernel_rfl) (by kernel_rfl) (by kernel_rfl) (by kernel_rfl) (fun _ _ _ h => h) (fun _ => ((Keep.refl [] w8).drew)) (Or.inl ⟨by rfl, ?hg1_7⟩) ?_
    case hg1_7 => intro w _; go_simp; (try with_reducible rfl)
    try simp only [Act.put, List.setIfInBounds_toArray, List.set_cons_zero, List.set_cons_succ]
    refine wpAnyG_take (i := 8) (oi := ⟨_, _, _, _, _, _⟩) (v := ?vg1_8) [8, 11, 12, 13, 14, 15, 16, 17, 18, 19, 20, 21, 22, 23, 24, 25, 26, 27, 28, 29, 30, 31, 32, 33, 34, 35] rfl (by kernel_rfl) (by kernel_rfl) (by kernel_rfl) (by kernel_rfl) (by kernel_rfl) (fun _ _ _ h => h) (fun _ => ((Keep.refl [] w8).drew)) (Or.inl ⟨by rfl, ?hg1_8⟩) ?_
    case hg1_8 => intro w hSw; (try dsimp only at hSw); have m := hcv1 _ hSw; go_simp; (try with_reducible rfl)
    try simp only [Act.put, List.setIfInBounds_toArray, List.set_cons_zero, List.set_cons_succ]
    refine wpAnyG_take0 (i := 9) (oi := ⟨_, _, _, _, _, _⟩) (v := ?vg1_9) rfl (by kernel_rfl) (by kernel_rfl) (by kernel_rfl) (by kernel_rfl) (fun _ _ _ h => h) (fun _ => ((Keep.refl [] w8).drew)) (Or.inl ⟨by rfl, ?hg1_9⟩) ?_
    case hg1_9 => intro w _; go_simp; (try with_reducible rfl)
    try simp only [Act.put, List.setIfInBounds_toArray, List.set_cons_zero, List.set_cons_succ]
    refine wpAnyG_take (i := 10) (oi := ⟨_, _, _, _, _, _⟩) (v := ?vg1_10) [10, 11, 12, 13, 14, 15, 16, 17, 18, 19, 20, 21, 22, 23, 24, 25, 26, 27, 28, 29, 30, 31, 32, 33, 34, 35] rfl (by kernel_rfl) (by kernel_rfl) (by kernel_rfl) (by kernel_rfl) (by kernel_rfl) (fun _ _ _ h => h) (fun _ => ((Keep.refl [] w8).drew)) (Or.inl ⟨by rfl, ?hg1_10⟩) ?_
    case hg1_10 => intro w hSw; (try dsimp only at hSw); have m := hcv0 _ hSw; go_simp; (try with_reducible rfl)
    try simp only [Act.put, List.setIfInBounds_toArray, List.set_cons_zero, List.set_cons_succ]
    refine wpAnyG_take0 (i := 11) (oi := ⟨_, _, _, _, _, _⟩) (v := ?vg1_11) rfl (by kernel_rfl) (by kernel_rfl) (by kernel_rfl) (by kernel_rfl) (fun _ _ _ h => h) (fun _ => ((Keep.refl [] w8).drew)) (Or.inl ⟨by rfl, ?hg1_11⟩) ?_
    case hg1_11 => intro w _; go_simp; (try with_reducible rfl)
    try simp only [Act.put, List.setIfInBounds_toArray, List.set_cons_zero, List.set_cons_succ]
    refine wpAnyG_take0 (i := 12) (oi := ⟨_, _, _, _, _, _⟩) (v := ?vg1_12) rfl (by kernel_rfl) (by kernel_rfl) (by kernel_rfl) (by kernel_rfl) (fun _ _ _ h => h) (fun _ => ((Keep.refl [] w8).drew)) (Or.inl ⟨by rfl, ?hg1_12⟩) ?_
    case hg1_12 => intro w _; go_simp; (try with_reducible rfl)
    try simp only [Act.put, List.setIfInBounds_toArray, List.set_cons_zero, List.set_cons_succ]
    refine wpAnyG_take0 (i := 13) (oi := ⟨_, _, _, _, _, _⟩) (v := ?vg1_13) rfl (by kernel_rfl) (by kernel_rfl) (by kernel_rfl) (by kernel_rfl) (fun _ _ _ h => h) (fun _ => ((Keep.refl [] w8).drew)) (Or.inl ⟨by rfl, ?hg1_13⟩) ?_
    case hg1_13 => intro w _; go_simp; (try with_reducible rfl)
    try simp only [Act.put, List.setIfInBounds_toArray, List.set_cons_zero, List.set_cons_succ]
    refine wpAnyG_take0 (i := 14) (oi := ⟨_, _, _, _, _, _⟩) (v := ?vg1_14) rfl (by kernel_rfl) (by kernel_rfl) (by kernel_rfl) (by kernel_rfl) (fun _ _ _ h => h) (fun _ => ((Keep.refl [] w8).drew)) (Or.inl ⟨by rfl, ?hg1_14⟩) ?_
    case hg1_14 => intro w _; go_simp; (try with_reducible rfl)
    try simp only [Act.put, List.setIfInBounds_toArray, List.set_cons_zero, List.set_cons_succ]
    refine wpAnyG_take0 (i := 15) (oi := ⟨_, _, _, _, _, _⟩) (v := ?vg1_15) rfl (by kernel_rfl) (by kernel_rfl) (by kernel_rfl) (by kernel_rfl) (fun _ _ _ h => h) (fun _ => ((Keep.refl [] w8).drew)) (Or.inl ⟨by rfl, ?hg1_15⟩) ?_
    case hg1_15 => intro w _; go_simp; (try with_reducible rfl)
    try simp only [Act.put, List.setIfInBounds_toArray, List.set_cons_zero, List.set_cons_succ]
    refine wpAnyG_take0 (i := 16) (oi := ⟨_, _, _, _, _, _⟩) (v := ?vg1_16) rfl (by kernel_rfl) (by kernel_rfl) (by kernel_rfl) (by kernel_rfl) (fun _ _ _ h => h) (fun _ => ((Keep.refl [] w8).drew)) (Or.inl ⟨by rfl, ?hg1_16⟩) ?_
    case hg1_16 => intro w _; go_simp; (try with_reducible rfl)
    try simp only [Act.put, List.setIfInBounds_toArray, List.set_cons_zero, List.set_cons_succ]
    refine wpAnyG_take0 (i := 17) (oi := ⟨_, _, _, _, _, _⟩) (v := ?vg1_17) rfl (by kernel_rfl) (by kernel_rfl) (by kernel_rfl) (by kernel_rfl) (fun _ _ _ h => h) (fun _ => ((Keep.refl [] w8).drew)) (Or.inl ⟨by rfl, ?hg1_17⟩) ?_
    case hg1_17 => intro w _; go_simp; (try with_reducible rfl)
    try simp only [Act.put, List.setIfInBounds_toArray, List.set_cons_zero, List.set_cons_succ]
    refine wpAnyG_take0 (i := 18) (oi := ⟨_, _, _, _, _, _⟩) (v := ?vg1_18) rfl (by kernel_rfl) (by kernel_rfl) (by kernel_rfl) (by kernel_rfl) (fun _ _ _ h => h) (fun _ => ((Keep.refl [] w8).drew)) (Or.inl ⟨by rfl, ?hg1_18⟩) ?_
    case hg1_18 => intro w _; go_simp; (try with_reducible rfl)
    try simp only [Act.put, List.setIfInBounds_toArray, List.set_cons_zero, List.set_cons_succ]
    refine wpAnyG_take0 (i := 19) (oi := ⟨_, _, _, _, _, _⟩) (v := ?vg1_19) rfl (by kernel_rfl) (by kernel_rfl) (by kernel_rfl) (by kernel_rfl) (fun _ _ _ h => h) (fun _ => ((Keep.refl [] w8).drew)) (Or.inl ⟨by rfl, ?hg1_19⟩) ?_
    case hg1_19 => intro w _; go_simp; (try with_reducible rfl)
    try simp only [Act.put, List.setIfInBounds_toArray, List.set_cons_zero, List.set_cons_succ]
    refine wpAnyG_take0 (i := 20) (oi := ⟨_, _, _, _, _, _⟩) (v := ?vg1_20) rfl (by kernel_rfl) (by kernel_rfl) (by kernel_rfl) (by kernel_rfl) (fun _ _ _ h => h) (fun _ => ((Keep.refl [] w8).drew)) (Or.inl ⟨by rfl, ?hg1_20⟩) ?_
    case hg1_20 => intro w _; go_simp; (try with_reducible rfl)
    try simp only [Act.put, List.setIfInBounds_toArray, List.set_cons_zero, List.set_cons_succ]
    refine wpAnyG_take0 (i := 21) (oi := ⟨_, _, _, _, _, _⟩) (v := ?vg1_21) rfl (by kernel_rfl) (by kernel_rfl) (by kernel_rfl) (by kernel_rfl) (fun _ _ _ h => h) (fun _ => ((Keep.refl [] w8).drew)) (Or.inl ⟨by rfl, ?hg1_21⟩) ?_
    case hg1_21 => intro w _; go_simp; (try with_reducible rfl)
    try simp only [Act.put, List.setIfInBounds_toArray, List.set_cons_zero, List.set_cons_succ]
    refine wpAnyG_take0 (i := 22) (oi := ⟨_, _, _, _, _, _⟩) (v := ?vg1_22) rfl (by kernel_rfl) (by kernel_rfl) (by kernel_rfl) (by kernel_rfl) (fun _ _ _ h => h) (fun _ => ((Keep.refl [] w8).drew)) (Or.inl ⟨by rfl, ?hg1_22⟩) ?_
    case hg1_22 => intro w _; go_simp; (try with_reducible rfl)
    try simp only [Act.put, List.setIfInBounds_toArray, List.set_cons_zero, List.set_cons_succ]
    refine wpAnyG_take0 (i := 23) (oi := ⟨_, _, _, _, _, _⟩) (v := ?vg1_23) rfl (by kernel_rfl) (by kernel_rfl) (by kernel_rfl) (by kernel_rfl) (fun _ _ _ h => h) (fun _ => ((Keep.refl [] w8).drew)) (Or.inl ⟨by rfl, ?hg1_23⟩) ?_
    case hg1_23 => intro w _; go_simp; (try with_reducible rfl)
    try simp only [Act.put, List.setIfInBounds_toArray, List.set_cons_zero, List.set_cons_succ]
    refine wpAnyG_take0 (i := 24) (oi := ⟨_, _, _, _, _, _⟩) (v := ?vg1_24) rfl (by kernel_rfl) (by kernel_rfl) (by kernel_rfl) (by kernel_rfl) (fun _ _ _ h => h) (fun _ => ((Keep.refl [] w8).drew)) (Or.inl ⟨by rfl, ?hg1_24⟩) ?_
    case hg1_24 => intro w _; go_simp; (try with_reducible rfl)
    try simp only [Act.put, List.setIfInBounds_toArray, List.set_cons_zero, List.set_cons_succ]
    refine wpAnyG_take0 (i := 25) (oi := ⟨_, _, _, _, _, _⟩) (v := ?vg1_25) rfl (by kernel_rfl) (by kernel_rfl) (by kernel_rfl) (by kernel_rfl) (fun _ _ _ h => h) (fun _ => ((Keep.refl [] w8).drew)) (Or.inl ⟨by rfl, ?hg1_25⟩) ?_
    case hg1_25 => intro w _; go_simp; (try with_reducible rfl)
    try simp only [Act.put, List.setIfInBounds_toArray, List.set_cons_zero, List.set_cons_succ]
    refine wpAnyG_take (i := 26) (oi := ⟨_, _, _, _, _, _⟩) (v := (.agg DL.toArray)) [26, 30, 31, 32, 33, 34, 35] rfl (by kernel_rfl) (by kernel_rfl) (by kernel_rfl) (by kernel_rfl) (by kernel_rfl) (fun _ _ _ h => h) (fun _ => ((Keep.refl [] w8).drew)) (Or.inl ⟨by rfl, ?hg1_26⟩) ?_
    case hg1_26 => intro w hSw; (try dsimp only at hSw); exact quiet_load_mid 44 (.tmp 10) rfl gd 0 rfl DL _ (hr2 _ hSw) Tryz.underlying44 rfl hD44
    try simp only [Act.put, List.setIfInBounds_toArray, List.set_cons_zero, List.set_cons_succ]
    refine wpAnyG_take0 (i := 27) (oi := ⟨_, _, _, _, _, _⟩) (v := ?vg1_27) rfl (by kernel_rfl) (by kernel_rfl) (by kernel_rfl) (by kernel_rfl) (fun _ _ _ h => h) (fun _ => ((Keep.refl [] w8).drew)) (Or.inl ⟨by rfl, ?hg1_27⟩) ?_
    case hg1_27 => intro w _; go_simp; (try with_reducible rfl)
    try simp only [Act.put, List.setIfInBounds_toArray, List.set_cons_zero, List.set_cons_succ]
    refine wpAnyG_step (i := 28) (oi := ⟨_, _, _, _, _, _⟩) rfl (by kernel_rfl) (by rfl) (fun K hK => ?_)
    go_simp
    refine hK _ _ ?_ (fun hSg1_28 => ?_)
    · intro _; exact ((Keep.refl [] w8).drew).alloc _
    replace hSg1_28 := hSg1_28 (by kernel_rfl)
    clear hK
    try simp only [Act.put, List.setIfInBounds_toArray, List.set_cons_zero, List.set_cons_succ]
    refine wpAnyG_step (i := 29) (oi := ⟨_, _, _, _, _, _⟩) rfl (by kernel_rfl) (by rfl) (fun K hK => ?_)
    go_simp
    go_at_call 21
    refine HS.out.mono ?_
    rintro e w9 ⟨rfl, hk9⟩
    refine hK _ _ ?_ (fun hSg1_29 => ?_)
    · intro _; exact (((Keep.refl [] w8).drew).alloc _).trans hk9
    replace hSg1_29 := hSg1_29 (by kernel_rfl)
    clear hK
    try simp only [Act.put, List.setIfInBounds_toArray, List.set_cons_zero, List.set_cons_succ]
    refine wpAnyG_take0 (i := 30) (oi := ⟨_, _, _, _, _, _⟩) (v := ?vg1_30) rfl (by kernel_rfl) (by kernel_rfl) (by kernel_rfl) (by kernel_rfl) (fun _ _ _ h => h) (fun _ => hSg1_29) (Or.inl ⟨by rfl, ?hg1_30⟩) ?_
    case hg1_30 => intro w _; have m := heq w; go_simp; (try with_reducible rfl)
    try simp only [Act.put, List.setIfInBounds_toArray, List.set_cons_zero, List.set_cons_succ]
    refine wpAnyG_take0 (i := 31) (oi := ⟨_, _, _, _, _, _⟩) (v := ?vg1_31) rfl (by kernel_rfl) (by kernel_rfl) (by kernel_rfl) (by kernel_rfl) (fun _ _ _ h => h) (fun _ => hSg1_29) (Or.inl ⟨by rfl, ?hg1_31⟩) ?_
    case hg1_31 => intro w _; go_simp; (try with_reducible rfl)
    try simp only [Act.put, List.setIfInBounds_toArray, List.set_cons_zero, List.set_cons_succ]
    refine wpAnyG_take0 (i := 32) (oi := ⟨_, _, _, _, _, _⟩) (v := ?vg1_32) rfl (by kernel_rfl) (by kernel_rfl) (by kernel_rfl) (by kernel_rfl) (fun _ _ _ h => h) (fun _ => hSg1_29) (Or.inl ⟨by rfl, ?hg1_32⟩) ?_
    case hg1_32 => intro w _; go_simp; (try with_reducible rfl)
    try simp only [Act.put, List.setIfInBounds_toArray, List.set_cons_zero, List.set_cons_succ]
    refine wpAnyG_step (i := 33) (oi := ⟨_, _, _, _, _, _⟩) rfl (by kernel_rfl) (by rfl) (fun K hK => ?_)
    go_simp
    go_at_call 12
    refine (HAl.out _).mono ?_
    rintro e w10 ⟨rfl, hk10⟩
    refine hK _ _ ?_ (fun hSg1_33 => ?_)
    · intro _; exact ((((Keep.refl [] w8).drew).alloc _).trans hk9).trans hk10
    replace hSg1_33 := hSg1_33 (by kernel_rfl)
    clear hK
    try simp only [Act.put, List.setIfInBounds_toArray, List.set_cons_zero, List.set_cons_succ]
    refine wpAnyG_take0 (i := 34) (oi := ⟨_, _, _, _, _, _⟩) (v := ?vg1_34) rfl (by kernel_rfl) (by kernel_rfl) (by kernel_rfl) (by kernel_rfl) (fun _ _ _ h => h) (fun _ => hSg1_33) (Or.inl ⟨by rfl, ?hg1_34⟩) ?_
    case hg1_34 => intro w _; go_simp; (try with_reducible rfl)
    try simp only [Act.put, List.setIfInBounds_toArray, List.set_cons_zero, List.set_cons_succ]
    refine wpAnyG_take0 (i := 35) (oi := ⟨_, _, _, _, _, _⟩) (v := ?vg1_35) rfl (by kernel_rfl) (by kernel_rfl) (by kernel_rfl) (by kernel_rfl) (fun _ _ _ h => h) (fun _ => hSg1_33) (Or.inl ⟨by rfl, ?hg1_35⟩) ?_
    case hg1_35 => intro w _; go_simp; (try with_reducible rfl)
    try simp only [Act.put, List.setIfInBounds_toArray, List.set_cons_zero, List.set_cons_succ]
    refine wpAnyG_done (by kernel_rfl) ?_ _
    have HF : Hid (Keep [] w w10) := Lib.hid (HKw.out.trans (((((Keep.refl [] w8).drew).alloc _).trans hk9).trans hk10))
    clear hk9 hk10
    go_wp2
    go_ret
    exact ⟨rfl, HF.out⟩
end Go.Proofs.YtdnaahbhfjclpaaGreatDoor

