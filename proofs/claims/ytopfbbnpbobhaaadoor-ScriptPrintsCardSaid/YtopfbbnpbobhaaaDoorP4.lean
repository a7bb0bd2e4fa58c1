/- Hex. -/
import Derived.Test.YtopfbbnpbobhaaaDoorP3
import Derived.Test.YtopfbbnpbobhaaaDoorBw
import Derived.Test.YtopfbbnpbobhaaaDoorHy
import Derived.RangeFuncRecord
import Derived.Lib.AppendIntMem
set_option linter.unusedVariables false
set_option linter.unusedSimpArgs false
namespace Go.Proofs.YtopfbbnpbobhaaaDoor
open Go.RowKit Go.Sal
attribute [local go_sem] Oper.semAt_some
theorem add_lists {a b c : List UInt8} (hc : c = a ++ b) (h : c.length ≤ 1000000000) : ∀ W : World, (Op.stringOp .add ⟨a.toArray⟩ ⟨b.toArray⟩).run Tryd.prog W = .ok (.string ⟨c.toArray⟩) W := fun W => by
  subst hc
  have e : (⟨a.toArray⟩ : ByteArray) ++ ⟨b.toArray⟩ = ⟨(a ++ b).toArray⟩ := by
    apply ByteArray.ext
    simp [ByteArray.data_append]
  have h' : a.length + b.length ≤ 1000000000 := by simpa using h
  exact (run_string_add_sum (P := Tryd.prog) (w := W) ⟨a.toArray⟩ ⟨b.toArray⟩ (by simp [ByteArray.size, maxLen]; omega)).trans (by rw [e])
theorem kept_others {b : Nat} {w w' : World} (hs : w.heap.size ≤ w'.heap.size) (h : Lib.OthersKept 5 (some b) w w') (hb : ∃ cs t f, w.heap[b]? = some (.cells cs t f)) : KeepsOthers w w' :=
  ⟨hs, fun k o hk ho => h k o hk (by
    rintro e
    cases e
    obtain ⟨cs, t, f, hb⟩ := hb
    rw [hk] at hb
    cases hb
    cases ho) (by
    rintro c fz rfl
    cases ho)⟩
theorem kept_keep {w w' : World} (h : Keep [] w w') : KeepsOthers w w' := ⟨h.size, fun k o hk _ => (h.block k (Array.getElem?_eq_some_iff.1 hk).1 (by simp)).trans hk⟩
theorem kept_below {w w' : World} (h : Below w.heap.size w w') : KeepsOthers w w' := ⟨h.size, fun k o hk _ => (h.block k (Array.getElem?_eq_some_iff.1 hk).1).trans hk⟩
theorem bld_block {T e : TypeId} {B b : Nat} {bs : List Value} {W : World} (h : Lib.IsBuilderF T e B b bs W) : ∃ cs t f, W.heap[b]? = some (.cells cs t f) := by
  rcases h with ⟨_, v, hb, _⟩ | ⟨_, v, hb, _⟩ <;> exact ⟨_, _, _, hb⟩
theorem keep_of_grow (w : World) (k : Nat) (os : Array Obj) : Keep [] w (Sort.grow (w.drewN k) os) := ⟨rfl, rfl, rfl, by simp, fun i hi _ => Sort.heap_grow_old (w.drewN k) os hi⟩
theorem bld_keep {T e : TypeId} {B b : Nat} {bs : List Value} {W W' : World} (h : Lib.IsBuilderF T e B b bs W) (k : Keep [] W W') : Lib.IsBuilderF T e B b bs W' :=
  bld_kept h (fun i c t f hc _ => k.block i (Array.getElem?_eq_some_iff.1 hc).1 (by simp))
theorem strCells_list (l : List UInt8) : Lib.strCells ⟨l.toArray⟩ = Lib.byteCells l := by simp [Lib.strCells, Lib.byteCells]
theorem byteCells_app (a b : List UInt8) : Lib.byteCells a ++ Lib.byteCells b = Lib.byteCells (a ++ b) := by simp [Lib.byteCells]
theorem runs_any (A : Option Addr) (n c : Nat) (w : World) : Calls Tryd.prog 20 #[.slice A n c] w fun e w' => e = .returned (.func (.func 40) #[] #[.pointer (some ⟨w.heap.size, 0, none⟩)]) ∧ w.alloc (.cells #[.slice A n c] 22) = w' := by
  go_enter Tryd.func20, Tryd.ntmps20
  go_wp2
  go_ret
  exact ⟨rfl, rfl⟩
set_option maxRecDepth 20000 in
set_option maxHeartbeats 4000000 in
theorem hex_any (b : List UInt8) (g o cap : Nat) (w : World) (h0 : b ≠ []) (hg : g < w.heap.size) (hcap : b.length ≤ cap) (hlen : b.length ≤ 3000)
    (hd : ∀ j (h : j < b.length), w.cell? ⟨g, o + j, none⟩ = some (.int .u8 (b[j].toNat : Int))) (htab : Lib.TabIs Tryd.prog w "internal/strconv.uint64pow10" .u64 Lib.pow10Tab) :
    Calls Tryd.prog 9 #[.slice (some ⟨g, o, none⟩) b.length cap] w fun e w' => e = .returned (.string ⟨(hexRow b).toArray⟩) ∧ Below w.heap.size w w' := by
  refine (callsIn_wide (n := 6)).1 ?_
  have hb0 : ¬ ((b.length : Int) = 0) := by
    have := List.length_pos_iff.2 h0
    omega
  have Hd := Lib.hid hd
  have Ht := Lib.hid htab
  clear hd htab
  refine callsIn_of_wp_marks Tryd.func9 rfl trivial ?_ rfl
  simp only [Tryd.ntmps9, List.size_toArray, List.length_cons, List.length_nil, Nat.reduceAdd, Nat.reduceSub, Array.replicate_succ, Array.replicate_zero, List.push_toArray, List.append_toArray, List.nil_append, List.cons_append]
  gi_wp2_with (refine ⟨trivial, ?_⟩; gi_at_call 20; refine (callsIn_wide.2 (runs_any _ _ _ _)).mono ?_; rintro e w1 ⟨rfl, rfl⟩)
  have hsz : ((w.alloc (.cells #[.pointer none, .slice none 0 0] 57)).alloc (.cells #[.slice (some ⟨g, o, none⟩) b.length cap] 22)).heap.size = w.heap.size + 2 := by simp
  have hbx : Boxed ((w.alloc (.cells #[.pointer none, .slice none 0 0] 57)).alloc (.cells #[.slice (some ⟨g, o, none⟩) b.length cap] 22)) (w.heap.size + 1) 22 (.slice (some ⟨g, o, none⟩) b.length cap) := by
    have := Boxed.new (w.alloc (.cells #[.pointer none, .slice none 0 0] 57)) 22 (.slice (some ⟨g, o, none⟩) b.length cap)
    rwa [World.size_alloc] at this
  have hbel : Below w.heap.size w ((w.alloc (.cells #[.pointer none, .slice none 0 0] 57)).alloc (.cells #[.slice (some ⟨g, o, none⟩) b.length cap] 22)) := ((Below.refl _ w).alloc (Nat.le_refl _) _).alloc (by simp) _
  have hnew : Lib.IsBuilderF 57 5 w.heap.size w.heap.size [] ((w.alloc (.cells #[.pointer none, .slice none 0 0] 57)).alloc (.cells #[.slice (some ⟨g, o, none⟩) b.length cap] 22)) :=
    .inl ⟨Nat.le_refl _, .slice none 0 0, (Below.heap_alloc _ _ _ (by simp)).trans (World.alloc_heap_new w _), ⟨rfl, .inl ⟨rfl, rfl⟩⟩, by simp [Value.ownBlock]⟩
  obtain ⟨w1, hw1⟩ : ∃ w1, ((w.alloc (.cells #[.pointer none, .slice none 0 0] 57)).alloc (.cells #[.slice (some ⟨g, o, none⟩) b.length cap] 22)) = w1 := ⟨_, rfl⟩
  rw [hw1] at hsz hbx hbel hnew ⊢
  refine wpIn_rangeFunc_st rfl (by omega) (gf := 40) (lb := #[.pointer (some ⟨w.heap.size + 1, 0, none⟩)]) rfl trivial (enters_of Tryd.func40 (by kernel_rfl) rfl)
    (runs1_seq _ (by omega) (w.heap.size + 1) w.heap.size g o cap b w1 hg (by omega) hbx.cell hbx.frozen (fun j h => (hbel.cell (p := ⟨g, o + j, none⟩) hg).trans (Hd.out j h)) (by omega) hcap) ?hKt ?hKa ?hKb (fun _ => rfl)
    (fun pre W => Lib.IsBuilderF 57 5 w.heap.size w.heap.size (Lib.byteCells ((pre.map fun p => runT p.1 p.2).flatten)) W ∧ (∃ u, Boxed W (w.heap.size + 1) 22 u) ∧ Below w.heap.size w W) ?hI ?hIs ?h0
    (fun p => { tmps := #[.slice (some ⟨g, o, none⟩) b.length cap, undef, .string { data := #[] }, .pointer (some ⟨w.heap.size, 0, none⟩), .int .u8 (p.1.toNat : Int), .int .i64 (p.2 : Int), .slice (some ⟨g, o, none⟩) b.length cap, .int .i64 b.length, .bool false, .slice (some ⟨g, o, none⟩) b.length cap, .func (.func 40) #[] #[.pointer (some ⟨w.heap.size + 1, 0, none⟩)], .int .u8 (p.1.toNat : Int), .int .i64 (p.2 : Int), undef, undef, undef, undef, undef, undef, undef, undef, undef, undef, undef, undef, undef, undef, undef, undef], defers := [] }) ?assign ?body ?done
  case hKt => intro A B C h k; exact ⟨h.below.trans k.below, k.cell.trans h.cell, k.frozen.trans h.frozen⟩
  case hKa =>
    intro W x hW
    have hl : w.heap.size + 1 < W.heap.size := by omega
    exact ⟨(Below.refl _ W).alloc (by omega) _, World.cell?_of_block (Below.heap_alloc W x _ hl), World.frozen?_of_block (Below.heap_alloc W x _ hl)⟩
  case hI =>
    intro s X Y row hs hg' hr
    refine ⟨bld_grown hs.1 hg' (fun r e => (hr r e).2), ?_, ?_⟩
    · obtain ⟨u, hu⟩ := hs.2.1
      exact ⟨u, hu.kept hg' (fun e => by obtain ⟨_, o', ho, hc⟩ := hr _ e.symm; rw [show X.heap[_]? = _ from hu] at ho; cases ho; cases hc)⟩
    · exact hs.2.2.grown hg' (by have := hs.2.2.size; omega) (fun r e => by have := (hr r e).1; omega)
  case hIs =>
    rintro pre A v ⟨h1, ⟨u, hu⟩, h3⟩
    exact ⟨bld_set h1 hu (by decide) (by omega) v, ⟨v, hu.set v⟩, h3.setCell (p := ⟨w.heap.size + 1, 0, none⟩) (by simp) v⟩
  case h0 => exact ⟨hnew, ⟨_, hbx⟩, hbel⟩
  case assign =>
    intro l x W K hK
    unfold encRN
    gi_wp2
    exact hK
  case hKb =>
    intro W l o1 o2 hl hb _
    have hne : w.heap.size + 1 ≠ l := by omega
    exact ⟨(Below.refl _ W).grown (grownBy_putObj' W l o2) (by have := (Array.getElem?_eq_some_iff.1 hb).1; omega) (fun k e => by cases e; omega), World.cell?_of_block (World.putObj_heap_other hne), World.frozen?_of_block (World.putObj_heap_other hne)⟩
  case done =>
    intro D W hD hI hDW
    obtain ⟨hB, ⟨u, hu⟩, hbl⟩ := hI
    have hDW' := hDW
    gi_wp2_with (refine ⟨trivial, ?_⟩; gi_at_call 25; refine (callsIn_wide.2 (Tryd.Builder_String_any_k w.heap.size w.heap.size _ W hB hbl.size)).mono ?_; rintro e w2 ⟨rfl, hB2, hbl2, hk2⟩)
    have hD2 := hk2 D _ hDW (by intro e; cases e; omega) (by rintro c fz e; cases e)
    refine ⟨by simp, .inl ⟨_, _, rfl, run_takeDeferred hD2, ?_⟩⟩
    have hbel2 := hbl.trans (hbl2.trans ((Below.refl w.heap.size w2).grown (grownBy_putObj' w2 D (Obj.deferred none)) (Nat.le_trans hbl.size hbl2.size) (fun k e => by cases e; omega)))
    exact ⟨_, results_tmp rfl _ _ _, rfl, hbel2⟩
  case body =>
    rintro l pre ⟨c, n⟩ W ⟨hB, ⟨u, hu⟩, hbl⟩ hpre hWs
    obtain ⟨hn1, hn2⟩ := last_mem hpre
    have hlen2 := pre_len hpre (by omega)
    rw [List.map_append, List.flatten_append, List.length_append] at hlen2
    simp only [List.map_cons, List.map_nil, List.flatten_cons, List.flatten_nil, List.append_nil] at hlen2
    simp only at hn1 hn2
    have hbsz : w.heap.size ≤ W.heap.size := hbl.size
    have hfin : ∀ W1 W2 : World, Keep [] W W1 → Lib.BuilderAtF 57 5 w.heap.size w.heap.size (.pointer (some ⟨w.heap.size, 0, none⟩)) (Lib.byteCells ((pre.map fun p => runT p.1 p.2).flatten) ++ Lib.strCells ⟨(runT c n).toArray⟩) W2 → Below w.heap.size W1 W2 → Lib.OthersKept 5 (some w.heap.size) W1 W2 →
        KeepsOthers W W2 ∧ KpR w.heap.size (w.heap.size + 1) W W2 ∧ (Lib.IsBuilderF 57 5 w.heap.size w.heap.size (Lib.byteCells (((pre ++ [(c, n)]).map fun p => runT p.1 p.2).flatten)) W2 ∧ (∃ u, Boxed W2 (w.heap.size + 1) 22 u) ∧ Below w.heap.size w W2) := by
      intro W1 W2 hk hb2 hl2 ho2
      have hu1 : Boxed W1 (w.heap.size + 1) 22 u := (hk.block _ hu.lt (by simp)).trans hu
      have hu2 : W2.heap[w.heap.size + 1]? = some (.cells #[u] 22 (0, 0)) := ho2 _ _ hu1 (by simp) (by rintro c' fz e; cases e)
      have hB1 := bld_keep hB hk
      have hbW : Below w.heap.size W W2 := (hk.belowB hbsz (by simp)).trans hl2
      refine ⟨(kept_keep hk).trans (kept_others hl2.size ho2 (bld_block hB1)), ⟨hbW, ?_, ?_⟩, .inr ?_, ⟨u, hu2⟩, hbl.trans hbW⟩
      · rw [World.cell?_of_block (hu2.trans (show W.heap[w.heap.size + 1]? = _ from hu).symm)]
      · rw [World.frozen?_of_block (hu2.trans (show W.heap[w.heap.size + 1]? = _ from hu).symm)]
      · rw [strCells_list, byteCells_app] at hb2
        rw [List.map_append, List.flatten_append]
        simpa using hb2
    have Hfin := Lib.hid hfin
    clear hfin
    have hbs : (Lib.byteCells ((pre.map fun p => runT p.1 p.2).flatten)).length ≤ 100000 := by rw [Lib.byteCells_length]; omega
    by_cases h4 : n ≤ 4
    · have h4' : (n : Int) ≤ 4 := by omega
      gi_wp2_with (first
        | (refine ⟨trivial, ?_⟩; gi_at_call 23; refine ((callsIn_wide.2 (pair_any c _)).inRound l).mono ?_; rintro e W1 ⟨rfl, hk1⟩)
        | (refine ⟨trivial, ?_⟩; gi_at_call 22; refine ((callsIn_wide.2 (Tryd.strings_Repeat _ n _ (by omega) (by simp [ByteArray.size, pr]; omega))).inRound l).mono ?_; rintro e W2 ⟨rfl, hk2⟩)
        | (refine ⟨trivial, ?_⟩; gi_at_call 21; refine ((callsIn_wide.2 (Tryd.Builder_WriteString_k w.heap.size w.heap.size _ _ _ (bld_keep hB (hk1.trans (Keep.of_below hk2))) (by rw [Lib.byteCells_length]; simp only [ByteArray.size, List.size_toArray, repeatL_len, pr, List.length_cons, List.length_nil]; omega) (Nat.le_trans hbsz (Nat.le_trans hk1.size hk2.size)))).inRound l).mono ?_; rintro e W3 ⟨rfl, hb3, hl3, ho3⟩))
      refine Hfin.out W2 W3 (hk1.trans (Keep.of_below hk2)) ?_ hl3 ho3
      unfold runT
      rw [if_pos h4]
      exact hb3
    · have h4' : ¬ (n : Int) ≤ 4 := by omega
      have hdl : (Lib.decDigits n).length ≤ 20 := by rw [Lib.decDigits_length]; exact Lib.nDigits_le20 n (by omega)
      obtain ⟨t1, ht1⟩ : ∃ t, t = pr c ++ [42] := ⟨_, rfl⟩
      obtain ⟨t2, ht2⟩ : ∃ t, t = t1 ++ Lib.itoa n := ⟨_, rfl⟩
      obtain ⟨t3, ht3⟩ : ∃ t, t = t2 ++ [44] := ⟨_, rfl⟩
      have hit : Lib.itoa (n : Int) = Lib.decDigits n := by unfold Lib.itoa; rw [if_neg (by omega)]; rfl
      have hl3' : t3.length ≤ 100 := by rw [ht3, ht2, ht1, hit]; simp [pr]; omega
      have ha1 := add_lists ht1 (by rw [ht1]; simp [pr])
      have ha2 := add_lists ht2 (by rw [ht3] at hl3'; simp at hl3'; omega)
      have ha3 := add_lists ht3 (by omega)
      have htx : t3 = runT c n := by
        unfold runT
        rw [if_neg h4, ht3, ht2, ht1, hit]
        simp
      have HX := Lib.hid htx
      have Ht1 := Lib.hid hit
      clear ht1 ht2 ht3 htx hit
      have hT : ∀ W', Keep [] W W' → Lib.TabIs Tryd.prog W' "internal/strconv.uint64pow10" .u64 Lib.pow10Tab := fun W' k => Lib.tabBelow_of_tabIs Ht.out W' (hbl.trans (k.belowB hbsz (by simp)))
      have HT := Lib.hid hT
      clear hT
      gi_wp2_with (refine ⟨trivial, ?_⟩; gi_at_call 23; refine ((callsIn_wide.2 (pair_any c _)).inRound l).mono ?_; rintro e W1 ⟨rfl, hk1⟩)
      refine ⟨trivial, ?_⟩; gi_at_call 24; refine ((callsIn_wide.2 (Tryd.strconv_Itoa n (by omega) (by omega) _ (HT.out _ hk1))).inRound l).mono ?_
      rintro e W2 ⟨rfl, k2, os2, hk2⟩
      have hk3 : Keep [] W1 W2 := by rw [hk2]; exact keep_of_grow W1 k2 os2
      clear hk2
      have hk2 := hk3
      gi_wp2_with (fail)
      refine ⟨trivial, ?_⟩; gi_at_call 21; refine ((callsIn_wide.2 (Tryd.Builder_WriteString_k w.heap.size w.heap.size _ ⟨t3.toArray⟩ _ (bld_keep hB (hk1.trans hk2)) (by rw [Lib.byteCells_length]; simp only [ByteArray.size, List.size_toArray]; omega) (Nat.le_trans hbsz (Nat.le_trans hk1.size hk2.size)))).inRound l).mono ?_; rintro e W3 ⟨rfl, hb3, hl3, ho3⟩
      gi_wp2
      refine Hfin.out W2 W3 (hk1.trans hk2) ?_ hl3 ho3
      rw [← HX.out]
      exact hb3
end Go.Proofs.YtopfbbnpbobhaaaDoor
