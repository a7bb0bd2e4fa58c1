/- Decode, walked. -/
import Derived.Test.YtknjjodkpknglaaD3
import Derived.BigQuiet
set_option linter.unusedVariables false
set_option linter.unusedSimpArgs false
namespace Go.Huf
/-- how many of the first k by length have n bits -/
def byK (ls : List Int) (k n : Nat) : Nat := ((ord ls).take k).countP fun s => decide (ln ls s = n)
theorem byK_succ {ls : List Int} {k : Nat} (hk : k < (ord ls).length) (n : Nat) : byK ls (k + 1) n = byK ls k n + (if ln ls (ord ls)[k] = n then 1 else 0) := by
  unfold byK
  rw [List.take_succ_eq_append_getElem hk, List.countP_append]
  congr 1
  by_cases h : ln ls (ord ls)[k] = n <;> simp [h]
theorem byK_le (ls : List Int) (k n : Nat) : byK ls k n ≤ (ord ls).length := by
  unfold byK
  refine Nat.le_trans List.countP_le_length ?_
  rw [List.length_take]
  omega
theorem byK_all {ls : List Int} {n : Nat} (hn : 1 ≤ n) : byK ls (ord ls).length n = cnt ls n := by
  unfold byK
  rw [List.take_length, (ord_perm ls).countP_eq, cnt_ofK, List.countP_eq_length_filter]
  unfold symsK ofK
  rw [List.filter_filter]
  congr 1
  refine List.filter_congr (fun s hs => ?_)
  unfold ln
  by_cases h : ls.getD s 0 = n
  · have : (0 : Int) < ls.getD s 0 := by omega
    rw [decide_eq_true h, decide_eq_true this]
    rfl
  · rw [decide_eq_false h]
    first | rfl | simp
end Go.Huf
namespace Go.Proofs.Ytknjjodkpknglaa
open Go.RowKit Go.Sal Go.Huf
/-- the decoder's cells -/
def decA (bv ov : Value) (at_ : Nat) (B : Nat → Nat) : Array Value := (bv :: .int .i64 (at_ : Nat) :: ((List.range 16).map (fun n => Value.int .i64 (B n : Nat)) ++ [ov])).toArray
theorem decA_zero (bv ov : Value) : decA bv ov 0 (fun _ => 0) = #[bv, .int .i64 0, .int .i64 0, .int .i64 0, .int .i64 0, .int .i64 0, .int .i64 0, .int .i64 0, .int .i64 0, .int .i64 0, .int .i64 0, .int .i64 0, .int .i64 0, .int .i64 0, .int .i64 0, .int .i64 0, .int .i64 0, .int .i64 0, ov] := by
  simp [decA, List.range, List.range.loop]
theorem decA_at (bv ov : Value) (at_ : Nat) (B : Nat → Nat) : (decA bv ov at_ B)[0]? = some bv ∧ (decA bv ov at_ B)[1]? = some (.int .i64 (at_ : Nat)) ∧ (decA bv ov at_ B)[18]? = some ov := by
  simp [decA]
theorem decA_by (bv ov : Value) (at_ : Nat) (B : Nat → Nat) {n : Nat} (h : n < 16) : (decA bv ov at_ B)[2 + n]? = some (.int .i64 (B n : Nat)) := by
  rw [Nat.add_comm 2 n]
  simp [decA, List.getElem?_append, h]
theorem decA_set1 (bv ov : Value) (at_ a2 : Nat) (B : Nat → Nat) : (decA bv ov at_ B).setIfInBounds 1 (.int .i64 (a2 : Nat)) = decA bv ov a2 B := by
  simp [decA]
theorem decA_setby (bv ov : Value) (at_ : Nat) (B B' : Nat → Nat) {x : Nat} (hx : x < 16) (hB : ∀ n, n < 16 → B' n = if n = x then B x + 1 else B n) : (decA bv ov at_ B).setIfInBounds (2 + x) (.int .i64 ((B x + 1 : Nat) : Int)) = decA bv ov at_ B' := by
  apply Array.ext_getElem?
  intro i
  rw [Array.getElem?_setIfInBounds]
  by_cases hi : 2 + x = i
  · subst hi
    rw [if_pos rfl, decA_by _ _ _ _ hx, hB x hx, if_pos rfl, if_pos (by simp [decA]; omega)]
  · rw [if_neg hi]
    by_cases h2 : 2 ≤ i ∧ i < 18
    · obtain ⟨n, rfl⟩ : ∃ n, i = 2 + n := ⟨i - 2, by omega⟩
      rw [decA_by _ _ _ _ (by omega), decA_by _ _ _ _ (by omega), hB n (by omega), if_neg (by omega)]
    · rcases Nat.lt_or_ge i 2 with h3 | h3
      · rcases (show i = 0 ∨ i = 1 by omega) with rfl | rfl
        · rw [(decA_at _ _ _ _).1, (decA_at _ _ _ _).1]
        · rw [(decA_at _ _ _ _).2.1, (decA_at _ _ _ _).2.1]
      · rcases (show i = 18 ∨ 19 ≤ i by omega) with rfl | h4
        · rw [(decA_at _ _ _ _).2.2, (decA_at _ _ _ _).2.2]
        · rw [Array.getElem?_eq_none (by simp [decA]; omega), Array.getElem?_eq_none (by simp [decA]; omega)]
theorem deco_of {w : World} {gd : Nat} {ls : List Int} {bv ov : Value} {at_ : Nat} {B : Nat → Nat} (h : Blk w gd 67 (decA bv ov at_ B)) (hB : ∀ n, 1 ≤ n → n ≤ 15 → B n = cnt ls n) : Deco w gd ls bv ov at_ :=
  ⟨(h.cell 0).trans (decA_at _ _ _ _).1, (h.cell 1).trans (decA_at _ _ _ _).2.1, fun n h1 h2 => by rw [h.cell, decA_by _ _ _ _ (by omega), hB n h1 h2], (h.cell 18).trans (decA_at _ _ _ _).2.2, h.free 1⟩
theorem decode_bad (ls : List Int) (A : Option Addr) (c : Nat) (V V2 : Value) (w : World) (hs : ISrc w A ls) (hn : ls.length ≤ 100000000) (h : ¬ okL ls) :
    Calls Try.prog 29 #[.slice A ls.length c, V, V2] w fun e w' => DecR w [] 0 51 e w' := by
  have hc := check_any ls A c w hs hn
  have he : chkE ls = 51 := by unfold chkE; rw [if_neg h]
  rw [he] at hc
  have Hc := Lib.hid hc
  clear hs h hc he
  go_enter Try.func29, Try.ntmps29
  go_wp2_with (go_at_call 19; refine Hc.out.mono ?_; rintro e w' ⟨rfl, hk⟩; have Hk := Lib.hid hk; clear hk)
  go_ret3
  exact ⟨none, 0, rfl, World.ownsRow_nil _ _ _ _, Hk.out⟩
theorem decode_neg (ls : List Int) (A : Option Addr) (c : Nat) (V : Value) (n : Int) (w : World) (hs : ISrc w A ls) (h : okL ls) (hn : n < 0) :
    Calls Try.prog 29 #[.slice A ls.length c, V, .int .i64 n] w fun e w' => DecR w [] 0 1 e w' := by
  have hc := check_any ls A c w hs (by have := h.1; omega)
  have he : chkE ls = 0 := by unfold chkE; rw [if_pos h]
  rw [he] at hc
  have Hc := Lib.hid hc
  clear hs h hc he
  go_enter Try.func29, Try.ntmps29
  go_wp2_with (go_at_call 19; refine Hc.out.mono ?_; rintro e w' ⟨rfl, hk⟩; have Hk := Lib.hid hk; clear hk)
  go_ret3
  exact ⟨none, 0, rfl, World.ownsRow_nil _ _ _ _, Hk.out⟩
theorem BySrc.keep2 {w w' : World} {A : Option Addr} {l : List Nat} {F : List Nat} (h : BySrc w A l) (k : Keep F w w') (hF : ∀ j ∈ F, w.heap.size ≤ j) : BySrc w' A l := ⟨fun i hi => by
  obtain ⟨g, o, rfl, h1, h2⟩ := h.1 i hi
  exact ⟨g, o, rfl, Nat.lt_of_lt_of_le h1 k.size, (k.cell (p := ⟨g, o + i, none⟩) h1 (fun hm => by have h3 : w.heap.size ≤ g := hF g hm; omega)).trans h2⟩, h.2⟩
def DL (w3 : World) (gd : Nat) (bv ov : Value) (at_ : Nat) (B : Nat → Nat) (l : List Nat) (A : Option Addr) (c : Nat) (wr : World) : Prop :=
  Blk wr gd 67 (decA bv ov at_ B) ∧ wr.ownsRow w3.heap.size 3 1 (.slice A l.length c) l.length (inN l) ∧ Keep [gd] w3 wr

set_option maxRecDepth 20000 in
set_option maxHeartbeats 2000000 in
theorem decode_any {N : Nat} (H : StabOK N) (hN : N ≤ 100000) (ls : List Int) (bl : List Nat) (A AB : Option Addr) (c cB n : Nat) (w : World) (hs : ISrc w A ls) (hb : BySrc w AB bl) (h : okL ls) (hlN : ls.length ≤ N) (hbl : bl.length ≤ 10000) (hn : n ≤ 9223372036854775807) :
    Calls Try.prog 29 #[.slice A ls.length c, .slice AB bl.length cB, .int .i64 (n : Nat)] w fun e w' => ∃ l a E, DecP ls bl n l a E ∧ DecR w l a E e w' := by
  have hl5 := h.1
  have hc := check_any ls A c w hs (by omega)
  have he : chkE ls = 0 := by unfold chkE; rw [if_pos h]
  rw [he] at hc
  have Hc := Lib.hid hc
  have Hs := Lib.hid hs
  have Hb := Lib.hid hb
  have Hok := Lib.hid h
  have HH := Lib.hid H
  have hol : (ord ls).length ≤ ls.length := by rw [ord_len]; exact symsK_len _ _
  have hn0 : ¬ (n : Int) < 0 := by omega
  clear hs hb h hc he H
  go_enter Try.func29, Try.ntmps29
  go_wp2_with (first
    | (go_at_call 19; refine Hc.out.mono ?_; rintro e w1 ⟨rfl, hk1⟩; have Hk1 := Lib.hid hk1; clear hk1)
    | (go_at_call 35; refine (order_any HH.out hN ls A c w1 (Hs.out.keep Hk1.out (by simp)) hlN Hok.out.2.1).mono ?_; rintro e w2 ⟨AO, cO, rfl, hown2, hk2⟩
       have Ho := Lib.hid (own_le hown2 Hk1.out.size); have Hk2 := Lib.hid (Hk1.out.trans hk2); clear hown2 hk2))
  obtain ⟨gd, hgd⟩ : ∃ gd, gd = w2.heap.size := ⟨_, rfl⟩
  obtain ⟨w3, hw3⟩ : ∃ w3, w3 = w2.alloc (.cells (decA (.slice AB bl.length cB) (.slice AO (ord ls).length cO) 0 (fun _ => 0)) 67 (0, 0)) := ⟨_, rfl⟩
  have hw3' := hw3
  rw [decA_zero] at hw3'
  have HB3 : Hid (Blk w3 gd 67 (decA (.slice AB bl.length cB) (.slice AO (ord ls).length cO) 0 (fun _ => 0))) := by rw [hw3, hgd]; exact Lib.hid (Blk.new w2 67 _)
  have Hk23 : Hid (Keep [] w2 w3) := by rw [hw3]; exact Lib.hid ((Keep.refl [] w2).alloc _)
  have Hk3 : Hid (Keep [] w w3) := Lib.hid (Hk2.out.trans Hk23.out)
  have Ho3 : Hid (w3.ownsRow w.heap.size 3 1 (.slice AO (ord ls).length cO) (ord ls).length (inN (ord ls))) := Lib.hid (ownsRow_keep Ho.out Hk23.out (by simp))
  have Hgd : Hid (w.heap.size ≤ gd ∧ gd < w3.heap.size ∧ (Value.slice AO (ord ls).length cO).ownBlock ≠ some gd) := by
    refine Lib.hid ⟨by rw [hgd]; exact Hk2.out.size, HB3.out.lt, fun e => ?_⟩
    have := (Ho.out.lt gd e).2
    omega
  have hB0 : Hid (Blk w3 gd 67 (decA (.slice AB bl.length cB) (.slice AO (ord ls).length cO) 0 (byK ls 0)) ∧ Keep [gd] w3 w3) := by
    have e0 : byK ls 0 = fun _ => 0 := by funext m; simp [byK]
    rw [e0]
    exact Lib.hid ⟨HB3.out, Keep.refl _ _⟩
  rw [← hgd, ← hw3']
  clear hw3 hw3' hgd HB3 Hk1 Hk2 Hk23 Ho Hc
  go_loopw [33] (fun vk wr => ∃ k : Nat, vk = .int .i64 k ∧ k ≤ (ord ls).length ∧ Hid (Blk wr gd 67 (decA (.slice AB bl.length cB) (.slice AO (ord ls).length cO) 0 (byK ls k)) ∧ Keep [gd] w3 wr)) (fun vk _ => (ord ls).length - (intOf vk).toNat)
  case atStart => exact ⟨0, rfl, by omega, hB0⟩
  case round =>
    obtain ⟨k, rfl, hk, hI⟩ := hrel
    clear hB0
    rcases Nat.lt_or_ge k (ord ls).length with hkl | hkl
    · as_aux_lemma =>
        obtain ⟨hB, hkp⟩ := hI.out
        have hmem := ord_mem.1 (List.getElem_mem hkl)
        obtain ⟨go, rfl, hgo, _⟩ := own_some Ho3.out (by omega)
        have hgog : go ≠ gd := fun e => Hgd.out.2.2 (by rw [e]; rfl)
        have d0 := (hkp.cell (p := ⟨go, k, none⟩) hgo (by simpa using hgog)).trans (inN_at Ho3.out hkl).1
        obtain ⟨g, o, rfl, hg, hc1⟩ := Hs.out _ hmem.1
        have hgg : g ≠ gd := by have := Hgd.out.1; omega
        have hg3 : g < w3.heap.size := Nat.lt_of_lt_of_le hg Hk3.out.size
        have d1 := (hkp.cell (p := ⟨g, o + (ord ls)[k], none⟩) hg3 (by simpa using hgg)).trans ((Hk3.out.cell (p := ⟨g, o + (ord ls)[k], none⟩) hg (by simp)).trans hc1)
        have hle := ln_eq hmem.1
        have hlg := ln_good Hok.out.2.1 (ord ls)[k]
        obtain ⟨x, hx⟩ : ∃ x : Nat, ls[(ord ls)[k]]'hmem.1 = x := ⟨(ls[(ord ls)[k]]'hmem.1).toNat, by omega⟩
        have hx16 : x < 16 := by omega
        have hset := hB.set_ (2 + x) (.int .i64 ((byK ls k x + 1 : Nat) : Int))
        rw [decA_setby _ _ _ (byK ls k) (byK ls (k + 1)) hx16 (fun m hm => by
          rw [byK_succ hkl, hle, hx]
          by_cases hmx : m = x
          · subst hmx; rw [if_pos rfl, if_pos rfl]
          · rw [if_neg (by omega), if_neg hmx]; rfl)] at hset
        have m1 : wr.cell? ⟨gd, 2 + x, none⟩ = some (.int .i64 (byK ls k x : Nat)) := (hB.cell (2 + x)).trans (decA_by _ _ _ _ hx16)
        have m2 : wr.frozen? ⟨gd, 2 + x, none⟩ = false := hB.free _
        have HN : Hid (Blk (wr.setCell ⟨gd, 2 + x, none⟩ (.int .i64 ((byK ls k x + 1 : Nat) : Int))) gd 67 (decA (.slice AB bl.length cB) (.slice (some ⟨go, 0, none⟩) (ord ls).length cO) 0 (byK ls (k + 1))) ∧ Keep [gd] w3 (wr.setCell ⟨gd, 2 + x, none⟩ (.int .i64 ((byK ls k x + 1 : Nat) : Int)))) := Lib.hid ⟨hset, hkp.setCell (.inl (by simp)) _⟩
        have hbk := byK_le ls k x
        have hgwr : g < wr.heap.size := Nat.lt_of_lt_of_le hg3 hkp.size
        have hgdr : gd < wr.heap.size := hB.lt
        rw [hx] at d1
        have hsl : ((ord ls)[k] : Int) < ls.length := by have := hmem.1; omega
        have hwk : IntKind.i64.wrap ((k : Int) + 1) = (k : Int) + 1 := by rw [IntKind.wrap_i64]; omega
        have hki : (k : Int) < (ord ls).length := by omega
        generalize (ord ls)[k] = s at *
        generalize byK ls k x = B at *
        have hwB : IntKind.i64.wrap ((B : Int) + 1) = ((B + 1 : Nat) : Int) := by rw [IntKind.wrap_i64]; omega
        have hxi : (x : Int) < 16 := by omega
        have HSS : Hid (∀ W : World, Keep [] wr W → W.cell? ⟨g, o + s, none⟩ = some (.int .i64 (x : Nat)) ∧ W.cell? ⟨gd, 2 + x, none⟩ = some (.int .i64 (B : Nat))) := Lib.hid (fun W k2 => ⟨(k2.cell (p := ⟨g, o + s, none⟩) hgwr (by simp)).trans d1, (k2.cell (p := ⟨gd, 2 + x, none⟩) hgdr (by simp)).trans m1⟩)
        have hS10 := HSS.out _ ((Keep.refl [] wr).drew)
        clear hI hB hkp hmem hc1 hle hlg hx hset Ho3 HH
        go_wp2_with fail
        refine wp_region_G (fun W => W.cell? ⟨g, o + s, none⟩ = some (.int .i64 (x : Nat)) ∧ W.cell? ⟨gd, 2 + x, none⟩ = some (.int .i64 (B : Nat))) [13] #[false, false, false, false, false, false, false, false, false, false, false, false, false, false] 14 (by kernel_rfl) (by kernel_rfl) (by kernel_rfl) ?_
        refine wpAnyG_take0 (i := 0) (oi := { dst := some 37, op := Go.Op.move (Go.Operand.tmp 10), type := 65, pos := "huff.go:226", after := #[], guard := none }) (v := ?vg1_0) rfl (by kernel_rfl) (by kernel_rfl) (by kernel_rfl) (by kernel_rfl) (fun _ _ _ h => h) (fun _ => hS10) (Or.inl ⟨by rfl, ?hg1_0⟩) ?_
        case hg1_0 => intro w _; go_simp; (try with_reducible rfl)
        try simp only [Act.put, List.setIfInBounds_toArray, List.set_cons_zero, List.set_cons_succ]
        refine wpAnyG_take0 (i := 1) (oi := { dst := some 38, op := Go.Op.move (Go.Operand.tmp 0), type := 22, pos := "huff.go:226", after := #[], guard := none }) (v := ?vg1_1) rfl (by kernel_rfl) (by kernel_rfl) (by kernel_rfl) (by kernel_rfl) (fun _ _ _ h => h) (fun _ => hS10) (Or.inl ⟨by rfl, ?hg1_1⟩) ?_
        case hg1_1 => intro w _; go_simp; (try with_reducible rfl)
        try simp only [Act.put, List.setIfInBounds_toArray, List.set_cons_zero, List.set_cons_succ]
        refine wpAnyG_take0 (i := 2) (oi := { dst := some 39, op := Go.Op.move (Go.Operand.tmp 12), type := 3, pos := "huff.go:226", after := #[], guard := none }) (v := ?vg1_2) rfl (by kernel_rfl) (by kernel_rfl) (by kernel_rfl) (by kernel_rfl) (fun _ _ _ h => h) (fun _ => hS10) (Or.inl ⟨by rfl, ?hg1_2⟩) ?_
        case hg1_2 => intro w _; go_simp; (try with_reducible rfl)
        try simp only [Act.put, List.setIfInBounds_toArray, List.set_cons_zero, List.set_cons_succ]
        refine wpAnyG_take0 (i := 3) (oi := { dst := some 40, op := Go.Op.indexAddr 22 (Go.Operand.tmp 38) (Go.Operand.tmp 39), type := 0, pos := "huff.go:226", after := #[{ on := 1, ground := Go.Ground.data }, { on := 2, ground := Go.Ground.data }], guard := none }) (v := ?vg1_3) rfl (by kernel_rfl) (by kernel_rfl) (by kernel_rfl) (by kernel_rfl) (fun _ _ _ h => h) (fun _ => hS10) (Or.inl ⟨by rfl, ?hg1_3⟩) ?_
        case hg1_3 => intro w _; go_simp; (try with_reducible rfl)
        try simp only [Act.put, List.setIfInBounds_toArray, List.set_cons_zero, List.set_cons_succ]
        refine wpAnyG_take (i := 4) (oi := { dst := some 41, op := Go.Op.load 3 (Go.Operand.tmp 40), type := 3, pos := "huff.go:226", after := #[{ on := 3, ground := Go.Ground.data }], guard := none }) (v := ?vg1_4) [4, 7, 8, 9, 12, 13] rfl (by kernel_rfl) (by kernel_rfl) (by kernel_rfl) (by kernel_rfl) (by kernel_rfl) (fun _ _ _ h => h) (fun _ => hS10) (Or.inl ⟨by rfl, ?hg1_4⟩) ?_
        case hg1_4 => intro w hSw; (try dsimp only at hSw); go_simp; (try with_reducible rfl)
        try simp only [Act.put, List.setIfInBounds_toArray, List.set_cons_zero, List.set_cons_succ]
        refine wpAnyG_take0 (i := 5) (oi := { dst := some 42, op := Go.Op.nilCheck (Go.Operand.tmp 37), type := 0, pos := "huff.go:226", after := #[{ on := 0, ground := Go.Ground.data }], guard := none }) (v := ?vg1_5) rfl (by kernel_rfl) (by kernel_rfl) (by kernel_rfl) (by kernel_rfl) (fun _ _ _ h => h) (fun _ => hS10) (Or.inl ⟨by rfl, ?hg1_5⟩) ?_
        case hg1_5 => intro w _; go_simp; (try with_reducible rfl)
        try simp only [Act.put, List.setIfInBounds_toArray, List.set_cons_zero, List.set_cons_succ]
        refine wpAnyG_take0 (i := 6) (oi := { dst := some 43, op := Go.Op.fieldAddr 67 (Go.Operand.tmp 42) 2, type := 0, pos := "huff.go:226", after := #[{ on := 5, ground := Go.Ground.data }], guard := none }) (v := ?vg1_6) rfl (by kernel_rfl) (by kernel_rfl) (by kernel_rfl) (by kernel_rfl) (fun _ _ _ h => h) (fun _ => hS10) (Or.inl ⟨by rfl, ?hg1_6⟩) ?_
        case hg1_6 => intro w _; go_simp; (try with_reducible rfl)
        try simp only [Act.put, List.setIfInBounds_toArray, List.set_cons_zero, List.set_cons_succ]
        refine wpAnyG_take0 (i := 7) (oi := { dst := some 44, op := Go.Op.indexAddr 60 (Go.Operand.tmp 43) (Go.Operand.tmp 41), type := 0, pos := "huff.go:226", after := #[{ on := 6, ground := Go.Ground.data }, { on := 4, ground := Go.Ground.data }], guard := none }) (v := ?vg1_7) rfl (by kernel_rfl) (by kernel_rfl) (by kernel_rfl) (by kernel_rfl) (fun _ _ _ h => h) (fun _ => hS10) (Or.inl ⟨by rfl, ?hg1_7⟩) ?_
        case hg1_7 => intro w _; go_simp; (try with_reducible rfl)
        try simp only [Act.put, List.setIfInBounds_toArray, List.set_cons_zero, List.set_cons_succ]
        refine wpAnyG_take (i := 8) (oi := { dst := some 45, op := Go.Op.load 3 (Go.Operand.tmp 44), type := 3, pos := "huff.go:226", after := #[{ on := 7, ground := Go.Ground.data }], guard := none }) (v := ?vg1_8) [8, 9, 12, 13] rfl (by kernel_rfl) (by kernel_rfl) (by kernel_rfl) (by kernel_rfl) (by kernel_rfl) (fun _ _ _ h => h) (fun _ => hS10) (Or.inl ⟨by rfl, ?hg1_8⟩) ?_
        case hg1_8 => intro w hSw; (try dsimp only at hSw); go_simp; (try with_reducible rfl)
        try simp only [Act.put, List.setIfInBounds_toArray, List.set_cons_zero, List.set_cons_succ]
        refine wpAnyG_take0 (i := 9) (oi := { dst := some 46, op := Go.Op.binOp Go.BinOp.add 3 (Go.Operand.tmp 45) (Go.Operand.const (Go.Value.int Go.IntKind.i64 1)) 3, type := 3, pos := "huff.go:226", after := #[{ on := 8, ground := Go.Ground.data }], guard := none }) (v := ?vg1_9) rfl (by kernel_rfl) (by kernel_rfl) (by kernel_rfl) (by kernel_rfl) (fun _ _ _ h => h) (fun _ => hS10) (Or.inl ⟨by rfl, ?hg1_9⟩) ?_
        case hg1_9 => intro w _; go_simp; (try with_reducible rfl)
        try simp only [Act.put, List.setIfInBounds_toArray, List.set_cons_zero, List.set_cons_succ]
        refine wpAnyG_take0 (i := 10) (oi := { dst := some 47, op := Go.Op.nilCheck (Go.Operand.tmp 37), type := 0, pos := "huff.go:226", after := #[{ on := 0, ground := Go.Ground.data }], guard := none }) (v := ?vg1_10) rfl (by kernel_rfl) (by kernel_rfl) (by kernel_rfl) (by kernel_rfl) (fun _ _ _ h => h) (fun _ => hS10) (Or.inl ⟨by rfl, ?hg1_10⟩) ?_
        case hg1_10 => intro w _; go_simp; (try with_reducible rfl)
        try simp only [Act.put, List.setIfInBounds_toArray, List.set_cons_zero, List.set_cons_succ]
        refine wpAnyG_take0 (i := 11) (oi := { dst := some 48, op := Go.Op.fieldAddr 67 (Go.Operand.tmp 47) 2, type := 0, pos := "huff.go:226", after := #[{ on := 10, ground := Go.Ground.data }], guard := none }) (v := ?vg1_11) rfl (by kernel_rfl) (by kernel_rfl) (by kernel_rfl) (by kernel_rfl) (fun _ _ _ h => h) (fun _ => hS10) (Or.inl ⟨by rfl, ?hg1_11⟩) ?_
        case hg1_11 => intro w _; go_simp; (try with_reducible rfl)
        try simp only [Act.put, List.setIfInBounds_toArray, List.set_cons_zero, List.set_cons_succ]
        refine wpAnyG_take0 (i := 12) (oi := { dst := some 49, op := Go.Op.indexAddr 60 (Go.Operand.tmp 48) (Go.Operand.tmp 41), type := 0, pos := "huff.go:226", after := #[{ on := 11, ground := Go.Ground.data }, { on := 4, ground := Go.Ground.data }, { on := 0, ground := Go.Ground.phase }, { on := 1, ground := Go.Ground.phase }, { on := 2, ground := Go.Ground.phase }, { on := 3, ground := Go.Ground.phase }, { on := 4, ground := Go.Ground.phase }, { on := 5, ground := Go.Ground.phase }, { on := 6, ground := Go.Ground.phase }, { on := 7, ground := Go.Ground.phase }, { on := 8, ground := Go.Ground.phase }, { on := 9, ground := Go.Ground.phase }], guard := none }) (v := ?vg1_12) rfl (by kernel_rfl) (by kernel_rfl) (by kernel_rfl) (by kernel_rfl) (fun _ _ _ h => h) (fun _ => hS10) (Or.inl ⟨by rfl, ?hg1_12⟩) ?_
        case hg1_12 => intro w _; go_simp; (try with_reducible rfl)
        try simp only [Act.put, List.setIfInBounds_toArray, List.set_cons_zero, List.set_cons_succ]
        refine wpAnyG_step (i := 13) (oi := { dst := none, op := Go.Op.store 3 (Go.Operand.tmp 49) (Go.Operand.tmp 46), type := 0, pos := "huff.go:226", after := #[{ on := 12, ground := Go.Ground.data }, { on := 9, ground := Go.Ground.data }, { on := 0, ground := Go.Ground.phase }, { on := 1, ground := Go.Ground.phase }, { on := 2, ground := Go.Ground.phase }, { on := 3, ground := Go.Ground.phase }, { on := 4, ground := Go.Ground.phase }, { on := 5, ground := Go.Ground.phase }, { on := 6, ground := Go.Ground.phase }, { on := 7, ground := Go.Ground.phase }, { on := 8, ground := Go.Ground.phase }, { on := 9, ground := Go.Ground.phase }], guard := none }) rfl (by kernel_rfl) (by rfl) (fun K hK => ?_)
        go_simp
        refine hK _ _ (fun h => absurd h (Bool.eq_false_iff.1 (by kernel_rfl))) (fun _ => ?_)
        clear hK
        try simp only [Act.put, List.setIfInBounds_toArray, List.set_cons_zero, List.set_cons_succ]
        refine wpAnyG_done (by kernel_rfl) ?_ _
        go_wp2_with fail
        have HN2 := HN.out
        rw [show ((B + 1 : Nat) : Int) = (B : Int) + 1 by simp] at HN2
        exact ⟨⟨k + 1, by simp, by omega, Lib.hid ⟨HN2.1.drew, HN2.2.drew⟩⟩, by simp [intOf]; omega⟩
    · obtain rfl : k = (ord ls).length := by omega
      obtain ⟨w4, hw4⟩ : ∃ w4, w4 = wr := ⟨_, rfl⟩
      have H4 : Hid (DL w3 gd (.slice AB bl.length cB) (.slice AO (ord ls).length cO) 0 (byK ls (ord ls).length) (dst ls bl 0).1 none 0 wr) := Lib.hid ⟨hI.out.1, World.ownsRow_nil _ _ _ _, hI.out.2⟩
      clear hI hw4
      go_wp2_with fail
      go_loopw [13, 52] (fun vl vk wr => ∃ (k at_ : Nat) (A9 : Option Addr) (c9 : Nat), vl = .slice A9 k c9 ∧ vk = .int .i64 k ∧ k ≤ n ∧ at_ ≤ 80000 ∧ k ≤ 80000 ∧
        Hid ((k = (dst ls bl k).1.length ∧ at_ = (dst ls bl k).2) ∧ DL w3 gd (.slice AB bl.length cB) (.slice AO (ord ls).length cO) at_ (byK ls (ord ls).length) (dst ls bl k).1 A9 c9 wr ∧ ∀ j, j < k → one ls bl (dst ls bl j).2 ≠ none)) (fun _ vk _ => 80001 - (intOf vk).toNat)
      case atStart => exact ⟨0, 0, none, 0, rfl, rfl, by omega, by omega, by omega, Lib.hid ⟨⟨rfl, rfl⟩, H4.out, fun j hj => by omega⟩⟩
      case round =>
        obtain ⟨k, at_, A9, c9, rfl, rfl, hkn, hat, hk8, hI⟩ := hrel
        clear H4
        rcases Nat.lt_or_ge k n with hlt | hge
        · as_aux_lemma =>
            obtain ⟨⟨hkl2, hate⟩, ⟨hB, hown, hkp⟩, hall⟩ := hI.out
            have hgd := Hgd.out
            have hO := next_any ls bl AB AO cB cO _ gd at_ wr (deco_of hB (fun m h1 h2 => byK_all h1)) (ownsRow_keep Ho3.out hkp (fun i hi hm => by simp at hm; subst hm; exact hgd.2.2 hi)) hgd.2.2
              (Hb.out.keep2 ((Hk3.out.mono (by simp)).trans hkp) (fun j hj => by simp at hj; omega)) Hok.out hbl hat
            have hlti : (k : Int) < n := by omega
            have hbd := dst_bounds (ls := ls) (b := bl) k hall
            have hwk : IntKind.i64.wrap ((k : Int) + 1) = (k : Int) + 1 := by rw [IntKind.wrap_i64]; omega
            cases hx : one ls bl at_ with
            | none =>
              rw [hx] at hO
              have HO := Lib.hid hO
              have HR := Lib.hid (show DecP ls bl n [] at_ 52 from .inr ⟨k, hlt, hall, by rw [← hate]; exact hx, rfl, hate, rfl⟩)
              have HK := Lib.hid (Hk3.out.step hkp (fun i hi => by simp at hi; right; omega))
              have r1 : wr.cell? ⟨gd, 1, none⟩ = some (.int .i64 (at_ : Nat)) := (hB.cell 1).trans (decA_at _ _ _ _).2.1
              clear hI hkl2 hate hB hown hkp hall hO hx hbd hgd
              go_wp2_with (go_at_call 37; refine HO.out.mono ?_; unfold NextE; rintro e w5 ⟨rfl, rfl⟩)
              go_quiet (fail)
              go_wp2_with fail
              go_ret3
              exact ⟨[], at_, 52, HR.out, none, 0, rfl, World.ownsRow_nil _ _ _ _, HK.out.drewN _⟩
            | some p =>
              obtain ⟨s, m⟩ := p
              rw [hx] at hO
              have hsp := one_spec hx
              have hd := dst_some (ls := ls) (b := bl) (k := k) (by rw [← hate]; exact hx)
              obtain ⟨w5, hw5⟩ : ∃ w5, w5 = wr.setCell ⟨gd, 1, none⟩ (.int .i64 ((at_ + m : Nat) : Int)) := ⟨_, rfl⟩
              have hk5 : Keep [gd] wr w5 := by rw [hw5]; exact (Keep.refl [gd] wr).setCell (.inl (by simp)) _
              have hB5 : Blk w5 gd 67 (decA (.slice AB bl.length cB) (.slice AO (ord ls).length cO) (at_ + m) (byK ls (ord ls).length)) := by
                rw [hw5, ← decA_set1 _ _ at_ (at_ + m)]
                exact hB.set_ 1 _
              have hown5 : w5.ownsRow w3.heap.size 3 1 (.slice A9 (dst ls bl k).1.length c9) (dst ls bl k).1.length (inN (dst ls bl k).1) := ownsRow_keep hown hk5 (fun i hi hm => by
                simp at hm
                subst hm
                have := (hown.lt _ hi).1
                omega)
              have hkp5 : Keep [gd] w3 w5 := hkp.trans hk5
              obtain ⟨A2, c2, w6, hap, hown6, hk6, _⟩ := free_append hown5 s (by omega) hkp5.size
              have hF6 : ∀ j, j ∈ (Value.slice A9 (dst ls bl k).1.length c9).ownBlock.toList → w3.heap.size ≤ j := fun j hj => (hown5.lt j (by simpa using hj)).1
              rw [← hkl2, show ((dst ls bl k).1 ++ [s]).length = k + 1 by rw [List.length_append, ← hkl2]; rfl] at hap
              have HN : Hid ((k + 1 = (dst ls bl (k + 1)).1.length ∧ at_ + m = (dst ls bl (k + 1)).2) ∧ DL w3 gd (.slice AB bl.length cB) (.slice AO (ord ls).length cO) (at_ + m) (byK ls (ord ls).length) (dst ls bl (k + 1)).1 A2 c2 w6 ∧ ∀ j, j < k + 1 → one ls bl (dst ls bl j).2 ≠ none) := by
                rw [hd]
                refine Lib.hid ⟨⟨by simp [← hkl2], by rw [hate]⟩, ⟨hB5.keep hk6 (fun hm => by have := hF6 _ hm; omega), hown6, hkp5.step hk6 (fun j hj => .inr (hF6 j hj))⟩, fun j hj => ?_⟩
                rcases Nat.lt_succ_iff_lt_or_eq.1 hj with h1 | rfl
                · exact hall j h1
                · rw [← hate, hx]; simp
              have hatm : at_ + m ≤ 80000 := by omega
              have hk1 : k + 1 ≤ 80000 := by omega
              have HO := Lib.hid (hO.mono (R' := fun e w' => e = .returned (.tuple #[.int .i64 (s : Nat), .bool true]) ∧ w5 = w') (fun e w' h => ⟨h.1, by rw [hw5]; exact h.2.symm⟩))
              have Hap := Lib.hid hap
              clear hI hkl2 hate hB hown hkp hall hO hx hbd hgd hsp hd hw5 hk5 hB5 hown5 hkp5 hown6 hk6 hF6 hap
              have hap := Hap.out
              go_wp2_with (first
                | (go_at_call 37; refine HO.out.mono ?_; rintro e w' ⟨rfl, rfl⟩)
                | (at_builtin; refine wpList_append2 (v1 := .slice A9 k c9) (v2 := .slice (some ⟨w5.heap.size, 0, none⟩) 1 1) rfl (.tmp 65) (.tmp 67) rfl rfl rfl hap ?_))
              exact ⟨⟨k + 1, at_ + m, A2, c2, rfl, by simp, by omega, hatm, hk1, HN⟩, by simp [intOf]; omega⟩
        · obtain rfl : k = n := by omega
          obtain ⟨⟨hkl2, hate⟩, ⟨hB, hown, hkp⟩, hall⟩ := hI.out
          have HR := Lib.hid (show DecP ls bl k (dst ls bl k).1 at_ 0 from .inl ⟨hall, rfl, hate, rfl⟩)
          have HK := Lib.hid (Hk3.out.step hkp (fun i hi => by have := Hgd.out.1; simp at hi; right; omega))
          have hown' : wr.ownsRow w3.heap.size 3 1 (.slice A9 k c9) k (inN (dst ls bl k).1) := by
            have := hown
            rwa [← hkl2] at this
          have HO := Lib.hid (own_le hown' Hk3.out.size)
          have Hkl := Lib.hid hkl2
          have r1 : wr.cell? ⟨gd, 1, none⟩ = some (.int .i64 (at_ : Nat)) := (hB.cell 1).trans (decA_at _ _ _ _).2.1
          clear hI hkl2 hate hB hown hown' hkp hall
          go_wp2_with fail
          go_quiet (fail)
          go_wp2_with fail
          go_ret3
          refine ⟨_, at_, 0, HR.out, A9, c9, by rw [← Hkl.out]; rfl, ?_, HK.out.drewN _⟩
          rw [← Hkl.out]
          exact HO.out
end Go.Proofs.Ytknjjodkpknglaa
