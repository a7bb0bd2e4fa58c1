/- The reference's Encode, walked. -/
import Derived.Test.YtknjjodkpknglaaB1
set_option linter.unusedVariables false
set_option linter.unusedSimpArgs false
namespace Go.Proofs.Ytknjjodkpknglaa
open Go.RowKit Go.Sal Go.Huf
theorem own_src {w : World} {base e size n c : Nat} {A : Option Addr} {xs : List Value} (h : w.ownsRow base e size (.slice A n c) n xs) : Src w size A n xs := by
  refine ⟨h.1, fun h0 => ?_⟩
  obtain ⟨g, rfl, _, _⟩ := own_some h h0
  exact ⟨_, rfl, h.cells (g := g) rfl⟩
theorem bools_append {base b0 n m c c2 : Nat} {A A2 : Option Addr} {f l2 : List Bool} {w : World} (h : w.ownsRow base 4 1 (.slice A n c) n (inL f)) (h2 : w.ownsRow b0 4 1 (.slice A2 m c2) m (inL l2)) (hn2 : n + m ≤ 10000000) (hB : base ≤ w.heap.size) :
    ∃ A' c' w', (Builtin.append_ #[42, 42] 42 #[.slice A n c, .slice A2 m c2]).run Try.prog w = .ok (.slice A' (n + m) c') w' ∧
      w'.ownsRow base 4 1 (.slice A' (n + m) c') (n + m) (inL (f ++ l2)) ∧ Keep (Value.slice A n c).ownBlock.toList w w' := by
  obtain ⟨v', w', hrun, hown, hg, hat⟩ := run_append_src (P := Try.prog) w 42 42 4 (.bool false) 1 1 base Try.underlying42 boolinfo rfl (by omega) (.slice A n c) n (inL f) h
    A2 m c2 (inL l2) (own_src h2) (inL_one l2) (by unfold maxLen; omega) (by omega) hB
  obtain ⟨A', c', rfl, _⟩ := own_slice hown
  exact ⟨A', c', w', hrun, by simpa [inL] using hown, (Keep.refl _ w).grown hg (fun k hk => .inl (by simp [hk]))⟩
theorem rencode_bad (ls : List Int) (A : Option Addr) (c : Nat) (V : Value) (w : World) (hs : ISrc w A ls) (hn : ls.length ≤ 100000000) (h : ¬ okL ls) :
    Calls Try.prog 18 #[.slice A ls.length c, V] w fun e w' => e = .returned (.tuple #[.slice none 0 0, .int .i64 0, .int .i64 51]) ∧ w = w' := by
  have Hc := Lib.hid (rcodes_bad ls A c w hs hn h)
  clear hs h
  go_enter Try.func18, Try.ntmps18
  go_wp2_with (go_at_call 23; refine Hc.out.mono ?_; rintro e w' ⟨rfl, rfl⟩)
  go_ret3
  exact ⟨rfl, rfl⟩
structure REI (w : World) (ls : List Int) (AC : Option Addr) (cC : Nat) (l : List Bool) (A : Option Addr) (c : Nat) (wr : World) : Prop where
  own : wr.ownsRow w.heap.size 4 1 (.slice A l.length c) l.length (inL l)
  cod : wr.ownsRow w.heap.size 44 1 (.slice AC ls.length cC) ls.length (inU (codesL ls))
  kp : Keep [] w wr
theorem REI.code {w wr : World} {ls : List Int} {AC A : Option Addr} {cC c : Nat} {l : List Bool} (h : REI w ls AC cC l A c wr) {s : Nat} (hs : s < ls.length) : ∃ g, AC = some ⟨g, 0, none⟩ ∧ g < wr.heap.size ∧ wr.cell? ⟨g, s, none⟩ = some (.int .u16 (codeV ls s : Nat)) := by
  obtain ⟨g, rfl, h1, h2⟩ := own_some h.cod (by omega)
  have := inU_cell h.cod (i := s) (by rw [codesL_len]; omega)
  refine ⟨g, rfl, h1, ?_⟩
  rw [this.1]
  simp [codesL]
/-- a symbol's bits made, and laid behind -/
theorem REI.bits {w wr : World} {ls : List Int} {AC A : Option Addr} {cC c : Nat} {l : List Bool} (h : REI w ls AC cC l A c wr) {cv L : Nat} (hc : cv < 65536) (hL : L ≤ 15) (hl : l.length ≤ 1000000) :
    Calls Try.prog 22 #[.int .u16 (cv : Nat), .int .i64 (L : Nat)] wr.drew fun e w' => ∃ AO, e = .returned (.slice AO L L) ∧ Keep [] wr w' ∧ ∃ A' c' w'', (Builtin.append_ #[42, 42] 42 #[.slice A l.length c, .slice AO L L]).run Try.prog w' = .ok (.slice A' (l ++ bitsK cv L).length c') w'' ∧
      REI w ls AC cC (l ++ bitsK cv L) A' c' w'' := by
  refine (rbits_any cv L wr.drew hc (by omega)).mono ?_
  rintro e w' ⟨AO, rfl, hown, hk⟩
  have hk' : Keep [] wr w' := hk.of_drew
  have ho := ownsRow_keep h.own hk' (by simp)
  have hb : w.heap.size ≤ w'.heap.size := Nat.le_trans h.kp.size hk'.size
  obtain ⟨A', c', w'', hrun, hown2, hk2⟩ := bools_append ho hown (by omega) hb
  have hll : l.length + L = (l ++ bitsK cv L).length := by rw [List.length_append, bitsK_len]
  rw [hll] at hrun hown2
  refine ⟨AO, rfl, hk', A', c', w'', hrun, hown2, ?_, (h.kp.trans hk').step hk2 (fun j hj => .inr (ho.lt j (by simpa using hj)).1)⟩
  refine ownsRow_keep (ownsRow_keep h.cod hk' (by simp)) hk2 (fun i hi hm => ?_)
  have hm' : (Value.slice A l.length c).ownBlock = some i := by simpa using hm
  exact own_ne_own h.cod h.own (by decide) hi hm'

set_option maxRecDepth 20000 in
set_option maxHeartbeats 4000000 in
theorem rencode_any (ls ss : List Int) (A As : Option Addr) (c cs : Nat) (w : World) (hs : ISrc w A ls) (hss : ISrc w As ss) (hm : ss.length ≤ 10000) (h : okL ls) :
    Calls Try.prog 18 #[.slice A ls.length c, .slice As ss.length cs] w fun e w' => EncP w ls ss e w' := by
  have hl5 := h.1
  have Hc := Lib.hid (rcodes_ok ls A c w hs h)
  have Hs := Lib.hid hs
  have Hss := Lib.hid hss
  have Hok := Lib.hid h
  clear hs hss h
  go_enter Try.func18, Try.ntmps18
  go_wp2_with (go_at_call 23; refine Hc.out.mono ?_; rintro e w1 ⟨AC, cC, rfl, hown1, hk1⟩; have H0 := Lib.hid (REI.mk (A := none) (c := 0) (l := []) (World.ownsRow_nil _ _ _ _) hown1 hk1); clear hown1 hk1)
  have hb0 : (bitsOf ls (ss.take 0)) = [] := by rw [List.take_zero]; simp [bitsOf]
  go_loopw [9, 10] (fun b i wr => ∃ (k : Nat) (A9 : Option Addr) (c9 : Nat), i = .int .i64 k ∧ k ≤ ss.length ∧ b = .slice A9 (bitsOf ls (ss.take k)).length c9 ∧
    Hid (REI w ls AC cC (bitsOf ls (ss.take k)) A9 c9 wr ∧ ∀ j (h : j < ss.length), j < k → okS ls ss[j])) (fun _ i _ => ss.length - (intOf i).toNat)
  case atStart => exact ⟨0, none, 0, rfl, by omega, by rw [hb0]; rfl, by rw [hb0]; exact Lib.hid ⟨H0.out, fun j h hj => by omega⟩⟩
  case round =>
    obtain ⟨k, A9, c9, rfl, hk, rfl, hI⟩ := hrel
    clear H0
    rcases Nat.lt_or_ge k ss.length with hkl | hkl
    · as_aux_lemma =>
        obtain ⟨hR, hall⟩ := hI.out
        have hkp := hR.kp
        obtain ⟨gs, os, rfl, hgs, hcs⟩ := Hss.out k hkl
        have d0 := (hkp.cell (p := ⟨gs, os + k, none⟩) hgs (by simp)).trans hcs
        have Hbad := Lib.hid (show ¬ okS ls ss[k] → ¬ ∀ s ∈ ss, okS ls s from fun hb h => hb (h _ (List.getElem_mem hkl)))
        have Hkp := Lib.hid hkp
        have Hst := Lib.hid (show okS ls ss[k] → ∀ j (h : j < ss.length), j < k + 1 → okS ls ss[j] from fun hb j h hj => by
          rcases Nat.lt_succ_iff_lt_or_eq.1 hj with h1 | rfl
          · exact hall j h h1
          · exact hb)
        have htk : ss.take (k + 1) = ss.take k ++ [ss[k]] := List.take_succ_eq_append_getElem hkl
        have hwk : IntKind.i64.wrap ((k : Int) + 1) = (k : Int) + 1 := by rw [IntKind.wrap_i64]; omega
        have hbl := bitsOf_len Hok.out.2.1 (ss.take k)
        rw [List.length_take, Nat.min_eq_left (by omega)] at hbl
        have HI := Lib.hid hR
        have hki : (k : Int) < ss.length := by omega
        generalize hB : bitsOf ls (ss.take k) = B at *
        generalize ss[k] = x at *
        clear hI hR hkp hall hcs
        by_cases h1 : x < 0
        · have hb := Lib.hid (Hbad.out (fun h => by have := h.1; omega))
          clear htk hB
          go_wp2
          go_ret3
          exact .inr ⟨hb.out, rfl, Hkp.out⟩
        · obtain ⟨s, rfl⟩ : ∃ s : Nat, x = s := ⟨x.toNat, by omega⟩
          by_cases h2 : s < ls.length
          · obtain ⟨gl, ol, rfl, hgl, hcl⟩ := Hs.out s h2
            have d1 := (Hkp.out.cell (p := ⟨gl, ol + s, none⟩) hgl (by simp)).trans hcl
            have hlg := ln_good Hok.out.2.1 s
            have hle := ln_eq h2
            have h2i : ¬ (ls.length : Int) ≤ s := by omega
            have h2i' : (s : Int) < ls.length := by omega
            by_cases h3 : ls[s] = 0
            · have hb := Lib.hid (Hbad.out (fun h => by have := h.2.2; rw [Int.toNat_natCast, hle] at this; exact this h3))
              rw [h3] at d1
              clear htk hB hle hcl h3
              go_wp2
              go_ret3
              exact .inr ⟨hb.out, rfl, Hkp.out⟩
            · have h3n : (ls[s] == 0) = false := by simpa using h3
              have hok : okS ls s := ⟨by omega, by omega, by rw [Int.toNat_natCast, hle]; exact h3⟩
              have HSt := Lib.hid (Hst.out hok)
              obtain ⟨L, hL⟩ : ∃ L : Nat, ls[s] = L := ⟨ls[s].toNat, by omega⟩
              have hsb : symBits ls s = bitsK (codeV ls s) L := by unfold symBits; rw [Int.toNat_natCast, hle, hL, Int.toNat_natCast]
              have hnx : bitsOf ls (ss.take (k + 1)) = B ++ bitsK (codeV ls s) L := by rw [htk, bitsOf_snoc, hB, hsb]
              have Hnx := Lib.hid hnx
              have hcv := codeV_small Hok.out h2
              have HBt := Lib.hid (HI.out.bits (cv := codeV ls s) (L := L) (by omega) (by omega) (by omega))
              obtain ⟨gc, rfl, hgc, m3⟩ := HI.out.code h2
              rw [hL] at d1 h3n
              generalize codeV ls s = cv at *
              have hgl2 : gl < wr.heap.size := Nat.lt_of_lt_of_le hgl Hkp.out.size
              have HSS : Hid (∀ W : World, Keep [] wr W → W.cell? ⟨gc, s, none⟩ = some (.int .u16 (cv : Nat)) ∧ W.cell? ⟨gl, ol + s, none⟩ = some (.int .i64 (L : Nat))) := Lib.hid (fun W k => ⟨(k.cell (p := ⟨gc, s, none⟩) hgc (by simp)).trans m3, (k.cell (p := ⟨gl, ol + s, none⟩) hgl2 (by simp)).trans d1⟩)
              have hS11 := HSS.out _ ((Keep.refl [] wr).drew)
              clear htk hB hle hcl h3 hsb hnx hL Hbad Hst hok hlg m3 HI
              go_wp2_with fail
              refine wp_region_G (fun W => W.cell? ⟨gc, s, none⟩ = some (.int .u16 (cv : Nat)) ∧ W.cell? ⟨gl, ol + s, none⟩ = some (.int .i64 (L : Nat))) [10, 11] #[false, false, false, false, false, false, false, false, false, false, false, false] 12 (by kernel_rfl) (by kernel_rfl) (by kernel_rfl) ?_
              refine wpAnyG_take0 (i := 0) (oi := { dst := some 45, op := Go.Op.move (Go.Operand.tmp 9), type := 42, pos := "ref.go:212", after := #[], guard := none }) (v := ?vg1_0) rfl (by kernel_rfl) (by kernel_rfl) (by kernel_rfl) (by kernel_rfl) (fun _ _ _ h => h) (fun _ => hS11) (Or.inl ⟨by rfl, ?hg1_0⟩) ?_
              case hg1_0 => intro w _; go_simp; (try with_reducible rfl)
              try simp only [Act.put, List.setIfInBounds_toArray, List.set_cons_zero, List.set_cons_succ]
              refine wpAnyG_take0 (i := 1) (oi := { dst := some 46, op := Go.Op.move (Go.Operand.tmp 7), type := 39, pos := "ref.go:212", after := #[], guard := none }) (v := ?vg1_1) rfl (by kernel_rfl) (by kernel_rfl) (by kernel_rfl) (by kernel_rfl) (fun _ _ _ h => h) (fun _ => hS11) (Or.inl ⟨by rfl, ?hg1_1⟩) ?_
              case hg1_1 => intro w _; go_simp; (try with_reducible rfl)
              try simp only [Act.put, List.setIfInBounds_toArray, List.set_cons_zero, List.set_cons_succ]
              refine wpAnyG_take0 (i := 2) (oi := { dst := some 47, op := Go.Op.move (Go.Operand.tmp 11), type := 3, pos := "ref.go:212", after := #[], guard := none }) (v := ?vg1_2) rfl (by kernel_rfl) (by kernel_rfl) (by kernel_rfl) (by kernel_rfl) (fun _ _ _ h => h) (fun _ => hS11) (Or.inl ⟨by rfl, ?hg1_2⟩) ?_
              case hg1_2 => intro w _; go_simp; (try with_reducible rfl)
              try simp only [Act.put, List.setIfInBounds_toArray, List.set_cons_zero, List.set_cons_succ]
              refine wpAnyG_take0 (i := 3) (oi := { dst := some 48, op := Go.Op.indexAddr 39 (Go.Operand.tmp 46) (Go.Operand.tmp 47), type := 0, pos := "ref.go:212", after := #[{ on := 1, ground := Go.Ground.data }, { on := 2, ground := Go.Ground.data }], guard := none }) (v := ?vg1_3) rfl (by kernel_rfl) (by kernel_rfl) (by kernel_rfl) (by kernel_rfl) (fun _ _ _ h => h) (fun _ => hS11) (Or.inl ⟨by rfl, ?hg1_3⟩) ?_
              case hg1_3 => intro w _; go_simp; (try with_reducible rfl)
              try simp only [Act.put, List.setIfInBounds_toArray, List.set_cons_zero, List.set_cons_succ]
              refine wpAnyG_take (i := 4) (oi := { dst := some 49, op := Go.Op.load 44 (Go.Operand.tmp 48), type := 44, pos := "ref.go:212", after := #[{ on := 3, ground := Go.Ground.data }], guard := none }) (v := ?vg1_4) [4, 9, 10, 11] rfl (by kernel_rfl) (by kernel_rfl) (by kernel_rfl) (by kernel_rfl) (by kernel_rfl) (fun _ _ _ h => h) (fun _ => hS11) (Or.inl ⟨by rfl, ?hg1_4⟩) ?_
              case hg1_4 => intro w hSw; (try dsimp only at hSw); go_simp; (try with_reducible rfl)
              try simp only [Act.put, List.setIfInBounds_toArray, List.set_cons_zero, List.set_cons_succ]
              refine wpAnyG_take0 (i := 5) (oi := { dst := some 50, op := Go.Op.move (Go.Operand.tmp 0), type := 22, pos := "ref.go:212", after := #[], guard := none }) (v := ?vg1_5) rfl (by kernel_rfl) (by kernel_rfl) (by kernel_rfl) (by kernel_rfl) (fun _ _ _ h => h) (fun _ => hS11) (Or.inl ⟨by rfl, ?hg1_5⟩) ?_
              case hg1_5 => intro w _; go_simp; (try with_reducible rfl)
              try simp only [Act.put, List.setIfInBounds_toArray, List.set_cons_zero, List.set_cons_succ]
              refine wpAnyG_take0 (i := 6) (oi := { dst := some 51, op := Go.Op.move (Go.Operand.tmp 11), type := 3, pos := "ref.go:212", after := #[], guard := none }) (v := ?vg1_6) rfl (by kernel_rfl) (by kernel_rfl) (by kernel_rfl) (by kernel_rfl) (fun _ _ _ h => h) (fun _ => hS11) (Or.inl ⟨by rfl, ?hg1_6⟩) ?_
              case hg1_6 => intro w _; go_simp; (try with_reducible rfl)
              try simp only [Act.put, List.setIfInBounds_toArray, List.set_cons_zero, List.set_cons_succ]
              refine wpAnyG_take0 (i := 7) (oi := { dst := some 52, op := Go.Op.indexAddr 22 (Go.Operand.tmp 50) (Go.Operand.tmp 51), type := 0, pos := "ref.go:212", after := #[{ on := 5, ground := Go.Ground.data }, { on := 6, ground := Go.Ground.data }], guard := none }) (v := ?vg1_7) rfl (by kernel_rfl) (by kernel_rfl) (by kernel_rfl) (by kernel_rfl) (fun _ _ _ h => h) (fun _ => hS11) (Or.inl ⟨by rfl, ?hg1_7⟩) ?_
              case hg1_7 => intro w _; go_simp; (try with_reducible rfl)
              try simp only [Act.put, List.setIfInBounds_toArray, List.set_cons_zero, List.set_cons_succ]
              refine wpAnyG_take (i := 8) (oi := { dst := some 53, op := Go.Op.load 3 (Go.Operand.tmp 52), type := 3, pos := "ref.go:212", after := #[{ on := 7, ground := Go.Ground.data }], guard := none }) (v := ?vg1_8) [8, 9, 10, 11] rfl (by kernel_rfl) (by kernel_rfl) (by kernel_rfl) (by kernel_rfl) (by kernel_rfl) (fun _ _ _ h => h) (fun _ => hS11) (Or.inl ⟨by rfl, ?hg1_8⟩) ?_
              case hg1_8 => intro w hSw; (try dsimp only at hSw); go_simp; (try with_reducible rfl)
              try simp only [Act.put, List.setIfInBounds_toArray, List.set_cons_zero, List.set_cons_succ]
              refine wpAnyG_step (i := 9) (oi := { dst := some 54, op := Go.Op.call { callee := Go.Callee.value (Go.Operand.func 22), args := #[Go.Operand.tmp 49, Go.Operand.tmp 53], argTypes := #[44, 3] }, type := 42, pos := "ref.go:212", after := #[{ on := 4, ground := Go.Ground.data }, { on := 8, ground := Go.Ground.data }], guard := none }) rfl (by kernel_rfl) (by rfl) (fun K hK => ?_)
              go_simp
              go_at_call 22
              refine HBt.out.mono ?_
              rintro e w3 ⟨AO3, rfl, hk3, A4, c4, w4, hap, hre⟩
              have Hk3 := Lib.hid hk3
              have Hap := Lib.hid hap
              have HRE := Lib.hid hre
              clear hk3 hap hre
              refine hK _ _ ?_ (fun hSg1_9 => ?_)
              · intro _; exact HSS.out _ Hk3.out
              replace hSg1_9 := hSg1_9 (by kernel_rfl)
              clear hK
              try simp only [Act.put, List.setIfInBounds_toArray, List.set_cons_zero, List.set_cons_succ]
              refine wpAnyG_step (i := 10) (oi := { dst := some 55, op := Go.Op.call { callee := Go.Callee.builtin Go.Builtin.append, args := #[Go.Operand.tmp 45, Go.Operand.tmp 54], argTypes := #[42, 42] }, type := 42, pos := "ref.go:212", after := #[{ on := 0, ground := Go.Ground.data }, { on := 9, ground := Go.Ground.data }, { on := 9, ground := Go.Ground.chain }], guard := none }) rfl (by kernel_rfl) (by rfl) (fun K hK => ?_)
              have hap := Hap.out
              refine wp_append2 (v1 := .slice A9 B.length c9) (v2 := .slice AO3 L L) (.tmp 45) (.tmp 54) rfl rfl rfl hap ?_
              refine hK _ _ (fun h => absurd h (Bool.eq_false_iff.1 (by kernel_rfl))) (fun _ => ?_)
              clear hK
              try simp only [Act.put, List.setIfInBounds_toArray, List.set_cons_zero, List.set_cons_succ]
              refine wpAnyG_step (i := 11) (oi := { dst := some 9, op := Go.Op.assign (Go.Operand.tmp 55), type := 42, pos := "ref.go:212", after := #[{ on := 10, ground := Go.Ground.data }, { on := 10, ground := Go.Ground.chain }, { on := 0, ground := Go.Ground.phase }, { on := 1, ground := Go.Ground.phase }, { on := 2, ground := Go.Ground.phase }, { on := 3, ground := Go.Ground.phase }, { on := 4, ground := Go.Ground.phase }, { on := 5, ground := Go.Ground.phase }, { on := 6, ground := Go.Ground.phase }, { on := 7, ground := Go.Ground.phase }, { on := 8, ground := Go.Ground.phase }, { on := 9, ground := Go.Ground.phase }, { on := 10, ground := Go.Ground.phase }], guard := none }) rfl (by kernel_rfl) (by rfl) (fun K hK => ?_)
              go_simp
              refine hK _ _ (fun h => absurd h (Bool.eq_false_iff.1 (by kernel_rfl))) (fun _ => ?_)
              clear hK
              try simp only [Act.put, List.setIfInBounds_toArray, List.set_cons_zero, List.set_cons_succ]
              refine wpAnyG_done (by kernel_rfl) ?_ _
              go_wp2_with fail
              exact ⟨⟨k + 1, _, _, by simp, by omega, by rw [Hnx.out, List.length_append], by rw [Hnx.out]; exact Lib.hid ⟨HRE.out, HSt.out⟩⟩, by simp [intOf]; omega⟩
          · have hb := Lib.hid (Hbad.out (fun h => by have := h.2.1; omega))
            have h2i : (ls.length : Int) ≤ s := by omega
            clear htk hB
            go_wp2
            go_ret3
            exact .inr ⟨hb.out, rfl, Hkp.out⟩
    · obtain rfl : k = ss.length := by omega
      rw [List.take_length] at hI
      have hall : ∀ s ∈ ss, okS ls s := fun s hs => by
        obtain ⟨j, hj, rfl⟩ := List.mem_iff_getElem.1 hs
        exact hI.out.2 j hj hj
      have Hall := Lib.hid hall
      have hbl := bitsOf_len Hok.out.2.1 ss
      have HP := Lib.hid (rpack_any (bitsOf ls ss) A9 c9 _ wr hI.out.1.own (by omega))
      have HK := Lib.hid hI.out.1.kp
      rw [List.take_length]
      clear hI hall
      generalize hBo : bitsOf ls ss = B at *
      have HBo := Lib.hid hBo
      clear hBo
      go_wp2_with (go_at_call 34; refine HP.out.mono ?_; rintro e w4 ⟨AO, cO, rfl, hown4, hk4⟩; have H4 := Lib.hid (And.intro hown4 hk4); clear hown4 hk4)
      go_ret3
      refine .inl ⟨Hall.out, AO, cO, by rw [HBo.out]; rfl, ?_, HK.out.trans H4.out.2⟩
      rw [HBo.out]
      exact own_le H4.out.1 HK.out.size
end Go.Proofs.Ytknjjodkpknglaa
