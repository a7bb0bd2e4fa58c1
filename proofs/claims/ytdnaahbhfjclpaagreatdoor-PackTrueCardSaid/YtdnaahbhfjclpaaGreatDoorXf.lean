/- A hash's digest, walked. -/
import Derived.Test.YtdnaahbhfjclpaaGreatDoorXd
set_option linter.unusedVariables false
set_option linter.unusedSimpArgs false
namespace Go.Proofs.YtdnaahbhfjclpaaGreatDoor
open Go.RowKit Go.Sal Go.Pck Go.Huf Go.Cod
structure HtS (w : World) (g : Nat) (s L : List Nat) (v : Value) (n : Nat) (cur rest : List Nat) (A : Option Addr) (c : Nat) (wr : World) : Prop where
  blk : Blk wr g 118 (hashC cur v n).toArray
  src : BySrc wr A rest
  ne : ∀ a, A = some a → a.block ≠ g
  kp : Keep [g] w wr
  cap : rest.length ≤ c
  len : rest.length ≤ L.length
  same : tak cur rest = tak s L
  s8 : cur.length = 8
  s32 : w32 cur
theorem HtS.go {w wr w4 : World} {g n c : Nat} {s L cur rest : List Nat} {v : Value} {A : Option Addr} (h : HtS w g s L v n cur rest A c wr) (h64 : 64 ≤ rest.length) (k : Keep [] wr w4) :
    ∃ A', (if c = 64 then A else A.map (·.add (64 * 1))) = A' ∧ HtS w g s L v n (stepS cur (rest.take 64)) (rest.drop 64) A' (c - 64) (w4.setCells g 0 (inW (stepS cur (rest.take 64)))) := by
  refine ⟨_, rfl, ?_⟩
  have hb := h.blk.keep k (by simp)
  have hblt := hb.lt
  have hblk := hash_setS h.s8 (stepS_len cur (rest.take 64)) hb
  have hkp : Keep [g] w (w4.setCells g 0 (inW (stepS cur (rest.take 64)))) := keep_setCells (.inl (by simp)) _ 0 _ (h.kp.trans (k.mono (by simp)))
  have hkr : Keep [g] wr (w4.setCells g 0 (inW (stepS cur (rest.take 64)))) := keep_setCells (.inl (by simp)) _ 0 _ (k.mono (by simp))
  obtain ⟨ga, o, rfl, -⟩ := h.src.1 0 (by omega)
  have hsrc := h.src.keep hkr (fun a ha => by simpa using h.ne a ha)
  refine ⟨hblk, ⟨fun i hi => ?_, fun x hx => h.src.2 x (List.mem_of_mem_drop hx)⟩, fun a ha => ?_, hkp, by rw [List.length_drop]; have := h.cap; omega, by rw [List.length_drop]; have := h.len; omega, by rw [← h.same, ← tak_go h64], stepS_len _ _, stepS_w _ _⟩
  · rw [List.length_drop] at hi
    have hc64 : c ≠ 64 := by have := h.cap; omega
    obtain ⟨g', o', e, hg, hc⟩ := hsrc.1 (64 + i) (by omega)
    injection e with e
    injection e with e1 e2
    subst e1; subst e2
    exact ⟨ga, o + 64, by rw [if_neg hc64]; simp [add_mk], hg, by rw [Nat.add_assoc, hc, List.getElem_drop]⟩
  · split at ha
    · exact h.ne a ha
    · obtain rfl : (⟨ga, o, none⟩ : Addr).add (64 * 1) = a := by simpa using ha
      rw [add_block]
      exact h.ne _ rfl
def sLen : Value → Nat
  | .slice _ n _ => n
  | _ => 0
theorem quiet_load_mid {P : Program} {op : Oper} {a : Act} {w : World} (ty : TypeId) (x : Operand) (ho : op.op = .load ty x)
    (b o : Nat) (hx : a.eval x = .pointer (some ⟨b, o, none⟩)) (cs : List Value) (d : TypeDesc) (hc : w.rangeAt b o cs)
    (hu : P.underlying ty = some d) (hd : d.isRow = true) (hi : (P.info? ty).map (·.size) = some cs.length) : op.quietAt P a (fun w' => w' = w) w (.agg cs.toArray) := by
  unfold Oper.quietAt execOp
  simp only [ho, hx, Instr.loadAt, Instr.sureAddr, Sem.run_bind, Sem.run_pure, Result.andThen_ok, run_loadVar_mid w b o ty cs d hc hu hd hi]
  exact ⟨rfl, rfl⟩
set_option maxRecDepth 20000 in
set_option maxHeartbeats 2000000 in
theorem take_any (s l b : List Nat) (n g c : Nat) (B : Option Addr) (w : World) (hH : HashIs w g s l n) (hb : BySrc w B b) (hBg : ∀ a, B = some a → a.block ≠ g) (hl : l.length ≤ 100000) (hbl : b.length ≤ 100000) (hn : n ≤ 1000000000) :
    Calls Tryz.prog 41 #[.pointer (some ⟨g, 0, none⟩), .slice B b.length c] w fun e w' => e = .returned (.tuple #[]) ∧ HashIs w' g (tak s (l ++ b)).1 (tak s (l ++ b)).2 (n + b.length) ∧ Keep [g] w w' := by
  obtain ⟨A, ca, hblk, hA, hAg, hs8, hs32⟩ := hH
  have c8 := hash_cell8 hs8 hblk
  have c9 := hash_cell9 hs8 hblk
  have f8 := hblk.free 8
  have f9 := hblk.free 9
  have hg := hblk.lt
  obtain ⟨m, hm⟩ : ∃ m, m = n + b.length := ⟨_, rfl⟩
  have hwm : IntKind.u64.wrap ((n : Int) + (b.length : Int)) = (m : Int) := by rw [IntKind.wrap_u64]; omega
  have hwb : IntKind.u64.wrap (b.length : Int) = (b.length : Int) := by rw [IntKind.wrap_u64]; omega
  rw [← hm]
  clear hm
  obtain ⟨w1, hw1⟩ : ∃ w1, w.setCell ⟨g, 9, none⟩ (.int .u64 (m : Int)) = w1 := ⟨_, rfl⟩
  have k1 : Keep [g] w w1 := by rw [← hw1]; exact (Keep.refl _ w).setCell (.inl (by simp)) _
  have hblk1 : Blk w1 g 118 (hashC s (.slice A l.length ca) m).toArray := by rw [← hw1]; exact hash_set9 hs8 hblk
  have hA1 : BySrc w1 A l := hA.keep k1 (fun a ha => by simpa using (hAg a ha).1)
  have hB1 : BySrc w1 B b := hb.keep k1 (fun a ha => by simpa using hBg a ha)
  have HC := Lib.hid (clone_any l A ca w1 hA1 (by omega))
  have d8 := hash_cell8 hs8 hblk1
  have Hw1 := Lib.hid hw1
  have H1 := Lib.hid (And.intro k1 (And.intro hblk1 (And.intro hB1 (And.intro hBg (And.intro hs8 hs32)))))
  have Hlen := Lib.hid (And.intro hl hbl)
  have hlb := Lib.hid hA.2
  clear hw1 k1 hblk1 hA1 hB1 hblk hA hAg hb hBg hs8 hs32 hl hbl
  go_enter Tryz.func41, Tryz.ntmps41
  go_upto_region 1 with (fail)
  rw [Hw1.out]
  clear c8 c9 f8 f9 hwm hwb
  go_wp2_with (first
    | (go_at_call 60; refine HC.out.mono ?_; rintro e w2 ⟨A2, c2, rfl, ho2, hk2⟩; obtain ⟨A3, c3, w3, k3, hk3, hrun3, HO3⟩ := bytes_app' (d := c) ho2 (bsrc_src (H1.out.2.2.1.keep hk2 (by simp))) (Nat.le_trans Hlen.out.1 (by omega)) (Nat.le_trans Hlen.out.2 (by omega)) hk2.size; have HH := Lib.hid (And.intro hk3 (And.intro HO3 (And.intro ho2 hk2))); clear HO3 hk3 ho2 hk2)
    | (at_builtin; refine wpList_append2 (v1 := .slice A2 l.length c2) (v2 := .slice B b.length c) rfl (.tmp 19) (.tmp 20) rfl rfl rfl hrun3 ?_))
  have H0 : Hid (k3 = (l ++ b).length ∧ HtS w g s (l ++ b) (.slice A l.length ca) m s (l ++ b) A3 c3 w3) := Lib.hid (by
    obtain ⟨hk3, ⟨ho3, hkp3⟩, ho2, hk2⟩ := HH.out
    obtain ⟨k1, hblk1, hB1, hBg, hs8, hs32⟩ := H1.out
    have hL : (l ++ b).length = k3 := by rw [List.length_append, hk3]
    have hg1 := hblk1.lt
    have kk : Keep [] w1 w3 := hk2.step hkp3 (fun i hi => .inr (own_far ho2 i hi))
    refine ⟨hL.symm, hblk1.keep kk (by simp), bsrc_own ho3 (fun x hx => ?_), fun a ha => ?_, k1.trans (kk.mono (by simp)), by rw [hL]; exact own_cap' ho3, Nat.le_refl _, rfl, hs8, hs32⟩
    · rcases List.mem_append.1 hx with hx | hx
      · exact hlb.out x hx
      · exact hB1.2 x hx
    · subst ha
      have := (ho3.lt a.block rfl).1
      omega)
  have hk3e := H0.out.1
  subst hk3e
  have H0 := Lib.hid H0.out.2
  clear HH H1 HC d8 Hlen Hw1 hrun3
  generalize hL : l ++ b = L at *
  have HL := Lib.hid hL
  generalize hV : Value.slice A l.length ca = V at *
  clear hV hL
  go_loopw [4] (fun v4 wr => ∃ (cur rest : List Nat) (A' : Option Addr) (c' : Nat), v4 = .slice A' rest.length c' ∧ Hid (HtS w g s L V m cur rest A' c' wr)) (fun v4 _ => sLen v4)
  case atStart => exact ⟨s, L, A3, c3, rfl, H0⟩
  case round =>
    obtain ⟨cur, rest, A', c', rfl, hI⟩ := hrel
    clear H0
    rcases Nat.lt_or_ge rest.length 64 with h64 | h64
    · as_aux_lemma =>
        have hS := hI.out
        have hlt : ¬ ((64 : Int) ≤ (rest.length : Int)) := by omega
        have HC := Lib.hid (clone_any rest A' c' wr hS.src (by omega))
        have hte := hS.same
        rw [tak_end h64] at hte
        have hg := hS.blk.lt
        have HF : Hid (∀ (A2 : Option Addr) (c2 : Nat) w', w'.ownsRow wr.heap.size 5 1 (.slice A2 rest.length c2) rest.length (inB rest) → Keep [] wr w' → (w'.frozen? ⟨g, 8, none⟩ = false ∧ w'.cell? ⟨g, 8, none⟩ = some V) ∧ HashIs (w'.setCell ⟨g, 8, none⟩ (.slice A2 rest.length c2)) g (tak s L).1 (tak s L).2 m ∧ Keep [g] w (w'.setCell ⟨g, 8, none⟩ (.slice A2 rest.length c2))) := Lib.hid (fun A2 c2 w' ho hk => by
          have hb := hS.blk.keep hk (by simp)
          have hne : ∀ a, A2 = some a → a.block ≠ g ∧ a.block < (w'.setCell ⟨g, 8, none⟩ (.slice A2 rest.length c2)).heap.size := fun a ha => by
            subst ha
            have h1 := (ho.lt a.block rfl).1
            have h2 := (ho.lt a.block rfl).2
            exact ⟨by omega, by simpa [World.setCell] using h2⟩
          refine ⟨⟨hb.free 8, hash_cell8 hS.s8 hb⟩, ⟨A2, c2, ?_, ?_, hne, ?_, ?_⟩, (hS.kp.trans (hk.mono (by simp))).setCell (.inl (by simp)) _⟩
          · rw [← hte]; exact hash_set8 hS.s8 hb
          · rw [← hte]
            exact (bsrc_own ho hS.src.2).keep ((Keep.refl [g] w').setCell (.inl (by simp)) _) (fun a ha => by simpa using (hne a ha).1)
          · rw [← hte]; exact hS.s8
          · rw [← hte]; exact hS.s32)
        have hg2 : g < wr.heap.size := hg
        clear hI hS hte
        go_wp2_with (go_at_call 60; refine HC.out.mono ?_; rintro e w4 ⟨A4, c4, rfl, ho4, hk4⟩; obtain ⟨⟨f8, d8⟩, hF2⟩ := HF.out A4 c4 w4 ho4 hk4; have HF2 := Lib.hid hF2; have hgs := Nat.lt_of_lt_of_le hg2 hk4.size; clear HF hF2 ho4 hk4)
        refine bodyPost_end (results_none rfl _ _ _) rfl ?_
        rw [HL.out]
        exact ⟨rfl, HF2.out.1, HF2.out.2⟩
    · as_aux_lemma =>
        have hS := hI.out
        have hge : (64 : Int) ≤ (rest.length : Int) := by omega
        obtain ⟨ga, o, rfl, -⟩ := hS.src.1 0 (by omega)
        have hs1 : ∀ W, (Instr.slice 22 (.slice (some ⟨ga, o, none⟩) rest.length c') none (some (.int .i64 64)) none).run Tryz.prog W = .ok (.slice (some ⟨ga, o, none⟩) 64 c') W :=
          fun W => slice_head (P := Tryz.prog) 22 5 Tryz.underlying22 (some ⟨ga, o, none⟩) rest.length c' 64 (by have := hS.cap; omega) W 1 (by kernel_rfl)
        have ht0 := fun W => slice_tail (P := Tryz.prog) 22 5 Tryz.underlying22 (some ⟨ga, o, none⟩) rest.length c' 64 h64 W 1 (by kernel_rfl)
        obtain ⟨A2, hA2⟩ : ∃ A2, (if c' = 64 then some (⟨ga, o, none⟩ : Addr) else (some (⟨ga, o, none⟩ : Addr)).map (·.add (64 * 1))) = A2 := ⟨_, rfl⟩
        rw [hA2] at ht0
        have HG : Hid (∀ w4, Keep [] wr w4 → HtS w g s L V m (stepS cur (rest.take 64)) (rest.drop 64) A2 (c' - 64) (w4.setCells g 0 (inW (stepS cur (rest.take 64))))) := Lib.hid (fun w4 k => by
          obtain ⟨A3, e1, e2⟩ := hS.go h64 k
          rw [hA2] at e1
          subst e1
          exact e2)
        have ht1 : ∀ W, (Instr.slice 22 (.slice (some ⟨ga, o, none⟩) rest.length c') (some (.int .i64 64)) none none).run Tryz.prog W = .ok (.slice A2 (rest.drop 64).length (c' - 64)) W := fun W => by
          rw [List.length_drop]; exact ht0 W
        have HC := Lib.hid (fun W => step_any cur (rest.take 64) W hS.s8 hS.s32 (by rw [List.length_take]; omega) (fun x hx => hS.src.2 x (List.mem_of_mem_take hx)))
        have hr1 : ∀ W, Keep [] wr W → W.rangeAt g 0 (inW cur) := fun W k => rangeAt_blk0 (hS.blk.keep k (by simp))
        have hr2 : ∀ W, Keep [] wr W → W.rangeAt ga o (inB (rest.take 64)) := fun W k => rangeAt_src (hS.src.keep k (fun a _ => by simp)) 64
        have hz1 : (Tryz.prog.info? 115).map (·.size) = some (inW cur).length := by rw [size115, inW_len, hS.s8]
        have hz2 : (Tryz.prog.info? 120).map (·.size) = some (inB (rest.take 64)).length := by rw [size120, inB_len, List.length_take]; congr 1; omega
        have hth : Hid (∀ w4, Keep [] wr w4 → w4.there g 0 8) := Lib.hid (fun w4 k => there_blk (hS.blk.keep k (by simp)) 0 8 (by have := inW_len cur; have := hS.s8; simp [hashC]; omega))
        have harr : ∀ W, (Instr.arrayAt 120 (.slice (some ⟨ga, o, none⟩) 64 c')).run Tryz.prog W = .ok (.pointer (some ⟨ga, o, none⟩)) W := fun W => by simp [Instr.arrayAt, run_underlying Tryz.underlying120]
        have HE : Hid ((inW (stepS cur (rest.take 64))).toArray.size = 8 ∧ (inW (stepS cur (rest.take 64))).toArray.all (·.oneCell') = true) := Lib.hid ⟨by simp [inW, stepS_len], all_oneCell_toArray (inW_one _)⟩
        have hm2 : (rest.drop 64).length < rest.length := by rw [List.length_drop]; omega
        unfold enc32 at HC
        generalize stepS cur (rest.take 64) = cur2 at *
        generalize rest.drop 64 = rest2 at *
        generalize inW cur = C1 at *
        generalize inB (rest.take 64) = C2 at *
        clear hS hI ht0 hA2
        go_upto_region 3 with (fail)
        refine wp_region_G (fun W => Keep [] wr W) [12] #[false, false, false, false, false, false, false, false, false, false, false, false, false] 13 (by kernel_rfl) (by kernel_rfl) (by kernel_rfl) ?_
        refine wpAnyG_take0 (i := 0) (oi := ⟨_, _, _, _, _, _⟩) (v := ?vg1_0) rfl (by kernel_rfl) (by kernel_rfl) (by kernel_rfl) (by kernel_rfl) (fun _ _ _ h => h) (fun _ => ((Keep.refl [] wr).drew)) (Or.inl ⟨by rfl, ?hg1_0⟩) ?_
        case hg1_0 => intro w _; go_simp; (try with_reducible rfl)
        try simp only [Act.put, List.setIfInBounds_toArray, List.set_cons_zero, List.set_cons_succ]
        refine wpAnyG_take0 (i := 1) (oi := ⟨_, _, _, _, _, _⟩) (v := ?vg1_1) rfl (by kernel_rfl) (by kernel_rfl) (by kernel_rfl) (by kernel_rfl) (fun _ _ _ h => h) (fun _ => ((Keep.refl [] wr).drew)) (Or.inl ⟨by rfl, ?hg1_1⟩) ?_
        case hg1_1 => intro w _; go_simp; (try with_reducible rfl)
        try simp only [Act.put, List.setIfInBounds_toArray, List.set_cons_zero, List.set_cons_succ]
        refine wpAnyG_take0 (i := 2) (oi := ⟨_, _, _, _, _, _⟩) (v := ?vg1_2) rfl (by kernel_rfl) (by kernel_rfl) (by kernel_rfl) (by kernel_rfl) (fun _ _ _ h => h) (fun _ => ((Keep.refl [] wr).drew)) (Or.inl ⟨by rfl, ?hg1_2⟩) ?_
        case hg1_2 => intro w _; go_simp; (try with_reducible rfl)
        try simp only [Act.put, List.setIfInBounds_toArray, List.set_cons_zero, List.set_cons_succ]
        refine wpAnyG_take0 (i := 3) (oi := ⟨_, _, _, _, _, _⟩) (v := ?vg1_3) rfl (by kernel_rfl) (by kernel_rfl) (by kernel_rfl) (by kernel_rfl) (fun _ _ _ h => h) (fun _ => ((Keep.refl [] wr).drew)) (Or.inl ⟨by rfl, ?hg1_3⟩) ?_
        case hg1_3 => intro w _; go_simp; (try with_reducible rfl)
        try simp only [Act.put, List.setIfInBounds_toArray, List.set_cons_zero, List.set_cons_succ]
        refine wpAnyG_take (i := 4) (oi := ⟨_, _, _, _, _, _⟩) (v := (.agg C1.toArray)) [4, 9, 10, 11, 12] rfl (by kernel_rfl) (by kernel_rfl) (by kernel_rfl) (by kernel_rfl) (by kernel_rfl) (fun _ _ _ h => h) (fun _ => ((Keep.refl [] wr).drew)) (Or.inl ⟨by rfl, ?hg1_4⟩) ?_
        case hg1_4 => intro w hSw; (try dsimp only at hSw); exact quiet_load_mid 115 (.tmp 28) rfl g 0 rfl C1 _ (hr1 _ hSw) Tryz.underlying115 rfl hz1
        try simp only [Act.put, List.setIfInBounds_toArray, List.set_cons_zero, List.set_cons_succ]
        refine wpAnyG_take0 (i := 5) (oi := ⟨_, _, _, _, _, _⟩) (v := ?vg1_5) rfl (by kernel_rfl) (by kernel_rfl) (by kernel_rfl) (by kernel_rfl) (fun _ _ _ h => h) (fun _ => ((Keep.refl [] wr).drew)) (Or.inl ⟨by rfl, ?hg1_5⟩) ?_
        case hg1_5 => intro w _; go_simp; (try with_reducible rfl)
        try simp only [Act.put, List.setIfInBounds_toArray, List.set_cons_zero, List.set_cons_succ]
        refine wpAnyG_take0 (i := 6) (oi := ⟨_, _, _, _, _, _⟩) (v := ?vg1_6) rfl (by kernel_rfl) (by kernel_rfl) (by kernel_rfl) (by kernel_rfl) (fun _ _ _ h => h) (fun _ => ((Keep.refl [] wr).drew)) (Or.inl ⟨by rfl, ?hg1_6⟩) ?_
        case hg1_6 => intro w _; go_simp; (try with_reducible rfl)
        try simp only [Act.put, List.setIfInBounds_toArray, List.set_cons_zero, List.set_cons_succ]
        refine wpAnyG_take0 (i := 7) (oi := ⟨_, _, _, _, _, _⟩) (v := ?vg1_7) rfl (by kernel_rfl) (by kernel_rfl) (by kernel_rfl) (by kernel_rfl) (fun _ _ _ h => h) (fun _ => ((Keep.refl [] wr).drew)) (Or.inl ⟨by rfl, ?hg1_7⟩) ?_
        case hg1_7 => intro w _; go_simp; (try with_reducible rfl)
        try simp only [Act.put, List.setIfInBounds_toArray, List.set_cons_zero, List.set_cons_succ]
        refine wpAnyG_take (i := 8) (oi := ⟨_, _, _, _, _, _⟩) (v := (.agg C2.toArray)) [8, 9, 10, 11, 12] rfl (by kernel_rfl) (by kernel_rfl) (by kernel_rfl) (by kernel_rfl) (by kernel_rfl) (fun _ _ _ h => h) (fun _ => ((Keep.refl [] wr).drew)) (Or.inl ⟨by rfl, ?hg1_8⟩) ?_
        case hg1_8 => intro w hSw; (try dsimp only at hSw); exact quiet_load_mid 120 (.tmp 32) rfl ga o rfl C2 _ (hr2 _ hSw) Tryz.underlying120 rfl hz2
        try simp only [Act.put, List.setIfInBounds_toArray, List.set_cons_zero, List.set_cons_succ]
        refine wpAnyG_step (i := 9) (oi := ⟨_, _, _, _, _, _⟩) rfl (by kernel_rfl) (by rfl) (fun K hK => ?_)
        go_simp
        go_at_call 76
        refine (HC.out _).mono ?_
        rintro e w4 ⟨rfl, hk4⟩
        refine hK _ _ ?_ (fun hSg1_9 => ?_)
        · intro _; exact hk4.of_drew
        replace hSg1_9 := hSg1_9 (by kernel_rfl)
        clear hK
        try simp only [Act.put, List.setIfInBounds_toArray, List.set_cons_zero, List.set_cons_succ]
        refine wpAnyG_take0 (i := 10) (oi := ⟨_, _, _, _, _, _⟩) (v := ?vg1_10) rfl (by kernel_rfl) (by kernel_rfl) (by kernel_rfl) (by kernel_rfl) (fun _ _ _ h => h) (fun _ => hSg1_9) (Or.inl ⟨by rfl, ?hg1_10⟩) ?_
        case hg1_10 => intro w _; go_simp; (try with_reducible rfl)
        try simp only [Act.put, List.setIfInBounds_toArray, List.set_cons_zero, List.set_cons_succ]
        refine wpAnyG_take0 (i := 11) (oi := ⟨_, _, _, _, _, _⟩) (v := ?vg1_11) rfl (by kernel_rfl) (by kernel_rfl) (by kernel_rfl) (by kernel_rfl) (fun _ _ _ h => h) (fun _ => hSg1_9) (Or.inl ⟨by rfl, ?hg1_11⟩) ?_
        case hg1_11 => intro w _; go_simp; (try with_reducible rfl)
        try simp only [Act.put, List.setIfInBounds_toArray, List.set_cons_zero, List.set_cons_succ]
        refine wpAnyG_step (i := 12) (oi := ⟨_, _, _, _, _, _⟩) rfl (by kernel_rfl) (by rfl) (fun K hK => ?_)
        refine wp_store_mid 115 (.tmp 36) (.tmp 34) rfl g 0 (inW cur2).toArray rfl rfl (by rw [HE.out.1]; exact hth.out _ hSg1_9) (by rw [HE.out.1]; exact size115) HE.out.2 ?_
        refine hK _ _ (fun h => absurd h (Bool.eq_false_iff.1 (by kernel_rfl))) (fun _ => ?_)
        clear hK
        try simp only [Act.put, List.setIfInBounds_toArray, List.set_cons_zero, List.set_cons_succ]
        refine wpAnyG_done (by kernel_rfl) ?_ _
        have HN := Lib.hid (HG.out _ hSg1_9)
        generalize w4.setCells g 0 (inW cur2) = w5 at *
        go_wp2
        exact ⟨⟨cur2, rest2, A2, c' - 64, rfl, HN⟩, by simpa [sLen] using hm2⟩
end Go.Proofs.YtdnaahbhfjclpaaGreatDoor

namespace Go.Sal
open Go.RowKit
section
variable {P : Program} {o : Oper} {a : Act} {w w' : World} {Q : Exit → Act → World → Prop} {t1 t2 : TypeId} {v1 v2 r : Value}
theorem wpList_copy2 {ops : Array Oper} {rest : List Oper} (hgd : o.guard = none) (s x : Operand) (ho : o.op = .call { callee := .builtin .copy, args := #[s, x], argTypes := #[t1, t2] })
    (hs : a.eval s = v1) (hx : a.eval x = v2) (hrun : (Builtin.copy_ #[t1, t2] o.type #[v1, v2]).run P w = .ok r w') (h : wpList P ops Q rest (a.put o.dst r) w') : wpList P ops Q (o :: rest) a w :=
  wpList_plain hgd fun K hK => by
    unfold Oper.wp execOp
    simp only [ho, resolve, invoke, builtin, Sem.run_bind, Sem.run_pure, Result.andThen_ok, List.map_toArray, List.map_cons, List.map_nil, hs, hx, hrun]
    exact hK _ _ h
end
end Go.Sal
namespace Go.Pck
def digR (s : List Nat) (k : Nat) : List Nat := digB (s.take k) ++ List.replicate (32 - 4 * k) 0
theorem digR_zero (s : List Nat) : digR s 0 = List.replicate 32 0 := by simp [digR, digB]
theorem digR_all {s : List Nat} (h : s.length = 8) : digR s 8 = digB s := by simp [digR, List.take_of_length_le (show s.length ≤ 8 by omega)]
theorem digR_len {s : List Nat} (h : s.length = 8) {k : Nat} (hk : k ≤ 8) : (digR s k).length = 32 := by
  simp [digR, digB_len, List.length_take, h]; omega
theorem digR_succ {s : List Nat} (h : s.length = 8) {k : Nat} (hk : k < 8) : (digR s k).take (4 * k) ++ be4 (s.getD k 0) ++ (digR s k).drop (4 * k + 4) = digR s (k + 1) := by
  have h1 : (digB (s.take k)).length = 4 * k := by rw [digB_len, List.length_take, h]; omega
  have h2 : digB (s.take (k + 1)) = digB (s.take k) ++ be4 (s.getD k 0) := by
    have hk2 : k < s.length := by omega
    unfold digB
    rw [List.take_succ_eq_append_getElem hk2, List.flatMap_append]
    simp [List.getD, hk2]
  unfold digR
  rw [h2]
  generalize be4 (s.getD k 0) = q
  have h3 : 4 * k + 4 = (digB (s.take k)).length + 4 := by omega
  have h4 : List.take (4 * k) (digB (s.take k) ++ List.replicate (32 - 4 * k) 0) = digB (s.take k) := by rw [← h1]; exact List.take_left
  rw [h4, h3, List.drop_append, List.drop_of_length_le (by omega), List.nil_append, List.drop_replicate, show 32 - 4 * k - ((digB (s.take k)).length + 4 - (digB (s.take k)).length) = 32 - 4 * (k + 1) by omega]
end Go.Pck
namespace Go.Proofs.YtdnaahbhfjclpaaGreatDoor
open Go.RowKit Go.Sal Go.Pck Go.Huf Go.Cod
def Z32 : Array Value := (inB (List.replicate 32 0)).toArray
theorem info44 : (Tryz.prog.info? 44).map (fun i => (i.zero, i.size)) = some (some (.agg Z32), 32) := by kernel_rfl
theorem zero44 (w : World) : (zeroValue 44).run Tryz.prog w = .ok (.agg Z32) w := (zero_of_info info44).1 w
theorem size44 : (Tryz.prog.info? 44).map (·.size) = some 32 := (zero_of_info info44).2
def Z118 : Array Value := (inW (List.replicate 8 0) ++ [Value.slice none 0 0, Value.int .u64 0, Value.bool false]).toArray
theorem info118 : (Tryz.prog.info? 118).map (fun i => (i.zero, i.size)) = some (some (.agg Z118), 11) := by kernel_rfl
theorem zero118 (w : World) : (zeroValue 118).run Tryz.prog w = .ok (.agg Z118) w := (zero_of_info info118).1 w
theorem hashC_len {s : List Nat} (h : s.length = 8) (v : Value) (n : Nat) : (hashC s v n).length = 11 := by simp [hashC, inW_len, h]
theorem hashC_one (s : List Nat) (A : Option Addr) (l c n : Nat) : ∀ u ∈ hashC s (.slice A l c) n, u.oneCell' = true := by
  intro u hu
  rcases List.mem_append.1 hu with hu | hu
  · exact inW_one s u hu
  · simp at hu
    rcases hu with rfl | rfl | rfl <;> rfl
structure EnS (w : World) (b0 d : Nat) (Z : Array Value) (X : List Nat) (wr : World) : Prop where
  k0 : Blk wr b0 44 Z
  kd : Blk wr d 44 (inB X).toArray
  kp : Keep [] w wr
theorem EnS.copy {w wr w7 : World} {b0 d k c : Nat} {Z : Array Value} {S : List Nat} {A : Option Addr} (h : EnS w b0 d Z (digR S k) wr) (hS : S.length = 8) (hk : k < 8) (h1 : b0 ≠ d) (h2 : w.heap.size ≤ d) (k7 : Keep [] wr w7)
    (ho : w7.ownsRow wr.heap.size 5 1 (.slice A 4 c) 4 (inB (be4 (S.getD k 0)))) :
    ∃ w8, (Builtin.copy_ #[22, 22] 3 #[.slice (some ⟨d, 4 * k, none⟩) (32 - 4 * k) (32 - 4 * k), .slice A 4 c]).run Tryz.prog w7 = .ok (.int .i64 4) w8 ∧ EnS w b0 d Z (digR S (k + 1)) w8 := by
  obtain ⟨a, rfl, hc⟩ := (Src.of_own ho).2 (by omega)
  have hd := h.kd.keep k7 (by simp)
  have h0 := h.k0.keep k7 (by simp)
  have hl : (inB (be4 (S.getD k 0))).length = 4 := by rw [inB_len]; rfl
  have hr := run_copy_row (P := Tryz.prog) w7 22 22 3 5 d (4 * k) (32 - 4 * k) (32 - 4 * k) a 4 c _ 44 (inB (be4 (S.getD k 0))) Tryz.underlying22 (by kernel_rfl) hd (by rw [hl]; show 4 = min 4 (32 - 4 * k); omega) hc
    (by rw [hl]; simp [inB_len, digR_len hS (show k ≤ 8 by omega)]; omega) (inB_one _)
  rw [hl] at hr
  have e : ((inB (digR S k)).toArray.toList.take (4 * k) ++ inB (be4 (S.getD k 0)) ++ (inB (digR S k)).toArray.toList.drop (4 * k + 4)) = inB (digR S (k + 1)) := by
    rw [← digR_succ hS hk]
    simp [inB, List.map_append, List.map_take, List.map_drop]
  rw [e] at hr
  exact ⟨_, hr, (setRow_other w7 d _ _ h1).trans h0, setRow_heap w7 d _ _ 44 (0, 0) hd, keep_setRow (h.kp.trans k7) h2 hd⟩
set_option maxRecDepth 20000 in
set_option maxHeartbeats 1000000 in
theorem end_any (s l : List Nat) (n g : Nat) (w : World) (hH : HashIs w g s l n) (hl : l.length ≤ 100000) (hn : n ≤ 1000000) :
    Calls Tryz.prog 42 #[.pointer (some ⟨g, 0, none⟩)] w fun e w' => e = .returned (.agg (inB (digB (tak s (l ++ padB n)).1)).toArray) ∧ Keep [] w w' := by
  have z1 := zero44
  have z2 := zero118
  have hZ : Hid (Z32 = (inB (digR (List.replicate 8 0) 0)).toArray ∧ Z32.size = 32 ∧ Z118.size = 11) := Lib.hid ⟨by rw [digR_zero]; rfl, rfl, rfl⟩
  generalize Z32 = Z at *
  generalize Z118 = ZH at *
  obtain ⟨A, ca, hblk, hA, hAg, hs8, hs32⟩ := hH
  have hg := hblk.lt
  obtain ⟨w1, hw1⟩ : ∃ w1, w.alloc (.cells Z 44) = w1 := ⟨_, rfl⟩
  have k1 : Keep [] w w1 := by rw [← hw1]; exact (Keep.refl _ w).alloc _
  have hb1 : Blk w1 w.heap.size 44 Z := by rw [← hw1]; exact Blk.new w 44 Z
  have hs1 : w1.heap.size = w.heap.size + 1 := by rw [← hw1, size_al]
  have hblk1 := hblk.keep k1 (by simp)
  have hA1 := hA.keep k1 (fun a _ => by simp)
  generalize hC : (hashC s (.slice A l.length ca) n).toArray = C at *
  have hC11 : C.size = 11 := by rw [← hC]; simp [hashC_len hs8]
  have hCone : C.all (·.oneCell') = true := by rw [← hC]; exact all_oneCell_toArray (hashC_one _ _ _ _ _)
  obtain ⟨w2, hw2⟩ : ∃ w2, w1.alloc (.cells C 118) = w2 := ⟨_, rfl⟩
  have k2 : Keep [] w w2 := by rw [← hw2]; exact k1.alloc _
  have hs2 : w2.heap.size = w.heap.size + 1 + 1 := by rw [← hw2, size_al, hs1]
  have hb2 : Blk w2 (w.heap.size + 1) 118 C := by rw [← hw2, ← hs1]; exact Blk.new w1 118 C
  have hA2 : BySrc w2 A l := by rw [← hw2]; exact hA1.keep ((Keep.refl [] w1).alloc _) (fun a _ => by simp)
  have hH2 : Hid (Blk w2 w.heap.size 44 Z ∧ HashIs w2 (w.heap.size + 1) s l n ∧ Keep [] w w2) := Lib.hid ⟨by rw [← hw2]; exact hb1.alloc _, ⟨A, ca, by rw [hC]; exact hb2, hA2, fun a ha => by
    have := (hAg a ha).2
    omega, hs8, hs32⟩, k2⟩
  have hc9 : w2.cell? ⟨g, 9, none⟩ = some (.int .u64 (n : Int)) := by
    have : Blk w2 g 118 C := by rw [← hw2]; exact hblk1.alloc _
    rw [← hC] at this
    exact hash_cell9 hs8 this
  have hgl : g < w2.heap.size := by omega
  have HP := Lib.hid (pad_any n w2 hn)
  have HX : Hid (∀ w3 A5 c5, w3.ownsRow w2.heap.size 5 1 (.slice A5 (padB n).length c5) (padB n).length (inB (padB n)) → Keep [] w2 w3 →
      Calls Tryz.prog 41 #[.pointer (some ⟨w.heap.size + 1, 0, none⟩), .slice A5 (padB n).length c5] w3 fun e w' => e = .returned (.tuple #[]) ∧ ∃ s2 v2 n2, Blk w' (w.heap.size + 1) 118 (hashC s2 v2 n2).toArray ∧ s2 = (tak s (l ++ padB n)).1 ∧ Blk w' w.heap.size 44 Z ∧ Keep [] w w') := Lib.hid (by
    intro w3 A5 c5 ho hk
    obtain ⟨q1, ⟨A', c', q2, q3, q4, q5, q6⟩, q7⟩ := hH2.out
    have hlp : (padB n).length ≤ 200 := by simp [padB, be8]; omega
    refine (take_any s l (padB n) n (w.heap.size + 1) c5 A5 w3 ⟨A', c', q2.keep hk (by simp), q3.keep hk (fun a _ => by simp), fun a ha => ⟨(q4 a ha).1, Nat.lt_of_lt_of_le (q4 a ha).2 hk.size⟩, q5, q6⟩ (bsrc_own ho (fun x hx => ?_)) (fun a ha => ?_) hl (by omega) (by omega)).mono ?_
    · unfold padB at hx
      rcases List.mem_cons.1 hx with rfl | hx
      · omega
      · rcases List.mem_append.1 hx with hx | hx
        · rw [(List.mem_replicate.1 hx).2]; omega
        · simp only [be8, List.mem_cons, List.not_mem_nil, or_false] at hx
          rcases hx with rfl | rfl | rfl | rfl | rfl | rfl | rfl | rfl <;> exact Nat.mod_lt _ (by omega)
    · subst ha
      have := (ho.lt a.block rfl).1
      omega
    · rintro e w4 ⟨rfl, ⟨A6, c6, r1, r2, r3, r4, r5⟩, r6⟩
      have hq1 := (q1.keep hk (by simp)).keep r6 (by simp)
      exact ⟨rfl, _, _, _, r1, rfl, hq1, (q7.trans hk).step r6 (fun i hi => by simp at hi; omega)⟩)
  have Hs2 := Lib.hid (And.intro (tak_ok (l := l ++ padB n) hs32 hs8).2 (And.intro (tak_ok (l := l ++ padB n) hs32 hs8).1 hs1))
  have Hw1 := Lib.hid hw1
  have Hw2 := Lib.hid hw2
  have Hblk := Lib.hid (And.intro hblk1 (And.intro hC11 hCone))
  generalize padB n = PB at *
  generalize tak s (l ++ PB) = TK at *
  have Ha1 : Hid ((w1.alloc (.cells ZH 118)).heap[w.heap.size + 1]? = some (.cells ZH 118 (0, 0))) := Lib.hid (by rw [← hs1]; exact heap_alloc_new w1 _)
  have Ha2 : Hid ((w1.alloc (.cells ZH 118)).setRow (w.heap.size + 1) C = w2) := Lib.hid (by rw [← hs1, World.setRow_alloc_new, hw2])
  generalize hb0 : w.heap.size = b0 at *
  generalize hb1e : b0 + 1 = b1 at *
  have Hb1 := Lib.hid hb1e
  have Hb0 := Lib.hid hb0
  clear hC hw1 hw2 k1 hb1 hs1 hblk1 hA1 hC11 hCone k2 hs2 hb2 hA2 hblk hA hAg hs8 hs32 hH2 hb0 hb1e
  go_enter Tryz.func42, Tryz.ntmps42
  go_upto_region 1 with (fail)
  rw [Hw1.out, Hb0.out]
  refine wp_region_lit ?_
  iterate 2 (refine wpList_plain rfl (fun K hK => ?_); go_simp; refine hK _ _ ?_; clear hK K)
  refine wpList_load_row rfl 118 (.tmp 10) rfl g rfl 118 C (0, 0) _ Hblk.out.1 Tryz.underlying118 rfl (by rw [Hblk.out.2.1]; exact size118) ?_
  refine wpList_plain rfl (fun K hK => ?_)
  go_simp
  refine hK _ _ ?_
  clear hK K
  rw [Hs2.out.2.2]
  refine wpList_store_rowTo rfl 118 (.tmp 3) (.tmp 11) rfl rfl b1 C rfl rfl 118 ZH Ha1.out (by rw [Hblk.out.2.1]; exact size118) (by rw [Hblk.out.2.1]; exact hZ.out.2.2) Hblk.out.2.2 ?_
  rw [Ha2.out]
  clear Ha1 Ha2 Hw1 Hw2 Hblk
  go_upto_region 4 with (first
    | (go_at_call 77; refine HP.out.mono ?_; rintro e w3 ⟨A5, c5, rfl, ho5, hk5⟩; have HX3 := Lib.hid (HX.out w3 A5 c5 ho5 hk5); clear HX ho5 hk5)
    | (go_at_call 41; refine HX3.out.mono ?_; rintro e w4 ⟨rfl, s2, v2, n2, hq⟩; have HQ := Lib.hid hq; clear hq HX3))
  obtain ⟨w5, hw5⟩ : ∃ w5, w4.alloc (.cells Z 44) = w5 := ⟨_, rfl⟩
  rw [hw5]
  have hs2 : s2 = TK.1 := HQ.out.2.1
  subst hs2
  have HE : Hid (EnS w b0 w4.heap.size Z (digR TK.1 0) w5 ∧ b0 ≠ w4.heap.size ∧ w.heap.size ≤ w4.heap.size ∧ Blk w5 b1 118 (hashC TK.1 v2 n2).toArray) := Lib.hid (by
    obtain ⟨q1, -, q2, q3⟩ := HQ.out
    rw [← hw5]
    have hz : Z = (inB (digR TK.1 0)).toArray := by rw [hZ.out.1, digR_zero, digR_zero]
    exact ⟨⟨q2.alloc _, by rw [← hz]; exact Blk.new w4 44 Z, q3.alloc _⟩, by have := q2.lt; omega, q3.size, q1.alloc _⟩)
  generalize w4.heap.size = d at *
  have hr : w5.rangeAt b1 0 (inW TK.1) := rangeAt_blk0 HE.out.2.2.2
  have H0 := Lib.hid HE.out.1
  have HD := Lib.hid (And.intro HE.out.2.1 (And.intro HE.out.2.2.1 Hb0.out))
  have hsz : (Tryz.prog.info? 115).map (·.size) = some (inW TK.1).length := by rw [size115, inW_len, Hs2.out.1]
  have HI : Hid (∀ k, k < 8 → (inW TK.1).toArray[k]? = some (.int .u32 (TK.1.getD k 0 : Nat))) := Lib.hid (fun k hk => by have := Hs2.out.1; simp [inW, show k < TK.1.length by omega])
  have HT := Lib.hid (And.intro Hs2.out.1 Hs2.out.2.1)
  have HZ2 := Lib.hid hZ.out.2.1
  clear hw5 HQ HE Hs2 HP hZ z1 z2
  generalize hS : TK.1 = S at *
  have HS1 := Lib.hid hS
  clear Hb0 Hb1 hS
  refine wp_region_lit ?_
  refine wpList_plain rfl (fun K hK => ?_)
  go_simp
  refine hK _ _ ?_
  clear hK K
  refine wpList_load_mid rfl 115 (.tmp 18) rfl b1 0 rfl (inW S) _ hr Tryz.underlying115 rfl hsz ?_
  clear hr hsz
  generalize (inW S).toArray = CS at *
  go_wp2
  go_loopw [20, 5, 6, 7, 8] (fun v20 _ _ _ _ wr => ∃ k : Nat, v20 = .int .i64 k ∧ k ≤ 8 ∧ Hid (EnS w b0 d Z (digR S k) wr)) (fun v20 _ _ _ _ _ => 8 - (intOf v20).toNat)
  case atStart => exact ⟨0, rfl, by omega, H0⟩
  case round =>
    obtain ⟨k, rfl, hk, hI⟩ := hrel
    clear H0
    rcases Nat.lt_or_ge k 8 with hk8 | hk8
    · as_aux_lemma =>
        have hki : (k : Int) < 8 := by omega
        have hwk : IntKind.i64.wrap ((k : Int) + 1) = (k : Int) + 1 := by rw [IntKind.wrap_i64]; omega
        obtain ⟨p, hp⟩ : ∃ p, p = 4 * k := ⟨_, rfl⟩
        have hw4 : IntKind.i64.wrap (4 * (k : Int)) = (p : Int) := by rw [IntKind.wrap_i64]; omega
        have hix := fun W => run_index_arr (P := Tryz.prog) 115 64 8 k 1 CS _ _ W Tryz.underlying115 Tryz.underlying64 rfl (by kernel_rfl) hk8 (HI.out k hk8)
        have hx := w32_get HT.out.2 k
        have hwx : IntKind.u64.wrap ((S.getD k 0 : Nat) : Int) = ((S.getD k 0 : Nat) : Int) := by rw [IntKind.wrap_u64]; omega
        have hB := bytes_any (S.getD k 0) 4 1 (by omega) (by unfold okB; omega) (.inl rfl)
        rw [bytP_be4] at hB
        have HB : Hid (∀ w, Calls Tryz.prog 36 #[.int .u64 (S.getD k 0 : Nat), .int .i64 32, .int .i64 1] w fun e w' => ∃ A c, e = .returned (.tuple #[.slice A 4 c, .int .i64 0]) ∧ w'.ownsRow w.heap.size 5 1 (.slice A 4 c) 4 (inB (be4 (S.getD k 0))) ∧ Keep [] w w') := Lib.hid hB
        have HG : Hid (∀ w7 A c, w7.ownsRow wr.heap.size 5 1 (.slice A 4 c) 4 (inB (be4 (S.getD k 0))) → Keep [] wr w7 → ∃ w8, (Builtin.copy_ #[22, 22] 3 #[.slice (some ⟨d, p, none⟩) (32 - p) (32 - p), .slice A 4 c]).run Tryz.prog w7 = .ok (.int .i64 4) w8 ∧ EnS w b0 d Z (digR S (k + 1)) w8) := Lib.hid (fun w7 A c ho hk7 => by
          rw [hp]
          exact hI.out.copy HT.out.1 hk8 HD.out.1 HD.out.2.1 hk7 ho)
        have hsl : ∀ W, (Instr.sliceAt 44 (.pointer (some ⟨d, 0, none⟩)) (some (.int .i64 (p : Int))) none none).run Tryz.prog W = .ok (.slice (some ⟨d, p, none⟩) (32 - p) (32 - p)) W := fun W => by
          rw [run_sliceAt_array_l (P := Tryz.prog) (w := W) 44 _ (by kernel_rfl) .i64 (p : Int) (by omega) (by rw [show Tryz.prog.arrayLen 44 = 32 by kernel_rfl]; omega), show Tryz.prog.elem 44 = 5 by kernel_rfl, Tryz.sizeOf5 W, show Tryz.prog.arrayLen 44 = 32 by kernel_rfl]
          simp [slicedAt, add_mk]
          omega
        generalize S.getD k 0 = x at *
        clear hI HI HT hB hp
        go_wp2_with (first
          | (go_at_call 36; refine (HB.out _).mono ?_; rintro e w7 ⟨A6, c6, rfl, ho6, hk6⟩; obtain ⟨w8, hrun8, hE8⟩ := HG.out w7 A6 c6 ho6 hk6; have HE8 := Lib.hid hE8; clear HG ho6 hk6 hE8)
          | (at_builtin; refine wpList_copy2 (v1 := .slice (some ⟨d, p, none⟩) (32 - p) (32 - p)) (v2 := .slice A6 4 c6) rfl (.tmp 32) (.tmp 33) rfl rfl rfl hrun8 ?_))
        exact ⟨⟨k + 1, by simp, by omega, HE8⟩, by simp [intOf]; omega⟩
    · as_aux_lemma =>
        obtain rfl : k = 8 := by omega
        have hrow := hI.out.kd
        have hres := hI.out.k0
        rw [digR_all HT.out.1] at hrow
        have hszS : (inB (digB S)).toArray.size = 32 := by simp [inB_len, digB_len, HT.out.1]
        have hone : (inB (digB S)).toArray.all (·.oneCell') = true := all_oneCell_toArray (inB_one _)
        have hszZ := HZ2.out
        have HFF := Lib.hid (And.intro (blk_same (c := (inB (digB S)).toArray) hres) (keep_setRow (c := (inB (digB S)).toArray) hI.out.kp (Nat.le_of_eq HD.out.2.2) hres))
        generalize hD : (inB (digB S)).toArray = D at *
        have HD2 := Lib.hid hD
        clear hI HI HT hD
        go_upto_region 10 with (fail)
        refine wp_region_lit ?_
        refine wpList_load_row rfl 44 (.tmp 4) rfl d rfl 44 D (0, 0) _ hrow Tryz.underlying44 rfl (by rw [hszS]; exact size44) ?_
        refine wpList_store_row rfl 44 (.tmp 2) (.tmp 36) rfl b0 D rfl rfl 44 Z hres (by rw [hszS]; exact size44) (by rw [hszS, hszZ]) hone ?_
        go_wp2
        refine bodyPost_ret (v := .agg D) (results_cell_row (ty := 44) rfl _ _ b0 44 _ (0, 0) _ rfl HFF.out.1 Tryz.underlying44 rfl (by rw [hszS]; exact size44)) rfl ⟨by rw [HS1.out, HD2.out], HFF.out.2⟩
end Go.Proofs.YtdnaahbhfjclpaaGreatDoor

