/- The reference's longest and Tokens, walked. -/
import Derived.Test.YtdnaahbhfjclpaaGreatDoorF2
import Derived.Test.YtdnaahbhfjclpaaGreatDoorWc
set_option linter.unusedVariables false
set_option linter.unusedSimpArgs false
namespace Go.Proofs.YtdnaahbhfjclpaaGreatDoor
open Go.RowKit Go.Sal Go.Huf Go.Cod
structure FM (gf gm : Nat) (bs : Value) (f : Q4 → Option Value) (L : List Int) (done B : Nat) (A : Option Addr) (n c : Nat) (wr : World) : Prop where
  blk : Blk wr gf 199 #[bs, .map (some gm), .slice A n c, .int .i64 (done : Nat)]
  map : MapF qkey wr gm f
  own : wr.ownsRow B 3 1 (.slice A n c) n (inI L)
  le : B ≤ wr.heap.size
section
variable {gf gm done B n c : Nat} {bs : Value} {f : Q4 → Option Value} {L : List Int} {A : Option Addr} {wr : World}
theorem FM.keep (h : FM gf gm bs f L done B A n c wr) {w1 : World} (k : Keep [] wr w1) : FM gf gm bs f L done B A n c w1 :=
  ⟨h.blk.keep k (by simp), h.map.keep k (by simp), ownsRow_keep h.own k (by simp), Nat.le_trans h.le k.size⟩
theorem FM.ne (h : FM gf gm bs f L done B A n c wr) : (Value.slice A n c).ownBlock ≠ some gf := own_ne_blk h.own h.blk (by decide)
theorem FM.nem (h : FM gf gm bs f L done B A n c wr) : (Value.slice A n c).ownBlock ≠ some gm := h.map.ne_own h.own
theorem FM.fm (h : FM gf gm bs f L done B A n c wr) : gf ≠ gm := h.map.ne_blk h.blk
theorem int_append2 {base n c : Nat} {A : Option Addr} {f : List Int} {w : World} (h : w.ownsRow base 3 1 (.slice A n c) n (inI f)) (x : Int) (hn2 : n ≤ 10000000) (hB : base ≤ w.heap.size) :
    ∃ A' c' w', (Builtin.append_ #[140, 140] 140 #[.slice A n c, .slice (some ⟨w.heap.size, 0, none⟩) 1 1]).run Tryz.prog (w.alloc (.cells #[.int .i64 x] 3)) = .ok (.slice A' (n + 1) c') w' ∧
      w'.ownsRow base 3 1 (.slice A' (n + 1) c') (n + 1) (inI (f ++ [x])) ∧ Keep (Value.slice A n c).ownBlock.toList w w' ∧
      ∀ i, (Value.slice A' (n + 1) c').ownBlock = some i → (Value.slice A n c).ownBlock = some i ∨ w.heap.size ≤ i := by
  have hka : Keep [] w (w.alloc (.cells #[.int .i64 x] 3)) := (Keep.refl [] w).alloc _
  obtain ⟨v', w', hrun, hown, hg, hat⟩ := run_append_src (P := Tryz.prog) (w.alloc (.cells #[.int .i64 x] 3)) 140 140 3 (.int .i64 0) 1 8 base Tryz.underlying140 intinfo rfl (by omega) (.slice A n c) n (inI f) (ownsRow_keep h hka (by simp))
    (some ⟨w.heap.size, 0, none⟩) 1 1 [.int .i64 x] (src_new w 3 1 [.int .i64 x] rfl) (by simp [Value.oneCell']) (by unfold maxLen; omega) (by omega) (by simp; omega)
  obtain ⟨A', c', rfl, _⟩ := own_slice hown
  refine ⟨A', c', w', hrun, by simpa [inI] using hown, (hka.mono (by simp)).grown hg (fun k hk => .inl (by simp [hk])), fun i hi => ?_⟩
  rcases hat with hat | hat
  · rw [hat] at hi; exact .inl hi
  · rw [hat] at hi
    simp at hi
    exact .inr (by omega)
theorem FM.app (h : FM gf gm bs f L done B A n c wr) (v : Int) (hn : n ≤ 1000000) :
    ∃ A' c' w', (Builtin.append_ #[140, 140] 140 #[.slice A n c, .slice (some ⟨wr.heap.size, 0, none⟩) 1 1]).run Tryz.prog (wr.alloc (.cells #[.int .i64 v] 3)) = .ok (.slice A' (n + 1) c') w' ∧
      w'.cell? ⟨gf, 2, none⟩ = some (.slice A n c) ∧ w'.frozen? ⟨gf, 2, none⟩ = false ∧ gf < w'.heap.size ∧ FM gf gm bs f (L ++ [v]) done B A' (n + 1) c' (w'.setCell ⟨gf, 2, none⟩ (.slice A' (n + 1) c')) ∧
      Keep (gf :: (Value.slice A n c).ownBlock.toList) wr (w'.setCell ⟨gf, 2, none⟩ (.slice A' (n + 1) c')) ∧
      (∀ i, (Value.slice A' (n + 1) c').ownBlock = some i → (Value.slice A n c).ownBlock = some i ∨ wr.heap.size ≤ i) ∧
      ∀ g t cs, Blk wr g t cs → t ≠ 199 → t ≠ 3 → Blk (w'.setCell ⟨gf, 2, none⟩ (.slice A' (n + 1) c')) g t cs := by
  obtain ⟨A', c', w', hrun, hown, hk, hat⟩ := int_append2 h.own v (by omega) h.le
  have hb := h.blk.keep hk (fun hm => h.ne (by simpa using hm))
  have hm := h.map.keep hk (fun hm => h.nem (by simpa using hm))
  have hk2 : Keep (gf :: (Value.slice A n c).ownBlock.toList) wr (w'.setCell ⟨gf, 2, none⟩ (.slice A' (n + 1) c')) := (hk.mono (fun i hi => List.mem_cons_of_mem _ hi)).setCell (.inl (by simp)) _
  have hs : Keep [gf] w' (w'.setCell ⟨gf, 2, none⟩ (.slice A' (n + 1) c')) := (Keep.refl [gf] w').setCell (.inl (by simp)) _
  refine ⟨A', c', w', hrun, hb.cell 2, hb.free 2, hb.lt, ⟨by have := hb.set_ 2 (.slice A' (n + 1) c'); simpa using this, hm.keep hs (by simp; exact fun e => h.fm e.symm), ?_, Nat.le_trans h.le hk2.size⟩, hk2, hat, fun g t cs hg h1 h2 => ?_⟩
  · exact ownsRow_keep hown hs (fun g hg hm => own_ne_blk hown hb (by decide) (by simp at hm; rw [hg, hm]))
  · refine hg.keep hk2 (fun hm => ?_)
    rcases List.mem_cons.1 hm with rfl | hm
    · exact hg.ne_ h.blk h1 rfl
    · exact own_ne_blk h.own hg (fun e => h2 e.symm) (by simpa using hm)
theorem FM.upd (h : FM gf gm bs f L done B A n c wr) (q : Q4) (v : Value) :
    ∃ w', (Instr.mapUpdate 197 (.map (some gm)) (qkey q) v).run Tryz.prog wr = .ok () w' ∧ FM gf gm bs (fun x => if x = q then some v else f x) L done B A n c w' ∧ Keep [gm] wr w' := by
  obtain ⟨w', hrun, hm, hk, hsz⟩ := kmapUpdate qlaw Tryz.underlying197 h.map q v
  refine ⟨w', hrun, ⟨h.blk.keep hk (by simp; exact h.fm), hm, ownsRow_keep h.own hk (fun g hg hm => h.nem (by simp at hm; rw [hg, hm])), Nat.le_trans h.le hk.size⟩, hk⟩
theorem FM.inc (h : FM gf gm bs f L done B A n c wr) : wr.cell? ⟨gf, 3, none⟩ = some (.int .i64 (done : Nat)) ∧ wr.frozen? ⟨gf, 3, none⟩ = false ∧ FM gf gm bs f L (done + 1) B A n c (wr.setCell ⟨gf, 3, none⟩ (.int .i64 ((done + 1 : Nat) : Int))) := by
  have hs : Keep [gf] wr (wr.setCell ⟨gf, 3, none⟩ (.int .i64 ((done + 1 : Nat) : Int))) := (Keep.refl [gf] wr).setCell (.inl (by simp)) _
  refine ⟨h.blk.cell 3, h.blk.free 3, by have := h.blk.set_ 3 (.int .i64 ((done + 1 : Nat) : Int)); simpa using this, h.map.keep hs (by simp; exact fun e => h.fm e.symm), ?_, Nat.le_trans h.le hs.size⟩
  exact ownsRow_keep h.own hs (fun g hg hm => h.ne (by simp at hm; rw [hg, hm]))
end
def lastM (bl : List Nat) (done : Nat) (q : Q4) : Option Value := (lastF bl q done).map fun (p : Nat) => .int .i64 (p : Int)
def aheadL (bl : List Nat) (done : Nat) : List Int := (List.range done).map (aheadV bl)
theorem ahead_succ (bl : List Nat) (done : Nat) : aheadL bl (done + 1) = aheadL bl done ++ [aheadV bl done] := by simp [aheadL, List.range_succ]
theorem lastM_no {bl : List Nat} {done : Nat} (h : bl.length < done + 4) : lastM bl (done + 1) = lastM bl done := by
  funext q
  unfold lastM
  rw [lastF, if_neg (fun h1 => by omega)]
theorem lastM_yes {bl : List Nat} {done : Nat} (h : done + 4 ≤ bl.length) : (fun x => if x = q4 bl done then some (.int .i64 (done : Nat)) else lastM bl done x) = lastM bl (done + 1) := by
  funext q
  unfold lastM
  rw [lastF]
  by_cases hq : q = q4 bl done
  · rw [if_pos hq, if_pos ⟨h, hq.symm⟩]; rfl
  · rw [if_neg hq, if_neg (fun h1 => hq h1.2.symm)]
abbrev FS (bl : List Nat) (AB : Option Addr) (cB gf gm done B : Nat) (A : Option Addr) (n c : Nat) (wr : World) : Prop := FM gf gm (.slice AB bl.length cB) (lastM bl done) (aheadL bl done) done B A n c wr
set_option maxRecDepth 20000 in
set_option maxHeartbeats 4000000 in
theorem up_any (bl : List Nat) (AB : Option Addr) (cB gf gm d0 B : Nat) (A : Option Addr) (n c tt : Nat) (w : World) (h : FS bl AB cB gf gm d0 B A n c w) (hs : BySrc w AB bl) (hsb : ∀ a, AB = some a → a.block < B ∧ a.block ≠ gf ∧ a.block ≠ gm) (hc : bl.length ≤ cB) (hl : bl.length ≤ 100000) (ht : tt ≤ bl.length) (hd : d0 ≤ tt) :
    Calls Tryz.prog 138 #[.pointer (some ⟨gf, 0, none⟩), .int .i64 (tt : Nat)] w fun e w' => e = .returned (.tuple #[]) ∧ ∃ A' n' c', FS bl AB cB gf gm tt B A' n' c' w' ∧ Keep (gf :: gm :: (Value.slice A n c).ownBlock.toList) w w' ∧
      ∀ i, (Value.slice A' n' c').ownBlock = some i → i ∈ (Value.slice A n c).ownBlock.toList ∨ w.heap.size ≤ i := by
  have H0 := Lib.hid h
  have Hs := Lib.hid (And.intro hs hsb)
  have HA0 := Lib.hid h.own
  clear h hs hsb
  have htb : tt ≤ 100000 := by omega
  go_enter Tryz.func138, Tryz.ntmps138
  go_wp2_with fail
  go_loopg [8] tt (fun gk u8 wr => ∃ (k : Nat) (A2 : Option Addr) (n2 c2 : Nat), k ≤ tt ∧ tt ≤ k + gk ∧ Hid (FS bl AB cB gf gm k B A2 n2 c2 wr ∧ Keep (gf :: gm :: (Value.slice A n c).ownBlock.toList) w wr ∧ ∀ i, (Value.slice A2 n2 c2).ownBlock = some i → i ∈ (Value.slice A n c).ownBlock.toList ∨ w.heap.size ≤ i))
  case atStart => exact ⟨d0, A, n, c, hd, by omega, Lib.hid ⟨H0.out, Keep.refl _ _, fun i hi => .inl (by simp [hi])⟩⟩
  case round =>
    obtain ⟨k, A2, n2, c2, hk, hgk, hI⟩ := hrel
    clear H0
    obtain ⟨hF, hkp, hob⟩ := hI.out
    have m0 : wr.cell? ⟨gf, 0, none⟩ = some (.slice AB bl.length cB) := hF.blk.cell 0
    have m1 : wr.cell? ⟨gf, 1, none⟩ = some (.map (some gm)) := hF.blk.cell 1
    have m2 : wr.cell? ⟨gf, 2, none⟩ = some (.slice A2 n2 c2) := hF.blk.cell 2
    have m3 : wr.cell? ⟨gf, 3, none⟩ = some (.int .i64 (k : Nat)) := hF.blk.cell 3
    rcases Nat.lt_or_ge k tt with hkt | hkt
    · have hkti : (k : Int) < tt := by omega
      have hwk : IntKind.i64.wrap ((k : Int) + 1) = (k : Int) + 1 := by rw [IntKind.wrap_i64]; omega
      have hn2 : k = n2 := by
        have := hF.own.1
        rw [inI_len] at this
        simp [aheadL] at this
        omega
      subst hn2
      have hsw : BySrc wr AB bl := Hs.out.1.keep hkp (fun a ha hm => by
        obtain ⟨h1, h2, h3⟩ := Hs.out.2 a ha
        rcases List.mem_cons.1 hm with h | hm
        · exact h2 h
        · rcases List.mem_cons.1 hm with h | hm
          · exact h3 h
          · have := own_far HA0.out _ hm
            omega)
      have hgk1 : gk - 1 < gk := by omega
      -- what stands behind a round
      have HEnd : Hid (∀ A3 n3 c3 W, FM gf gm (.slice AB bl.length cB) (lastM bl (k + 1)) (aheadL bl (k + 1)) (k + 1) B A3 n3 c3 W → Keep (gf :: gm :: (Value.slice A2 k c2).ownBlock.toList) wr W → (∀ i, (Value.slice A3 n3 c3).ownBlock = some i → (Value.slice A2 k c2).ownBlock = some i ∨ wr.heap.size ≤ i) →
          FS bl AB cB gf gm (k + 1) B A3 n3 c3 W ∧ Keep (gf :: gm :: (Value.slice A n c).ownBlock.toList) w W ∧ ∀ i, (Value.slice A3 n3 c3).ownBlock = some i → i ∈ (Value.slice A n c).ownBlock.toList ∨ w.heap.size ≤ i) := by
        refine Lib.hid (fun A3 n3 c3 W h1 h2 h3 => ⟨h1, hkp.step h2 (fun i hi => ?_), fun i hi => ?_⟩)
        · rcases List.mem_cons.1 hi with rfl | hi
          · exact .inl (by simp)
          · rcases List.mem_cons.1 hi with rfl | hi
            · exact .inl (by simp)
            · rcases hob i (by simpa using hi) with h | h
              · exact .inl (List.mem_cons_of_mem _ (List.mem_cons_of_mem _ h))
              · exact .inr h
        · rcases h3 i hi with h | h
          · exact hob i h
          · exact .inr (Nat.le_trans hkp.size h)
      by_cases h4 : k + 4 ≤ bl.length
      · as_aux_lemma =>
          have HAt0 := at_yes bl AB cB gf k (.map (some gm)) (.slice A2 k c2) (.int .i64 (k : Nat)) wr hF.blk hsw hc (by omega) h4
          have hnx : aheadL bl (k + 1) = aheadL bl k ++ [lastV bl (q4 bl k) k] := by rw [ahead_succ]; unfold aheadV; rw [if_pos h4]
          have hlm := lastM_yes (bl := bl) (done := k) h4
          have hlk : ∀ W, FM gf gm (.slice AB bl.length cB) (lastM bl k) (aheadL bl k) k B A2 k c2 W → (Instr.lookup 197 (.map (some gm)) (qkey (q4 bl k)) true).run Tryz.prog W = .ok (.tuple #[(lastM bl k (q4 bl k)).getD (.int .i64 0), .bool (lastM bl k (q4 bl k)).isSome]) W := fun W hW => klookup_ok qlaw Tryz.underlying197 (.int .i64 0) (by kernel_rfl) hW.map (q4 bl k)
          have hlv : lastM bl k (q4 bl k) = (lastF bl (q4 bl k) k).map fun (p : Nat) => .int .i64 (p : Int) := rfl
          have hlw : lastV bl (q4 bl k) k = ((lastF bl (q4 bl k) k).map fun (p : Nat) => (p : Int)).getD (-1) := rfl
          rw [hlv] at hlk
          rw [hlw] at hnx
          generalize lastF bl (q4 bl k) k = lf at *
          obtain ⟨a0, a1, a2, a3, hq⟩ : ∃ a0 a1 a2 a3, q4 bl k = (a0, a1, a2, a3) := ⟨_, _, _, _, rfl⟩
          rw [hq] at HAt0 hlm hlk
          have HAt : Hid (Calls Tryz.prog 139 #[.pointer (some ⟨gf, 0, none⟩), .int .i64 (k : Nat)] wr fun e w' => e = .returned (.tuple #[.agg #[.int .u8 (a0 : Nat), .int .u8 (a1 : Nat), .int .u8 (a2 : Nat), .int .u8 (a3 : Nat)], .bool true]) ∧ Keep [] wr w') := Lib.hid HAt0
          have HF := Lib.hid hF
          have HLm := Lib.hid hlm
          have Hlk := Lib.hid hlk
          have Hnx0 := Lib.hid hnx
          clear hI hF hkp hob hsw hnx hlm hlk hlv hlw hq HAt0
          go_upto_region 5 with (go_at_call 139; refine HAt.out.mono ?_; rintro e w2 ⟨rfl, hk2⟩; have Hk2 := Lib.hid hk2; have z2 := hk2.size; have zg := Nat.lt_of_lt_of_le HF.out.blk.lt z2; clear hk2)
          have y1 : w2.cell? ⟨gf, 1, none⟩ = some (.map (some gm)) := (HF.out.keep Hk2.out).blk.cell 1
          have y2 : w2.cell? ⟨gf, 2, none⟩ = some (.slice A2 k c2) := (HF.out.keep Hk2.out).blk.cell 2
          have HB1 : Hid (Blk (w2.alloc (.cells #[.int .u8 (a0 : Nat), .int .u8 (a1 : Nat), .int .u8 (a2 : Nat), .int .u8 (a3 : Nat)] 201)) w2.heap.size 201 #[.int .u8 (a0 : Nat), .int .u8 (a1 : Nat), .int .u8 (a2 : Nat), .int .u8 (a3 : Nat)] ∧
              FM gf gm (.slice AB bl.length cB) (lastM bl k) (aheadL bl k) k B A2 k c2 (w2.alloc (.cells #[.int .u8 (a0 : Nat), .int .u8 (a1 : Nat), .int .u8 (a2 : Nat), .int .u8 (a3 : Nat)] 201))) := Lib.hid ⟨Blk.new w2 201 _, (HF.out.keep Hk2.out).keep ((Keep.refl [] w2).alloc _)⟩
          have hlk : ∀ nn, (Instr.lookup 197 (.map (some gm)) (.agg #[.int .u8 (a0 : Nat), .int .u8 (a1 : Nat), .int .u8 (a2 : Nat), .int .u8 (a3 : Nat)]) true).run Tryz.prog ((w2.alloc (.cells #[.int .u8 (a0 : Nat), .int .u8 (a1 : Nat), .int .u8 (a2 : Nat), .int .u8 (a3 : Nat)] 201)).drewN nn) = .ok (.tuple #[(lf.map fun (p : Nat) => Value.int .i64 (p : Int)).getD (.int .i64 0), .bool (lf.map fun (p : Nat) => Value.int .i64 (p : Int)).isSome]) ((w2.alloc (.cells #[.int .u8 (a0 : Nat), .int .u8 (a1 : Nat), .int .u8 (a2 : Nat), .int .u8 (a3 : Nat)] 201)).drewN nn) := fun nn => Hlk.out _ (HB1.out.2.keep ((Keep.refl [] _).drewN nn))
          cases lf with
          | none =>
            simp only [Option.map_none, Option.getD_none, Option.isSome_none] at hlk Hnx0
            have Hnx := Hnx0
            go_quiet (fail)
            go_upto_region 8 with (fail)
            have Hx := Lib.hid (HB1.out.2.keep ((Keep.refl [] _).drewN nq))
            obtain ⟨A3, c3, w3, hap, b0, b1, b2, hF3, hk3, hat3, hbx3⟩ := Hx.out.app (-1) (by omega)
            have HBx := Lib.hid (hbx3 w2.heap.size 201 _ (HB1.out.1.drewN nq) (by decide) (by decide))
            have hne3 : (((w2.alloc (.cells #[.int .u8 (a0 : Nat), .int .u8 (a1 : Nat), .int .u8 (a2 : Nat), .int .u8 (a3 : Nat)] 201)).drewN nq).heap.size = w2.heap.size + 1) := by simp
            rw [hne3] at hap hat3
            clear hne3
            have HF3 := Lib.hid hF3
            obtain ⟨w4, hup, hF4, hk4⟩ := (hF3.keep ((Keep.refl [] _).drew)).upd (a0, a1, a2, a3) (.int .i64 (k : Nat))
            obtain ⟨i0, i1, hF5⟩ := hF4.inc
            rw [HLm.out] at hF5
            have hS9 : ((w3.setCell ⟨gf, 2, none⟩ (.slice A3 (k + 1) c3)).drew).cell? ⟨gf, 1, none⟩ = some (.map (some gm)) ∧ ((w3.setCell ⟨gf, 2, none⟩ (.slice A3 (k + 1) c3)).drew).cell? ⟨w2.heap.size, 0, none⟩ = some (.int .u8 (a0 : Nat)) ∧ ((w3.setCell ⟨gf, 2, none⟩ (.slice A3 (k + 1) c3)).drew).cell? ⟨w2.heap.size, 1, none⟩ = some (.int .u8 (a1 : Nat)) ∧ ((w3.setCell ⟨gf, 2, none⟩ (.slice A3 (k + 1) c3)).drew).cell? ⟨w2.heap.size, 2, none⟩ = some (.int .u8 (a2 : Nat)) ∧ ((w3.setCell ⟨gf, 2, none⟩ (.slice A3 (k + 1) c3)).drew).cell? ⟨w2.heap.size, 3, none⟩ = some (.int .u8 (a3 : Nat)) ∧ ((w3.setCell ⟨gf, 2, none⟩ (.slice A3 (k + 1) c3)).drew).cell? ⟨gf, 3, none⟩ = some (.int .i64 (k : Nat)) :=
              ⟨HF3.out.blk.cell 1, HBx.out.cell 0, HBx.out.cell 1, HBx.out.cell 2, HBx.out.cell 3, HF3.out.blk.cell 3⟩
            have HF5 : Hid (FM gf gm (.slice AB bl.length cB) (lastM bl (k + 1)) (aheadL bl (k + 1)) (k + 1) B A3 (k + 1) c3 (w4.setCell ⟨gf, 3, none⟩ (.int .i64 ((k + 1 : Nat) : Int))) ∧ Keep (gf :: gm :: (Value.slice A2 k c2).ownBlock.toList) wr (w4.setCell ⟨gf, 3, none⟩ (.int .i64 ((k + 1 : Nat) : Int))) ∧
                ∀ i, (Value.slice A3 (k + 1) c3).ownBlock = some i → (Value.slice A2 k c2).ownBlock = some i ∨ wr.heap.size ≤ i) := by
              rw [Hnx.out]
              refine Lib.hid ⟨hF5, ((((((Hk2.out.alloc _).drewN nq).mono (by simp)).trans (hk3.mono (fun i hi => ?_))).drew).trans (hk4.mono (fun i hi => ?_))).setCell (.inl (by simp)) _, fun i hi => ?_⟩
              · rcases List.mem_cons.1 hi with rfl | hi
                · simp
                · exact List.mem_cons_of_mem _ (List.mem_cons_of_mem _ hi)
              · simp at hi; subst hi; simp
              · rcases hat3 i hi with h | h
                · exact .inl h
                · exact .inr (Nat.le_trans z2 (Nat.le_trans (by omega) h))
            have Hap := Lib.hid hap
            have Hup := Lib.hid hup
            clear hF3 hk3 hat3 hF4 hk4 hF5 hap hup hbx3
            have hap := Hap.out
            go_upto_region 9 with (at_builtin; refine wpList_append2 (v1 := .slice A2 k c2) (v2 := .slice (some ⟨w2.heap.size + 1, 0, none⟩) 1 1) rfl (.tmp 56) (.tmp 58) rfl rfl rfl hap ?_)
            refine wp_region_G (fun W => W.cell? ⟨gf, 1, none⟩ = some (.map (some gm)) ∧ W.cell? ⟨w2.heap.size, 0, none⟩ = some (.int .u8 (a0 : Nat)) ∧ W.cell? ⟨w2.heap.size, 1, none⟩ = some (.int .u8 (a1 : Nat)) ∧ W.cell? ⟨w2.heap.size, 2, none⟩ = some (.int .u8 (a2 : Nat)) ∧ W.cell? ⟨w2.heap.size, 3, none⟩ = some (.int .u8 (a3 : Nat)) ∧ W.cell? ⟨gf, 3, none⟩ = some (.int .i64 (k : Nat))) [9] #[false, false, false, false, false, false, false, false, false, false] 10 (by kernel_rfl) (by kernel_rfl) (by kernel_rfl) ?_
            refine wpAnyG_take0 (i := 0) (oi := ⟨_, _, _, _, _, _⟩) (v := ?vg2_0) rfl (by kernel_rfl) (by kernel_rfl) (by kernel_rfl) (by kernel_rfl) (fun _ _ _ h => h) (fun _ => hS9) (Or.inl ⟨by rfl, ?hg2_0⟩) ?_
            case hg2_0 => intro w _; go_simp; (try with_reducible rfl)
            try simp only [Act.put, List.setIfInBounds_toArray, List.set_cons_zero, List.set_cons_succ]
            refine wpAnyG_take0 (i := 1) (oi := ⟨_, _, _, _, _, _⟩) (v := ?vg2_1) rfl (by kernel_rfl) (by kernel_rfl) (by kernel_rfl) (by kernel_rfl) (fun _ _ _ h => h) (fun _ => hS9) (Or.inl ⟨by rfl, ?hg2_1⟩) ?_
            case hg2_1 => intro w _; go_simp; (try with_reducible rfl)
            try simp only [Act.put, List.setIfInBounds_toArray, List.set_cons_zero, List.set_cons_succ]
            refine wpAnyG_take0 (i := 2) (oi := ⟨_, _, _, _, _, _⟩) (v := ?vg2_2) rfl (by kernel_rfl) (by kernel_rfl) (by kernel_rfl) (by kernel_rfl) (fun _ _ _ h => h) (fun _ => hS9) (Or.inl ⟨by rfl, ?hg2_2⟩) ?_
            case hg2_2 => intro w _; go_simp; (try with_reducible rfl)
            try simp only [Act.put, List.setIfInBounds_toArray, List.set_cons_zero, List.set_cons_succ]
            refine wpAnyG_take (i := 3) (oi := ⟨_, _, _, _, _, _⟩) (v := ?vg2_3) [3, 9] rfl (by kernel_rfl) (by kernel_rfl) (by kernel_rfl) (by kernel_rfl) (by kernel_rfl) (fun _ _ _ h => h) (fun _ => hS9) (Or.inl ⟨by rfl, ?hg2_3⟩) ?_
            case hg2_3 => intro w hSw; (try dsimp only at hSw); go_simp; (try with_reducible rfl)
            try simp only [Act.put, List.setIfInBounds_toArray, List.set_cons_zero, List.set_cons_succ]
            refine wpAnyG_take (i := 4) (oi := ⟨_, _, _, _, _, _⟩) (v := ?vg2_4) [4, 9] rfl (by kernel_rfl) (by kernel_rfl) (by kernel_rfl) (by kernel_rfl) (by kernel_rfl) (fun _ _ _ h => h) (fun _ => hS9) (Or.inl ⟨by rfl, ?hg2_4⟩) ?_
            case hg2_4 => intro w hSw; (try dsimp only at hSw); go_simp; (try with_reducible rfl)
            try simp only [Act.put, List.setIfInBounds_toArray, List.set_cons_zero, List.set_cons_succ]
            refine wpAnyG_take0 (i := 5) (oi := ⟨_, _, _, _, _, _⟩) (v := ?vg2_5) rfl (by kernel_rfl) (by kernel_rfl) (by kernel_rfl) (by kernel_rfl) (fun _ _ _ h => h) (fun _ => hS9) (Or.inl ⟨by rfl, ?hg2_5⟩) ?_
            case hg2_5 => intro w _; go_simp; (try with_reducible rfl)
            try simp only [Act.put, List.setIfInBounds_toArray, List.set_cons_zero, List.set_cons_succ]
            refine wpAnyG_take0 (i := 6) (oi := ⟨_, _, _, _, _, _⟩) (v := ?vg2_6) rfl (by kernel_rfl) (by kernel_rfl) (by kernel_rfl) (by kernel_rfl) (fun _ _ _ h => h) (fun _ => hS9) (Or.inl ⟨by rfl, ?hg2_6⟩) ?_
            case hg2_6 => intro w _; go_simp; (try with_reducible rfl)
            try simp only [Act.put, List.setIfInBounds_toArray, List.set_cons_zero, List.set_cons_succ]
            refine wpAnyG_take0 (i := 7) (oi := ⟨_, _, _, _, _, _⟩) (v := ?vg2_7) rfl (by kernel_rfl) (by kernel_rfl) (by kernel_rfl) (by kernel_rfl) (fun _ _ _ h => h) (fun _ => hS9) (Or.inl ⟨by rfl, ?hg2_7⟩) ?_
            case hg2_7 => intro w _; go_simp; (try with_reducible rfl)
            try simp only [Act.put, List.setIfInBounds_toArray, List.set_cons_zero, List.set_cons_succ]
            refine wpAnyG_take (i := 8) (oi := ⟨_, _, _, _, _, _⟩) (v := ?vg2_8) [8, 9] rfl (by kernel_rfl) (by kernel_rfl) (by kernel_rfl) (by kernel_rfl) (by kernel_rfl) (fun _ _ _ h => h) (fun _ => hS9) (Or.inl ⟨by rfl, ?hg2_8⟩) ?_
            case hg2_8 => intro w hSw; (try dsimp only at hSw); go_simp; (try with_reducible rfl)
            try simp only [Act.put, List.setIfInBounds_toArray, List.set_cons_zero, List.set_cons_succ]
            refine wpAnyG_step (i := 9) (oi := ⟨_, _, _, _, _, _⟩) rfl (by kernel_rfl) (by rfl) (fun K hK => ?_)
            have hup : (Instr.mapUpdate 197 (.map (some gm)) (.agg #[.int .u8 (a0 : Nat), .int .u8 (a1 : Nat), .int .u8 (a2 : Nat), .int .u8 (a3 : Nat)]) (.int .i64 (k : Nat))).run Tryz.prog ((w3.setCell ⟨gf, 2, none⟩ (.slice A3 (k + 1) c3)).drew) = .ok () w4 := Hup.out
            go_simp
            refine hK _ _ (fun h => absurd h (Bool.eq_false_iff.1 (by kernel_rfl))) (fun _ => ?_)
            clear hK
            try simp only [Act.put, List.setIfInBounds_toArray, List.set_cons_zero, List.set_cons_succ]
            refine wpAnyG_done (by kernel_rfl) ?_ _
            go_wp2_with fail
            go_roundg (gk - 1)
            case measure => exact hgk1
            case rel => exact ⟨k + 1, A3, k + 1, c3, by omega, by omega, Lib.hid (HEnd.out _ _ _ _ HF5.out.1 HF5.out.2.1 HF5.out.2.2)⟩
          | some p =>
            simp only [Option.map_some, Option.getD_some, Option.isSome_some] at hlk Hnx0
            have Hnx := Hnx0
            go_quiet (fail)
            go_upto_region 8 with (fail)
            have Hx := Lib.hid (HB1.out.2.keep ((Keep.refl [] _).drewN nq))
            obtain ⟨A3, c3, w3, hap, b0, b1, b2, hF3, hk3, hat3, hbx3⟩ := Hx.out.app ((p : Nat)) (by omega)
            have HBx := Lib.hid (hbx3 w2.heap.size 201 _ (HB1.out.1.drewN nq) (by decide) (by decide))
            have hne3 : (((w2.alloc (.cells #[.int .u8 (a0 : Nat), .int .u8 (a1 : Nat), .int .u8 (a2 : Nat), .int .u8 (a3 : Nat)] 201)).drewN nq).heap.size = w2.heap.size + 1) := by simp
            rw [hne3] at hap hat3
            clear hne3
            have HF3 := Lib.hid hF3
            obtain ⟨w4, hup, hF4, hk4⟩ := (hF3.keep ((Keep.refl [] _).drew)).upd (a0, a1, a2, a3) (.int .i64 (k : Nat))
            obtain ⟨i0, i1, hF5⟩ := hF4.inc
            rw [HLm.out] at hF5
            have hS9 : ((w3.setCell ⟨gf, 2, none⟩ (.slice A3 (k + 1) c3)).drew).cell? ⟨gf, 1, none⟩ = some (.map (some gm)) ∧ ((w3.setCell ⟨gf, 2, none⟩ (.slice A3 (k + 1) c3)).drew).cell? ⟨w2.heap.size, 0, none⟩ = some (.int .u8 (a0 : Nat)) ∧ ((w3.setCell ⟨gf, 2, none⟩ (.slice A3 (k + 1) c3)).drew).cell? ⟨w2.heap.size, 1, none⟩ = some (.int .u8 (a1 : Nat)) ∧ ((w3.setCell ⟨gf, 2, none⟩ (.slice A3 (k + 1) c3)).drew).cell? ⟨w2.heap.size, 2, none⟩ = some (.int .u8 (a2 : Nat)) ∧ ((w3.setCell ⟨gf, 2, none⟩ (.slice A3 (k + 1) c3)).drew).cell? ⟨w2.heap.size, 3, none⟩ = some (.int .u8 (a3 : Nat)) ∧ ((w3.setCell ⟨gf, 2, none⟩ (.slice A3 (k + 1) c3)).drew).cell? ⟨gf, 3, none⟩ = some (.int .i64 (k : Nat)) :=
              ⟨HF3.out.blk.cell 1, HBx.out.cell 0, HBx.out.cell 1, HBx.out.cell 2, HBx.out.cell 3, HF3.out.blk.cell 3⟩
            have HF5 : Hid (FM gf gm (.slice AB bl.length cB) (lastM bl (k + 1)) (aheadL bl (k + 1)) (k + 1) B A3 (k + 1) c3 (w4.setCell ⟨gf, 3, none⟩ (.int .i64 ((k + 1 : Nat) : Int))) ∧ Keep (gf :: gm :: (Value.slice A2 k c2).ownBlock.toList) wr (w4.setCell ⟨gf, 3, none⟩ (.int .i64 ((k + 1 : Nat) : Int))) ∧
                ∀ i, (Value.slice A3 (k + 1) c3).ownBlock = some i → (Value.slice A2 k c2).ownBlock = some i ∨ wr.heap.size ≤ i) := by
              rw [Hnx.out]
              refine Lib.hid ⟨hF5, ((((((Hk2.out.alloc _).drewN nq).mono (by simp)).trans (hk3.mono (fun i hi => ?_))).drew).trans (hk4.mono (fun i hi => ?_))).setCell (.inl (by simp)) _, fun i hi => ?_⟩
              · rcases List.mem_cons.1 hi with rfl | hi
                · simp
                · exact List.mem_cons_of_mem _ (List.mem_cons_of_mem _ hi)
              · simp at hi; subst hi; simp
              · rcases hat3 i hi with h | h
                · exact .inl h
                · exact .inr (Nat.le_trans z2 (Nat.le_trans (by omega) h))
            have Hap := Lib.hid hap
            have Hup := Lib.hid hup
            clear hF3 hk3 hat3 hF4 hk4 hF5 hap hup hbx3
            have hap := Hap.out
            go_upto_region 9 with (at_builtin; refine wpList_append2 (v1 := .slice A2 k c2) (v2 := .slice (some ⟨w2.heap.size + 1, 0, none⟩) 1 1) rfl (.tmp 56) (.tmp 58) rfl rfl rfl hap ?_)
            refine wp_region_G (fun W => W.cell? ⟨gf, 1, none⟩ = some (.map (some gm)) ∧ W.cell? ⟨w2.heap.size, 0, none⟩ = some (.int .u8 (a0 : Nat)) ∧ W.cell? ⟨w2.heap.size, 1, none⟩ = some (.int .u8 (a1 : Nat)) ∧ W.cell? ⟨w2.heap.size, 2, none⟩ = some (.int .u8 (a2 : Nat)) ∧ W.cell? ⟨w2.heap.size, 3, none⟩ = some (.int .u8 (a3 : Nat)) ∧ W.cell? ⟨gf, 3, none⟩ = some (.int .i64 (k : Nat))) [9] #[false, false, false, false, false, false, false, false, false, false] 10 (by kernel_rfl) (by kernel_rfl) (by kernel_rfl) ?_
            refine wpAnyG_take0 (i := 0) (oi := ⟨_, _, _, _, _, _⟩) (v := ?vg1_0) rfl (by kernel_rfl) (by kernel_rfl) (by kernel_rfl) (by kernel_rfl) (fun _ _ _ h => h) (fun _ => hS9) (Or.inl ⟨by rfl, ?hg1_0⟩) ?_
            case hg1_0 => intro w _; go_simp; (try with_reducible rfl)
            try simp only [Act.put, List.setIfInBounds_toArray, List.set_cons_zero, List.set_cons_succ]
            refine wpAnyG_take0 (i := 1) (oi := ⟨_, _, _, _, _, _⟩) (v := ?vg1_1) rfl (by kernel_rfl) (by kernel_rfl) (by kernel_rfl) (by kernel_rfl) (fun _ _ _ h => h) (fun _ => hS9) (Or.inl ⟨by rfl, ?hg1_1⟩) ?_
            case hg1_1 => intro w _; go_simp; (try with_reducible rfl)
            try simp only [Act.put, List.setIfInBounds_toArray, List.set_cons_zero, List.set_cons_succ]
            refine wpAnyG_take0 (i := 2) (oi := ⟨_, _, _, _, _, _⟩) (v := ?vg1_2) rfl (by kernel_rfl) (by kernel_rfl) (by kernel_rfl) (by kernel_rfl) (fun _ _ _ h => h) (fun _ => hS9) (Or.inl ⟨by rfl, ?hg1_2⟩) ?_
            case hg1_2 => intro w _; go_simp; (try with_reducible rfl)
            try simp only [Act.put, List.setIfInBounds_toArray, List.set_cons_zero, List.set_cons_succ]
            refine wpAnyG_take (i := 3) (oi := ⟨_, _, _, _, _, _⟩) (v := ?vg1_3) [3, 9] rfl (by kernel_rfl) (by kernel_rfl) (by kernel_rfl) (by kernel_rfl) (by kernel_rfl) (fun _ _ _ h => h) (fun _ => hS9) (Or.inl ⟨by rfl, ?hg1_3⟩) ?_
            case hg1_3 => intro w hSw; (try dsimp only at hSw); go_simp; (try with_reducible rfl)
            try simp only [Act.put, List.setIfInBounds_toArray, List.set_cons_zero, List.set_cons_succ]
            refine wpAnyG_take (i := 4) (oi := ⟨_, _, _, _, _, _⟩) (v := ?vg1_4) [4, 9] rfl (by kernel_rfl) (by kernel_rfl) (by kernel_rfl) (by kernel_rfl) (by kernel_rfl) (fun _ _ _ h => h) (fun _ => hS9) (Or.inl ⟨by rfl, ?hg1_4⟩) ?_
            case hg1_4 => intro w hSw; (try dsimp only at hSw); go_simp; (try with_reducible rfl)
            try simp only [Act.put, List.setIfInBounds_toArray, List.set_cons_zero, List.set_cons_succ]
            refine wpAnyG_take0 (i := 5) (oi := ⟨_, _, _, _, _, _⟩) (v := ?vg1_5) rfl (by kernel_rfl) (by kernel_rfl) (by kernel_rfl) (by kernel_rfl) (fun _ _ _ h => h) (fun _ => hS9) (Or.inl ⟨by rfl, ?hg1_5⟩) ?_
            case hg1_5 => intro w _; go_simp; (try with_reducible rfl)
            try simp only [Act.put, List.setIfInBounds_toArray, List.set_cons_zero, List.set_cons_succ]
            refine wpAnyG_take0 (i := 6) (oi := ⟨_, _, _, _, _, _⟩) (v := ?vg1_6) rfl (by kernel_rfl) (by kernel_rfl) (by kernel_rfl) (by kernel_rfl) (fun _ _ _ h => h) (fun _ => hS9) (Or.inl ⟨by rfl, ?hg1_6⟩) ?_
            case hg1_6 => intro w _; go_simp; (try with_reducible rfl)
            try simp only [Act.put, List.setIfInBounds_toArray, List.set_cons_zero, List.set_cons_succ]
            refine wpAnyG_take0 (i := 7) (oi := ⟨_, _, _, _, _, _⟩) (v := ?vg1_7) rfl (by kernel_rfl) (by kernel_rfl) (by kernel_rfl) (by kernel_rfl) (fun _ _ _ h => h) (fun _ => hS9) (Or.inl ⟨by rfl, ?hg1_7⟩) ?_
            case hg1_7 => intro w _; go_simp; (try with_reducible rfl)
            try simp only [Act.put, List.setIfInBounds_toArray, List.set_cons_zero, List.set_cons_succ]
            refine wpAnyG_take (i := 8) (oi := ⟨_, _, _, _, _, _⟩) (v := ?vg1_8) [8, 9] rfl (by kernel_rfl) (by kernel_rfl) (by kernel_rfl) (by kernel_rfl) (by kernel_rfl) (fun _ _ _ h => h) (fun _ => hS9) (Or.inl ⟨by rfl, ?hg1_8⟩) ?_
            case hg1_8 => intro w hSw; (try dsimp only at hSw); go_simp; (try with_reducible rfl)
            try simp only [Act.put, List.setIfInBounds_toArray, List.set_cons_zero, List.set_cons_succ]
            refine wpAnyG_step (i := 9) (oi := ⟨_, _, _, _, _, _⟩) rfl (by kernel_rfl) (by rfl) (fun K hK => ?_)
            have hup : (Instr.mapUpdate 197 (.map (some gm)) (.agg #[.int .u8 (a0 : Nat), .int .u8 (a1 : Nat), .int .u8 (a2 : Nat), .int .u8 (a3 : Nat)]) (.int .i64 (k : Nat))).run Tryz.prog ((w3.setCell ⟨gf, 2, none⟩ (.slice A3 (k + 1) c3)).drew) = .ok () w4 := Hup.out
            go_simp
            refine hK _ _ (fun h => absurd h (Bool.eq_false_iff.1 (by kernel_rfl))) (fun _ => ?_)
            clear hK
            try simp only [Act.put, List.setIfInBounds_toArray, List.set_cons_zero, List.set_cons_succ]
            refine wpAnyG_done (by kernel_rfl) ?_ _
            go_wp2_with fail
            go_roundg (gk - 1)
            case measure => exact hgk1
            case rel => exact ⟨k + 1, A3, k + 1, c3, by omega, by omega, Lib.hid (HEnd.out _ _ _ _ HF5.out.1 HF5.out.2.1 HF5.out.2.2)⟩
      · as_aux_lemma =>
          have HAt := Lib.hid (at_no bl AB cB gf k (.map (some gm)) (.slice A2 k c2) (.int .i64 (k : Nat)) wr hF.blk (by omega) (by omega) (by omega))
          have hnx : aheadL bl (k + 1) = aheadL bl k ++ [-1] := by rw [ahead_succ]; unfold aheadV; rw [if_neg h4]
          have hlm := lastM_no (bl := bl) (done := k) (by omega)
          have HF := Lib.hid hF
          have Hnx := Lib.hid (And.intro hnx hlm)
          clear hI hF hkp hob hsw hnx hlm
          go_upto_region 4 with (go_at_call 139; refine HAt.out.mono ?_; rintro e w2 ⟨rfl, hk2⟩; have Hk2 := Lib.hid hk2; have z2 := hk2.size; have zg := Nat.lt_of_lt_of_le HF.out.blk.lt z2; have y2 : w2.cell? ⟨gf, 2, none⟩ = some (.slice A2 k c2) := (HF.out.keep hk2).blk.cell 2; clear hk2)
          obtain ⟨A3, c3, w3, hap, b0, b1, b2, hF3, hk3, hat3, -⟩ := ((HF.out.keep Hk2.out).keep ((Keep.refl [] w2).alloc (.cells #[.int .u8 0, .int .u8 0, .int .u8 0, .int .u8 0] 201))).app (-1) (by omega)
          obtain ⟨i0, i1, hF4⟩ := hF3.inc
          have HF4 : Hid (FM gf gm (.slice AB bl.length cB) (lastM bl (k + 1)) (aheadL bl (k + 1)) (k + 1) B A3 (k + 1) c3 ((w3.setCell ⟨gf, 2, none⟩ (.slice A3 (k + 1) c3)).setCell ⟨gf, 3, none⟩ (.int .i64 ((k + 1 : Nat) : Int))) ∧ Keep (gf :: gm :: (Value.slice A2 k c2).ownBlock.toList) wr ((w3.setCell ⟨gf, 2, none⟩ (.slice A3 (k + 1) c3)).setCell ⟨gf, 3, none⟩ (.int .i64 ((k + 1 : Nat) : Int))) ∧
              ∀ i, (Value.slice A3 (k + 1) c3).ownBlock = some i → (Value.slice A2 k c2).ownBlock = some i ∨ wr.heap.size ≤ i) := by
            rw [Hnx.out.1, Hnx.out.2]
            refine Lib.hid ⟨hF4, (((Hk2.out.alloc _).mono (by simp)).trans (hk3.mono (fun i hi => ?_))).setCell (.inl (by simp)) _, fun i hi => ?_⟩
            · rcases List.mem_cons.1 hi with rfl | hi
              · simp
              · exact List.mem_cons_of_mem _ (List.mem_cons_of_mem _ hi)
            · rcases hat3 i hi with h | h
              · exact .inl h
              · exact .inr (Nat.le_trans z2 (Nat.le_trans (by simp) h))
          rw [show (w2.alloc (.cells #[.int .u8 0, .int .u8 0, .int .u8 0, .int .u8 0] 201)).heap.size = w2.heap.size + 1 by simp] at hap
          have Hap := Lib.hid hap
          clear hF3 hk3 hat3 hF4 hap
          have hap := Hap.out
          go_wp2_with (at_builtin; refine wpList_append2 (v1 := .slice A2 k c2) (v2 := .slice (some ⟨w2.heap.size + 1, 0, none⟩) 1 1) rfl (.tmp 36) (.tmp 37) rfl rfl rfl hap ?_)
          go_roundg (gk - 1)
          case measure => exact hgk1
          case rel => exact ⟨k + 1, A3, k + 1, c3, by omega, by omega, Lib.hid (HEnd.out _ _ _ _ HF4.out.1 HF4.out.2.1 HF4.out.2.2)⟩
    · obtain rfl : k = tt := by omega
      have hkti : ¬ (k : Int) < k := by omega
      have HR := hI
      clear hI hF hkp hob
      go_wp2
      refine bodyPost_end (results_none rfl _ _ _) rfl ?_
      exact ⟨rfl, A2, n2, c2, HR.out.1, HR.out.2.1, fun i hi => by have := HR.out.2.2 i hi; simpa using this⟩
end Go.Proofs.YtdnaahbhfjclpaaGreatDoor

namespace Go.Proofs.YtdnaahbhfjclpaaGreatDoor
open Go.RowKit Go.Sal Go.Huf Go.Cod
end Go.Proofs.YtdnaahbhfjclpaaGreatDoor

