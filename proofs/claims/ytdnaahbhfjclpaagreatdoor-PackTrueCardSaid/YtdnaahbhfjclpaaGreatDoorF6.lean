/- Tokens, in the program and in the reference. -/
import Derived.Test.YtdnaahbhfjclpaaGreatDoorF3
set_option linter.unusedVariables false
set_option linter.unusedSimpArgs false
namespace Go.Proofs.YtdnaahbhfjclpaaGreatDoor
open Go.RowKit Go.Sal Go.Huf Go.Cod
theorem agg81 {T : Array Value} {W : World} {rb : Nat} {a b : Int} {x : Nat} {Q : Ending → World → Prop} (h4 : T[4]? = some (.pointer (some ⟨rb, 0, none⟩))) (hB : Blk W rb 143 #[.int .i64 a, .int .i64 b, .int .u8 (x : Nat)])
    (hQ : Q (.returned (.agg #[.int .i64 a, .int .i64 b, .int .u8 (x : Nat)])) W) : bodyPost Tryz.prog Tryz.f101 Q Exit.ret { tmps := T, defers := [] } W := by
  have c0 : W.cell? ⟨rb, 0, none⟩ = some (.int .i64 a) := hB.cell 0
  have c1 : W.cell? ⟨rb, 1, none⟩ = some (.int .i64 b) := hB.cell 1
  have c2 : W.cell? ⟨rb, 2, none⟩ = some (.int .u8 (x : Nat)) := hB.cell 2
  exact bodyPost_ret (v := .agg #[.int .i64 a, .int .i64 b, .int .u8 (x : Nat)]) (by simp [results, Tryz.results101, go_sem, h4, c0, c1, c2]) rfl hQ
def Lies (L : List Nat) (H : Nat) (v : Value) : Prop := ∀ i, v.ownBlock = some i → i ∈ L ∨ H ≤ i
structure TS (gf gm : Nat) (bs : Value) (f : Q4 → Option Value) (L : List Int) (done B : Nat) (A : Option Addr) (n c rb tb : Nat) (a b : Int) (x : Nat) (wr : World) : Prop where
  fm : FM gf gm bs f L done B A n c wr
  res : Blk wr rb 143 #[.int .i64 0, .int .i64 0, .int .u8 0]
  tok : Blk wr tb 143 #[.int .i64 a, .int .i64 b, .int .u8 (x : Nat)]
  ne : rb ≠ tb
section
variable {gf gm done B n c rb tb x : Nat} {bs : Value} {f : Q4 → Option Value} {L : List Int} {A : Option Addr} {a b : Int} {wr : World}
theorem FM.side (h : FM gf gm bs f L done B A n c wr) {g t : Nat} {cs : Array Value} (hb : Blk wr g t cs) (h1 : t ≠ 199) (h2 : t ≠ 3) {w1 : World} (k : Keep (gf :: gm :: (Value.slice A n c).ownBlock.toList) wr w1) : Blk w1 g t cs := by
  refine hb.keep k (fun hm => ?_)
  rcases List.mem_cons.1 hm with rfl | hm
  · exact hb.ne_ h.blk h1 rfl
  · rcases List.mem_cons.1 hm with rfl | hm
    · exact h.map.ne_blk hb rfl
    · exact own_ne_blk h.own hb (fun e => h2 e.symm) (by simpa using hm)
theorem FM.beside (h : FM gf gm bs f L done B A n c wr) {g t : Nat} {cs : Array Value} (hb : Blk wr g t cs) (h1 : t ≠ 199) (h2 : t ≠ 3) {w1 : World} (k : Keep [g] wr w1) : FM gf gm bs f L done B A n c w1 :=
  ⟨h.blk.keep k (by simp; exact fun e => hb.ne_ h.blk h1 e.symm), h.map.keep k (by simp; exact fun e => h.map.ne_blk hb e.symm), ownsRow_keep h.own k (fun i hi hm => own_ne_blk h.own hb (fun e => h2 e.symm) (by simp at hm; rw [hi, hm])), Nat.le_trans h.le k.size⟩
theorem TS.keep (h : TS gf gm bs f L done B A n c rb tb a b x wr) {w1 : World} (k : Keep [] wr w1) : TS gf gm bs f L done B A n c rb tb a b x w1 := ⟨h.fm.keep k, h.res.keep k (by simp), h.tok.keep k (by simp), h.ne⟩
theorem TS.store (h : TS gf gm bs f L done B A n c rb tb a b x wr) (a' b' : Int) : TS gf gm bs f L done B A n c rb tb a' b' 0 (((wr.setCell ⟨tb, 0, none⟩ (.int .i64 a')).setCell ⟨tb, 1, none⟩ (.int .i64 b')).setCell ⟨tb, 2, none⟩ (.int .u8 0)) :=
  ⟨h.fm.beside h.tok (by decide) (by decide) ((((Keep.refl [tb] wr).setCell (.inl (by simp)) _).setCell (.inl (by simp)) _).setCell (.inl (by simp)) _),
    ((h.res.far (p := ⟨tb, 0, none⟩) h.ne _).far (p := ⟨tb, 1, none⟩) h.ne _).far (p := ⟨tb, 2, none⟩) h.ne _, ((h.tok.set_ 0 _).set_ 1 _).set_ 2 _, h.ne⟩
theorem TS.fin (h : TS gf gm bs f L done B A n c rb tb a b x wr) : Blk (((wr.setCell ⟨rb, 0, none⟩ (.int .i64 a)).setCell ⟨rb, 1, none⟩ (.int .i64 b)).setCell ⟨rb, 2, none⟩ (.int .u8 (x : Nat))) rb 143 #[.int .i64 a, .int .i64 b, .int .u8 (x : Nat)] ∧
    FM gf gm bs f L done B A n c (((wr.setCell ⟨rb, 0, none⟩ (.int .i64 a)).setCell ⟨rb, 1, none⟩ (.int .i64 b)).setCell ⟨rb, 2, none⟩ (.int .u8 (x : Nat))) :=
  ⟨((h.res.set_ 0 _).set_ 1 _).set_ 2 _, h.fm.beside h.res (by decide) (by decide) ((((Keep.refl [rb] wr).setCell (.inl (by simp)) _).setCell (.inl (by simp)) _).setCell (.inl (by simp)) _)⟩
end
set_option maxRecDepth 20000 in
set_option maxHeartbeats 4000000 in
theorem token_any (bl : List Nat) (AB : Option Addr) (cB gf gm d0 B : Nat) (A : Option Addr) (n c at_ : Nat) (w : World) (h : FS bl AB cB gf gm d0 B A n c w) (hs : BySrc w AB bl) (hsb : ∀ a, AB = some a → a.block < B ∧ a.block ≠ gf ∧ a.block ≠ gm) (hc : bl.length ≤ cB) (hl : bl.length ≤ 100000) (ht : at_ < bl.length) (hd : d0 ≤ at_) :
    Calls Tryz.prog 101 #[.pointer (some ⟨gf, 0, none⟩), .int .i64 (at_ : Nat)] w fun e w' => ∃ (d m : Int) (x : Nat), e = .returned (.agg #[.int .i64 d, .int .i64 m, .int .u8 (x : Nat)]) ∧ longP bl at_ = (d, m, x) ∧ ∃ A' n' c', FS bl AB cB gf gm at_ B A' n' c' w' ∧
      Keep (gf :: gm :: (Value.slice A n c).ownBlock.toList) w w' ∧ Lies (Value.slice A n c).ownBlock.toList w.heap.size (Value.slice A' n' c') := by
  obtain ⟨g, o, rfl, hg, hbd⟩ := bsrc_at hs (by omega)
  have dd := hbd at_ ht
  obtain ⟨x0, hx0⟩ : ∃ x0, bl.getD at_ 0 = x0 := ⟨_, rfl⟩
  rw [hx0] at dd
  have Hx0 := Lib.hid hx0
  have m0 : w.cell? ⟨gf, 0, none⟩ = some (.slice (some ⟨g, o, none⟩) bl.length cB) := h.blk.cell 0
  have hgfl := h.blk.lt
  have hai : (at_ : Int) < bl.length := by omega
  have Hs := Lib.hid (And.intro hs hsb)
  have HF := Lib.hid h
  -- the world behind the two new blocks
  obtain ⟨W1, hW1⟩ : ∃ W1, (w.alloc (.cells #[.int .i64 0, .int .i64 0, .int .u8 0] 143)).alloc (.cells #[.int .i64 0, .int .i64 1, .int .u8 (x0 : Nat)] 143) = W1 := ⟨_, rfl⟩
  have k1 : Keep [] w W1 := by rw [← hW1]; exact ((Keep.refl [] w).alloc _).alloc _
  have HT1 : Hid (TS gf gm (.slice (some ⟨g, o, none⟩) bl.length cB) (lastM bl d0) (aheadL bl d0) d0 B A n c w.heap.size (w.heap.size + 1) 0 1 x0 W1) := by
    refine Lib.hid ⟨h.keep k1, ?_, ?_, by omega⟩
    · rw [← hW1]; exact (Blk.new w 143 _).alloc _
    · rw [← hW1]
      have := Blk.new (w.alloc (.cells #[.int .i64 0, .int .i64 0, .int .u8 0] 143)) 143 #[.int .i64 0, .int .i64 1, .int .u8 (x0 : Nat)]
      simpa using this
  have HUp := Lib.hid (up_any bl (some ⟨g, o, none⟩) cB gf gm d0 B A n c at_ W1 (h.keep k1) (hs.keep k1 (by simp)) hsb hc hl (by omega) hd)
  have Hk1 := Lib.hid k1
  have HW1 := Lib.hid hW1
  clear h hs hsb hbd hx0 k1 hW1
  go_enter Tryz.func101, Tryz.ntmps101
  go_upto_region 2 with fail
  rw [HW1.out]
  obtain ⟨rb, hrb⟩ : ∃ rb, w.heap.size = rb := ⟨_, rfl⟩
  obtain ⟨tb, htb⟩ : ∃ tb, rb + 1 = tb := ⟨_, rfl⟩
  have Hrb := Lib.hid (And.intro hrb htb)
  rw [hrb, htb] at HT1
  rw [hrb, htb]
  clear hrb htb dd m0 hgfl
  go_upto_region 3 with (go_at_call 138; refine HUp.out.mono ?_; rintro e w2 ⟨rfl, A2, n2, c2, hF2, hk2, ho2⟩; have H2 : Hid (TS gf gm (.slice (some ⟨g, o, none⟩) bl.length cB) (lastM bl at_) (aheadL bl at_) at_ B A2 n2 c2 rb tb 0 1 x0 w2 ∧ Keep (gf :: gm :: (Value.slice A n c).ownBlock.toList) w w2 ∧ ∀ i, (Value.slice A2 n2 c2).ownBlock = some i → i ∈ (Value.slice A n c).ownBlock.toList ∨ w.heap.size ≤ i) := Lib.hid ⟨⟨hF2, HT1.out.fm.side HT1.out.res (by decide) (by decide) hk2, HT1.out.fm.side HT1.out.tok (by decide) (by decide) hk2, HT1.out.ne⟩, (Hk1.out.mono (by simp)).trans hk2, fun i hi => (ho2 i hi).imp_right (fun h => Nat.le_trans Hk1.out.size h)⟩; clear hF2 hk2 ho2)
  have hsw : BySrc w2 (some ⟨g, o, none⟩) bl := Hs.out.1.keep H2.out.2.1 (fun a ha hm => by
    obtain ⟨h1, h2, h3⟩ := Hs.out.2 a ha
    rcases List.mem_cons.1 hm with h | hm
    · exact h2 h
    · rcases List.mem_cons.1 hm with h | hm
      · exact h3 h
      · have := own_far HF.out.own _ hm
        omega)
  have Hsw := Lib.hid hsw
  have HEnd : Hid (∀ (W : World) (a b : Int) (x : Nat), TS gf gm (.slice (some ⟨g, o, none⟩) bl.length cB) (lastM bl at_) (aheadL bl at_) at_ B A2 n2 c2 rb tb a b x W → Keep (gf :: gm :: (Value.slice A n c).ownBlock.toList) w W → longP bl at_ = (a, b, x) →
      ∃ (d m : Int) (x' : Nat), Ending.returned (Value.agg #[.int .i64 a, .int .i64 b, .int .u8 (x : Nat)]) = .returned (.agg #[.int .i64 d, .int .i64 m, .int .u8 (x' : Nat)]) ∧ longP bl at_ = (d, m, x') ∧ ∃ A' n' c', FS bl (some ⟨g, o, none⟩) cB gf gm at_ B A' n' c' (((W.setCell ⟨rb, 0, none⟩ (.int .i64 a)).setCell ⟨rb, 1, none⟩ (.int .i64 b)).setCell ⟨rb, 2, none⟩ (.int .u8 (x : Nat))) ∧
      Keep (gf :: gm :: (Value.slice A n c).ownBlock.toList) w (((W.setCell ⟨rb, 0, none⟩ (.int .i64 a)).setCell ⟨rb, 1, none⟩ (.int .i64 b)).setCell ⟨rb, 2, none⟩ (.int .u8 (x : Nat))) ∧ Lies (Value.slice A n c).ownBlock.toList w.heap.size (Value.slice A' n' c')) := by
    refine Lib.hid (fun W a b x hT hK hL => ⟨a, b, x, rfl, hL, A2, n2, c2, hT.fin.2, ?_, H2.out.2.2⟩)
    have hr : w.heap.size ≤ rb := by have := Hrb.out.1; omega
    exact ((hK.setCell (.inr hr) _).setCell (.inr hr) _).setCell (.inr hr) _
  have Htb : Hid (w.heap.size ≤ tb) := Lib.hid (by have := Hrb.out; omega)
  clear HUp HF Hs hsw HT1 HW1 Hk1
  by_cases h4 : at_ + 4 ≤ bl.length
  · as_aux_lemma =>
      have HAt0 := at_yes bl (some ⟨g, o, none⟩) cB gf at_ (.map (some gm)) (.slice A2 n2 c2) (.int .i64 (at_ : Nat)) w2 H2.out.1.fm.blk Hsw.out hc (by omega) h4
      have hlk : ∀ W, FM gf gm (.slice (some ⟨g, o, none⟩) bl.length cB) (lastM bl at_) (aheadL bl at_) at_ B A2 n2 c2 W → (Instr.lookup 197 (.map (some gm)) (qkey (q4 bl at_)) true).run Tryz.prog W = .ok (.tuple #[(lastM bl at_ (q4 bl at_)).getD (.int .i64 0), .bool (lastM bl at_ (q4 bl at_)).isSome]) W := fun W hW => klookup_ok qlaw Tryz.underlying197 (.int .i64 0) (by kernel_rfl) hW.map (q4 bl at_)
      have hlv : lastM bl at_ (q4 bl at_) = (lastF bl (q4 bl at_) at_).map fun (p : Nat) => .int .i64 (p : Int) := rfl
      rw [hlv] at hlk
      obtain ⟨q, hq⟩ : ∃ q, q4 bl at_ = q := ⟨_, rfl⟩
      rw [hq] at HAt0 hlk
      have Hq := Lib.hid hq
      obtain ⟨a0, a1, a2, a3⟩ := q
      have HAt : Hid (Calls Tryz.prog 139 #[.pointer (some ⟨gf, 0, none⟩), .int .i64 (at_ : Nat)] w2 fun e w' => e = .returned (.tuple #[.agg #[.int .u8 (a0 : Nat), .int .u8 (a1 : Nat), .int .u8 (a2 : Nat), .int .u8 (a3 : Nat)], .bool true]) ∧ Keep [] w2 w') := Lib.hid HAt0
      have Hlk := Lib.hid hlk
      clear HAt0 hlk hlv hq
      go_upto_region 5 with (go_at_call 139; refine HAt.out.mono ?_; rintro e w3 ⟨rfl, hk3⟩; have H3 := Lib.hid (And.intro (H2.out.1.keep hk3) (And.intro (H2.out.2.1.trans (hk3.mono (by simp))) (Hsw.out.keep hk3 (by simp)))); clear hk3)
      obtain ⟨W5, hW5⟩ : ∃ W5, w3.alloc (.cells #[.int .u8 (a0 : Nat), .int .u8 (a1 : Nat), .int .u8 (a2 : Nat), .int .u8 (a3 : Nat)] 201) = W5 := ⟨_, rfl⟩
      rw [hW5]
      have H5 : Hid (TS gf gm (.slice (some ⟨g, o, none⟩) bl.length cB) (lastM bl at_) (aheadL bl at_) at_ B A2 n2 c2 rb tb 0 1 x0 W5 ∧ Keep (gf :: gm :: (Value.slice A n c).ownBlock.toList) w W5 ∧ BySrc W5 (some ⟨g, o, none⟩) bl) := by
        rw [← hW5]
        refine Lib.hid ⟨H3.out.1.keep ((Keep.refl [] w3).alloc _), H3.out.2.1.alloc _, ?_⟩
        exact H3.out.2.2.keep ((Keep.refl [] w3).alloc _) (by simp)
      obtain ⟨y0, y1, y2, y3⟩ : W5.cell? ⟨w3.heap.size, 0, none⟩ = some (.int .u8 (a0 : Nat)) ∧ W5.cell? ⟨w3.heap.size, 1, none⟩ = some (.int .u8 (a1 : Nat)) ∧ W5.cell? ⟨w3.heap.size, 2, none⟩ = some (.int .u8 (a2 : Nat)) ∧ W5.cell? ⟨w3.heap.size, 3, none⟩ = some (.int .u8 (a3 : Nat)) := by
        rw [← hW5]
        have := Blk.new w3 201 #[.int .u8 (a0 : Nat), .int .u8 (a1 : Nat), .int .u8 (a2 : Nat), .int .u8 (a3 : Nat)]
        exact ⟨this.cell 0, this.cell 1, this.cell 2, this.cell 3⟩
      have ym : W5.cell? ⟨gf, 1, none⟩ = some (.map (some gm)) := H5.out.1.fm.blk.cell 1
      clear hW5
      have hlk : ∀ nn, (Instr.lookup 197 (.map (some gm)) (.agg #[.int .u8 (a0 : Nat), .int .u8 (a1 : Nat), .int .u8 (a2 : Nat), .int .u8 (a3 : Nat)]) true).run Tryz.prog (W5.drewN nn) = .ok (.tuple #[((lastF bl (a0, a1, a2, a3) at_).map fun (p : Nat) => Value.int .i64 (p : Int)).getD (.int .i64 0), .bool ((lastF bl (a0, a1, a2, a3) at_).map fun (p : Nat) => Value.int .i64 (p : Int)).isSome]) (W5.drewN nn) := fun nn => Hlk.out _ (H5.out.1.fm.keep ((Keep.refl [] _).drewN nn))
      go_cut [8, 9] (fun v8 v9 wx => ∃ (p : Int) (th : Bool) (k : Nat), v8 = .int .i64 p ∧ v9 = .bool th ∧ wx = W5.drewN k ∧ -1 ≤ p ∧ p ≤ 100000 ∧ Hid ((th = true → p = lastV bl (a0, a1, a2, a3) at_) ∧ (th = false → lastF bl (a0, a1, a2, a3) at_ = none)))
      case first =>
        cases hlf : lastF bl (a0, a1, a2, a3) at_ with
        | none =>
          have Hlf := Lib.hid hlf
          rw [hlf] at hlk
          simp only [Option.map_none, Option.getD_none, Option.isSome_none] at hlk
          clear hlf
          go_quiet (fail)
          go_wp2_with fail
          go_meet
          exact ⟨0, false, _, rfl, rfl, rfl, by omega, by omega, Lib.hid ⟨fun h => (by cases h), fun _ => Hlf.out⟩⟩
        | some p =>
          have Hlf := Lib.hid hlf
          have hpl := (lastF_some hlf).1
          rw [hlf] at hlk
          simp only [Option.map_some, Option.getD_some, Option.isSome_some] at hlk
          clear hlf
          go_quiet (fail)
          go_wp2_with fail
          go_meet
          exact ⟨p, true, _, rfl, rfl, rfl, by omega, by omega, Lib.hid ⟨fun _ => by simp [lastV, Hlf.out], fun h => (by cases h)⟩⟩
      case rest =>
        obtain ⟨p0, th0, k0, rfl, rfl, rfl, hp1, hp2, hP⟩ := hcut
        clear hlk Hlk y0 y1 y2 y3 ym
        have hn2 : n2 = at_ := by
          have := H5.out.1.fm.own.1
          rw [inI_len] at this
          simp [aheadL] at this
          omega
        subst hn2
        go_wp2_with fail
        go_loopg [8] n2 (fun gk v8 wr => ∃ (m : Nat) (p : Int), m ≤ gk ∧ m ≤ n2 ∧ n2 ≤ m + 4096 ∧ v8 = .int .i64 p ∧ -1 ≤ p ∧ p ≤ 100000 ∧ Hid ((th0 = true → p = lastV bl (a0, a1, a2, a3) m) ∧ (th0 = false → lastF bl (a0, a1, a2, a3) m = none) ∧
          ∃ a b x, bestT bl n2 (n2 - m) = (a, b, x) ∧ TS gf gm (.slice (some ⟨g, o, none⟩) bl.length cB) (lastM bl n2) (aheadL bl n2) n2 B A2 n2 c2 rb tb a b x wr ∧ Keep (gf :: gm :: (Value.slice A n c).ownBlock.toList) w wr ∧ BySrc wr (some ⟨g, o, none⟩) bl))
        case atStart => exact ⟨n2, p0, Nat.le_refl _, Nat.le_refl _, by omega, rfl, hp1, hp2, Lib.hid ⟨hP.out.1, hP.out.2, 0, 1, x0, by rw [Nat.sub_self, bestT, Hx0.out], H5.out.1.keep ((Keep.refl [] _).drewN k0), H5.out.2.1.drewN k0, H5.out.2.2.keep ((Keep.refl [] _).drewN k0) (by simp)⟩⟩
        case round =>
          obtain ⟨m, p, hmg, hm, hm4, rfl, hp1', hp2', hI⟩ := hrel
          obtain ⟨hth, htf, a, b, x, hbe, hT, hK, hS⟩ := hI.out
          have hbl := best_len (b := bl) ht (d := n2 - m) (by omega)
          rw [hbe] at hbl
          dsimp only at hbl
          obtain ⟨r0, r1, r2⟩ : wr.cell? ⟨tb, 0, none⟩ = some (.int .i64 a) ∧ wr.cell? ⟨tb, 1, none⟩ = some (.int .i64 b) ∧ wr.cell? ⟨tb, 2, none⟩ = some (.int .u8 (x : Nat)) := ⟨hT.tok.cell 0, hT.tok.cell 1, hT.tok.cell 2⟩
          obtain ⟨q0, q1, q2⟩ : wr.cell? ⟨rb, 0, none⟩ = some (.int .i64 0) ∧ wr.cell? ⟨rb, 1, none⟩ = some (.int .i64 0) ∧ wr.cell? ⟨rb, 2, none⟩ = some (.int .u8 0) := ⟨hT.res.cell 0, hT.res.cell 1, hT.res.cell 2⟩
          have f0 := hT.tok.free 0
          have f1 := hT.tok.free 1
          have f2 := hT.tok.free 2
          have g0 := hT.res.free 0
          have g1 := hT.res.free 1
          have g2 := hT.res.free 2
          have HT := Lib.hid (And.intro hT (And.intro hK hS))
          cases hlf : lastF bl (a0, a1, a2, a3) m with
          | none =>
            have HL : Hid (longP bl n2 = (a, b, x)) := by
              refine Lib.hid ?_
              rw [← hbe]
              exact best_end hm (by omega) (by omega) (fun j h1 h2 h3 => by rw [Hq.out]; exact lastF_none hlf j h1 h3)
            cases th0 with
            | false =>
              clear hI hth htf hbe hT hK hS hlf
              go_wp2
              exact agg81 rfl HT.out.1.fin.1 (HEnd.out _ _ _ _ HT.out.1 HT.out.2.1 HL.out)
            | true =>
              have hpm : p = -1 := by rw [hth rfl]; simp [lastV, hlf]
              subst hpm
              clear hI hth htf hbe hT hK hS hlf
              go_wp2
              exact agg81 rfl HT.out.1.fin.1 (HEnd.out _ _ _ _ HT.out.1 HT.out.2.1 HL.out)
          | some p' =>
            have htt : th0 = true := by
              cases th0 with
              | true => rfl
              | false => have := htf rfl; rw [hlf] at this; cases this
            subst htt
            have hpp : p = (p' : Int) := by rw [hth rfl]; simp [lastV, hlf]
            subst hpp
            obtain ⟨s1, s2, s3, s4⟩ := lastF_some hlf
            have hp0 : (0 : Int) ≤ (p' : Int) := by omega
            obtain ⟨dd, hdd⟩ : ∃ dd, n2 - p' = dd := ⟨_, rfl⟩
            have hwd : IntKind.i64.wrap ((n2 : Int) - (p' : Int)) = (dd : Int) := by rw [IntKind.wrap_i64]; omega
            by_cases hfar : dd ≤ 4096
            · have hfi : (dd : Int) ≤ 4096 := by omega
              have hks : bestT bl n2 (n2 - p' - 1) = (a, b, x) := by
                rw [← hbe]
                exact best_skip hm s1 (fun j h1 h2 h3 => by rw [Hq.out]; exact s4 j h1 h2 h3)
              have hr4 : 4 ≤ rch bl p' n2 := key_rch (by omega) h4 (by rw [Hq.out]; exact s3)
              have hrl := (rch_le bl p' n2).1
              have HRch := Lib.hid (reach_any bl (some ⟨g, o, none⟩) cB gf p' n2 (.map (some gm)) (.slice A2 n2 c2) (.int .i64 (n2 : Nat)) wr hT.fm.blk hS (by omega) (by omega) ht)
              have hah : aheadV bl p' = lastV bl (a0, a1, a2, a3) p' := by unfold aheadV; rw [if_pos s2, s3]
              have hbs : bestT bl n2 (n2 - p') = if b < rch bl p' n2 then ((dd : Int), ((rch bl p' n2 : Nat) : Int), 0) else (a, b, x) := by
                obtain ⟨e, he⟩ : ∃ e, n2 - p' = e + 1 := ⟨n2 - p' - 1, by omega⟩
                have h1 : n2 - (e + 1) = p' := by omega
                rw [he, Nat.add_sub_cancel] at hks
                rw [he, bestT, hks, h1]
                by_cases hb : b < rch bl p' n2
                · rw [if_pos ⟨hr4, hb⟩, if_pos hb]
                  have : (dd : Int) = (e : Int) + 1 := by omega
                  rw [this]
                · rw [if_neg (fun h => hb h.2), if_neg hb]
              have hav : -1 ≤ aheadV bl p' ∧ aheadV bl p' ≤ 100000 := by
                rw [hah]
                unfold lastV
                cases hx : lastF bl (a0, a1, a2, a3) p' with
                | none => simp
                | some z => have := (lastF_some hx).1; simp; omega
              have hn0 : 0 < n2 := by omega
              obtain ⟨ga, rfl, hga, -⟩ := own_some hT.fm.own hn0
              have hac : wr.cell? ⟨ga, p', none⟩ = some (.int .i64 (aheadV bl p')) := by
                have := (inI_cell hT.fm.own (i := p') (by simp [aheadL]; omega)).1
                rw [this]
                simp [aheadL]
              have yg : wr.cell? ⟨gf, 2, none⟩ = some (.slice (some ⟨ga, 0, none⟩) n2 c2) := hT.fm.blk.cell 2
              have hgt : ga ≠ tb := fun e => own_ne_blk hT.fm.own hT.tok (by decide) (by simp [Value.ownBlock, e])
              have hft : gf ≠ tb := fun e => (hT.fm.blk.ne_ hT.tok (by decide)) e
              have hpn : (p' : Int) < n2 := by omega
              have hpn2 : p' < n2 := by omega
              have Hbs := Lib.hid hbs
              have Hah := Lib.hid hah
              have hpg : p' < gk := by omega
              have hm4' : n2 ≤ p' + 4096 := by omega
              generalize aheadV bl p' = av at *
              generalize rch bl p' n2 = r at *
              clear hI hth htf hbe hT hK hS hlf hks hbs hah s1 s2 s3 s4 hdd
              by_cases hb : b < r
              · have HB : Hid (bestT bl n2 (n2 - p') = ((dd : Int), (r : Int), 0)) := Lib.hid (by rw [Hbs.out, if_pos hb])
                go_wp2_with (go_at_call 140; refine HRch.out.mono ?_; rintro e w6 ⟨rfl, mm, rfl⟩)
                go_roundg p'
                case measure => exact hpg
                case rel => exact ⟨p', av, Nat.le_refl _, by omega, hm4', rfl, hav.1, hav.2, Lib.hid ⟨fun _ => Hah.out, fun h => (by cases h), dd, r, 0, HB.out, (HT.out.1.keep ((Keep.refl [] _).drewN mm)).store _ _, (((HT.out.2.1.drewN mm).setCell (.inr Htb.out) _).setCell (.inr Htb.out) _).setCell (.inr Htb.out) _, HT.out.2.2.keep (((((Keep.refl [tb] wr).drewN mm).setCell (.inl (by simp)) _).setCell (.inl (by simp)) _).setCell (.inl (by simp)) _) (fun a ha => by injection ha with ha; subst ha; simp; have := Htb.out; omega)⟩⟩
              · have HB : Hid (bestT bl n2 (n2 - p') = (a, b, x)) := Lib.hid (by rw [Hbs.out, if_neg hb])
                go_wp2_with (go_at_call 140; refine HRch.out.mono ?_; rintro e w6 ⟨rfl, mm, rfl⟩)
                go_roundg p'
                case measure => exact hpg
                case rel => exact ⟨p', av, Nat.le_refl _, by omega, hm4', rfl, hav.1, hav.2, Lib.hid ⟨fun _ => Hah.out, fun h => (by cases h), a, b, x, HB.out, HT.out.1.keep ((Keep.refl [] _).drewN mm), HT.out.2.1.drewN mm, HT.out.2.2.keep ((Keep.refl [] _).drewN mm) (by simp)⟩⟩
            · have hfi : ¬ (dd : Int) ≤ 4096 := by omega
              have HL : Hid (longP bl n2 = (a, b, x)) := by
                refine Lib.hid ?_
                rw [← hbe]
                exact best_end hm (by omega) (by omega) (fun j h1 h2 h3 => by rw [Hq.out]; exact s4 j (by omega) h1 h3)
              clear hI hth htf hbe hT hK hS hlf s1 s2 s3 s4 hdd
              go_wp2
              exact agg81 rfl HT.out.1.fin.1 (HEnd.out _ _ _ _ HT.out.1 HT.out.2.1 HL.out)
  · as_aux_lemma =>
      have HAt := Lib.hid (at_no bl (some ⟨g, o, none⟩) cB gf at_ (.map (some gm)) (.slice A2 n2 c2) (.int .i64 (at_ : Nat)) w2 H2.out.1.fm.blk (by omega) (by omega) (by omega))
      have HL := Lib.hid (long_short (b := bl) (at_ := at_) (by omega))
      clear h4
      go_upto_region 5 with (go_at_call 139; refine HAt.out.mono ?_; rintro e w3 ⟨rfl, hk3⟩; have H3 := Lib.hid (And.intro (H2.out.1.keep hk3) (H2.out.2.1.trans (hk3.mono (by simp)))); clear hk3)
      have z := H3.out.1.tok.lt
      have z2 := H3.out.1.res.lt
      obtain ⟨W5, hW5⟩ : ∃ W5, w3.alloc (.cells #[.int .u8 0, .int .u8 0, .int .u8 0, .int .u8 0] 201) = W5 := ⟨_, rfl⟩
      rw [hW5]
      have H5 : Hid (TS gf gm (.slice (some ⟨g, o, none⟩) bl.length cB) (lastM bl at_) (aheadL bl at_) at_ B A2 n2 c2 rb tb 0 1 x0 W5 ∧ Keep (gf :: gm :: (Value.slice A n c).ownBlock.toList) w W5) := by
        rw [← hW5]
        exact Lib.hid ⟨H3.out.1.keep ((Keep.refl [] w3).alloc _), H3.out.2.alloc _⟩
      clear hW5 z z2
      obtain ⟨r0, r1, r2⟩ : W5.cell? ⟨tb, 0, none⟩ = some (.int .i64 0) ∧ W5.cell? ⟨tb, 1, none⟩ = some (.int .i64 1) ∧ W5.cell? ⟨tb, 2, none⟩ = some (.int .u8 (x0 : Nat)) := ⟨H5.out.1.tok.cell 0, H5.out.1.tok.cell 1, H5.out.1.tok.cell 2⟩
      obtain ⟨q0, q1, q2⟩ : W5.cell? ⟨rb, 0, none⟩ = some (.int .i64 0) ∧ W5.cell? ⟨rb, 1, none⟩ = some (.int .i64 0) ∧ W5.cell? ⟨rb, 2, none⟩ = some (.int .u8 0) := ⟨H5.out.1.res.cell 0, H5.out.1.res.cell 1, H5.out.1.res.cell 2⟩
      have f0 := H5.out.1.res.free 0
      have f1 := H5.out.1.res.free 1
      have f2 := H5.out.1.res.free 2
      go_wp2
      exact agg81 rfl H5.out.1.fin.1 (HEnd.out _ _ _ _ H5.out.1 H5.out.2 (by rw [HL.out, Hx0.out]))
end Go.Proofs.YtdnaahbhfjclpaaGreatDoor

namespace Go.Proofs.YtdnaahbhfjclpaaGreatDoor
open Go.RowKit Go.Sal Go.Huf Go.Cod
theorem tkinfo : (Tryz.prog.info? 143).map (fun i => (i.zero, i.size, i.bytes)) = some (some (.agg #[.int .i64 0, .int .i64 0, .int .u8 0]), 3, 24) := by kernel_rfl
def tksC (l : List Tk) : List Value := l.flatMap tcells
theorem tks_snoc (l : List Tk) (t : Tk) : tksC (l ++ [t]) = tksC l ++ tcells t := by simp [tksC]
theorem tok_append {base n c : Nat} {A : Option Addr} {l : List Tk} {w : World} (h : w.ownsRow base 143 3 (.slice A n c) n (tksC l)) (d m : Int) (x : Nat) (hn : n ≤ 1000000) (hB : base ≤ w.heap.size) :
    ∃ A' c' w', (Builtin.append_ #[96, 96] 96 #[.slice A n c, .slice (some ⟨w.heap.size, 0, none⟩) 1 1]).run Tryz.prog (w.alloc (.cells #[.int .i64 d, .int .i64 m, .int .u8 (x : Nat)] 143)) = .ok (.slice A' (n + 1) c') w' ∧
      w'.ownsRow base 143 3 (.slice A' (n + 1) c') (n + 1) (tksC (l ++ [(d, m, x)])) ∧ Keep (Value.slice A n c).ownBlock.toList w w' := by
  have hka : Keep [] w (w.alloc (.cells #[.int .i64 d, .int .i64 m, .int .u8 (x : Nat)] 143)) := (Keep.refl [] w).alloc _
  obtain ⟨v', w', hrun, hown, hg, hat⟩ := run_append_src (P := Tryz.prog) (w.alloc (.cells #[.int .i64 d, .int .i64 m, .int .u8 (x : Nat)] 143)) 96 96 143 _ 3 24 base Tryz.underlying96 tkinfo rfl (by omega) (.slice A n c) n (tksC l) (ownsRow_keep h hka (by simp))
    (some ⟨w.heap.size, 0, none⟩) 1 1 (tcells (d, m, x)) (src_new w 143 3 (tcells (d, m, x)) rfl) (by simp [Value.oneCell', tcells]) (by unfold maxLen; omega) (by omega) (by simp; omega)
  obtain ⟨A', c', rfl, _⟩ := own_slice hown
  exact ⟨A', c', w', hrun, by rw [tks_snoc]; exact hown, (hka.mono (by simp)).grown hg (fun k hk => .inl (by simp [hk]))⟩
def RowT (w : World) (l : List Tk) (E : Int) (e : Ending) (w' : World) : Prop := ∃ A c, e = .returned (.tuple #[.slice A l.length c, .int .i64 E]) ∧ w'.ownsRow w.heap.size 143 3 (.slice A l.length c) l.length (tksC l) ∧ Keep [] w w'
theorem find_any (bl : List Nat) (AB : Option Addr) (cB : Nat) (w : World) :
    Calls Tryz.prog 100 #[.slice AB bl.length cB] w fun e w' => ∃ gf gm B, e = .returned (.pointer (some ⟨gf, 0, none⟩)) ∧ FS bl AB cB gf gm 0 B none 0 0 w' ∧ w.heap.size ≤ gf ∧ w.heap.size ≤ gm ∧ w.heap.size ≤ B ∧ Keep [] w w' := by
  have hmm := @run_makeMap Tryz.prog
  go_enter Tryz.func100, Tryz.ntmps100
  go_wp2
  go_ret
  have k : Keep [] w ((w.alloc (.map #[] 0)).alloc (.cells #[.slice AB bl.length cB, .map (some w.heap.size), .slice none 0 0, .int .i64 0] 199)) := ((Keep.refl [] w).alloc _).alloc _
  refine ⟨w.heap.size + 1, w.heap.size, w.heap.size, rfl, ⟨?_, ⟨[], #[], 0, ?_, rfl, fun q => rfl⟩, World.ownsRow_nil _ _ _ _, k.size⟩, by omega, by omega, by omega, k⟩
  · have := Blk.new (w.alloc (.map #[] 0)) 199 #[.slice AB bl.length cB, .map (some w.heap.size), .slice none 0 0, .int .i64 0]
    simpa using this
  · rw [Below.heap_alloc _ _ _ (by simp)]
    exact heap_alloc_new w _
theorem FM.far {gf gm done B n c : Nat} {bs : Value} {f : Q4 → Option Value} {L : List Int} {A : Option Addr} {wr w1 : World} (h : FM gf gm bs f L done B A n c wr) {b0 n5 c5 : Nat} {A5 : Option Addr} {xs : List Value} (ho : wr.ownsRow b0 143 3 (.slice A5 n5 c5) n5 xs)
    (k : Keep (Value.slice A5 n5 c5).ownBlock.toList wr w1) : FM gf gm bs f L done B A n c w1 :=
  ⟨h.blk.keep k (fun hm => own_ne_blk ho h.blk (by decide) (by simpa using hm)), h.map.keep k (fun hm => h.map.ne_own ho (by simpa using hm)), ownsRow_keep h.own k (fun i hi hm => own_ne_own h.own ho (by decide) hi (by simpa using hm)), Nat.le_trans h.le k.size⟩
structure TkI (w : World) (bl : List Nat) (AB : Option Addr) (cB gf gm B k : Nat) (A5 : Option Addr) (n5 c5 : Nat) (tl : List Tk) (wr : World) : Prop where
  len : n5 = tl.length
  rest : tokP bl = tl ++ tokF bl bl.length k
  own : wr.ownsRow w.heap.size 143 3 (.slice A5 n5 c5) n5 (tksC tl)
  fin : ∃ d A n c, d ≤ k ∧ FS bl AB cB gf gm d B A n c wr
  kp : Keep [] w wr
  cnt : tl.length ≤ k
set_option maxRecDepth 20000 in
set_option maxHeartbeats 4000000 in
theorem tokens_any (bl : List Nat) (AB : Option Addr) (cB : Nat) (w : World) (hs : BySrc w AB bl) (hc : bl.length ≤ cB) (hl : bl.length ≤ 65536) :
    Calls Tryz.prog 67 #[.slice AB bl.length cB] w fun e w' => RowT w (tokP bl) 0 e w' := by
  have Hs := Lib.hid hs
  have hsg : ∀ a, AB = some a → 0 < bl.length → a.block < w.heap.size := fun a ha h0 => by
    obtain ⟨g, o, e, h1, _⟩ := hs.1 0 h0
    rw [e] at ha
    injection ha with ha
    subst ha
    exact h1
  have Hsg := Lib.hid hsg
  have HFd := Lib.hid (find_any bl AB cB w)
  have h65 : ¬ (65536 : Int) < bl.length := by omega
  clear hs hsg
  go_enter Tryz.func67, Tryz.ntmps67
  go_wp2_with (go_at_call 100; refine HFd.out.mono ?_; rintro e w1 ⟨gf, gm, B, rfl, hF, z1, z2, z3, hk1⟩; have H1 : Hid (TkI w bl AB cB gf gm B 0 none 0 0 [] w1) := Lib.hid ⟨rfl, rfl, World.ownsRow_nil _ _ _ _, ⟨0, none, 0, 0, Nat.le_refl _, hF⟩, hk1, by simp⟩; clear hF hk1)
  have Hz := Lib.hid (And.intro z1 (And.intro z2 z3))
  clear HFd z1 z2 z3
  go_loopw [5, 6] (fun v5 v6 wr => ∃ (k n5 : Nat) (A5 : Option Addr) (c5 : Nat), v6 = .int .i64 k ∧ k ≤ bl.length ∧ v5 = .slice A5 n5 c5 ∧ Hid (∃ tl, TkI w bl AB cB gf gm B k A5 n5 c5 tl wr)) (fun _ v6 _ => bl.length - (intOf v6).toNat)
  case atStart => exact ⟨0, 0, none, 0, rfl, by omega, rfl, Lib.hid ⟨[], H1.out⟩⟩
  case round =>
    obtain ⟨k, n5, A5, c5, rfl, hk, rfl, hI⟩ := hrel
    clear H1
    obtain ⟨tl, hT⟩ := hI.out
    rcases Nat.lt_or_ge k bl.length with hkl | hkl
    · as_aux_lemma =>
        have hki : (k : Int) < bl.length := by omega
        obtain ⟨d, A, n, c, hd, hF⟩ := hT.fin
        have hb1 : ∀ a, AB = some a → a.block < B ∧ a.block ≠ gf ∧ a.block ≠ gm := fun a ha => by
          have h1 := Hsg.out a ha (by omega)
          have h2 := Hz.out
          omega
        have HTok := Lib.hid (token_any bl AB cB gf gm d B A n c k wr hF (Hs.out.keep hT.kp (by simp)) hb1 hc (by omega) hkl hd)
        have HT := Lib.hid hT
        have HF := Lib.hid hF
        have hlo := longP_ok hkl
        have HL : Hid (∀ t, longP bl k = t → 1 ≤ t.2.1 ∧ t.2.1 ≤ 258 ∧ k + t.2.1.toNat ≤ bl.length ∧ tokP bl = (tl ++ [t]) ++ tokF bl bl.length (k + t.2.1.toNat)) := Lib.hid (fun t ht => by
          rw [← ht]
          refine ⟨hlo.2.1, hlo.2.2.1, hlo.2.2.2, ?_⟩
          rw [hT.rest]
          obtain ⟨f, hf⟩ : ∃ f, bl.length = f + 1 := ⟨bl.length - 1, by omega⟩
          conv => lhs; rw [hf, tokF, if_pos hkl]
          rw [tokF_more bl f bl.length _ (by omega) (by omega)]
          simp)
        have hn5 : n5 ≤ 100000 := by have h1 := hT.len; have h2 := hT.cnt; omega
        clear hI hT hF hb1 hlo
        go_upto_region 8 with (go_at_call 101; refine HTok.out.mono ?_; rintro e w2 ⟨td, tm, tx, rfl, hlg, A', n', c', hF2, hk2, ho2⟩; have hlf := HL.out _ hlg; have H2 := Lib.hid (And.intro hF2 (And.intro hk2 ho2)); have Hlf := Lib.hid hlf; obtain ⟨l1, l2, l3, _⟩ := hlf; clear hlg hF2 hk2 ho2)
        have hk2 := H2.out.2.1
        have hsz := hk2.size
        have hrow2 : w2.ownsRow w.heap.size 143 3 (.slice A5 n5 c5) n5 (tksC tl) := ownsRow_keep HT.out.own hk2 (fun i hi hm => by
          rcases List.mem_cons.1 hm with rfl | hm
          · exact own_ne_blk HT.out.own HF.out.blk (by decide) hi
          · rcases List.mem_cons.1 hm with rfl | hm
            · exact HF.out.map.ne_own HT.out.own hi
            · exact own_ne_own HT.out.own HF.out.own (by decide) hi (by simpa using hm))
        have kb : Keep [] w2 (w2.alloc (.cells #[.int .i64 td, .int .i64 tm, .int .u8 (tx : Nat)] 143)) := (Keep.refl [] w2).alloc _
        have hrow3 := ownsRow_keep hrow2 kb (by simp)
        have hkw : Keep [] w w2 := HT.out.kp.step hk2 (fun i hi => .inr (by
          have h2 := Hz.out
          rcases List.mem_cons.1 hi with rfl | hi
          · exact h2.1
          · rcases List.mem_cons.1 hi with rfl | hi
            · exact h2.2.1
            · exact Nat.le_trans h2.2.2 (own_far HF.out.own i hi)))
        obtain ⟨A6, c6, w4, hap, hown, hk4⟩ := tok_append hrow3 td tm tx (by omega) (hkw.trans kb).size
        rw [show (w2.alloc (.cells #[.int .i64 td, .int .i64 tm, .int .u8 (tx : Nat)] 143)).heap.size = w2.heap.size + 1 by simp] at hap
        have hbx : Blk w4 w2.heap.size 143 #[.int .i64 td, .int .i64 tm, .int .u8 (tx : Nat)] := (Blk.new w2 143 _).keep hk4 (fun hm => by
          have := (hrow2.lt _ (by simpa using hm)).2
          omega)
        have e1 : w4.cell? ⟨w2.heap.size, 1, none⟩ = some (.int .i64 tm) := hbx.cell 1
        obtain ⟨q, hq⟩ : ∃ q : Nat, tm = q := ⟨tm.toNat, by omega⟩
        subst hq
        have hN : Hid (TkI w bl AB cB gf gm B (k + q) A6 (n5 + 1) c6 (tl ++ [(td, (q : Int), tx)]) w4) := by
          refine Lib.hid ⟨by rw [List.length_append, ← HT.out.len]; rfl, ?_, hown, ⟨k, A', n', c', by omega, (H2.out.1.keep kb).far hrow3 hk4⟩, (hkw.trans kb).step hk4 (fun i hi => .inr (own_far hrow3 i hi)), ?_⟩
          · have := Hlf.out.2.2.2
            simpa using this
          · have := HT.out.cnt
            rw [List.length_append]
            simp
            omega
        have hwk : IntKind.i64.wrap ((k : Int) + (q : Int)) = ((k + q : Nat) : Int) := by rw [IntKind.wrap_i64]; omega
        have hkq : k + q ≤ bl.length ∧ 1 ≤ q := by
          have h3 := Hlf.out.2.2.1
          simp at h3
          omega
        have Hap := Lib.hid hap
        clear hk2 hsz hrow2 kb hrow3 hkw hown hk4 hbx hap l1 l2 l3
        have hap := Hap.out
        have hlt : k < k + q := by omega
        generalize k + q = kq at *
        go_wp2_with (at_builtin; refine wpList_append2 (v1 := .slice A5 n5 c5) (v2 := .slice (some ⟨w2.heap.size + 1, 0, none⟩) 1 1) rfl (.tmp 20) (.tmp 22) rfl rfl rfl hap ?_)
        go_roundw
        case rel => exact ⟨kq, n5 + 1, A6, c6, rfl, by omega, by simp, Lib.hid ⟨_, hN.out⟩⟩
        case measure => simp [intOf]; omega
    · obtain rfl : k = bl.length := by omega
      have hki : ¬ (bl.length : Int) < bl.length := by omega
      have HR : Hid (RowT w (tokP bl) 0 (.returned (.tuple #[.slice A5 n5 c5, .int .i64 0])) wr) := by
        have he : tokP bl = tl := by
          rw [hT.rest]
          have : tokF bl bl.length bl.length = [] := by
            cases hb : bl.length with
            | zero => rfl
            | succ f => rw [tokF, if_neg (by omega)]
          rw [this, List.append_nil]
        rw [he]
        refine Lib.hid ⟨A5, c5, by rw [hT.len], ?_, hT.kp⟩
        have := hT.own
        rw [hT.len] at this
        exact this
      clear hI hT
      go_wp2
      go_ret2
      exact HR.out
end Go.Proofs.YtdnaahbhfjclpaaGreatDoor

