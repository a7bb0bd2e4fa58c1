/- PackTrue, walked. -/
import Derived.Test.YtdnaahbhfjclpaaGreatDoorYl
import Derived.Test.YtdnaahbhfjclpaaGreatDoorYm
import Derived.Test.YtdnaahbhfjclpaaGreatDoorYc
set_option linter.unusedVariables false
set_option linter.unusedSimpArgs false
namespace Go.Proofs.YtdnaahbhfjclpaaGreatDoor
open Go.RowKit Go.Sal Go.Huf Go.Pck Go.Cod
def Zb64 : Array Value := (inB (List.replicate 64 0)).toArray
theorem info120 : (Tryz.prog.info? 120).map (fun i => (i.zero, i.size)) = some (some (.agg Zb64), 64) := by kernel_rfl
theorem zero120 (w : World) : (zeroValue 120).run Tryz.prog w = .ok (.agg Zb64) w := (zero_of_info info120).1 w
theorem keep_row1 (w : World) (g : Nat) (c : Array Value) : Keep [g] w (w.setRow g c) :=
  ⟨rfl, rfl, rfl, by simp [World.setRow], fun k hk hn => setRow_other w g k _ (fun e => hn (by simp [e]))⟩
structure SmR (w : World) (b2 g5 ga c : Nat) (all cur : List Nat) (wr : World) : Prop where
  res : Blk wr b2 43 Z32
  st : Blk wr g5 115 (inW cur).toArray
  own : OwB w (some ⟨ga, 0, none⟩) c all wr
section
variable {w wr : World} {b2 g5 ga c : Nat} {all cur : List Nat}
theorem SmR.keep (h : SmR w b2 g5 ga c all cur wr) {W : World} (k : Keep [] wr W) : SmR w b2 g5 ga c all cur W := ⟨h.res.keep k (by simp), h.st.keep k (by simp), h.own.keep k⟩
theorem SmR.row (h : SmR w b2 g5 ga c all cur wr) (cur2 : List Nat) (h1 : w.heap.size ≤ g5) (h2 : b2 ≠ g5) (h3 : ga ≠ g5) : SmR w b2 g5 ga c all cur2 (wr.setRow g5 (inW cur2).toArray) := by
  have k := keep_row1 wr g5 (inW cur2).toArray
  exact ⟨h.res.keep k (by simp; exact h2), blk_same h.st, ownsRow_keep h.own.1 k (by intro g hg; simp [Value.ownBlock] at hg; subst hg; simp; exact h3), h.own.2.step k (fun i hi => .inr (by simp at hi; omega))⟩
theorem SmR.far (h : SmR w b2 g5 ga c all cur wr) {g : Nat} (p : Nat) (v : Value) (h0 : w.heap.size ≤ g) (h1 : b2 ≠ g) (h2 : g5 ≠ g) (h3 : ga ≠ g) : SmR w b2 g5 ga c all cur (wr.setCell ⟨g, p, none⟩ v) := by
  have k : Keep [g] wr (wr.setCell ⟨g, p, none⟩ v) := (Keep.refl [g] wr).setCell (p := ⟨g, p, none⟩) (.inl (by simp)) v
  exact ⟨h.res.keep k (by simp; exact h1), h.st.keep k (by simp; exact h2), ownsRow_keep h.own.1 k (by intro g' hg; simp [Value.ownBlock] at hg; subst hg; simp; exact h3), h.own.2.step k (fun i hi => .inr (by simp at hi; omega))⟩
end
set_option maxRecDepth 20000 in
set_option maxHeartbeats 2000000 in
theorem sumR_any (b : List Nat) (A : Option Addr) (n cb : Nat) (g cl : Nat) (w : World) (hn : n = b.length) (hs : BySrc w A b) (hg : Blk w g 22 #[.slice A n cb]) (hl : b.length ≤ 100000) :
    Calls Tryz.prog 43 #[.slice (some ⟨g, 0, none⟩) 1 cl] w fun e w' => e = .returned (.agg (inB (shaP b)).toArray) ∧ Keep [] w w' := by
  have z1 := zero43
  have z2 := zero120
  have hZ32 : Z32.size = 32 := rfl
  have hZb : Zb64.size = 64 := rfl
  have hst8 : (inW start8).toArray.size = 8 := rfl
  have hsto : (inW start8).toArray.all (·.oneCell') = true := all_oneCell_toArray (inW_one _)
  obtain ⟨b2, hb2⟩ : ∃ b2, b2 = w.heap.size := ⟨_, rfl⟩
  obtain ⟨w1, hw1⟩ : ∃ w1, w.alloc (.cells Z32 43) = w1 := ⟨_, rfl⟩
  have k1 : Keep [] w w1 := by rw [← hw1]; exact (Keep.refl [] w).alloc _
  have hB2 : Blk w1 b2 43 Z32 := by rw [← hw1, hb2]; exact Blk.new w 43 _
  have m0 : w1.cell? ⟨g, 0, none⟩ = some (.slice A n cb) := by rw [(hg.keep k1 (by simp)).cell 0]; rfl
  have mg : g < w1.heap.size := (hg.keep k1 (by simp)).lt
  have hE : OwB w none 0 [] w1 := ⟨by simpa [inB] using World.ownsRow_nil _ _ _ _, k1⟩
  obtain ⟨A1, c1, w2, k, hk, hrun, ho, -, hbk⟩ := hE.app (d := cb) (n := 0) (hs.keep k1 (fun _ _ => by simp)) rfl (by simp) (by omega)
  rw [List.nil_append] at hk ho
  subst hk
  rw [← hn] at hrun
  have hB2' : Blk w2 b2 43 Z32 := hbk _ _ _ hB2 (by decide)
  have H2 := Lib.hid (And.intro hB2' ho)
  have Hrun := Lib.hid hrun
  have Hb2 := Lib.hid hb2
  have Hw1 := Lib.hid hw1
  have hnl : b.length = n := hn.symm
  have HP := Lib.hid (padR_any b.length)
  have HT : Hid (shaP b = digB (tak start8 (b ++ padB b.length)).1) := Lib.hid rfl
  have hpl : (padB b.length).length ≤ 100 ∧ 0 < (padB b.length).length := by simp [padB, be8]; omega
  generalize shaP b = D at *
  rw [hnl] at HP HT hpl
  have Hnl := Lib.hid hnl
  have Hs2 := Lib.hid hs.2
  clear hE hbk ho hB2 hB2' k1 hw1 hb2 hg hs hrun hnl
  have Hl := Lib.hid (show n ≤ 100000 by omega)
  clear hn hl
  go_enter Tryz.func43, Tryz.ntmps43
  go_upto_region 1 with (fail)
  rw [Hw1.out, ← Hb2.out]
  go_wp2
  go_loopw [4, 3] (fun v4 v3 wr => (v4 = .int .i64 0 ∧ v3 = .slice none 0 0 ∧ wr = w1) ∨ (v4 = .int .i64 1 ∧ v3 = .slice A1 n c1 ∧ wr = w2)) (fun v4 _ _ => 1 - (intOf v4).toNat)
  case atStart => exact .inl ⟨rfl, rfl, rfl⟩
  case round =>
    rcases hrel with ⟨rfl, rfl, rfl⟩ | ⟨rfl, rfl, rfl⟩
    · go_wp2_with (at_builtin; refine wpList_append2 (v1 := .slice none 0 0) (v2 := .slice A n cb) rfl (.tmp 15) (.tmp 19) rfl rfl rfl Hrun.out ?_)
      exact ⟨by simp, by simp [intOf]⟩
    · as_aux_lemma =>
        obtain ⟨P, hP⟩ : ∃ P, P = (padB n).length := ⟨_, rfl⟩
        obtain ⟨all, hall⟩ : ∃ all, all = b ++ padB n := ⟨_, rfl⟩
        obtain ⟨T, hT⟩ : ∃ T, T = all.length := ⟨_, rfl⟩
        have hn0 : IntKind.u64.wrap (n : Int) = (n : Int) := by have := Hl.out; rw [IntKind.wrap_u64]; omega
        have HPc : Hid (∀ w, Calls Tryz.prog 78 #[.int .u64 (n : Nat)] w fun e w' => ∃ A c, e = .returned (.slice A P c) ∧ OwB w A c (padB n) w') := Lib.hid (fun w => by
          have := HP.out w (by have := Hl.out; omega)
          rw [hP]
          exact this)
        have hpb : ∀ x ∈ padB n, x < 256 := by
          intro x hx
          simp only [padB, List.mem_cons, List.mem_append, List.mem_replicate] at hx
          rcases hx with rfl | ⟨_, rfl⟩ | hx
          · omega
          · omega
          · simp only [be8, List.mem_cons, List.not_mem_nil, or_false] at hx
            omega
        have hTl : T = n + P := by rw [hT, hall, List.length_append, Hnl.out, hP]
        have Hmk : Hid (∀ w3 A3 c3, OwB wr A3 c3 (padB n) w3 → ∃ A4 c4 w4, (Builtin.append_ #[22, 22] 22 #[.slice A1 n c1, .slice A3 P c3]).run Tryz.prog w3 = .ok (.slice A4 T c4) w4 ∧ OwB w A4 c4 all w4 ∧ Blk w4 b2 43 Z32) := Lib.hid (fun w3 A3 c3 ho3 => by
          obtain ⟨A4, c4, w4, k, hk, hrun, ho, -, hbk⟩ := (H2.out.2.keep ho3.2).app (d := c3) (n := n) (ho3.src hpb) (by rw [Hnl.out]) (by have := Hl.out; have := Hnl.out; omega) (by omega)
          rw [← hall] at hk ho
          rw [← hT] at hk
          subst hk
          rw [← hP] at hrun
          exact ⟨A4, c4, w4, hrun, ho, hbk _ _ _ (H2.out.1.keep ho3.2 (by simp)) (by decide)⟩)
        have HSt : Hid (∀ w, Calls Tryz.prog 79 #[] w fun e w' => e = .returned (.agg (inW start8).toArray) ∧ Keep [] w w') := Lib.hid startR_any
        have HD : Hid (D = digB (tak start8 all).1) := Lib.hid (by rw [hall]; exact HT.out)
        have hTb : T ≤ 200000 ∧ 0 < T := by have := Hl.out; omega
        have HT2 := Lib.hid (And.intro hT hTb)
        have HA : Hid (∀ x ∈ all, x < 256) := Lib.hid (fun x hx => by
          rw [hall] at hx
          rcases List.mem_append.1 hx with hx | hx
          · exact Hs2.out x hx
          · exact hpb x hx)
        clear Hs2
        have hTi : (T : Int) ≤ 200000 := by omega
        clear hP hall hT HP HT hpl hpb hTl H2 Hrun Hnl Hl hTb m0 mg
        generalize hS8 : (inW start8).toArray = S8 at *
        have HS8 := Lib.hid hS8
        clear hS8
        go_upto_region 7 with (first
          | (go_at_call 78; refine (HPc.out _).mono ?_; rintro e w3 ⟨A3, c3, rfl, ho3⟩; obtain ⟨A4, c4, w4, hrun4, ho4, hb4⟩ := Hmk.out w3 A3 c3 ho3; have H4 := Lib.hid (And.intro ho4 hb4); clear ho3 ho4 hb4)
          | (at_builtin; refine wpList_append2 (v1 := .slice A1 n c1) (v2 := .slice A3 P c3) rfl (.tmp 21) (.tmp 25) rfl rfl rfl hrun4 ?_))
        clear HPc Hmk hrun4
        refine wp_region_lit ?_
        refine wpList_plain rfl (fun K hK => ?_)
        go_simp
        go_at_call 79
        refine (HSt.out _).mono ?_
        rintro e w5 ⟨rfl, hk5⟩
        have H5 := Lib.hid hk5
        refine hK _ _ ?_
        clear hK K hk5
        refine wpList_plain rfl (fun K hK => ?_)
        go_simp
        refine hK _ _ ?_
        clear hK K
        refine wpList_store_rowTo rfl 115 (.tmp 5) (.tmp 27) rfl rfl w5.heap.size S8 rfl rfl 115 Z8 (heap_alloc_last w5 _) (by rw [hst8]; exact size115) (by rw [hst8]; rfl) hsto ?_
        rw [World.setRow_alloc_new]
        obtain ⟨g5, hg5⟩ : ∃ g, g = w5.heap.size := ⟨_, rfl⟩
        obtain ⟨w6, hw6⟩ : ∃ W, w5.alloc (.cells S8 115) = W := ⟨_, rfl⟩
        obtain ⟨ga, rfl, hga, hga2⟩ := own_some H4.out.1.1 (by have := HT2.out; omega)
        have hb6 : Blk w6 g5 115 (inW start8).toArray := by rw [← hw6, hg5, HS8.out]; exact Blk.new w5 115 _
        have hk6 : Keep [] w4 w6 := by rw [← hw6]; exact H5.out.alloc _
        have hsz4 : w4.heap.size ≤ g5 := by rw [hg5]; exact H5.out.size
        have hne : w.heap.size ≤ g5 ∧ b2 ≠ g5 ∧ ga ≠ g5 ∧ w.heap.size ≤ b2 := by
          have h1 := H4.out.1.2.size
          have h2 := H4.out.2.lt
          have h3 := Hb2.out
          omega
        have HI0 : Hid (SmR w b2 g5 ga c4 all start8 w6 ∧ (tak start8 (all.drop 0)).1 = (tak start8 all).1 ∧ w32 start8 ∧ start8.length = 8) := Lib.hid ⟨⟨H4.out.2.keep hk6 (by simp), hb6, H4.out.1.keep hk6⟩, rfl, start_w, rfl⟩
        have Hne := Lib.hid hne
        rw [hw6, ← hg5]
        clear hw6 hg5 hb6 hk6 hsz4 hne H4 H5 HSt hga hga2 HS8 hst8 hsto
        go_wp2
        go_loopw [6, 7, 8] (fun v6 v7 v8 wr => ∃ (p : Nat) (cur : List Nat), v6 = .int .i64 p ∧ p ≤ T ∧ Hid (SmR w b2 g5 ga c4 all cur wr ∧ (tak cur (all.drop p)).1 = (tak start8 all).1 ∧ w32 cur ∧ cur.length = 8)) (fun v6 _ _ _ => T - (intOf v6).toNat)
        case atStart => exact ⟨0, start8, rfl, by omega, HI0⟩
        case round =>
          obtain ⟨p, cur, rfl, hp, hI⟩ := hrel
          clear HI0
          have hwp : IntKind.i64.wrap ((p : Int) + 64) = ((p + 64 : Nat) : Int) := by rw [IntKind.wrap_i64]; omega
          obtain ⟨q, hq⟩ : ∃ q, q = p + 64 := ⟨_, rfl⟩
          rw [← hq] at hwp
          rcases Nat.lt_or_ge T q with hqT | hqT
          · as_aux_lemma =>
              have hqi : ¬ (q : Int) ≤ (T : Int) := by omega
              obtain ⟨hS, htk, hwc, hlc⟩ := hI.out
              rw [tak_end (by rw [List.length_drop, ← HT2.out.1]; omega)] at htk
              have htk2 : cur = (tak start8 all).1 := htk
              have HB : Hid (∀ W, Calls Tryz.prog 81 #[.agg (inW cur).toArray] W fun e w' => e = .returned (.agg (inB D).toArray) ∧ Keep [] W w') := Lib.hid (fun W => by
                rw [HD.out, ← htk2]
                exact bytesR_any cur W hwc hlc)
              have hD32 : (inB D).toArray.size = 32 := by rw [List.size_toArray, inB_len, HD.out, ← htk2, digB_len, hlc]
              have hoD : (inB D).toArray.all (·.oneCell') = true := all_oneCell_toArray (inB_one _)
              have hst := hS.st
              have hsz8 : (inW cur).toArray.size = 8 := by simp [inW, hlc]
              have HF : Hid (∀ W, Keep [] wr W → Blk W b2 43 Z32 ∧ Blk (W.setRow b2 (inB D).toArray) b2 43 (inB D).toArray ∧ Keep [] w (W.setRow b2 (inB D).toArray)) := Lib.hid (fun W kk => by
                have h := hS.res.keep kk (by simp)
                exact ⟨h, blk_same h, keep_setRow (hS.own.2.trans kk) Hne.out.2.2.2 h⟩)
              generalize hDL : (inB D).toArray = DL at *
              have HDL := Lib.hid hDL
              clear hDL
              generalize (inW cur).toArray = CV at *
              clear hI hS htk htk2 hwc hlc HD HT2 HA Hne hq
              go_upto_region 17 with (fail)
              refine wp_region_lit ?_
              refine wpList_load_row rfl 115 (.tmp 5) rfl g5 rfl 115 CV (0, 0) _ hst Tryz.underlying115 rfl (by rw [hsz8]; exact size115) ?_
              refine wpList_plain rfl (fun K hK => ?_)
              go_simp
              go_at_call 81
              refine (HB.out _).mono ?_
              rintro e w8 ⟨rfl, hk8⟩
              have HG := Lib.hid (HF.out w8 hk8)
              refine hK _ _ ?_
              clear hK K hk8 HB HF
              refine wpList_store_row rfl 43 (.tmp 2) (.tmp 51) rfl b2 DL rfl rfl 43 Z32 HG.out.1 (by rw [hD32]; exact size43) (by rw [hD32]; exact hZ32) hoD ?_
              go_wp2
              refine bodyPost_ret (v := .agg DL) (results_cell_row (ty := 43) rfl _ _ b2 43 _ (0, 0) _ rfl HG.out.2.1 Tryz.underlying43 rfl (by rw [hD32]; exact size43)) rfl ⟨by rw [HDL.out], HG.out.2.2⟩
          · as_aux_lemma =>
              have hqi : (q : Int) ≤ (T : Int) := by omega
              obtain ⟨hS, htk, hwc, hlc⟩ := hI.out
              obtain ⟨B, hB⟩ : ∃ B, B = (all.drop p).take 64 := ⟨_, rfl⟩
              have hBl : B.length = 64 := by rw [hB, List.length_take, List.length_drop, ← HT2.out.1]; omega
              have hBb : ∀ x ∈ B, x < 256 := fun x hx => HA.out x (List.mem_of_mem_drop (List.mem_of_mem_take (hB ▸ hx)))
              have htk2 : (tak (stepS cur B) (all.drop q)).1 = (tak start8 all).1 := by
                rw [← htk, tak_go (l := all.drop p) (by rw [List.length_drop, ← HT2.out.1]; omega), ← hB, List.drop_drop, hq]
              have HN := Lib.hid (And.intro htk2 (And.intro (stepS_w cur B) (stepS_len cur B)))
              have hBg : ∀ k, k < 64 → ∃ h : p + k < all.length, all[p + k] = B.getD k 0 := fun k hk => by
                have h : p + k < all.length := by rw [← HT2.out.1]; omega
                refine ⟨h, ?_⟩
                rw [hB]
                simp [List.getD, List.getElem?_take, List.getElem?_drop, hk, h]
              have HBg := Lib.hid hBg
              obtain ⟨g7, hg7⟩ : ∃ g, g = wr.heap.size := ⟨_, rfl⟩
              obtain ⟨w7, hw7⟩ : ∃ W, wr.alloc (.cells Zb64 120) = W := ⟨_, rfl⟩
              have hk7 : Keep [] wr w7 := by rw [← hw7]; exact (Keep.refl [] wr).alloc _
              have hb7 : Blk w7 g7 120 Zb64 := by rw [← hw7, hg7]; exact Blk.new wr 120 _
              have hne7 : w.heap.size ≤ g7 ∧ b2 ≠ g7 ∧ g5 ≠ g7 ∧ ga ≠ g7 := by
                have h1 := hS.res.lt
                have h2 := hS.st.lt
                have h3 := (hS.own.1.lt ga rfl).2
                have h4 := hS.own.2.size
                omega
              have HI0 : Hid (SmR w b2 g5 ga c4 all cur w7 ∧ Blk w7 g7 120 (inB (rowN B 0)).toArray) := Lib.hid ⟨hS.keep hk7, by rw [rowN_start, hBl]; exact hb7⟩
              have Hne7 := Lib.hid hne7
              have HBl := Lib.hid (And.intro hBl (And.intro hBb (And.intro hwc hlc)))
              have Hw7 := Lib.hid hw7
              have Hg7 := Lib.hid hg7
              have Hq := Lib.hid hq
              clear hI hS htk hwc hlc hB hBl hBb htk2 hBg hk7 hb7 hne7 hw7 hg7 hq HD HA
              go_upto_region 12 with (fail)
              rw [Hw7.out, ← Hg7.out]
              clear Hw7 Hg7
              go_wp2
              go_loopw [8] (fun v8 wr => ∃ k : Nat, v8 = .int .i64 k ∧ k ≤ 64 ∧ Hid (SmR w b2 g5 ga c4 all cur wr ∧ Blk wr g7 120 (inB (rowN B k)).toArray)) (fun v8 _ => 64 - (intOf v8).toNat)
              case atStart => exact ⟨0, rfl, by omega, HI0⟩
              case round =>
                obtain ⟨k, rfl, hk, hI⟩ := hrel
                clear HI0
                rcases Nat.lt_or_ge k 64 with hk64 | hk64
                · as_aux_lemma =>
                    have hki : (k : Int) < 64 := by omega
                    have hwk : IntKind.i64.wrap ((k : Int) + 1) = (k : Int) + 1 := by rw [IntKind.wrap_i64]; omega
                    obtain ⟨r, hr⟩ : ∃ r, r = p + k := ⟨_, rfl⟩
                    have hwr : IntKind.i64.wrap ((p : Int) + (k : Int)) = (r : Int) := by rw [IntKind.wrap_i64]; omega
                    have hrT : (r : Int) < (T : Int) := by have := Hq.out; omega
                    obtain ⟨hS, hR⟩ := hI.out
                    obtain ⟨hpk, hge⟩ := HBg.out k hk64
                    have m1 := (inB_cell hS.own.1 hpk).1
                    rw [hge, ← hr] at m1
                    have mla := (hS.own.1.lt ga rfl).2
                    have m2 : wr.cell? ⟨g7, k, none⟩ = some (.int .u8 0) := by rw [hR.cell k]; simp [inB, rowN_zero B (show k < B.length by have := HBl.out.1; omega)]
                    have m3 := hR.lt
                    have m4 := hR.free k
                    have hset : Blk (wr.setCell ⟨g7, k, none⟩ (.int .u8 (B.getD k 0 : Nat))) g7 120 (inB (rowN B (k + 1))).toArray := by
                      have := hR.set_ k (.int .u8 (B.getD k 0 : Nat))
                      rw [← rowN_set B (show k < B.length by have := HBl.out.1; omega)]
                      simpa [inB, List.map_set] using this
                    have HNx := Lib.hid (And.intro (hS.far k (.int .u8 (B.getD k 0 : Nat)) Hne7.out.1 Hne7.out.2.1 Hne7.out.2.2.1 Hne7.out.2.2.2) hset)
                    generalize B.getD k 0 = x at *
                    clear hI hS hR hpk hge hset hr HBg HBl Hne7 HN HT2 Hq Hne z1 z2 hZ32 hZb
                    go_wp2
                    exact ⟨⟨k + 1, by simp, by omega, HNx⟩, by simp [intOf]; omega⟩
                · as_aux_lemma =>
                    obtain rfl : k = 64 := by omega
                    have hki : ¬ ((64 : Nat) : Int) < 64 := by omega
                    obtain ⟨hS, hR⟩ := hI.out
                    have e1 : rowN B 64 = B := by rw [← HBl.out.1]; exact rowN_all B
                    rw [e1] at hR
                    have hst := hS.st
                    have hsz8 : (inW cur).toArray.size = 8 := by simp [inW, HBl.out.2.2.2]
                    have hszB : (inB B).toArray.size = 64 := by rw [List.size_toArray, inB_len, HBl.out.1]
                    have hsz2 : (inW (stepS cur B)).toArray.size = 8 := by simp [inW, stepS_len]
                    have ho2 : (inW (stepS cur B)).toArray.all (·.oneCell') = true := all_oneCell_toArray (inW_one _)
                    have HS2 : Hid (∀ W, Calls Tryz.prog 80 #[.agg (inW cur).toArray, .agg (inB B).toArray] W fun e w' => e = .returned (.agg (inW (stepS cur B)).toArray) ∧ Keep [] W w') := Lib.hid (fun W => stepR_any cur B W HBl.out.2.2.2 HBl.out.2.2.1 HBl.out.1 HBl.out.2.1)
                    have HF : Hid (∀ W, Keep [] wr W → Blk W g5 115 (inW cur).toArray ∧ SmR w b2 g5 ga c4 all (stepS cur B) (W.setRow g5 (inW (stepS cur B)).toArray)) := Lib.hid (fun W kk => by
                      have h := hS.keep kk
                      exact ⟨h.st, h.row _ Hne.out.1 Hne.out.2.1 Hne.out.2.2.1⟩)
                    have hsB : (Tryz.prog.info? 120).map (·.size) = some 64 := (zero_of_info info120).2
                    generalize stepS cur B = cur2 at *
                    generalize (inW cur2).toArray = V at *
                    generalize (inW cur).toArray = CV at *
                    generalize (inB B).toArray = BV at *
                    clear hI hS e1 HBg HBl Hne7 Hne z1 z2 hZb hk hk64
                    go_upto_region 16 with (fail)
                    refine wp_region_lit ?_
                    refine wpList_load_row rfl 115 (.tmp 5) rfl g5 rfl 115 CV (0, 0) _ hst Tryz.underlying115 rfl (by rw [hsz8]; exact size115) ?_
                    refine wpList_load_row rfl 120 (.tmp 7) rfl g7 rfl 120 BV (0, 0) _ hR Tryz.underlying120 rfl (by rw [hszB]; exact hsB) ?_
                    refine wpList_plain rfl (fun K hK => ?_)
                    go_simp
                    go_at_call 80
                    refine (HS2.out _).mono ?_
                    rintro e w8 ⟨rfl, hk8⟩
                    have HG := Lib.hid (HF.out w8 hk8)
                    refine hK _ _ ?_
                    clear hK K hk8 HS2 HF
                    refine wpList_store_row rfl 115 (.tmp 5) (.tmp 49) rfl g5 V rfl rfl 115 CV HG.out.1 (by rw [hsz2]; exact size115) (by rw [hsz2]; exact hsz8) ho2 ?_
                    go_wp2
                    exact ⟨⟨q, cur2, by simp, by omega, Lib.hid ⟨HG.out.2, HN.out.1, HN.out.2.1, HN.out.2.2⟩⟩, by simp [intOf]; have := Hq.out; omega⟩
set_option maxRecDepth 20000 in
set_option maxHeartbeats 1000000 in
theorem ofR_any (b : List Nat) (A : Option Addr) (n cb : Nat) (w : World) (hn : n = b.length) (hs : BySrc w A b) (hl : b.length ≤ 100000) :
    Calls Tryz.prog 22 #[.slice A n cb] w fun e w' => e = .returned (.agg (inB (shaP b)).toArray) ∧ Keep [] w w' := by
  have z1 := zero43
  have hZ32 : Z32.size = 32 := rfl
  obtain ⟨b2, hb2⟩ : ∃ b2, b2 = w.heap.size := ⟨_, rfl⟩
  obtain ⟨w1, hw1⟩ : ∃ w1, w.alloc (.cells Z32 43) = w1 := ⟨_, rfl⟩
  have k1 : Keep [] w w1 := by rw [← hw1]; exact (Keep.refl [] w).alloc _
  have hB2 : Blk w1 b2 43 Z32 := by rw [← hw1, hb2]; exact Blk.new w 43 _
  have k2 : Keep [] w1 (w1.alloc (.cells #[.slice A n cb] 22)) := (Keep.refl [] w1).alloc _
  have HC : Hid (Calls Tryz.prog 43 #[.slice (some ⟨w1.heap.size, 0, none⟩) 1 1] (w1.alloc (.cells #[.slice A n cb] 22)) fun e w' => e = .returned (.agg (inB (shaP b)).toArray) ∧ Keep [] (w1.alloc (.cells #[.slice A n cb] 22)) w') := Lib.hid (sumR_any b A n cb w1.heap.size 1 _ hn (hs.keep (k1.trans k2) (fun _ _ => by simp)) (Blk.new w1 22 _) hl)
  have HB2 := Lib.hid (And.intro hB2 (And.intro k1 (show w.heap.size ≤ b2 by omega)))
  have hD32 : (inB (shaP b)).toArray.size = 32 := by rw [List.size_toArray, inB_len, shaP_len]
  have hoD : (inB (shaP b)).toArray.all (·.oneCell') = true := all_oneCell_toArray (inB_one _)
  have Hw1 := Lib.hid hw1
  have Hb2 := Lib.hid hb2
  generalize hDL : (inB (shaP b)).toArray = DL at *
  have HDL := Lib.hid hDL
  clear hDL hs hl hn hb2 hw1 k1 hB2 k2
  go_enter Tryz.func22, Tryz.ntmps22
  go_upto_region 1 with (fail)
  rw [Hw1.out, ← Hb2.out]
  refine wp_region_lit ?_
  iterate 2 (refine wpList_plain rfl (fun K hK => ?_); go_simp; refine hK _ _ ?_; clear hK K)
  refine wpList_plain rfl (fun K hK => ?_)
  go_simp
  go_at_call 43
  refine HC.out.mono ?_
  rintro e w8 ⟨rfl, hk8⟩
  have HF := Lib.hid (by
    have kk : Keep [] w1 w8 := ((Keep.refl [] w1).alloc _).trans hk8
    have h := HB2.out.1.keep kk (by simp)
    exact And.intro h (And.intro (blk_same (c := DL) h) (keep_setRow (c := DL) (HB2.out.2.1.trans kk) HB2.out.2.2 h)))
  refine hK _ _ ?_
  clear hK K hk8 HC
  refine wpList_store_row rfl 43 (.tmp 2) (.tmp 5) rfl b2 DL rfl rfl 43 Z32 HF.out.1 (by rw [hD32]; exact size43) (by rw [hD32]; exact hZ32) hoD ?_
  go_wp2
  refine bodyPost_ret (v := .agg DL) (results_cell_row (ty := 43) rfl _ _ b2 43 _ (0, 0) _ rfl HF.out.2.1 Tryz.underlying43 rfl (by rw [hD32]; exact size43)) rfl ⟨rfl, HF.out.2.2⟩
end Go.Proofs.YtdnaahbhfjclpaaGreatDoor

namespace Go.Proofs.YtdnaahbhfjclpaaGreatDoor
open Go.RowKit Go.Sal Go.Huf Go.Cod Go.Pck
end Go.Proofs.YtdnaahbhfjclpaaGreatDoor

namespace Go.Proofs.YtdnaahbhfjclpaaGreatDoor
open Go.RowKit Go.Sal Go.Huf Go.Cod Go.Pck
set_option maxRecDepth 20000 in
set_option maxHeartbeats 2000000 in
theorem law8_any (v0 : Value) (l0 : List Nat) (w : World) (h0 : BytArg w v0 l0) : Calls Tryz.prog 8 #[v0] w fun e w' => e = .returned (.bool true) ∧ Keep [] w w' := by
  have H0 : Hid (Calls Tryz.prog 9 #[v0, .int .i64 2100] w fun e w' => ∃ A c, e = .returned (.slice A (l0.take 2100).length c) ∧ (l0.take 2100).length ≤ c ∧ BySrc w A (l0.take 2100) ∧ (∀ a, A = some a → a.block < w.heap.size) ∧ w = w') := Lib.hid (cut_arg h0 2100)
  have hl0 : (l0.take 2100).length ≤ 2100 := by rw [List.length_take]; omega
  generalize l0.take 2100 = c at *
  have HAl := Lib.hid alive_any
  have z2 := zero44
  have hZ32 : Z32.size = 32 := rfl
  clear h0
  go_enter Tryz.func8, Tryz.ntmps8
  go_upto_region 2 with (go_at_call 9; refine H0.out.mono ?_; rintro e w' ⟨A0, c0, rfl, hc0, hs0, ha0, rfl⟩; have HC0 := Lib.hid (And.intro hc0 (And.intro hs0 ha0)); clear hc0 hs0 ha0)
  clear H0
  have hpr := pread_any c A0 c0 w HC0.out.2.1 HC0.out.1 HC0.out.2.2 (by omega)
  have hph := fun w' (kk : Keep [] w w') => phead_any c A0 c0 w' (HC0.out.2.1.keep kk (fun _ _ => by simp)) HC0.out.1 (fun a ha => Nat.lt_of_lt_of_le (HC0.out.2.2 a ha) kk.size) (by omega)
  rcases rd_or c with ⟨E, hE, hr⟩ | ⟨k1, -, -, -, -, k6, k7, hr⟩
  · have hE1 : (E != 0) = true := by simpa using hE
    have hE2 : (E == 0) = false := by simpa using hE
    have HR : Hid (Calls Tryz.prog 10 #[.slice A0 c.length c0] w fun e w' => ∃ A c', e = .returned (.tuple #[.slice A 0 c', .int .i64 0, .int .i64 E]) ∧ Keep [] w w') := Lib.hid (by
      rw [hr] at hpr
      refine hpr.mono ?_
      rintro e w' ⟨A, c', rfl, ho⟩
      exact ⟨A, c', rfl, ho.2⟩)
    clear hpr hph hr HC0 hl0
    generalize c.length = n at *
    go_wp2_with (first
      | (go_at_call 10; refine HR.out.mono ?_; rintro e w6 ⟨A6, c6, rfl, hk6⟩; have H6 := Lib.hid hk6; clear hk6)
      | (go_at_call 12; refine (HAl.out _).mono ?_; rintro e w' ⟨rfl, hk⟩; have HK := Lib.hid (H6.out.trans hk); clear hk))
    go_ret
    exact ⟨rfl, HK.out⟩
  · have hsz : 1 ≤ hdRaw c ∧ hdRaw c ≤ 4096 := by
      unfold hdOk szOk at k1
      simp at k1
      omega
    obtain ⟨X, hX⟩ : ∃ X, X = decT (codeB c) := ⟨_, rfl⟩
    obtain ⟨nb, hnb⟩ : ∃ nb, nb = blksP (hdCode c) := ⟨_, rfl⟩
    rw [← hX] at k6 k7 hr
    rw [← hnb] at hr
    have HR : Hid (Calls Tryz.prog 10 #[.slice A0 c.length c0] w fun e w' => ∃ A c', e = .returned (.tuple #[.slice A X.length c', .int .i64 (nb : Nat), .int .i64 0]) ∧ OwB w A c' X w') := Lib.hid (by
      rw [hr] at hpr
      refine hpr.mono ?_
      rintro e w' ⟨A, c', rfl, ho, hk⟩
      exact ⟨A, c', rfl, ho, hk⟩)
    have hD : hedD c = shaP X ∧ hedN c = nb ∧ hedE c = 0 := by
      unfold hedD hedN hedE
      rw [if_pos k1, if_pos k1, if_pos k1, k7, hnb]
      exact ⟨rfl, rfl, rfl⟩
    obtain ⟨DL, hDL⟩ : ∃ DL, DL = inB (shaP X) := ⟨_, rfl⟩
    have hD32 : DL.toArray.size = 32 := by rw [List.size_toArray, hDL, inB_len, shaP_len]
    have hD44 : (Tryz.prog.info? 44).map (·.size) = some DL.length := by rw [← List.size_toArray, hD32]; exact size44
    have hoD : DL.toArray.all (·.oneCell') = true := by rw [hDL]; exact all_oneCell_toArray (inB_one _)
    have HH : Hid (∀ w', Keep [] w w' → Calls Tryz.prog 18 #[.slice A0 c.length c0] w' fun e w'' => e = .returned (.tuple #[.agg DL.toArray, .int .i64 (nb : Nat), .int .i64 0]) ∧ Keep [] w' w'') := Lib.hid (fun w' kk => by
      have h := hph w' kk
      rw [hD.1, hD.2.1, hD.2.2, ← hDL] at h
      exact h)
    have heq := fun W => eq_dig (x := shaP X) (y := shaP X) (shaP_len X) (shaP_len X) (shaP_lt X) (shaP_lt X) W
    have hbb : (shaP X == shaP X) = true := by simp
    rw [hbb, ← hDL] at heq
    have hXb : ∀ x ∈ X, x < 256 := by
      rw [hX]
      refine dec_lt (fun y hy => HC0.out.2.1.2 y ?_)
      unfold codeB at hy
      exact List.mem_of_mem_drop (List.mem_of_mem_take hy)
    have HO : Hid (∀ A6 c6 w6 W, OwB w A6 c6 X w6 → Keep [] w6 W → Calls Tryz.prog 22 #[.slice A6 X.length c6] W fun e w' => e = .returned (.agg DL.toArray) ∧ Keep [] W w') := Lib.hid (fun A6 c6 w6 W ho kk => by
      rw [hDL]
      exact ofR_any X A6 X.length c6 W rfl ((ho.keep kk).src hXb) (by omega))
    have HCk : Hid (∀ A6 c6 W, Calls Tryz.prog 20 #[.slice A6 X.length c6] W fun e w' => e = .returned (.bool true) ∧ w' = W) := Lib.hid (fun A6 c6 W => by
      have h := ischunk_any A6 X.length c6 W (by omega)
      rwa [decide_eq_true (show 1 ≤ X.length by omega), decide_eq_true (show X.length ≤ 4096 by omega)] at h)
    clear hpr hph hr HC0 hl0 hD hDL hbb k1 k6 k7 hX hnb hXb hsz
    obtain ⟨nx, hnx⟩ : ∃ nx, nx = X.length := ⟨_, rfl⟩
    rw [← hnx] at HR HO HCk
    clear hnx
    generalize c.length = n at *
    generalize Z32 = Z at *
    go_upto_region 5 with (go_at_call 10; refine HR.out.mono ?_; rintro e w6 ⟨A6, c6, rfl, ho6⟩; have H6 := Lib.hid ho6; clear ho6)
    clear HR
    have H18 := Lib.hid (HH.out w6 H6.out.2)
    clear HH
    refine wp_region_lit ?_
    refine wpList_plain rfl (fun K hK => ?_)
    go_simp
    refine hK _ _ ?_
    clear hK K
    refine wpList_plain rfl (fun K hK => ?_)
    go_simp
    go_at_call 18
    refine H18.out.mono ?_
    rintro e w7 ⟨rfl, hk7⟩
    have H7 := Lib.hid hk7
    refine hK _ _ ?_
    clear hK K hk7 H18
    iterate 5 (refine wpList_plain rfl (fun K hK => ?_); go_simp; refine hK _ _ ?_; clear hK K)
    refine wpList_store_rowTo rfl 44 (.tmp 6) (.tmp 32) rfl rfl w7.heap.size DL.toArray rfl rfl 44 Z (heap_alloc_last w7 _) (by rw [hD32]; exact size44) (by rw [hD32]; exact hZ32) hoD ?_
    rw [World.setRow_alloc_new]
    obtain ⟨gd, hgd⟩ : ∃ gd, gd = w7.heap.size := ⟨_, rfl⟩
    obtain ⟨w8, hw8⟩ : ∃ w8, w7.alloc (.cells DL.toArray 44) = w8 := ⟨_, rfl⟩
    rw [hw8, ← hgd]
    have k8 : Keep [] w6 w8 := by rw [← hw8]; exact H7.out.alloc _
    have hb8 : Blk w8 gd 44 DL.toArray := by rw [← hw8, hgd]; exact Blk.new w7 44 _
    have hr2 : ∀ W, Keep [] w8 W → W.rangeAt gd 0 DL := fun W kk => rangeAt_blk0 (R := []) (by rw [List.append_nil]; exact hb8.keep kk (by simp))
    have HOf := Lib.hid (HO.out A6 c6 w6 w8.drew H6.out (k8.trans (Keep.refl [] w8).drew))
    have HCk6 := Lib.hid (HCk.out A6 c6)
    have HKw := Lib.hid (H6.out.2.trans k8)
    clear hw8 hgd k8 hb8 H7 H6 HO HCk
    go_upto_region 6 with (fail)
    refine wp_region_G (fun W => Keep [] w8 W) [] #[false, false, false, false, false, false, false, false, false, false, false, false, false, false, false, false, false, false, false, false, false] 21 (by kernel_rfl) (by kernel_rfl) (by kernel_rfl) ?_
    refine wpAnyG_take0 (i := 0) (oi := ⟨_, _, _, _, _, _⟩) (v := ?vg1_0) rfl (by kernel_rfl) (by kernel_rfl) (by kernel_rfl) (by kernel_rfl) (fun _ _ _ h => h) (fun _ => ((Keep.refl [] w8).drew)) (Or.inl ⟨by rfl, ?hg1_0⟩) ?_
    case hg1_0 => intro w _; go_simp; (try with_reducible rfl)
    try simp only [Act.put, List.setIfInBounds_toArray, List.set_cons_zero, List.set_cons_succ]
    refine wpAnyG_take0 (i := 1) (oi := ⟨_, _, _, _, _, _⟩) (v := ?vg1_1) rfl (by kernel_rfl) (by kernel_rfl) (by kernel_rfl) (by kernel_rfl) (fun _ _ _ h => h) (fun _ => ((Keep.refl [] w8).drew)) (Or.inl ⟨by rfl, ?hg1_1⟩) ?_
    case hg1_1 => intro w _; go_simp; (try with_reducible rfl)
    try simp only [Act.put, List.setIfInBounds_toArray, List.set_cons_zero, List.set_cons_succ]
    refine wpAnyG_take0 (i := 2) (oi := ⟨_, _, _, _, _, _⟩) (v := ?vg1_2) rfl (by kernel_rfl) (by kernel_rfl) (by kernel_rfl) (by kernel_rfl) (fun _ _ _ h => h) (fun _ => ((Keep.refl [] w8).drew)) (Or.inl ⟨by rfl, ?hg1_2⟩) ?_
    case hg1_2 => intro w _; go_simp; (try with_reducible rfl)
    try simp only [Act.put, List.setIfInBounds_toArray, List.set_cons_zero, List.set_cons_succ]
    refine wpAnyG_take0 (i := 3) (oi := ⟨_, _, _, _, _, _⟩) (v := ?vg1_3) rfl (by kernel_rfl) (by kernel_rfl) (by kernel_rfl) (by kernel_rfl) (fun _ _ _ h => h) (fun _ => ((Keep.refl [] w8).drew)) (Or.inl ⟨by rfl, ?hg1_3⟩) ?_
    case hg1_3 => intro w _; go_simp; (try with_reducible rfl)
    try simp only [Act.put, List.setIfInBounds_toArray, List.set_cons_zero, List.set_cons_succ]
    refine wpAnyG_take0 (i := 4) (oi := ⟨_, _, _, _, _, _⟩) (v := ?vg1_4) rfl (by kernel_rfl) (by kernel_rfl) (by kernel_rfl) (by kernel_rfl) (fun _ _ _ h => h) (fun _ => ((Keep.refl [] w8).drew)) (Or.inl ⟨by rfl, ?hg1_4⟩) ?_
    case hg1_4 => intro w _; go_simp; (try with_reducible rfl)
    try simp only [Act.put, List.setIfInBounds_toArray, List.set_cons_zero, List.set_cons_succ]
    refine wpAnyG_take0 (i := 5) (oi := ⟨_, _, _, _, _, _⟩) (v := ?vg1_5) rfl (by kernel_rfl) (by kernel_rfl) (by kernel_rfl) (by kernel_rfl) (fun _ _ _ h => h) (fun _ => ((Keep.refl [] w8).drew)) (Or.inl ⟨by rfl, ?hg1_5⟩) ?_
    case hg1_5 => intro w _; go_simp; (try with_reducible rfl)
    try simp only [Act.put, List.setIfInBounds_toArray, List.set_cons_zero, List.set_cons_succ]
    refine wpAnyG_take0 (i := 6) (oi := ⟨_, _, _, _, _, _⟩) (v := ?vg1_6) rfl (by kernel_rfl) (by kernel_rfl) (by kernel_rfl) (by kernel_rfl) (fun _ _ _ h => h) (fun _ => ((Keep.refl [] w8).drew)) (Or.inl ⟨by rfl, ?hg1_6⟩) ?_
    case hg1_6 => intro w _; go_simp; (try with_reducible rfl)
    try simp only [Act.put, List.setIfInBounds_toArray, List.set_cons_zero, List.set_cons_succ]
    refine wpAnyG_take0 (i := 7) (oi := ⟨_, _, _, _, _, _⟩) (v := ?vg1_7) rfl (by kernel_rfl) (by kernel_rfl) (by kernel_rfl) (by kernel_rfl) (fun _ _ _ h => h) (fun _ => ((Keep.refl [] w8).drew)) (Or.inl ⟨by rfl, ?hg1_7⟩) ?_
    case hg1_7 => intro w _; go_simp; (try with_reducible rfl)
    try simp only [Act.put, List.setIfInBounds_toArray, List.set_cons_zero, List.set_cons_succ]
    refine wpAnyG_take (i := 8) (oi := ⟨_, _, _, _, _, _⟩) (v := (.agg DL.toArray)) [8, 11, 12, 13, 14, 15, 16, 17, 18, 19, 20] rfl (by kernel_rfl) (by kernel_rfl) (by kernel_rfl) (by kernel_rfl) (by kernel_rfl) (fun _ _ _ h => h) (fun _ => ((Keep.refl [] w8).drew)) (Or.inl ⟨by rfl, ?hg1_8⟩) ?_
    case hg1_8 => intro w hSw; (try dsimp only at hSw); exact quiet_load_mid 44 (.tmp 6) rfl gd 0 rfl DL _ (hr2 _ hSw) Tryz.underlying44 rfl hD44
    try simp only [Act.put, List.setIfInBounds_toArray, List.set_cons_zero, List.set_cons_succ]
    refine wpAnyG_take0 (i := 9) (oi := ⟨_, _, _, _, _, _⟩) (v := ?vg1_9) rfl (by kernel_rfl) (by kernel_rfl) (by kernel_rfl) (by kernel_rfl) (fun _ _ _ h => h) (fun _ => ((Keep.refl [] w8).drew)) (Or.inl ⟨by rfl, ?hg1_9⟩) ?_
    case hg1_9 => intro w _; go_simp; (try with_reducible rfl)
    try simp only [Act.put, List.setIfInBounds_toArray, List.set_cons_zero, List.set_cons_succ]
    refine wpAnyG_step (i := 10) (oi := ⟨_, _, _, _, _, _⟩) rfl (by kernel_rfl) (by rfl) (fun K hK => ?_)
    go_simp
    go_at_call 22
    refine HOf.out.mono ?_
    rintro e w9 ⟨rfl, hk9⟩
    refine hK _ _ ?_ (fun hSg1_10 => ?_)
    · intro _; exact ((Keep.refl [] w8).drew).trans hk9
    replace hSg1_10 := hSg1_10 (by kernel_rfl)
    clear hK
    try simp only [Act.put, List.setIfInBounds_toArray, List.set_cons_zero, List.set_cons_succ]
    refine wpAnyG_take0 (i := 11) (oi := ⟨_, _, _, _, _, _⟩) (v := ?vg1_11) rfl (by kernel_rfl) (by kernel_rfl) (by kernel_rfl) (by kernel_rfl) (fun _ _ _ h => h) (fun _ => hSg1_10) (Or.inl ⟨by rfl, ?hg1_11⟩) ?_
    case hg1_11 => intro w _; have m := heq w; go_simp; (try with_reducible rfl)
    try simp only [Act.put, List.setIfInBounds_toArray, List.set_cons_zero, List.set_cons_succ]
    refine wpAnyG_take0 (i := 12) (oi := ⟨_, _, _, _, _, _⟩) (v := ?vg1_12) rfl (by kernel_rfl) (by kernel_rfl) (by kernel_rfl) (by kernel_rfl) (fun _ _ _ h => h) (fun _ => hSg1_10) (Or.inl ⟨by rfl, ?hg1_12⟩) ?_
    case hg1_12 => intro w _; go_simp; (try with_reducible rfl)
    try simp only [Act.put, List.setIfInBounds_toArray, List.set_cons_zero, List.set_cons_succ]
    refine wpAnyG_take0 (i := 13) (oi := ⟨_, _, _, _, _, _⟩) (v := ?vg1_13) rfl (by kernel_rfl) (by kernel_rfl) (by kernel_rfl) (by kernel_rfl) (fun _ _ _ h => h) (fun _ => hSg1_10) (Or.inl ⟨by rfl, ?hg1_13⟩) ?_
    case hg1_13 => intro w _; go_simp; (try with_reducible rfl)
    try simp only [Act.put, List.setIfInBounds_toArray, List.set_cons_zero, List.set_cons_succ]
    refine wpAnyG_take0 (i := 14) (oi := ⟨_, _, _, _, _, _⟩) (v := ?vg1_14) rfl (by kernel_rfl) (by kernel_rfl) (by kernel_rfl) (by kernel_rfl) (fun _ _ _ h => h) (fun _ => hSg1_10) (Or.inl ⟨by rfl, ?hg1_14⟩) ?_
    case hg1_14 => intro w _; go_simp; (try with_reducible rfl)
    try simp only [Act.put, List.setIfInBounds_toArray, List.set_cons_zero, List.set_cons_succ]
    refine wpAnyG_step (i := 15) (oi := ⟨_, _, _, _, _, _⟩) rfl (by kernel_rfl) (by rfl) (fun K hK => ?_)
    go_simp
    go_at_call 20
    refine (HCk6.out _).mono ?_
    rintro e w10 ⟨rfl, rfl⟩
    refine hK _ _ ?_ (fun hSg1_15 => ?_)
    · intro _; exact ((Keep.refl [] w8).drew).trans hk9
    replace hSg1_15 := hSg1_15 (by kernel_rfl)
    clear hK
    try simp only [Act.put, List.setIfInBounds_toArray, List.set_cons_zero, List.set_cons_succ]
    refine wpAnyG_take0 (i := 16) (oi := ⟨_, _, _, _, _, _⟩) (v := ?vg1_16) rfl (by kernel_rfl) (by kernel_rfl) (by kernel_rfl) (by kernel_rfl) (fun _ _ _ h => h) (fun _ => hSg1_15) (Or.inl ⟨by rfl, ?hg1_16⟩) ?_
    case hg1_16 => intro w _; go_simp; (try with_reducible rfl)
    try simp only [Act.put, List.setIfInBounds_toArray, List.set_cons_zero, List.set_cons_succ]
    refine wpAnyG_take0 (i := 17) (oi := ⟨_, _, _, _, _, _⟩) (v := ?vg1_17) rfl (by kernel_rfl) (by kernel_rfl) (by kernel_rfl) (by kernel_rfl) (fun _ _ _ h => h) (fun _ => hSg1_15) (Or.inl ⟨by rfl, ?hg1_17⟩) ?_
    case hg1_17 => intro w _; go_simp; (try with_reducible rfl)
    try simp only [Act.put, List.setIfInBounds_toArray, List.set_cons_zero, List.set_cons_succ]
    refine wpAnyG_step (i := 18) (oi := ⟨_, _, _, _, _, _⟩) rfl (by kernel_rfl) (by rfl) (fun K hK => ?_)
    go_simp
    go_at_call 12
    refine (HAl.out _).mono ?_
    rintro e w11 ⟨rfl, hk11⟩
    refine hK _ _ ?_ (fun hSg1_18 => ?_)
    · intro _; exact (((Keep.refl [] w8).drew).trans hk9).trans hk11
    replace hSg1_18 := hSg1_18 (by kernel_rfl)
    clear hK
    try simp only [Act.put, List.setIfInBounds_toArray, List.set_cons_zero, List.set_cons_succ]
    refine wpAnyG_take0 (i := 19) (oi := ⟨_, _, _, _, _, _⟩) (v := ?vg1_19) rfl (by kernel_rfl) (by kernel_rfl) (by kernel_rfl) (by kernel_rfl) (fun _ _ _ h => h) (fun _ => hSg1_18) (Or.inl ⟨by rfl, ?hg1_19⟩) ?_
    case hg1_19 => intro w _; go_simp; (try with_reducible rfl)
    try simp only [Act.put, List.setIfInBounds_toArray, List.set_cons_zero, List.set_cons_succ]
    refine wpAnyG_take0 (i := 20) (oi := ⟨_, _, _, _, _, _⟩) (v := ?vg1_20) rfl (by kernel_rfl) (by kernel_rfl) (by kernel_rfl) (by kernel_rfl) (fun _ _ _ h => h) (fun _ => hSg1_18) (Or.inl ⟨by rfl, ?hg1_20⟩) ?_
    case hg1_20 => intro w _; go_simp; (try with_reducible rfl)
    try simp only [Act.put, List.setIfInBounds_toArray, List.set_cons_zero, List.set_cons_succ]
    refine wpAnyG_done (by kernel_rfl) ?_ _
    have HF : Hid (Keep [] w w11) := Lib.hid (HKw.out.trans ((((Keep.refl [] w8).drew).trans hk9).trans hk11))
    clear hk9 hk11
    go_wp2
    go_ret
    exact ⟨rfl, HF.out⟩
end Go.Proofs.YtdnaahbhfjclpaaGreatDoor

