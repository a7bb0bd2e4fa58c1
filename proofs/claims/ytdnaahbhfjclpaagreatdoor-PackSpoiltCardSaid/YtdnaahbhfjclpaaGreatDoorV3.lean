/- Decode's catcher (54). -/
import Derived.Test.YtdnaahbhfjclpaaGreatDoorWz
import Derived.Test.YtdnaahbhfjclpaaGreatDoorShelf
set_option linter.unusedVariables false
set_option linter.unusedSimpArgs false
namespace Go.Proofs.YtdnaahbhfjclpaaGreatDoor
open Go.RowKit Go.Sal Go.Huf Go.Cod
set_option maxRecDepth 20000 in
set_option maxHeartbeats 1000000 in
theorem unpack_any (bl : List Nat) (AB : Option Addr) (cB : Nat) (w : World) (hs : BySrc w AB bl) (hc : bl.length ≤ cB) (hA : ∀ a, AB = some a → a.block < w.heap.size) (hl : bl.length ≤ 2400) :
    Calls Tryz.prog 57 #[.slice AB bl.length cB] w fun e w' => RowT w (unpT bl) (unpE bl) e w' := by
  have hmf : ∀ (fn : Fn) (first cap : Array Value) (w : World), (Instr.makeFunc fn first cap).run Tryz.prog w = .ok (.func fn first cap) w := fun _ _ _ _ => rfl
  have hle : ¬ (bl.length : Int) > 262144 := by omega
  have hleb : decide ((bl.length : Int) > 262144) = false := decide_eq_false hle
  have hlen : ¬ 262144 < bl.length := by omega
  have H4 : Hid (UpS w bl 0 [] none 0 0 (((w.alloc (.cells #[.slice none 0 0] 96)).alloc (.cells #[.int .i64 0] 24)).alloc (.cells #[.slice AB bl.length cB, .int .i64 0] 137))) := by
    have k1 : Keep [] w (w.alloc (.cells #[.slice none 0 0] 96)) := (Keep.refl [] w).alloc _
    have k2 : Keep [] w ((w.alloc (.cells #[.slice none 0 0] 96)).alloc (.cells #[.int .i64 0] 24)) := k1.alloc _
    have k3 : Keep [] w (((w.alloc (.cells #[.slice none 0 0] 96)).alloc (.cells #[.int .i64 0] 24)).alloc (.cells #[.slice AB bl.length cB, .int .i64 0] 137)) := k2.alloc _
    have b1 := ((Blk.new w 96 #[.slice none 0 0]).alloc (.cells #[.int .i64 0] 24)).alloc (.cells #[.slice AB bl.length cB, .int .i64 0] 137)
    have b2 := (Blk.new (w.alloc (.cells #[.slice none 0 0] 96)) 24 #[.int .i64 0]).alloc (.cells #[.slice AB bl.length cB, .int .i64 0] 137)
    have b3 := Blk.new ((w.alloc (.cells #[.slice none 0 0] 96)).alloc (.cells #[.int .i64 0] 24)) 137 #[.slice AB bl.length cB, .int .i64 0]
    simp at b2 b3
    exact Lib.hid ⟨b1, b2, World.ownsRow_nil _ _ _ _, ⟨AB, cB, b3, hs.keep k3 (by simp), hc, fun a ha => by have := hA a ha; omega⟩, k3⟩
  have Hs := Lib.hid hs
  clear hs hA hc
  go_enter_defers Tryz.func57, Tryz.ntmps57
  go_upto_region 5 with fail
  generalize (((w.alloc (.cells #[.slice none 0 0] 96)).alloc (.cells #[.int .i64 0] 24)).alloc (.cells #[.slice AB bl.length cB, .int .i64 0] 137)) = W4 at *
  have HL := Lib.hid (lengths_left 137 (w.heap.size + 2) 511 bl 0 W4 H4.out.left (by decide) (by omega) (by omega))
  cases hla : lenP 511 bl with
  | none =>
    rw [hla] at HL
    have HR := Lib.hid (unp_none hl (by unfold readP; rw [hla]))
    clear hla
    go_wp2_with (go_at_call 91; refine HL.out.mono ?_; rintro e w' ⟨rfl, hk⟩; have Hk := Lib.hid hk; clear hk)
    refine UpS.dies H4.out Hk.out ?_ ?_ HR.out.1 HR.out.2 <;> rfl
  | some p1 =>
    obtain ⟨la, b1⟩ := p1
    rw [hla] at HL
    obtain ⟨hoa, hla5, hb1, hm1⟩ := lenP_ok hla
    have HBk := Lib.hid (fun (A : Option Addr) (c : Nat) (w : World) (hs : ISrc w A la) => book_any la A c w hs hoa)
    have HP1 := Lib.hid (And.intro hla (And.intro hla5 hm1))
    clear hla hla5 hm1 hoa
    go_upto_region 6 with (first
      | (go_at_call 91; refine HL.out.mono ?_; rintro e w5 ⟨A5, c5, rfl, hown5, hlf5, hk5⟩; have H5 := Lib.hid (And.intro (H4.out.next hlf5 hk5) hk5.size); have Ho5 := Lib.hid (ISrc.of_own hown5); clear hown5 hlf5 hk5)
      | (go_at_call 90; refine (HBk.out _ _ _ Ho5.out).mono ?_; rintro e w6 ⟨g1, rfl, hg1, hbk1, hk6⟩; have H6 := Lib.hid (And.intro (H5.out.1.next (H5.out.1.left.keep0 hk6) (hk6.mono (by simp))) (And.intro hbk1 hg1)); clear hbk1 hg1 hk6))
    clear HL HBk
    have HL := Lib.hid (lengths_left 137 (w.heap.size + 2) 13 b1 0 w6 H6.out.1.left (by decide) (by omega) (by omega))
    cases hlb : lenP 13 b1 with
    | none =>
      rw [hlb] at HL
      have HR := Lib.hid (unp_none hl (by unfold readP; rw [HP1.out.1]; simp only; rw [hlb]))
      clear hlb
      go_wp2_with (go_at_call 91; refine HL.out.mono ?_; rintro e w' ⟨rfl, hk⟩; have Hk := Lib.hid hk; clear hk)
      refine UpS.dies H6.out.1 Hk.out ?_ ?_ HR.out.1 HR.out.2 <;> rfl
    | some p2 =>
      obtain ⟨lb, b2⟩ := p2
      rw [hlb] at HL
      obtain ⟨hob, hlb5, hb2, hm2⟩ := lenP_ok hlb
      have HBk := Lib.hid (fun (A : Option Addr) (c : Nat) (w : World) (hs : ISrc w A lb) => book_any lb A c w hs hob)
      have HP2 := Lib.hid (And.intro hlb (And.intro hlb5 hm2))
      clear hlb hlb5 hm2 hob
      have Hg1 : Hid (w.heap.size + 2 < g1) := Lib.hid (by
        have h1 := H6.out.2.2
        have h2 := H5.out.1.left.lt
        omega)
      go_upto_region 7 with (first
        | (go_at_call 91; refine HL.out.mono ?_; rintro e w7 ⟨A7, c7, rfl, hown7, hlf7, hk7⟩; have H7 := Lib.hid (And.intro (H6.out.1.next hlf7 hk7) (And.intro (H6.out.2.1.keep hk7 (by have := Hg1.out; simp; omega)) hk7.size)); have Ho7 := Lib.hid (ISrc.of_own hown7); clear hown7 hlf7 hk7)
        | (go_at_call 90; refine (HBk.out _ _ _ Ho7.out).mono ?_; rintro e w8 ⟨g2, rfl, hg2, hbk2, hk8⟩; have H8 : Hid (UpB w b2 0 [] none 0 0 g1 g2 la lb w8) := Lib.hid ⟨H7.out.1.next (H7.out.1.left.keep0 hk8) (hk8.mono (by simp)), H7.out.2.1.keep hk8 (by simp), hbk2, Hg1.out, by have h2 := H7.out.1.left.lt; omega⟩; clear hbk2 hg2 hk8))
      clear HL HBk H4 H5 H6 H7 Ho5 Ho7 Hg1
      by_cases hv : ∃ x u, rdV 0 b2 = some (x, u) ∧ x ≤ 65536
      · obtain ⟨x, u, hr, hx⟩ := hv
        have HV := Lib.hid (varint_ok 137 (w.heap.size + 2) b2 0 65536 x u w8 H8.out.up.left (by omega) (by omega) hr hx)
        have HP : Hid (readP bl = toksF la lb (b2.drop u) x 0) := Lib.hid (by
          unfold readP
          rw [HP1.out.1]
          simp only
          rw [HP2.out.1]
          simp only
          rw [hr]
          simp only
          rw [if_neg (by omega)])
        have hb3 : (b2.drop u).length ≤ 2400 := by rw [List.length_drop]; omega
        obtain ⟨b3, hb3e⟩ : ∃ b3, b2.drop u = b3 := ⟨_, rfl⟩
        rw [hb3e] at HV HP hb3
        clear hr hb3e
        go_wp2_with (go_at_call 88; refine HV.out.mono ?_; rintro e w9 ⟨rfl, hlf, hk⟩; have H9 := Lib.hid (H8.out.next hlf hk); clear hlf hk)
        clear HV H8
        go_loopw [31] (fun v31 wr => ∃ i : Nat, v31 = .int .i64 i ∧ i ≤ x ∧ Hid (∃ tl A n c a, UpB w b3 a tl A n c g1 g2 la lb wr ∧ tl.length = i ∧ n = i ∧ readP bl = (toksF la lb b3 (x - i) a).map (tl ++ ·) ∧ a ≤ 8 * b3.length ∧ i ≤ a ∧ ∀ t ∈ tl, bdT t)) (fun v31 _ => x - (intOf v31).toNat)
        case atStart => exact ⟨0, rfl, by omega, Lib.hid ⟨[], none, 0, 0, 0, H9.out, rfl, rfl, by rw [HP.out]; simp, by omega, by omega, by simp⟩⟩
        case round =>
          obtain ⟨i, rfl, hi, hI⟩ := hrel
          clear H9
          obtain ⟨tl, A, n, c, a, hU, hln, rfl, hR, ha8, hia, hlit⟩ := hI.out
          clear hI
          rcases Nat.lt_or_ge n x with hix | hix
          · have hixi : (n : Int) < x := by omega
            have hwn : IntKind.i64.wrap ((n : Int) + 1) = (n : Int) + 1 := by rw [IntKind.wrap_i64]; omega
            have hf1 := hU.f1
            have hf2 := hU.f2
            have HT := Lib.hid (token_left 137 (w.heap.size + 2) g1 g2 la lb b3 a wr.drew (hU.up.left.keep0 (Keep.refl [] _).drew) (hU.m1.keep (Keep.refl [] _).drew (by simp)) (hU.m2.keep (Keep.refl [] _).drew (by simp)) (by omega) (by omega) (by omega) ha8 (by have := HP1.out.2.1; omega) (by have := HP2.out.2.1; omega))
            have hS0 : wr.drew.cell? ⟨w.heap.size, 0, none⟩ = some (.slice A n c) := hU.up.res.cell 0
            obtain ⟨k, hk⟩ : ∃ k, x - n = k + 1 := ⟨x - n - 1, by omega⟩
            cases ht : tokR la lb b3 a with
            | none =>
              rw [ht] at HT
              have HN := Lib.hid (unp_none hl (by rw [hR, hk, toksF_none ht]; rfl))
              have HU := Lib.hid hU
              clear hU hln hR ha8 hia hlit hf1 hf2 hk ht hi hix
              go_upto_region 9 with (fail)
              refine wp_upq (R := fun W => Keep [w.heap.size + 2] wr W) (d0 := [{ target := .fn (.func 89) #[.pointer (some ⟨w.heap.size, 0, none⟩), .pointer (some ⟨w.heap.size + 1, 0, none⟩)], args := #[] }]) (t2 := .pointer (some ⟨w.heap.size, 0, none⟩)) (t3 := .pointer (some ⟨w.heap.size + 1, 0, none⟩)) (fun a W hR hd h2 h3 => ?_) ?_
              · obtain ⟨T, ds⟩ := a
                subst hd
                exact UpS.dies HU.out.up hR h2 h3 HN.out.1 HN.out.2
              refine wp_region_G (fun W => W.cell? ⟨w.heap.size, 0, none⟩ = some (.slice A n c)) [7] #[false, false, false, false, false, false, false, false] 8 (by kernel_rfl) (by kernel_rfl) (by kernel_rfl) ?_
              refine wpAnyG_take (i := 0) (oi := ⟨_, _, _, _, _, _⟩) (v := ?vg2_0) [0, 6, 7] rfl (by kernel_rfl) (by kernel_rfl) (by kernel_rfl) (by kernel_rfl) (by kernel_rfl) (fun _ _ _ h => UpQ.put (by decide) h) (fun _ => hS0) (Or.inl ⟨by rfl, ?hg2_0⟩) ?_
              case hg2_0 => intro w hSw; (try dsimp only at hSw); go_simp; (try with_reducible rfl)
              try simp only [Act.put, List.setIfInBounds_toArray, List.set_cons_zero, List.set_cons_succ]
              refine wpAnyG_take0 (i := 1) (oi := ⟨_, _, _, _, _, _⟩) (v := ?vg2_1) rfl (by kernel_rfl) (by kernel_rfl) (by kernel_rfl) (by kernel_rfl) (fun _ _ _ h => UpQ.put (by decide) h) (fun _ => hS0) (Or.inl ⟨by rfl, ?hg2_1⟩) ?_
              case hg2_1 => intro w _; go_simp; (try with_reducible rfl)
              try simp only [Act.put, List.setIfInBounds_toArray, List.set_cons_zero, List.set_cons_succ]
              refine wpAnyG_take0 (i := 2) (oi := ⟨_, _, _, _, _, _⟩) (v := ?vg2_2) rfl (by kernel_rfl) (by kernel_rfl) (by kernel_rfl) (by kernel_rfl) (fun _ _ _ h => UpQ.put (by decide) h) (fun _ => hS0) (Or.inl ⟨by rfl, ?hg2_2⟩) ?_
              case hg2_2 => intro w _; go_simp; (try with_reducible rfl)
              try simp only [Act.put, List.setIfInBounds_toArray, List.set_cons_zero, List.set_cons_succ]
              refine wpAnyG_take0 (i := 3) (oi := ⟨_, _, _, _, _, _⟩) (v := ?vg2_3) rfl (by kernel_rfl) (by kernel_rfl) (by kernel_rfl) (by kernel_rfl) (fun _ _ _ h => UpQ.put (by decide) h) (fun _ => hS0) (Or.inl ⟨by rfl, ?hg2_3⟩) ?_
              case hg2_3 => intro w _; go_simp; (try with_reducible rfl)
              try simp only [Act.put, List.setIfInBounds_toArray, List.set_cons_zero, List.set_cons_succ]
              refine wpAnyG_step (i := 4) (oi := ⟨_, _, _, _, _, _⟩) rfl (by kernel_rfl) (by rfl) (fun K hK => ?_)
              go_simp
              go_at_call 92
              refine HT.out.mono ?_
              rintro e w' ⟨rfl, hk⟩
              exact ⟨rfl, hk.of_drew, rfl, rfl, rfl⟩
            | some p =>
              obtain ⟨⟨d, m, lt⟩, a2⟩ := p
              rw [ht] at HT
              have hok := tokR_ok ht
              have hbd := tokR_bd ht (by have := HP1.out.2.1; omega) (by have := HP2.out.2.1; omega)
              have HR : Hid (readP bl = (toksF la lb b3 (x - (n + 1)) a2).map ((tl ++ [(d, m, lt)]) ++ ·) ∧ a2 ≤ 8 * b3.length ∧ n + 1 ≤ a2 ∧ (∀ t ∈ tl ++ [(d, m, lt)], bdT t) ∧ (tl ++ [(d, m, lt)]).length = n + 1) := by
                refine Lib.hid ⟨?_, hok.2.1, by omega, fun t ht => ?_, by simp [hln]⟩
                · rw [hR, hk, toksF_some ht, show x - (n + 1) = k by omega, Option.map_map]
                  congr 1
                  funext l
                  simp
                · rcases List.mem_append.1 ht with h | h
                  · exact hlit t h
                  · simp at h
                    subst h
                    exact hbd
              have HX := Lib.hid (fun (w3 : World) (hl : LF 137 (w.heap.size + 2) b3 a2 w3) (hk : Keep [w.heap.size + 2] wr.drew w3) => hU.step (by omega) hl hk.of_drew d m lt)
              have hix2 : n + 1 ≤ x := hix
              clear hU hln hR ha8 hia hlit hf1 hf2 hk ht hi hok hbd
              go_upto_region 9 with (fail)
              refine wp_region_noPanic ?_
              refine wp_region_G (fun W => W.cell? ⟨w.heap.size, 0, none⟩ = some (.slice A n c)) [7] #[false, false, false, false, false, false, false, false] 8 (by kernel_rfl) (by kernel_rfl) (by kernel_rfl) ?_
              refine wpAnyG_take (i := 0) (oi := ⟨_, _, _, _, _, _⟩) (v := ?vg1_0) [0, 6, 7] rfl (by kernel_rfl) (by kernel_rfl) (by kernel_rfl) (by kernel_rfl) (by kernel_rfl) (fun _ _ _ h => h) (fun _ => hS0) (Or.inl ⟨by rfl, ?hg1_0⟩) ?_
              case hg1_0 => intro w hSw; (try dsimp only at hSw); go_simp; (try with_reducible rfl)
              try simp only [Act.put, List.setIfInBounds_toArray, List.set_cons_zero, List.set_cons_succ]
              refine wpAnyG_take0 (i := 1) (oi := ⟨_, _, _, _, _, _⟩) (v := ?vg1_1) rfl (by kernel_rfl) (by kernel_rfl) (by kernel_rfl) (by kernel_rfl) (fun _ _ _ h => h) (fun _ => hS0) (Or.inl ⟨by rfl, ?hg1_1⟩) ?_
              case hg1_1 => intro w _; go_simp; (try with_reducible rfl)
              try simp only [Act.put, List.setIfInBounds_toArray, List.set_cons_zero, List.set_cons_succ]
              refine wpAnyG_take0 (i := 2) (oi := ⟨_, _, _, _, _, _⟩) (v := ?vg1_2) rfl (by kernel_rfl) (by kernel_rfl) (by kernel_rfl) (by kernel_rfl) (fun _ _ _ h => h) (fun _ => hS0) (Or.inl ⟨by rfl, ?hg1_2⟩) ?_
              case hg1_2 => intro w _; go_simp; (try with_reducible rfl)
              try simp only [Act.put, List.setIfInBounds_toArray, List.set_cons_zero, List.set_cons_succ]
              refine wpAnyG_take0 (i := 3) (oi := ⟨_, _, _, _, _, _⟩) (v := ?vg1_3) rfl (by kernel_rfl) (by kernel_rfl) (by kernel_rfl) (by kernel_rfl) (fun _ _ _ h => h) (fun _ => hS0) (Or.inl ⟨by rfl, ?hg1_3⟩) ?_
              case hg1_3 => intro w _; go_simp; (try with_reducible rfl)
              try simp only [Act.put, List.setIfInBounds_toArray, List.set_cons_zero, List.set_cons_succ]
              refine wpAnyG_step (i := 4) (oi := ⟨_, _, _, _, _, _⟩) rfl (by kernel_rfl) (by rfl) (fun K hK => ?_)
              go_simp
              go_at_call 92
              refine HT.out.mono ?_
              rintro e w3 ⟨rfl, hlf3, hk3⟩
              obtain ⟨A', c', w4, hap, x0, x1, x2, x3, hN⟩ := HX.out w3 hlf3 hk3
              have HN := Lib.hid hN
              clear hN hlf3 hk3
              refine hK _ _ ?_ (fun hSg1_4 => ?_)
              · intro _; exact x0
              replace hSg1_4 := hSg1_4 (by kernel_rfl)
              clear hK
              try simp only [Act.put, List.setIfInBounds_toArray, List.set_cons_zero, List.set_cons_succ]
              refine wpAnyG_step (i := 5) (oi := ⟨_, _, _, _, _, _⟩) rfl (by kernel_rfl) (by rfl) (fun K hK => ?_)
              go_simp
              refine hK _ _ ?_ (fun hSg1_5 => ?_)
              · intro _; exact x1
              replace hSg1_5 := hSg1_5 (by kernel_rfl)
              clear hK
              try simp only [Act.put, List.setIfInBounds_toArray, List.set_cons_zero, List.set_cons_succ]
              refine wpAnyG_step (i := 6) (oi := ⟨_, _, _, _, _, _⟩) rfl (by kernel_rfl) (by rfl) (fun K hK => ?_)
              refine wp_append2 (v1 := .slice A n c) (v2 := .slice (some ⟨w3.heap.size, 0, none⟩) 1 1) (.tmp 33) (.tmp 38) rfl rfl rfl hap ?_
              refine hK _ _ ?_ (fun hSg1_6 => ?_)
              · intro _; exact x2
              replace hSg1_6 := hSg1_6 (by kernel_rfl)
              clear hK
              try simp only [Act.put, List.setIfInBounds_toArray, List.set_cons_zero, List.set_cons_succ]
              refine wpAnyG_step (i := 7) (oi := ⟨_, _, _, _, _, _⟩) rfl (by kernel_rfl) (by rfl) (fun K hK => ?_)
              go_simp
              refine hK _ _ (fun h => absurd h (Bool.eq_false_iff.1 (by kernel_rfl))) (fun _ => ?_)
              clear hK
              try simp only [Act.put, List.setIfInBounds_toArray, List.set_cons_zero, List.set_cons_succ]
              refine wpAnyG_done (by kernel_rfl) ?_ _
              refine NoPanic.normal ?_
              go_wp2_with fail
              go_roundw
              case rel => exact ⟨n + 1, by simp, hix2, Lib.hid ⟨_, A', n + 1, c', a2, HN.out, HR.out.2.2.2.2, rfl, HR.out.1, HR.out.2.1, HR.out.2.2.1, HR.out.2.2.2.1⟩⟩
              case measure => simp [intOf]; omega
          · obtain rfl : n = x := by omega
            have hni : ¬ (n : Int) < n := by omega
            have hR2 : readP bl = some tl := by rw [hR, Nat.sub_self]; simp [toksF]
            have HPk := Lib.hid (packR_any tl A c wr (tsrc_own hU.up.own hln hlit) (by omega))
            rw [hln] at HPk
            have d0 : wr.cell? ⟨w.heap.size, 0, none⟩ = some (.slice A n c) := hU.up.res.cell 0
            have HU := Lib.hid hU.up
            have Hln := Lib.hid hln
            have HLt := Lib.hid (packR_lt (l := tl) (by omega))
            have HEq := Lib.hid (fun (w1 : World) (AO : Option Addr) (cO : Nat) (hown : w1.ownsRow wr.heap.size 5 1 (.slice AO (packR tl).length cO) (packR tl).length (inB (packR tl))) (hk : Keep [] wr w1) => equal_any (packR tl) bl AO AB cO cB w1 (bsrc_own hown HLt.out) (Hs.out.keep (HU.out.kp.trans hk) (by simp)))
            have HK := Lib.hid (fun (w1 : World) (hk : Keep [] wr w1) => HU.out.next (HU.out.left.keep0 hk) (hk.mono (by simp)))
            by_cases hok : sizeE tl = 0 ∧ packR tl = bl
            · have HV : Hid (unpT bl = tl ∧ unpE bl = 0) := by
                have hpp : packP tl = bl := by
                  have := hok.2
                  unfold packR at this
                  rw [if_pos hok.1] at this
                  exact this
                refine Lib.hid ⟨?_, ?_⟩
                · unfold unpT
                  rw [hR2]
                  simp only
                  rw [if_pos ⟨by omega, hok.1, hpp⟩]
                · unfold unpE
                  rw [hR2, if_neg (by omega)]
                  simp only
                  rw [if_pos ⟨hok.1, hpp⟩]
              have hsz : (sizeE tl == 0) = true := by simp [hok.1]
              have hdb : decide (packR tl = bl) = true := decide_eq_true hok.2
              generalize sizeE tl = E at *
              clear hU hln hR hR2 ha8 hia hlit hok hi hix
              go_wp2_with (first
                | (go_at_call 69; refine HPk.out.mono ?_; rintro e w1 ⟨AO, cO, rfl, hown, hk⟩; have H1 := Lib.hid (HK.out w1 hk); have HQ := Lib.hid (HEq.out w1 AO cO hown hk); have b1 := H1.out.res; have b2 := H1.out.err; have c1 : w1.cell? ⟨w.heap.size, 0, none⟩ = some (.slice A n c) := b1.cell 0; have c2 : w1.cell? ⟨w.heap.size + 1, 0, none⟩ = some (.int .i64 0) := b2.cell 0; have f1 := b1.free 0; have f2 := b2.free 0; clear hown hk b1 b2)
                | (go_at_call 93; refine HQ.out.mono ?_; rintro e w2 ⟨rfl, rfl⟩)
                | (go_at_call 58; refine (must_yes _).mono ?_; rintro e w' ⟨rfl, rfl⟩))
              refine UpS.done H1.out ?_ ?_ Hln.out HV.out.1 HV.out.2 <;> rfl
            · have HV : Hid (unpT bl = [] ∧ unpE bl = 70) := by
                have hpp : ¬ (sizeE tl = 0 ∧ packP tl = bl) := fun h => hok ⟨h.1, by unfold packR; rw [if_pos h.1]; exact h.2⟩
                refine Lib.hid ⟨?_, ?_⟩
                · unfold unpT
                  rw [hR2]
                  simp only
                  rw [if_neg (fun h => hpp h.2)]
                · unfold unpE
                  rw [hR2, if_neg (by omega)]
                  simp only
                  rw [if_neg hpp]
              by_cases hs0 : sizeE tl = 0
              · have hsz : (sizeE tl == 0) = true := by simp [hs0]
                have hdb : decide (packR tl = bl) = false := decide_eq_false (fun h => hok ⟨hs0, h⟩)
                generalize sizeE tl = E at *
                clear hU hln hR hR2 ha8 hia hlit hok hi hix hs0
                go_wp2_with (first
                  | (go_at_call 69; refine HPk.out.mono ?_; rintro e w1 ⟨AO, cO, rfl, hown, hk⟩; have H1 := Lib.hid (HK.out w1 hk); have HQ := Lib.hid (HEq.out w1 AO cO hown hk); clear hown hk)
                  | (go_at_call 93; refine HQ.out.mono ?_; rintro e w2 ⟨rfl, rfl⟩)
                  | (go_at_call 58; refine (must_no _).mono ?_; rintro e w' ⟨rfl, hk⟩; have Hk := Lib.hid hk; clear hk))
                refine UpS.dies H1.out (Hk.out.mono (by simp)) ?_ ?_ HV.out.1 HV.out.2 <;> rfl
              · have hsz : (sizeE tl == 0) = false := by simpa using hs0
                generalize sizeE tl = E at *
                clear hU hln hR hR2 ha8 hia hlit hok hi hix hs0
                go_wp2_with (first
                  | (go_at_call 69; refine HPk.out.mono ?_; rintro e w1 ⟨AO, cO, rfl, hown, hk⟩; have H1 := Lib.hid (HK.out w1 hk); clear hown hk)
                  | (go_at_call 58; refine (must_no _).mono ?_; rintro e w' ⟨rfl, hk⟩; have Hk := Lib.hid hk; clear hk))
                refine UpS.dies H1.out (Hk.out.mono (by simp)) ?_ ?_ HV.out.1 HV.out.2 <;> rfl
      · have HV := Lib.hid (varint_no 137 (w.heap.size + 2) b2 0 65536 w8 H8.out.up.left (by omega) (by omega) (fun x n h => by
          rcases Nat.lt_or_ge 65536 x with h1 | h1
          · exact h1
          · exact absurd ⟨x, n, h, h1⟩ hv))
        have HR := Lib.hid (unp_none hl (by
          unfold readP
          rw [HP1.out.1]
          simp only
          rw [HP2.out.1]
          simp only
          cases hr : rdV 0 b2 with
          | none => rfl
          | some p =>
            obtain ⟨x, u⟩ := p
            simp only
            rw [if_pos]
            rcases Nat.lt_or_ge 65536 x with h1 | h1
            · exact h1
            · exact absurd ⟨x, u, hr, h1⟩ hv))
        clear hv
        go_wp2_with (go_at_call 88; refine HV.out.mono ?_; rintro e w' ⟨rfl, hk⟩; have Hk := Lib.hid hk; clear hk)
        refine UpS.dies H8.out.up (Hk.out.mono (by simp)) ?_ ?_ HR.out.1 HR.out.2 <;> rfl
end Go.Proofs.YtdnaahbhfjclpaaGreatDoor

namespace Go.Proofs.YtdnaahbhfjclpaaGreatDoor
open Go.RowKit Go.Sal Go.Huf Go.Cod
def HeadE (w : World) (r : Option (Nat × Bool × List Nat)) (e : Ending) (w' : World) : Prop := match r with
  | some (n, p, l) => ∃ A c, e = .returned (.tuple #[.int .i64 (n : Nat), .bool p, .slice A l.length c]) ∧ BySrc w' A l ∧ l.length ≤ c ∧ (∀ a, A = some a → a.block < w'.heap.size) ∧ Keep [] w w'
  | none => e = .panicked PN ∧ Keep [] w w'
theorem HeadE.no {w w' : World} {r : Option (Nat × Bool × List Nat)} (h : r = none) (k : Keep [] w w') : HeadE w r (.panicked PN) w' := by
  subst h
  exact ⟨rfl, k⟩
set_option maxRecDepth 20000 in
set_option maxHeartbeats 1000000 in
theorem head_bad (bl : List Nat) (AB : Option Addr) (cB : Nat) (w : World) (hs : BySrc w AB bl) (hl : bl.length ≤ 1000000) (h : ∀ x b1, bl = x :: b1 → 1 < x) :
    Calls Tryz.prog 56 #[.slice AB bl.length cB] w fun e w' => HeadE w (headP bl) e w' := by
  cases bl with
  | nil =>
    have HN := Lib.hid (show headP [] = none from rfl)
    clear hs h
    go_enter Tryz.func56, Tryz.ntmps56
    go_wp2_with (go_at_call 58; refine (must_no _).mono ?_; rintro e w' ⟨rfl, hk⟩; have Hk := Lib.hid hk; clear hk)
    exact ⟨rfl, HeadE.no HN.out Hk.out⟩
  | cons x b1 =>
    have hx := h x b1 rfl
    have HN := Lib.hid (show headP (x :: b1) = none by unfold headP; simp only; rw [if_neg (by omega)])
    obtain ⟨g, o, rfl, hg, d0⟩ := hs.1 0 (by simp)
    simp at d0
    obtain ⟨N, hN⟩ : ∃ N, N = (x :: b1).length := ⟨_, rfl⟩
    have hN0 : (0 : Int) < N := by rw [hN]; simp
    have hN1 : 0 < N := by rw [hN]; simp
    have hgt : decide ((N : Int) > 0) = true := decide_eq_true hN0
    have hxb : decide ((x : Int) ≤ 1) = false := decide_eq_false (by omega)
    have hxi : ¬ (x : Int) ≤ 1 := by omega
    have hxn : ¬ x ≤ 1 := by omega
    rw [← hN]
    clear hs h hN hx hl
    go_enter Tryz.func56, Tryz.ntmps56
    go_wp2_with (go_at_call 58; refine (must_no _).mono ?_; rintro e w' ⟨rfl, hk⟩; have Hk := Lib.hid hk; clear hk)
    exact ⟨rfl, HeadE.no HN.out Hk.out⟩
set_option maxRecDepth 20000 in
set_option maxHeartbeats 1000000 in
theorem head_ok (x : Nat) (b1 : List Nat) (AB : Option Addr) (cB : Nat) (w : World) (hs : BySrc w AB (x :: b1)) (hc : (x :: b1).length ≤ cB) (hl : (x :: b1).length ≤ 1000000) (hx : x ≤ 1) :
    Calls Tryz.prog 56 #[.slice AB (x :: b1).length cB] w fun e w' => HeadE w (headP (x :: b1)) e w' := by
  obtain ⟨g, o, rfl, hg, d0⟩ := hs.1 0 (by simp)
  simp at d0
  obtain ⟨t1, t2, t3, t4⟩ := bsrc_tail (k := 1) hs (by simp) hc
  obtain ⟨A1, hA1⟩ : ∃ A1, A1 = (if cB = 1 then some (⟨g, o, none⟩ : Addr) else Option.map (fun x : Addr => x.add (1 * 1)) (some ⟨g, o, none⟩)) := ⟨_, rfl⟩
  rw [← hA1] at t1 t4
  have hst : ∀ W, (Instr.slice 22 (.slice (some ⟨g, o, none⟩) (x :: b1).length cB) (some (.int .i64 1)) none none).run Tryz.prog W = .ok (.slice A1 ((x :: b1).length - 1) (cB - 1)) W := fun W => by
    rw [hA1]
    exact slice_tail (P := Tryz.prog) 22 5 Tryz.underlying22 (some ⟨g, o, none⟩) (x :: b1).length cB 1 (by simp) W 1 (by kernel_rfl)
  clear hA1
  obtain ⟨N, hN⟩ : ∃ N, N = (x :: b1).length := ⟨_, rfl⟩
  rw [← hN] at hst
  have hN2 : N - 1 = b1.length := by rw [hN]; simp
  rw [hN2] at hst
  have k1 : Keep [] w (w.alloc (.cells #[.slice A1 b1.length (cB - 1), .int .i64 0] 133)) := (Keep.refl [] w).alloc _
  have HL : LF 133 w.heap.size b1 0 (w.alloc (.cells #[.slice A1 b1.length (cB - 1), .int .i64 0] 133)) := ⟨A1, cB - 1, Blk.new w 133 _, t1.keep k1 (by simp), t3, fun a ha => by
    obtain ⟨a', e1, e2⟩ := t4 a ha
    injection e1 with e1
    subst e1
    rw [e2]
    exact hg⟩
  have hN0 : (0 : Int) < N := by rw [hN]; simp
  have hN1 : 0 < N := by rw [hN]; simp
  have hgt : decide ((N : Int) > 0) = true := decide_eq_true hN0
  have hxb : decide ((x : Int) ≤ 1) = true := decide_eq_true (by omega)
  have hxi : (x : Int) ≤ 1 := by omega
  have hb1 : b1.length ≤ 1000000 := by simp at hl; omega
  rw [← hN]
  by_cases hv : ∃ n u, rdV 0 b1 = some (n, u) ∧ n ≤ 65536
  · obtain ⟨n, u, hr, hn⟩ := hv
    have HV := Lib.hid (varint_ok 133 w.heap.size b1 0 65536 n u _ HL hb1 (by omega) hr hn)
    have HN : Hid (headP (x :: b1) = some (n, decide (x = 1), b1.drop u)) := Lib.hid (by
      unfold headP
      simp only
      rw [if_pos hx, hr]
      simp only
      rw [if_pos hn])
    have Hk1 := Lib.hid k1
    have Hd : Hid (∀ W, Keep [w.heap.size] (w.alloc (.cells #[.slice A1 b1.length (cB - 1), .int .i64 0] 133)) W → W.cell? ⟨g, o, none⟩ = some (.int .u8 (x : Nat))) := Lib.hid (fun W k => (k.cell (p := ⟨g, o, none⟩) (by simp; omega) (by simp; omega)).trans ((k1.cell (p := ⟨g, o, none⟩) hg (by simp)).trans d0))
    have hxe : ((x : Int) == 1) = decide (x = 1) := by
      rcases Nat.lt_or_ge x 1 with h | h
      · obtain rfl : x = 0 := by omega
        rfl
      · obtain rfl : x = 1 := by omega
        rfl
    generalize decide (x = 1) = xd at *
    clear hs hc hl hN hN2 hx HL t1 t2 t3 t4 k1 hr hn
    go_enter Tryz.func56, Tryz.ntmps56
    go_upto_region 4 with (first
      | (go_at_call 58; refine (must_yes _).mono ?_; rintro e w' ⟨rfl, rfl⟩)
      | (go_at_call 88; refine HV.out.mono ?_; rintro e w3 ⟨rfl, hlf, hk⟩; obtain ⟨A2, c2, hb2, hs2, hc2, hne2⟩ := hlf; have HX := Lib.hid (And.intro hb2.lt (And.intro hs2 (And.intro hc2 (And.intro hne2 hk)))); have m0 : w3.cell? ⟨w.heap.size, 0, none⟩ = some (.slice A2 (b1.drop u).length c2) := hb2.cell 0; have d1 := Hd.out w3 hk; clear hb2 hs2 hc2 hne2 hk))
    generalize hbl : b1.drop u = bl2 at *
    clear hbl
    go_quiet (fail)
    go_wp2
    refine bodyPost_ret (v := .tuple #[.int .i64 (n : Nat), .bool xd, .slice A2 bl2.length c2]) (by simp [results, Tryz.results56, go_sem]) rfl ?_
    show HeadE w (headP (x :: b1)) _ _
    rw [HN.out]
    obtain ⟨z1, z2, z3, z4, z5⟩ := HX.out
    exact ⟨A2, c2, rfl, z2.keep ((Keep.refl [] w3).drewN _) (by simp), z3, fun a ha => Nat.lt_trans (z4 a ha) z1, (Hk1.out.step z5 (fun i hi => .inr (by simp at hi; omega))).drewN _⟩
  · have HV := Lib.hid (varint_no 133 w.heap.size b1 0 65536 _ HL hb1 (by omega) (fun n u h => by
      rcases Nat.lt_or_ge 65536 n with h1 | h1
      · exact h1
      · exact absurd ⟨n, u, h, h1⟩ hv))
    have HN : Hid (headP (x :: b1) = none) := Lib.hid (by
      unfold headP
      simp only
      rw [if_pos hx]
      cases hr : rdV 0 b1 with
      | none => rfl
      | some p =>
        obtain ⟨n, u⟩ := p
        simp only
        rw [if_neg (fun h1 => hv ⟨n, u, hr, h1⟩)])
    have Hk1 := Lib.hid k1
    clear hs hc hl hN hN2 hx hv HL t1 t2 t3 t4 k1
    go_enter Tryz.func56, Tryz.ntmps56
    go_wp2_with (first
      | (go_at_call 58; refine (must_yes _).mono ?_; rintro e w' ⟨rfl, rfl⟩)
      | (go_at_call 88; refine HV.out.mono ?_; rintro e w' ⟨rfl, hk⟩; have Hk := Lib.hid hk; clear hk))
    exact ⟨rfl, HeadE.no HN.out (Hk1.out.trans Hk.out)⟩
end Go.Proofs.YtdnaahbhfjclpaaGreatDoor

namespace Go.Proofs.YtdnaahbhfjclpaaGreatDoor
open Go.RowKit Go.Sal Go.Huf Go.Cod
theorem dcatch_panicking (a b : Nat) (v1 v2 : Value) (w : World) (hA : Blk w a 22 #[v1]) (hB : Blk w b 24 #[v2]) (hne : b ≠ a) :
    CallsD Tryz.prog 54 #[.pointer (some ⟨a, 0, none⟩), .pointer (some ⟨b, 0, none⟩)] (.panicking PN) w fun e u' w' =>
      e = .returned (.tuple #[]) ∧ u' = .panicking [{ v := .iface 129 (.agg #[]), recovered := true }] ∧ ∃ w1, Keep [] w w1 ∧ w' = (w1.setCell ⟨a, 0, none⟩ (.slice none 0 0)).setCell ⟨b, 0, none⟩ (.int .i64 70) := by
  have HC := Lib.hid caught_yes
  refine callsD_of_wpS Tryz.func54 rfl fun c₀ cs hu => ?_
  unfold PN at hu
  apply wpS_seq
  apply wpS_region
  simp [wpOpsS, go_sem, recoverD, hu, Tryz.ntmps54, Exit.thenS]
  refine (HC.out w).mono ?_
  rintro e w1 ⟨rfl, hk⟩
  have hA1 := hA.keep hk (by simp)
  have hB1 := hB.keep hk (by simp)
  have hB2 : Blk (w1.setCell ⟨a, 0, none⟩ (.slice none 0 0)) b 24 #[v2] := hB1.keep ((Keep.refl [a] w1).setCell (.inl (by simp)) _) (by simpa using hne)
  have c0 : w1.cell? ⟨a, 0, none⟩ = some v1 := hA1.cell 0
  have f0 := hA1.free 0
  have c1 : (w1.setCell ⟨a, 0, none⟩ (.slice none 0 0)).cell? ⟨b, 0, none⟩ = some v2 := hB2.cell 0
  have f1 := hB1.free 0
  refine wpS_cond (t := true) (by simp [Act.eval, Array.replicate]) ?_
  simp only [if_true]
  apply wpS_region
  simp [wpOpsS, go_sem, c0, f0, c1, f1, bodyPostS, results, Tryz.results54]
  exact ⟨w1, hk, rfl⟩
theorem dcatch_idle (a b : Nat) (w : World) :
    CallsD Tryz.prog 54 #[.pointer (some ⟨a, 0, none⟩), .pointer (some ⟨b, 0, none⟩)] .returning w fun e u' w' => e = .returned (.tuple #[]) ∧ u' = .returning ∧ w' = w := by
  have HC := Lib.hid caught_nil
  refine callsD_of_wpS Tryz.func54 rfl fun c₀ cs hu => ?_
  apply wpS_seq
  apply wpS_region
  simp [wpOpsS, go_sem, recoverD, hu, Tryz.ntmps54, Exit.thenS]
  refine (HC.out w).mono ?_
  rintro e w1 ⟨rfl, rfl⟩
  refine wpS_cond (t := false) (by simp [Act.eval, Array.replicate]) ?_
  simp only [Bool.false_eq_true, if_false]
  refine wpS_of_wp (wp_skip ?_)
  cases c₀
  simp_all [bodyPostS, results, Tryz.results54]
end Go.Proofs.YtdnaahbhfjclpaaGreatDoor

