/- Pack, walked. -/
import Derived.Test.YtdnaahbhfjclpaaGreatDoorK10
import Derived.Test.YtdnaahbhfjclpaaGreatDoorK11
import Derived.Test.YtdnaahbhfjclpaaGreatDoorU5
set_option linter.unusedVariables false
set_option linter.unusedSimpArgs false
namespace Go.Proofs.YtdnaahbhfjclpaaGreatDoor
open Go.RowKit Go.Sal Go.Huf Go.Cod
structure HD2 (w : World) (la lb : List Int) (hd : List Nat) (AA : Option Addr) (cA : Nat) (AC : Option Addr) (cC : Nat) (AD : Option Addr) (cD : Nat) (AE : Option Addr) (cE : Nat) (AO : Option Addr) (n cO : Nat) (wr : World) : Prop where
  a : LC w la AA cA AC cC wr
  b : LC w lb AD cD AE cE wr
  hdr : wr.ownsRow w.heap.size 5 1 (.slice AO n cO) n (inB hd)
  len : n = hd.length
  kp : Keep [] w wr
theorem HD2.start {w wr : World} {la lb : List Int} {AA AC AD AE : Option Addr} {cA cC cD cE : Nat} (a : LC w la AA cA AC cC wr) (b : LC w lb AD cD AE cE wr) (kp : Keep [] w wr)
    {w5 : World} {A5 : Option Addr} {c5 : Nat} {ra : List Nat} (h5 : w5.ownsRow wr.heap.size 5 1 (.slice A5 ra.length c5) ra.length (inB ra)) (k5 : Keep [] wr w5) : HD2 w la lb ra AA cA AC cC AD cD AE cE A5 ra.length c5 w5 :=
  ⟨a.keep k5 (by simp) (by simp), b.keep k5 (by simp) (by simp), own_le h5 kp.size, rfl, kp.trans k5⟩
theorem HD2.app {w wr w6 : World} {la lb : List Int} {hd r : List Nat} {AA AC AD AE AO A6 : Option Addr} {cA cC cD cE cO n c6 : Nat} (h : HD2 w la lb hd AA cA AC cC AD cD AE cE AO n cO wr)
    (h6 : w6.ownsRow wr.heap.size 5 1 (.slice A6 r.length c6) r.length (inB r)) (k6 : Keep [] wr w6) (hn : n ≤ 1000000) (hr : r.length ≤ 1000000) :
    ∃ A' c' w' k, (Builtin.append_ #[22, 22] 22 #[.slice AO n cO, .slice A6 r.length c6]).run Tryz.prog w6 = .ok (.slice A' k c') w' ∧ k = n + r.length ∧ HD2 w la lb (hd ++ r) AA cA AC cC AD cD AE cE A' k c' w' := by
  have hh := ownsRow_keep h.hdr k6 (by simp)
  have ha := h.a.keep k6 (by simp) (by simp)
  have hb := h.b.keep k6 (by simp) (by simp)
  obtain ⟨A', c', w', k, hk, hap, hown, hkp⟩ := bytes_app' (d := c6) hh (Src.of_own h6) (by omega) (by omega) (h.kp.trans k6).size
  exact ⟨A', c', w', k, hap, hk, ha.keep hkp (fun i hi hm => own_ne_own ha.len hh (by decide) hi (by simpa using hm)) (fun i hi hm => own_ne_own ha.cod hh (by decide) hi (by simpa using hm)),
    hb.keep hkp (fun i hi hm => own_ne_own hb.len hh (by decide) hi (by simpa using hm)) (fun i hi hm => own_ne_own hb.cod hh (by decide) hi (by simpa using hm)), hown,
    by rw [hk, List.length_append, h.len], (h.kp.trans k6).step hkp (fun j hj => .inr (own_far hh j hj))⟩
structure PPI (w : World) (la lb : List Int) (hd : List Nat) (AA : Option Addr) (cA : Nat) (AC : Option Addr) (cC : Nat) (AD : Option Addr) (cD : Nat) (AE : Option Addr) (cE : Nat) (AO : Option Addr) (cO B gw : Nat) (bs : List Bool) (A : Option Addr) (n c : Nat) (wr : World) : Prop where
  a : LC w la AA cA AC cC wr
  b : LC w lb AD cD AE cE wr
  hdr : wr.ownsRow w.heap.size 5 1 (.slice AO hd.length cO) hd.length (inB hd)
  low : ∀ g, (Value.slice AO hd.length cO).ownBlock = some g → g < B
  ws : WS B gw bs A n c wr
  leB : w.heap.size ≤ B
  leg : w.heap.size ≤ gw
  kp : Keep [] w wr
section
variable {w wr w1 : World} {la lb : List Int} {hd : List Nat} {AA AC AD AE AO A : Option Addr} {cA cC cD cE cO B gw n c : Nat} {bs : List Bool}
theorem PPI.keep (h : PPI w la lb hd AA cA AC cC AD cD AE cE AO cO B gw bs A n c wr) (k : Keep [] wr w1) : PPI w la lb hd AA cA AC cC AD cD AE cE AO cO B gw bs A n c w1 :=
  ⟨h.a.keep k (by simp) (by simp), h.b.keep k (by simp) (by simp), ownsRow_keep h.hdr k (by simp), h.low, h.ws.keep k, h.leB, h.leg, h.kp.trans k⟩
theorem PPI.start (h : HD2 w la lb hd AA cA AC cC AD cD AE cE AO n cO wr) : PPI w la lb hd AA cA AC cC AD cD AE cE AO cO wr.heap.size wr.heap.size [] none 0 0 (wr.alloc (.cells #[.slice none 0 0, .int .i64 0] 165)) := by
  have k : Keep [] wr (wr.alloc (.cells #[.slice none 0 0, .int .i64 0] 165)) := (Keep.refl [] wr).alloc _
  have hh := ownsRow_keep h.hdr k (by simp)
  have hl := h.hdr
  rw [h.len] at hh hl
  refine ⟨h.a.keep k (by simp) (by simp), h.b.keep k (by simp) (by simp), hh, fun g hg => ?_, ⟨Blk.new wr 165 _, World.ownsRow_nil _ _ _ _, rfl, by simp⟩, h.kp.size, h.kp.size, h.kp.trans k⟩
  exact (hl.lt g hg).2
theorem PPI.put (h : PPI w la lb hd AA cA AC cC AD cD AE cE AO cO B gw bs A n c wr) {cv L : Nat} (hcv : cv < 65536) (hL : L ≤ 15) (hl : bs.length ≤ 5000000) (w0 : World) (hw0 : Keep [] wr w0) :
    Calls Tryz.prog 108 #[.pointer (some ⟨gw, 0, none⟩), .int .u64 (cv : Nat), .int .i64 (L : Nat)] w0 fun e w' => e = .returned (.tuple #[]) ∧ ∃ A' n' c', PPI w la lb hd AA cA AC cC AD cD AE cE AO cO B gw (bs ++ bitsK cv L) A' n' c' w' ∧
      ∀ g cs, Blk w0 g 143 cs → Blk w' g 143 cs := by
  have h' := h.keep hw0
  refine (put_any cv L hcv hL B gw bs A n c w0 h'.ws hl).mono ?_
  rintro e w' ⟨rfl, A', n', c', hW, hk⟩
  have hne : ∀ {base size m : Nat} {e : TypeId} {v : Value} {xs : List Value}, w0.ownsRow base e size v m xs → e ≠ 165 → e ≠ 5 → ∀ i, v.ownBlock = some i → i ∉ gw :: (Value.slice A n c).ownBlock.toList := fun ho h62 h5 i hi hm => by
    rcases List.mem_cons.1 hm with rfl | hm
    · exact own_ne_blk ho h'.ws.blk h62 hi
    · exact own_ne_own ho h'.ws.own h5 hi (by simpa using hm)
  refine ⟨rfl, A', n', c', ⟨h'.a.keep hk (hne h'.a.len (by decide) (by decide)) (hne h'.a.cod (by decide) (by decide)), h'.b.keep hk (hne h'.b.len (by decide) (by decide)) (hne h'.b.cod (by decide) (by decide)), ?_, h.low, hW, h.leB, h.leg, ?_⟩, fun g cs hb => ?_⟩
  · refine ownsRow_keep h'.hdr hk (fun i hi hm => ?_)
    rcases List.mem_cons.1 hm with rfl | hm
    · exact own_ne_blk h'.hdr h'.ws.blk (by decide) hi
    · have h1 := h.low i hi
      have h2 := own_far h'.ws.own i hm
      omega
  · refine h'.kp.step hk (fun i hi => .inr ?_)
    rcases List.mem_cons.1 hi with rfl | hi
    · exact h.leg
    · exact Nat.le_trans h.leB (own_far h'.ws.own i hi)
  · refine hb.keep hk (fun hm => ?_)
    rcases List.mem_cons.1 hm with rfl | hm
    · exact hb.ne_ h'.ws.blk (by decide) rfl
    · exact own_ne_blk h'.ws.own hb (by decide) (by simpa using hm)
end
theorem pack_bad (l : List Tk) (A : Option Addr) (c : Nat) (w : World) (hs : TSrc w A l) (hl : l.length ≤ 100000) (h : sizeE l ≠ 0) :
    Calls Tryz.prog 69 #[.slice A l.length c] w fun e w' => e = .returned (.tuple #[.slice none 0 0, .int .i64 (sizeE l)]) ∧ Keep [] w w' := by
  have Hc := Lib.hid (size_any l A c w hs (by omega))
  have hne : (sizeE l != 0) = true := by simpa using h
  clear hs h
  generalize sizeE l = E at *
  generalize sizeN l = M at *
  go_enter Tryz.func69, Tryz.ntmps69
  go_wp2_with (go_at_call 102; refine Hc.out.mono ?_; rintro e w1 ⟨rfl, hk⟩; have Hk := Lib.hid hk; clear hk)
  go_ret2
  exact ⟨rfl, Hk.out⟩
set_option maxRecDepth 20000 in
set_option maxHeartbeats 8000000 in
theorem pack_ok (l : List Tk) (A : Option Addr) (c : Nat) (w : World) (hs : TSrc w A l) (hl : l.length ≤ 20000) (h : sizeE l = 0) :
    Calls Tryz.prog 69 #[.slice A l.length c] w fun e w' => ∃ AO cO, e = .returned (.tuple #[.slice AO (packP l).length cO, .int .i64 0]) ∧ w'.ownsRow w.heap.size 5 1 (.slice AO (packP l).length cO) (packP l).length (inB (packP l)) ∧ Keep [] w w' := by
  have hall : l.all okT = true := by
    unfold sizeE at h
    split at h
    · assumption
    · cases h
  have Hc := Lib.hid (size_any l A c w hs (by omega))
  rw [h] at Hc
  have Hcn := Lib.hid (fun w1 (k : Keep [] w w1) => counts_any l A c w1 (hs.keep k (by simp)) (by omega) hall)
  have Hs := Lib.hid hs
  have Hall := Lib.hid hall
  obtain ⟨hoa, hla, _⟩ := lenA_ok (l := l) (by omega)
  obtain ⟨hob, hlb, _⟩ := lenD_ok (l := l) (by omega)
  have HA := Lib.hid (fun (w1 w2 w0 : World) (ga gb : Nat) (h : TCI w1 l l.length ga gb w2) (k : Keep [] w2 w0) => lenA_any h (by omega) k)
  have HD := Lib.hid (fun (w1 w2 w0 : World) (ga gb : Nat) (h : TCI w1 l l.length ga gb w2) (k : Keep [] w2 w0) => lenD_any h (by omega) k)
  have hra := runsP_len (lenA l)
  have hrb := runsP_len (lenD l)
  have hvl := varP_len l.length
  have HP : Hid (packP l = (runsP (lenA l) ++ runsP (lenD l) ++ varP l.length) ++ pack (tokB (lenA l) (lenD l) l)) := Lib.hid rfl
  have HTB := Lib.hid (fun (k : Nat) => tokB_len hoa.2.1 hob.2.1 (all_take hall k))
  generalize hLA : lenA l = la at *
  generalize hLB : lenD l = lb at *
  have Hoa := Lib.hid hoa
  have Hob := Lib.hid hob
  have HLa := Lib.hid hla
  have HLb := Lib.hid hlb
  have HR1 := Lib.hid (fun (w1 : World) (A1 : Option Addr) (c1 : Nat) (h : ISrc w1 A1 la) => runs_any la A1 c1 w1 h (by omega) (good_255 hoa))
  have HR2 := Lib.hid (fun (w1 : World) (A1 : Option Addr) (c1 : Nat) (h : ISrc w1 A1 lb) => runs_any lb A1 c1 w1 h (by omega) (good_255 hob))
  have HV := Lib.hid (fun w1 => varint_any l.length w1 (by omega))
  have HC1 := Lib.hid (fun (w1 : World) (A1 : Option Addr) (c1 : Nat) (h : ISrc w1 A1 la) => codes_ok stab_k (Nat.le_refl _) la A1 c1 w1 h (by omega) hoa)
  have HC2 := Lib.hid (fun (w1 : World) (A1 : Option Addr) (c1 : Nat) (h : ISrc w1 A1 lb) => codes_ok stab_k (Nat.le_refl _) lb A1 c1 w1 h (by omega) hob)
  have Hla := Lib.hid (And.intro hra (And.intro hrb hvl))
  have hwl : IntKind.u64.wrap (l.length : Int) = (l.length : Int) := by rw [IntKind.wrap_u64]; omega
  clear hs h hall hoa hob hLA hLB hra hrb hvl hla hlb
  go_enter Tryz.func69, Tryz.ntmps69
  go_upto_region 5 with (first
    | (go_at_call 102; refine Hc.out.mono ?_; rintro e w1 ⟨rfl, hk⟩; have Hk1 := Lib.hid hk; clear hk)
    | (go_at_call 103; refine (Hcn.out w1 Hk1.out).mono ?_; rintro e w2 ⟨ga, gb, rfl, hT⟩))
  go_upto_region 6 with (go_at_call 104; refine (HA.out _ _ _ _ _ hT.out (Keep.refl [] _)).mono ?_; rintro e w3 ⟨AA, cA, rfl, ha3, hk3⟩; have H3 := Lib.hid (And.intro ha3 hk3); clear ha3 hk3)
  go_upto_region 7 with (go_at_call 104; refine (HD.out _ _ _ _ _ hT.out H3.out.2).mono ?_; rintro e w4 ⟨AD, cD, rfl, hd4, hk4⟩; have Kw2 := Lib.hid (Hk1.out.trans hT.out.2.2.2.2.2.2.2); have Kw4 := Lib.hid (Kw2.out.trans (H3.out.2.trans hk4)); have H4 := Lib.hid (And.intro (own_le (ownsRow_keep H3.out.1 hk4 (by simp)) Kw2.out.size) (own_le hd4 (Kw2.out.trans H3.out.2).size)); clear hd4 hk4 H3)
  go_upto_region 8 with (go_at_call 105; refine (HC1.out _ _ _ (isrc_own H4.out.1)).mono ?_; rintro e w5 ⟨AC, cC, rfl, h5, k5⟩; have H5 := Lib.hid (And.intro h5 k5); clear h5 k5)
  go_upto_region 9 with (go_at_call 105; refine (HC2.out _ _ _ (isrc_own (ownsRow_keep H4.out.2 H5.out.2 (by simp)))).mono ?_; rintro e w6 ⟨AE, cE, rfl, h6, k6⟩; have H6 : Hid (LC w la AA cA AC cC w6 ∧ LC w lb AD cD AE cE w6 ∧ Keep [] w w6) := Lib.hid ⟨⟨ownsRow_keep H4.out.1 (H5.out.2.trans k6) (by simp), own_le (ownsRow_keep H5.out.1 k6 (by simp)) Kw4.out.size⟩, ⟨ownsRow_keep H4.out.2 (H5.out.2.trans k6) (by simp), own_le h6 (Kw4.out.trans H5.out.2).size⟩, Kw4.out.trans (H5.out.2.trans k6)⟩; clear h6 k6)
  have TK : True := trivial
  have hra6 : (runsP la).length ≤ 10000 := by have h1 := Hla.out.1; have h2 := HLa.out; omega
  have hrb6 : (runsP lb).length ≤ 10000 := by have h1 := Hla.out.2.1; have h2 := HLb.out; omega
  have hrv6 : (varP l.length).length ≤ 10000 := by have h1 := Hla.out.2.2; omega
  go_upto_region 10 with (first
    | (go_at_call 106; clear TK; refine (HR1.out _ _ _ (isrc_own H6.out.1.len)).mono ?_; rintro e w7 ⟨A7, c7, rfl, h7, k7⟩; have H7 := Lib.hid (HD2.start H6.out.1 H6.out.2.1 H6.out.2.2 h7 k7); clear h7 k7)
    | (go_at_call 106; refine (HR2.out _ _ _ (isrc_own H7.out.b.len)).mono ?_; rintro e w8 ⟨A8, c8, rfl, h8, k8⟩; obtain ⟨A9, c9, w9, n9, hap9, hn9, h9⟩ := H7.out.app h8 k8 (by omega) (by omega); have H9 := Lib.hid h9; have hn9' : n9 ≤ 20000 := (by omega); clear h8 k8 hn9 h9)
    | (at_builtin; refine wpList_append2 (v1 := .slice A7 (runsP la).length c7) (v2 := .slice A8 (runsP lb).length c8) rfl (.tmp 56) (.tmp 58) rfl rfl rfl hap9 ?_))
  go_upto_region 11 with (first
    | (go_at_call 68; refine (HV.out _).mono ?_; rintro e wa ⟨Aa, ca, rfl, ha, ka⟩; obtain ⟨Ab, cb, wb, nb, hapb, hnb, hb⟩ := H9.out.app ha ka (by omega) (by omega); have Hb := Lib.hid hb; have hnb' : nb ≤ 30000 := (by omega); clear ha ka hnb hb)
    | (at_builtin; refine wpList_append2 (v1 := .slice A9 n9 c9) (v2 := .slice Aa (varP l.length).length ca) rfl (.tmp 60) (.tmp 64) rfl rfl rfl hapb ?_))
  have H0 := Lib.hid (PPI.start Hb.out)
  have HN9 := Lib.hid Hb.out.len
  clear HA HD HR1 HR2 HV HC1 HC2 Hc Hcn hT Hk1 Kw2 Kw4 H4 H5 H6 H7 H9 Hb hap9 hapb
  generalize runsP la ++ runsP lb ++ varP l.length = hd at *
  go_wp2_with fail
  generalize hB : wb.heap.size = Bz at *
  have HBz := Lib.hid hB
  clear hB
  go_loopw [70] (fun vi wr => ∃ (k : Nat), vi = .int .i64 k ∧ k ≤ l.length ∧ Hid (∃ A2 n2 c2, PPI w la lb hd AA cA AC cC AD cD AE cE Ab cb Bz Bz (tokB la lb (l.take k)) A2 n2 c2 wr)) (fun vi _ => l.length - (intOf vi).toNat)
  case atStart => exact ⟨0, rfl, by omega, Lib.hid ⟨none, 0, 0, by rw [List.take_zero]; exact H0.out⟩⟩
  case round =>
    obtain ⟨k, rfl, hk, hI⟩ := hrel
    clear H0
    rcases Nat.lt_or_ge k l.length with hkl | hkl
    · as_aux_lemma =>
        have hkli : (k : Int) < l.length := by omega
        have hwk : IntKind.i64.wrap ((k : Int) + 1) = (k : Int) + 1 := by rw [IntKind.wrap_i64]; omega
        have hok := all_get Hall.out hkl
        have hlit := (Hs.out.2 _ (List.getElem_mem hkl)).2.2
        have htk : l.take (k + 1) = l.take k ++ [l[k]] := List.take_succ_eq_append_getElem hkl
        obtain ⟨A2, n2, c2, hR⟩ := hI.out
        obtain ⟨g, o, rfl, hTok⟩ := Hs.out.tok hkl
        obtain ⟨d1, d2, d3⟩ := hTok _ hR.kp
        clear hTok
        have htb := HTB.out (k + 1)
        have htl : (l.take (k + 1)).length ≤ 20000 := by rw [List.length_take]; omega
        have hst := tokB_snoc la lb (l.take k) l[k]
        rw [← htk] at hst
        have hbn : (tokB la lb (l.take (k + 1))).length ≤ 1000000 := by omega
        have hsl := symT_lt hok hlit
        obtain ⟨L, hL, hL15, hLn⟩ := ln_get (ls := la) (s := symT l[k]) (by rw [HLa.out]; exact hsl) Hoa.out.2.1
        have hcv := codeV_small Hoa.out (s := symT l[k]) (by rw [HLa.out]; exact hsl)
        have hsb : symBits la (symT l[k]) = bitsK (codeV la (symT l[k])) L := by unfold symBits; rw [Int.toNat_natCast, hLn]
        have HRb := Lib.hid hR.b
        obtain ⟨gl, gc, rfl, rfl, hgl, hgc, _, _, m1, m2⟩ := hR.a.at_ (s := symT l[k]) (by rw [HLa.out]; exact hsl)
        rw [hL] at m1
        have hbt : (tokBits la lb l[k]).length ≤ 42 := tokBits_len Hoa.out.2.1 Hob.out.2.1 hok
        have hbn1 : (tokB la lb (l.take k)).length ≤ 1000000 := by rw [hst, List.length_append] at hbn; omega
        have HBt := Lib.hid (fun w0 k0 => hR.put (cv := codeV la (symT l[k])) (L := L) (by omega) hL15 (by omega) w0 k0)
        have HSS : Hid (∀ W : World, Keep [] wr W → W.cell? ⟨gc, symT l[k], none⟩ = some (.int .u16 (codeV la (symT l[k]) : Nat)) ∧ W.cell? ⟨gl, symT l[k], none⟩ = some (.int .i64 (L : Nat))) := Lib.hid (fun W kk => ⟨(kk.cell (p := ⟨gc, symT l[k], none⟩) hgc (by simp)).trans m2, (kk.cell (p := ⟨gl, symT l[k], none⟩) hgl (by simp)).trans m1⟩)
        have Hst := Lib.hid (And.intro hst hsb)
        have Hbn := Lib.hid (show (tokB la lb (l.take k)).length + L ≤ 2000000 by omega)
        have hslA : symT l[k] < la.length := by rw [HLa.out]; exact hsl
        have hcv2 : codeV la (symT l[k]) < 65536 := by omega
        clear hI hR htb htl hst hbn hbn1 hbt hsb hL hLn m1 m2 htk hcv
        have Hok := Lib.hid hok
        clear hok
        generalize hB2e : tokB la lb (l.take (k + 1)) = B2 at *
        have HB2e := Lib.hid hB2e
        clear hB2e
        generalize tokB la lb (l.take k) = B at *
        generalize l[k] = t at *
        obtain ⟨d, q, x⟩ := t
        dsimp only at d1 d2 d3 hlit
        rcases okT_cases Hok.out with ⟨h1, h2⟩ | ⟨h1, h2, h3, h4, h5⟩
        · dsimp only at h1 h2
          subst h1
          subst h2
          have hsy : symT (0, 1, x) = x := rfl
          have hnb : tokBits la lb (0, 1, x) = symBits la x := by simp [tokBits, hsy]
          rw [hsy] at HBt HSS Hst hslA hcv2
          have Hnb := Lib.hid hnb
          have HC := Lib.hid (fun w => symbol_lit 1 x w hlit)
          have hxi : (x : Int) < la.length := by omega
          generalize codeV la x = cv at *
          have hwc : IntKind.u64.wrap (cv : Int) = (cv : Int) := by rw [IntKind.wrap_u64]; omega
          clear Hok hnb hsy hsl
          go_upto_region 16 with (go_at_call 107; refine (HC.out _).mono ?_; rintro e w2 ⟨rfl, hk2⟩; have Hk2 := Lib.hid (And.intro (((Keep.refl [] wr).alloc _).trans hk2) ((Blk.new wr 143 _).keep hk2 (by simp))); clear hk2)
          have hS16 := HSS.out _ Hk2.out.1.drew
          refine wp_region_G (fun W => W.cell? ⟨gc, x, none⟩ = some (.int .u16 (cv : Nat)) ∧ W.cell? ⟨gl, x, none⟩ = some (.int .i64 (L : Nat))) [10] #[false, false, false, false, false, false, false, false, false, false, false] 11 (by kernel_rfl) (by kernel_rfl) (by kernel_rfl) ?_
          refine wpAnyG_take0 (i := 0) (oi := ⟨_, _, _, _, _, _⟩) (v := ?vg1_0) rfl (by kernel_rfl) (by kernel_rfl) (by kernel_rfl) (by kernel_rfl) (fun _ _ _ h => h) (fun _ => hS16) (Or.inl ⟨by rfl, ?hg1_0⟩) ?_
          case hg1_0 => intro w _; go_simp; (try with_reducible rfl)
          try simp only [Act.put, List.setIfInBounds_toArray, List.set_cons_zero, List.set_cons_succ]
          refine wpAnyG_take0 (i := 1) (oi := ⟨_, _, _, _, _, _⟩) (v := ?vg1_1) rfl (by kernel_rfl) (by kernel_rfl) (by kernel_rfl) (by kernel_rfl) (fun _ _ _ h => h) (fun _ => hS16) (Or.inl ⟨by rfl, ?hg1_1⟩) ?_
          case hg1_1 => intro w _; go_simp; (try with_reducible rfl)
          try simp only [Act.put, List.setIfInBounds_toArray, List.set_cons_zero, List.set_cons_succ]
          refine wpAnyG_take0 (i := 2) (oi := ⟨_, _, _, _, _, _⟩) (v := ?vg1_2) rfl (by kernel_rfl) (by kernel_rfl) (by kernel_rfl) (by kernel_rfl) (fun _ _ _ h => h) (fun _ => hS16) (Or.inl ⟨by rfl, ?hg1_2⟩) ?_
          case hg1_2 => intro w _; go_simp; (try with_reducible rfl)
          try simp only [Act.put, List.setIfInBounds_toArray, List.set_cons_zero, List.set_cons_succ]
          refine wpAnyG_take0 (i := 3) (oi := ⟨_, _, _, _, _, _⟩) (v := ?vg1_3) rfl (by kernel_rfl) (by kernel_rfl) (by kernel_rfl) (by kernel_rfl) (fun _ _ _ h => h) (fun _ => hS16) (Or.inl ⟨by rfl, ?hg1_3⟩) ?_
          case hg1_3 => intro w _; go_simp; (try with_reducible rfl)
          try simp only [Act.put, List.setIfInBounds_toArray, List.set_cons_zero, List.set_cons_succ]
          refine wpAnyG_take (i := 4) (oi := ⟨_, _, _, _, _, _⟩) (v := ?vg1_4) [4, 5, 10] rfl (by kernel_rfl) (by kernel_rfl) (by kernel_rfl) (by kernel_rfl) (by kernel_rfl) (fun _ _ _ h => h) (fun _ => hS16) (Or.inl ⟨by rfl, ?hg1_4⟩) ?_
          case hg1_4 => intro w hSw; (try dsimp only at hSw); go_simp; (try with_reducible rfl)
          try simp only [Act.put, List.setIfInBounds_toArray, List.set_cons_zero, List.set_cons_succ]
          refine wpAnyG_take0 (i := 5) (oi := ⟨_, _, _, _, _, _⟩) (v := ?vg1_5) rfl (by kernel_rfl) (by kernel_rfl) (by kernel_rfl) (by kernel_rfl) (fun _ _ _ h => h) (fun _ => hS16) (Or.inl ⟨by rfl, ?hg1_5⟩) ?_
          case hg1_5 => intro w _; go_simp; (try with_reducible rfl)
          try simp only [Act.put, List.setIfInBounds_toArray, List.set_cons_zero, List.set_cons_succ]
          refine wpAnyG_take0 (i := 6) (oi := ⟨_, _, _, _, _, _⟩) (v := ?vg1_6) rfl (by kernel_rfl) (by kernel_rfl) (by kernel_rfl) (by kernel_rfl) (fun _ _ _ h => h) (fun _ => hS16) (Or.inl ⟨by rfl, ?hg1_6⟩) ?_
          case hg1_6 => intro w _; go_simp; (try with_reducible rfl)
          try simp only [Act.put, List.setIfInBounds_toArray, List.set_cons_zero, List.set_cons_succ]
          refine wpAnyG_take0 (i := 7) (oi := ⟨_, _, _, _, _, _⟩) (v := ?vg1_7) rfl (by kernel_rfl) (by kernel_rfl) (by kernel_rfl) (by kernel_rfl) (fun _ _ _ h => h) (fun _ => hS16) (Or.inl ⟨by rfl, ?hg1_7⟩) ?_
          case hg1_7 => intro w _; go_simp; (try with_reducible rfl)
          try simp only [Act.put, List.setIfInBounds_toArray, List.set_cons_zero, List.set_cons_succ]
          refine wpAnyG_take0 (i := 8) (oi := ⟨_, _, _, _, _, _⟩) (v := ?vg1_8) rfl (by kernel_rfl) (by kernel_rfl) (by kernel_rfl) (by kernel_rfl) (fun _ _ _ h => h) (fun _ => hS16) (Or.inl ⟨by rfl, ?hg1_8⟩) ?_
          case hg1_8 => intro w _; go_simp; (try with_reducible rfl)
          try simp only [Act.put, List.setIfInBounds_toArray, List.set_cons_zero, List.set_cons_succ]
          refine wpAnyG_take (i := 9) (oi := ⟨_, _, _, _, _, _⟩) (v := ?vg1_9) [9, 10] rfl (by kernel_rfl) (by kernel_rfl) (by kernel_rfl) (by kernel_rfl) (by kernel_rfl) (fun _ _ _ h => h) (fun _ => hS16) (Or.inl ⟨by rfl, ?hg1_9⟩) ?_
          case hg1_9 => intro w hSw; (try dsimp only at hSw); go_simp; (try with_reducible rfl)
          try simp only [Act.put, List.setIfInBounds_toArray, List.set_cons_zero, List.set_cons_succ]
          refine wpAnyG_step (i := 10) (oi := ⟨_, _, _, _, _, _⟩) rfl (by kernel_rfl) (by rfl) (fun K hK => ?_)
          go_simp
          go_at_call 108
          refine (HBt.out _ Hk2.out.1.drew).mono ?_
          rintro e w3 ⟨rfl, A3, n3, c3, hP, hBk⟩
          have HP3 := Lib.hid hP
          have HK3 := Lib.hid hBk
          clear hP hBk
          refine hK _ _ (fun h => absurd h (Bool.eq_false_iff.1 (by kernel_rfl))) (fun _ => ?_)
          clear hK
          try simp only [Act.put, List.setIfInBounds_toArray, List.set_cons_zero, List.set_cons_succ]
          refine wpAnyG_done (by kernel_rfl) ?_ _
          have e1 : w3.cell? ⟨wr.heap.size, 0, none⟩ = some (.int .i64 0) := (HK3.out _ _ Hk2.out.2).cell 0
          have HB2 : Hid (B2 = B ++ bitsK cv L) := Lib.hid (by rw [Hst.out.1, Hnb.out, Hst.out.2])
          go_wp2_with fail
          go_roundw
          case rel => exact ⟨k + 1, by simp, by omega, Lib.hid ⟨A3, n3, c3, by rw [HB2e.out, HB2.out]; exact HP3.out⟩⟩
          case measure => simp [intOf]; omega
        · dsimp only at h1 h2 h3 h4 h5
          subst h5
          obtain ⟨q, rfl⟩ : ∃ z : Nat, q = z := ⟨q.toNat, by omega⟩
          obtain ⟨dn, rfl⟩ : ∃ dn : Nat, d = dn := ⟨d.toNat, by omega⟩
          have hsy : symT ((dn : Int), (q : Int), 0) = 252 + q := by unfold symT; rw [if_neg (by simp; omega)]; simp; omega
          have hds : dsT ((dn : Int), (q : Int), 0) = Nat.log2 dn := by simp [dsT]
          have hdl := log_le (x := dn) (by omega)
          have hnb : tokBits la lb ((dn : Int), (q : Int), 0) = symBits la ((252 + q : Nat) : Int) ++ (symBits lb (Nat.log2 dn : Nat) ++ bitsK dn (Nat.log2 dn)) := by
            unfold tokBits
            rw [hsy, hds, if_pos (by simp; omega)]
            simp
          have HC : Hid (∀ w, Calls Tryz.prog 107 #[.agg #[.int .i64 (dn : Nat), .int .i64 (q : Nat), .int .u8 ((0 : Nat) : Int)]] w fun e w' => e = .returned (.int .i64 ((252 + q : Nat) : Int)) ∧ Keep [] w w') := Lib.hid (fun w => by
            have := symbol_copy dn q 0 w h1 h3 h4
            rwa [show (252 + (q : Int)) = ((252 + q : Nat) : Int) by omega] at this)
          have HDi : Hid (∀ w, Calls Tryz.prog 109 #[.agg #[.int .i64 (dn : Nat), .int .i64 (q : Nat), .int .u8 ((0 : Nat) : Int)]] w fun e w' => e = .returned (.int .i64 (Nat.log2 dn : Nat)) ∧ Keep [] w w') := Lib.hid (fun w => by
            have := distance_any dn q 0 w h1 h2
            rwa [Int.toNat_natCast] at this)
          obtain ⟨M, hM, hM15, hMn⟩ := ln_get (ls := lb) (s := Nat.log2 dn) (by rw [HLb.out]; omega) Hob.out.2.1
          have hcw := codeV_small Hob.out (s := Nat.log2 dn) (by rw [HLb.out]; omega)
          have hsd : symBits lb (Nat.log2 dn : Nat) = bitsK (codeV lb (Nat.log2 dn)) M := by unfold symBits; rw [Int.toNat_natCast, hMn]
          obtain ⟨gd, gf, rfl, rfl, -⟩ := HRb.out.at_ (s := Nat.log2 dn) (by rw [HLb.out]; omega)
          have hrB : Nat.log2 dn < lb.length := by rw [HLb.out]; omega
          have HDc : Hid (∀ W, LC w lb (some ⟨gd, 0, none⟩) cD (some ⟨gf, 0, none⟩) cE W → gd < W.heap.size ∧ gf < W.heap.size ∧ W.cell? ⟨gd, Nat.log2 dn, none⟩ = some (.int .i64 (M : Nat)) ∧ W.cell? ⟨gf, Nat.log2 dn, none⟩ = some (.int .u16 (codeV lb (Nat.log2 dn) : Nat))) := Lib.hid (fun W h => by
            have := h.cells hrB
            rwa [hM] at this)
          rw [hsy] at HBt HSS Hst hslA hcv2
          have Hnb := Lib.hid hnb
          have Hsd := Lib.hid hsd
          have hxi : ((252 + q : Nat) : Int) < la.length := by omega
          have hdi : (0 : Int) < dn := by omega
          have hdn : 0 < dn := by omega
          have hri : ((Nat.log2 dn : Nat) : Int) < lb.length := by omega
          have hwd : IntKind.u64.wrap (dn : Int) = (dn : Int) := by rw [IntKind.wrap_u64]; omega
          have hdn4 : dn ≤ 4096 := by omega
          have hcw2 : codeV lb (Nat.log2 dn) < 65536 := by omega
          clear Hok hsy hds hsl hnb hM hMn hsd hcw h1 h2 h3 h4 hlit
          generalize hm : 252 + q = m at *
          generalize hr : Nat.log2 dn = r at *
          generalize codeV la m = cv at *
          generalize codeV lb r = cw at *
          have hwc : IntKind.u64.wrap (cv : Int) = (cv : Int) := by rw [IntKind.wrap_u64]; omega
          have hwc2 : IntKind.u64.wrap (cw : Int) = (cw : Int) := by rw [IntKind.wrap_u64]; omega
          clear hm
          have Hr := Lib.hid hr
          clear hr
          go_upto_region 16 with (go_at_call 107; refine (HC.out _).mono ?_; rintro e w2 ⟨rfl, hk2⟩; have Hk2 := Lib.hid (And.intro (((Keep.refl [] wr).alloc _).trans hk2) ((Blk.new wr 143 _).keep hk2 (by simp))); clear hk2)
          have hS16 := HSS.out _ Hk2.out.1.drew
          refine wp_region_G (fun W => W.cell? ⟨gc, m, none⟩ = some (.int .u16 (cv : Nat)) ∧ W.cell? ⟨gl, m, none⟩ = some (.int .i64 (L : Nat))) [10] #[false, false, false, false, false, false, false, false, false, false, false] 11 (by kernel_rfl) (by kernel_rfl) (by kernel_rfl) ?_
          refine wpAnyG_take0 (i := 0) (oi := ⟨_, _, _, _, _, _⟩) (v := ?vg2_0) rfl (by kernel_rfl) (by kernel_rfl) (by kernel_rfl) (by kernel_rfl) (fun _ _ _ h => h) (fun _ => hS16) (Or.inl ⟨by rfl, ?hg2_0⟩) ?_
          case hg2_0 => intro w _; go_simp; (try with_reducible rfl)
          try simp only [Act.put, List.setIfInBounds_toArray, List.set_cons_zero, List.set_cons_succ]
          refine wpAnyG_take0 (i := 1) (oi := ⟨_, _, _, _, _, _⟩) (v := ?vg2_1) rfl (by kernel_rfl) (by kernel_rfl) (by kernel_rfl) (by kernel_rfl) (fun _ _ _ h => h) (fun _ => hS16) (Or.inl ⟨by rfl, ?hg2_1⟩) ?_
          case hg2_1 => intro w _; go_simp; (try with_reducible rfl)
          try simp only [Act.put, List.setIfInBounds_toArray, List.set_cons_zero, List.set_cons_succ]
          refine wpAnyG_take0 (i := 2) (oi := ⟨_, _, _, _, _, _⟩) (v := ?vg2_2) rfl (by kernel_rfl) (by kernel_rfl) (by kernel_rfl) (by kernel_rfl) (fun _ _ _ h => h) (fun _ => hS16) (Or.inl ⟨by rfl, ?hg2_2⟩) ?_
          case hg2_2 => intro w _; go_simp; (try with_reducible rfl)
          try simp only [Act.put, List.setIfInBounds_toArray, List.set_cons_zero, List.set_cons_succ]
          refine wpAnyG_take0 (i := 3) (oi := ⟨_, _, _, _, _, _⟩) (v := ?vg2_3) rfl (by kernel_rfl) (by kernel_rfl) (by kernel_rfl) (by kernel_rfl) (fun _ _ _ h => h) (fun _ => hS16) (Or.inl ⟨by rfl, ?hg2_3⟩) ?_
          case hg2_3 => intro w _; go_simp; (try with_reducible rfl)
          try simp only [Act.put, List.setIfInBounds_toArray, List.set_cons_zero, List.set_cons_succ]
          refine wpAnyG_take (i := 4) (oi := ⟨_, _, _, _, _, _⟩) (v := ?vg2_4) [4, 5, 10] rfl (by kernel_rfl) (by kernel_rfl) (by kernel_rfl) (by kernel_rfl) (by kernel_rfl) (fun _ _ _ h => h) (fun _ => hS16) (Or.inl ⟨by rfl, ?hg2_4⟩) ?_
          case hg2_4 => intro w hSw; (try dsimp only at hSw); go_simp; (try with_reducible rfl)
          try simp only [Act.put, List.setIfInBounds_toArray, List.set_cons_zero, List.set_cons_succ]
          refine wpAnyG_take0 (i := 5) (oi := ⟨_, _, _, _, _, _⟩) (v := ?vg2_5) rfl (by kernel_rfl) (by kernel_rfl) (by kernel_rfl) (by kernel_rfl) (fun _ _ _ h => h) (fun _ => hS16) (Or.inl ⟨by rfl, ?hg2_5⟩) ?_
          case hg2_5 => intro w _; go_simp; (try with_reducible rfl)
          try simp only [Act.put, List.setIfInBounds_toArray, List.set_cons_zero, List.set_cons_succ]
          refine wpAnyG_take0 (i := 6) (oi := ⟨_, _, _, _, _, _⟩) (v := ?vg2_6) rfl (by kernel_rfl) (by kernel_rfl) (by kernel_rfl) (by kernel_rfl) (fun _ _ _ h => h) (fun _ => hS16) (Or.inl ⟨by rfl, ?hg2_6⟩) ?_
          case hg2_6 => intro w _; go_simp; (try with_reducible rfl)
          try simp only [Act.put, List.setIfInBounds_toArray, List.set_cons_zero, List.set_cons_succ]
          refine wpAnyG_take0 (i := 7) (oi := ⟨_, _, _, _, _, _⟩) (v := ?vg2_7) rfl (by kernel_rfl) (by kernel_rfl) (by kernel_rfl) (by kernel_rfl) (fun _ _ _ h => h) (fun _ => hS16) (Or.inl ⟨by rfl, ?hg2_7⟩) ?_
          case hg2_7 => intro w _; go_simp; (try with_reducible rfl)
          try simp only [Act.put, List.setIfInBounds_toArray, List.set_cons_zero, List.set_cons_succ]
          refine wpAnyG_take0 (i := 8) (oi := ⟨_, _, _, _, _, _⟩) (v := ?vg2_8) rfl (by kernel_rfl) (by kernel_rfl) (by kernel_rfl) (by kernel_rfl) (fun _ _ _ h => h) (fun _ => hS16) (Or.inl ⟨by rfl, ?hg2_8⟩) ?_
          case hg2_8 => intro w _; go_simp; (try with_reducible rfl)
          try simp only [Act.put, List.setIfInBounds_toArray, List.set_cons_zero, List.set_cons_succ]
          refine wpAnyG_take (i := 9) (oi := ⟨_, _, _, _, _, _⟩) (v := ?vg2_9) [9, 10] rfl (by kernel_rfl) (by kernel_rfl) (by kernel_rfl) (by kernel_rfl) (by kernel_rfl) (fun _ _ _ h => h) (fun _ => hS16) (Or.inl ⟨by rfl, ?hg2_9⟩) ?_
          case hg2_9 => intro w hSw; (try dsimp only at hSw); go_simp; (try with_reducible rfl)
          try simp only [Act.put, List.setIfInBounds_toArray, List.set_cons_zero, List.set_cons_succ]
          refine wpAnyG_step (i := 10) (oi := ⟨_, _, _, _, _, _⟩) rfl (by kernel_rfl) (by rfl) (fun K hK => ?_)
          go_simp
          go_at_call 108
          refine (HBt.out _ Hk2.out.1.drew).mono ?_
          rintro e w3 ⟨rfl, A3, n3, c3, hP, hBk⟩
          have HP3 := Lib.hid hP
          have HK3 := Lib.hid hBk
          clear hP hBk
          refine hK _ _ (fun h => absurd h (Bool.eq_false_iff.1 (by kernel_rfl))) (fun _ => ?_)
          clear hK
          try simp only [Act.put, List.setIfInBounds_toArray, List.set_cons_zero, List.set_cons_succ]
          refine wpAnyG_done (by kernel_rfl) ?_ _
          have HBx := Lib.hid (HK3.out _ _ Hk2.out.2)
          have e1 : w3.cell? ⟨wr.heap.size, 0, none⟩ = some (.int .i64 (dn : Nat)) := HBx.out.cell 0
          have e2 : w3.cell? ⟨wr.heap.size, 1, none⟩ = some (.int .i64 (q : Nat)) := HBx.out.cell 1
          have e3 : w3.cell? ⟨wr.heap.size, 2, none⟩ = some (.int .u8 ((0 : Nat) : Int)) := HBx.out.cell 2
          obtain ⟨z1, z2, y3, y4⟩ := HDc.out _ HP3.out.b
          have HSD : Hid (∀ W : World, Keep [] w3 W → W.cell? ⟨gf, r, none⟩ = some (.int .u16 (cw : Nat)) ∧ W.cell? ⟨gd, r, none⟩ = some (.int .i64 (M : Nat))) := Lib.hid (fun W kk => ⟨(kk.cell (p := ⟨gf, r, none⟩) z2 (by simp)).trans y4, (kk.cell (p := ⟨gd, r, none⟩) z1 (by simp)).trans y3⟩)
          have HBd := Lib.hid (fun w0 k0 => HP3.out.put (cv := cw) (L := M) hcw2 hM15 (by have h8 := Hbn.out; rw [List.length_append, bitsK_len]; omega) w0 k0)
          clear z1 z2 y3 y4 HDc HBt HSS
          go_upto_region 19 with (go_at_call 109; refine (HDi.out _).mono ?_; rintro e w5 ⟨rfl, hk5⟩; have Hk5 := Lib.hid (And.intro hk5 (HBx.out.keep hk5 (by simp))); clear hk5)
          have hS19 := HSD.out _ Hk5.out.1.drew
          refine wp_region_G (fun W => W.cell? ⟨gf, r, none⟩ = some (.int .u16 (cw : Nat)) ∧ W.cell? ⟨gd, r, none⟩ = some (.int .i64 (M : Nat))) [10] #[false, false, false, false, false, false, false, false, false, false, false] 11 (by kernel_rfl) (by kernel_rfl) (by kernel_rfl) ?_
          refine wpAnyG_take0 (i := 0) (oi := ⟨_, _, _, _, _, _⟩) (v := ?vg3_0) rfl (by kernel_rfl) (by kernel_rfl) (by kernel_rfl) (by kernel_rfl) (fun _ _ _ h => h) (fun _ => hS19) (Or.inl ⟨by rfl, ?hg3_0⟩) ?_
          case hg3_0 => intro w _; go_simp; (try with_reducible rfl)
          try simp only [Act.put, List.setIfInBounds_toArray, List.set_cons_zero, List.set_cons_succ]
          refine wpAnyG_take0 (i := 1) (oi := ⟨_, _, _, _, _, _⟩) (v := ?vg3_1) rfl (by kernel_rfl) (by kernel_rfl) (by kernel_rfl) (by kernel_rfl) (fun _ _ _ h => h) (fun _ => hS19) (Or.inl ⟨by rfl, ?hg3_1⟩) ?_
          case hg3_1 => intro w _; go_simp; (try with_reducible rfl)
          try simp only [Act.put, List.setIfInBounds_toArray, List.set_cons_zero, List.set_cons_succ]
          refine wpAnyG_take0 (i := 2) (oi := ⟨_, _, _, _, _, _⟩) (v := ?vg3_2) rfl (by kernel_rfl) (by kernel_rfl) (by kernel_rfl) (by kernel_rfl) (fun _ _ _ h => h) (fun _ => hS19) (Or.inl ⟨by rfl, ?hg3_2⟩) ?_
          case hg3_2 => intro w _; go_simp; (try with_reducible rfl)
          try simp only [Act.put, List.setIfInBounds_toArray, List.set_cons_zero, List.set_cons_succ]
          refine wpAnyG_take0 (i := 3) (oi := ⟨_, _, _, _, _, _⟩) (v := ?vg3_3) rfl (by kernel_rfl) (by kernel_rfl) (by kernel_rfl) (by kernel_rfl) (fun _ _ _ h => h) (fun _ => hS19) (Or.inl ⟨by rfl, ?hg3_3⟩) ?_
          case hg3_3 => intro w _; go_simp; (try with_reducible rfl)
          try simp only [Act.put, List.setIfInBounds_toArray, List.set_cons_zero, List.set_cons_succ]
          refine wpAnyG_take (i := 4) (oi := ⟨_, _, _, _, _, _⟩) (v := ?vg3_4) [4, 5, 10] rfl (by kernel_rfl) (by kernel_rfl) (by kernel_rfl) (by kernel_rfl) (by kernel_rfl) (fun _ _ _ h => h) (fun _ => hS19) (Or.inl ⟨by rfl, ?hg3_4⟩) ?_
          case hg3_4 => intro w hSw; (try dsimp only at hSw); go_simp; (try with_reducible rfl)
          try simp only [Act.put, List.setIfInBounds_toArray, List.set_cons_zero, List.set_cons_succ]
          refine wpAnyG_take0 (i := 5) (oi := ⟨_, _, _, _, _, _⟩) (v := ?vg3_5) rfl (by kernel_rfl) (by kernel_rfl) (by kernel_rfl) (by kernel_rfl) (fun _ _ _ h => h) (fun _ => hS19) (Or.inl ⟨by rfl, ?hg3_5⟩) ?_
          case hg3_5 => intro w _; go_simp; (try with_reducible rfl)
          try simp only [Act.put, List.setIfInBounds_toArray, List.set_cons_zero, List.set_cons_succ]
          refine wpAnyG_take0 (i := 6) (oi := ⟨_, _, _, _, _, _⟩) (v := ?vg3_6) rfl (by kernel_rfl) (by kernel_rfl) (by kernel_rfl) (by kernel_rfl) (fun _ _ _ h => h) (fun _ => hS19) (Or.inl ⟨by rfl, ?hg3_6⟩) ?_
          case hg3_6 => intro w _; go_simp; (try with_reducible rfl)
          try simp only [Act.put, List.setIfInBounds_toArray, List.set_cons_zero, List.set_cons_succ]
          refine wpAnyG_take0 (i := 7) (oi := ⟨_, _, _, _, _, _⟩) (v := ?vg3_7) rfl (by kernel_rfl) (by kernel_rfl) (by kernel_rfl) (by kernel_rfl) (fun _ _ _ h => h) (fun _ => hS19) (Or.inl ⟨by rfl, ?hg3_7⟩) ?_
          case hg3_7 => intro w _; go_simp; (try with_reducible rfl)
          try simp only [Act.put, List.setIfInBounds_toArray, List.set_cons_zero, List.set_cons_succ]
          refine wpAnyG_take0 (i := 8) (oi := ⟨_, _, _, _, _, _⟩) (v := ?vg3_8) rfl (by kernel_rfl) (by kernel_rfl) (by kernel_rfl) (by kernel_rfl) (fun _ _ _ h => h) (fun _ => hS19) (Or.inl ⟨by rfl, ?hg3_8⟩) ?_
          case hg3_8 => intro w _; go_simp; (try with_reducible rfl)
          try simp only [Act.put, List.setIfInBounds_toArray, List.set_cons_zero, List.set_cons_succ]
          refine wpAnyG_take (i := 9) (oi := ⟨_, _, _, _, _, _⟩) (v := ?vg3_9) [9, 10] rfl (by kernel_rfl) (by kernel_rfl) (by kernel_rfl) (by kernel_rfl) (by kernel_rfl) (fun _ _ _ h => h) (fun _ => hS19) (Or.inl ⟨by rfl, ?hg3_9⟩) ?_
          case hg3_9 => intro w hSw; (try dsimp only at hSw); go_simp; (try with_reducible rfl)
          try simp only [Act.put, List.setIfInBounds_toArray, List.set_cons_zero, List.set_cons_succ]
          refine wpAnyG_step (i := 10) (oi := ⟨_, _, _, _, _, _⟩) rfl (by kernel_rfl) (by rfl) (fun K hK => ?_)
          go_simp
          go_at_call 108
          refine (HBd.out _ Hk5.out.1.drew).mono ?_
          rintro e w3b ⟨rfl, A3b, n3b, c3b, hP, hBk⟩
          have HP3b := Lib.hid hP
          have HK3b := Lib.hid hBk
          clear hP hBk
          refine hK _ _ (fun h => absurd h (Bool.eq_false_iff.1 (by kernel_rfl))) (fun _ => ?_)
          clear hK
          try simp only [Act.put, List.setIfInBounds_toArray, List.set_cons_zero, List.set_cons_succ]
          refine wpAnyG_done (by kernel_rfl) ?_ _
          have e4 : w3b.cell? ⟨wr.heap.size, 0, none⟩ = some (.int .i64 (dn : Nat)) := (HK3b.out _ _ Hk5.out.2).cell 0
          have HBe := Lib.hid (fun w0 k0 => HP3b.out.put (cv := dn) (L := r) (by omega) (by have h8 := Hr.out; have h9 := log_le hdn4; omega) (by have h8 := Hbn.out; rw [List.length_append, bitsK_len, List.length_append, bitsK_len]; omega) w0 k0)
          have HB2 : Hid (B2 = B ++ bitsK cv L ++ bitsK cw M ++ bitsK dn r) := Lib.hid (by rw [Hst.out.1, Hnb.out, Hst.out.2, Hsd.out]; simp)
          go_wp2_with (go_at_call 108; refine (HBe.out _ (Keep.refl [] _)).mono ?_; rintro e w6 ⟨rfl, A6, n6, c6, hP, -⟩; have HP6 := Lib.hid hP; clear hP)
          go_roundw
          case rel => exact ⟨k + 1, by simp, by omega, Lib.hid ⟨A6, n6, c6, by rw [HB2e.out, HB2.out]; exact HP6.out⟩⟩
          case measure => simp [intOf]; omega
    · obtain rfl : k = l.length := by omega
      have hkli : ¬ (l.length : Int) < l.length := by omega
      obtain ⟨A2, n2, c2, hR⟩ := hI.out
      rw [List.take_length] at hR
      have hpl := pack_len_le (tokB la lb l)
      have htb := HTB.out l.length
      rw [List.take_length] at htb
      have hpl2 : (pack (tokB la lb l)).length ≤ 1000000 := by omega
      have hn9 : nb = hd.length := HN9.out
      have hh := hR.hdr
      rw [← hn9] at hh
      have hw2 := hR.ws.own
      have hw3 := hR.ws.len
      obtain ⟨A', c', w', k', hk', hap, hown, hkp⟩ := bytes_app' (d := c2) hh (Src.of_own hw2) (by omega) (by omega) hR.kp.size
      have HF := Lib.hid (And.intro hk' (And.intro hown (hR.kp.step hkp (fun j hj => .inr (own_far hh j hj)))))
      have b0 : wr.cell? ⟨Bz, 0, none⟩ = some (.slice A2 n2 c2) := hR.ws.blk.cell 0
      have HPP := Lib.hid (show packP l = hd ++ pack (tokB la lb l) from HP.out)
      have HN := Lib.hid hn9
      have HM := Lib.hid hw3
      have Hap := Lib.hid hap
      clear hI hR hpl htb hpl2 HTB HP hn9 hh hw2 hw3 hk' hown hkp hap
      have hap := Hap.out
      go_wp2_with (at_builtin; refine wpList_append2 (v1 := .slice Ab nb cb) (v2 := .slice A2 n2 c2) rfl (.tmp 110) (.tmp 114) rfl rfl rfl hap ?_)
      go_ret2
      have hlen : k' = (packP l).length := by rw [HF.out.1, HPP.out, List.length_append, HN.out, HM.out]
      refine ⟨_, _, by rw [hlen]; rfl, ?_, HF.out.2.2⟩
      rw [← hlen, HPP.out]
      exact HF.out.2.1
theorem packR_any (l : List Tk) (A : Option Addr) (c : Nat) (w : World) (hs : TSrc w A l) (hl : l.length ≤ 20000) :
    Calls Tryz.prog 69 #[.slice A l.length c] w fun e w' => ∃ AO cO, e = .returned (.tuple #[.slice AO (packR l).length cO, .int .i64 (sizeE l)]) ∧ w'.ownsRow w.heap.size 5 1 (.slice AO (packR l).length cO) (packR l).length (inB (packR l)) ∧ Keep [] w w' := by
  unfold packR
  by_cases h : sizeE l = 0
  · rw [if_pos h, h]
    exact pack_ok l A c w hs hl h
  · rw [if_neg h]
    refine (pack_bad l A c w hs (by omega) h).mono ?_
    rintro e w' ⟨rfl, hk⟩
    exact ⟨none, 0, rfl, World.ownsRow_nil _ _ _ _, hk⟩
end Go.Proofs.YtdnaahbhfjclpaaGreatDoor

