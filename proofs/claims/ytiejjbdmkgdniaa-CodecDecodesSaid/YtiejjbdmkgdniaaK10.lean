/- The reference's Pack, walked. -/
import Derived.Test.YtiejjbdmkgdniaaHfJ
set_option linter.unusedVariables false
set_option linter.unusedSimpArgs false
namespace Go.Cod
open Go.Huf
theorem ln_get {ls : List Int} {s : Nat} (h : s < ls.length) (hg : good ls) : ∃ L : Nat, ls[s] = (L : Int) ∧ L ≤ 15 ∧ (ln ls s).toNat = L := by
  have h1 := ln_good hg s
  rw [ln_eq h] at h1
  refine ⟨ls[s].toNat, by omega, by omega, by rw [ln_eq h]⟩
theorem bitsK_le (c n : Nat) : (bitsK c n).length = n := bitsK_len c n
theorem symBits_len {ls : List Int} (hg : good ls) (s : Int) : (symBits ls s).length ≤ 15 := by
  have h1 := ln_good hg s.toNat
  unfold symBits
  rw [bitsK_len]
  omega
theorem tokBits_len {la lb : List Int} (ha : good la) (hb : good lb) {t : Tk} (ht : okT t = true) : (tokBits la lb t).length ≤ 42 := by
  unfold tokBits
  have h1 := symBits_len ha (symT t)
  rw [List.length_append]
  split
  · rename_i hd
    have h2 := symBits_len hb (dsT t)
    have h3 := (dsT_lt ht hd).2
    rw [List.length_append, bitsK_len]
    omega
  · simp; omega
theorem tokB_len {la lb : List Int} (ha : good la) (hb : good lb) : ∀ {l : List Tk}, l.all okT = true → (tokB la lb l).length ≤ 42 * l.length
  | [], _ => by simp [tokB]
  | t :: l, h => by
    simp only [List.all_cons, Bool.and_eq_true] at h
    have h1 := tokBits_len ha hb h.1
    have h2 := tokB_len ha hb h.2
    simp only [tokB, List.flatMap_cons, List.length_append, List.length_cons] at h2 ⊢
    omega
theorem runF_len : ∀ (f : Nat) (l : List Int), (runF f l).length ≤ 11 * l.length
  | 0, _ => by simp [runF]
  | f + 1, [] => by simp [runF]
  | f + 1, x :: l => by
    rw [runF]
    have h1 := varP_len (runK x l + 1)
    have h2 := runF_len f (l.drop (runK x l))
    rw [List.length_drop] at h2
    simp only [List.length_cons, List.length_append]
    omega
theorem runsP_len (l : List Int) : (runsP l).length ≤ 11 * l.length := runF_len _ l
theorem pack_len_le (l : List Bool) : (pack l).length ≤ l.length := by rw [pack_len]; omega
end Go.Cod
namespace Go.Proofs.Ytiejjbdmkgdniaa
open Go.RowKit Go.Sal Go.Huf Go.Cod
/-- bytes behind bytes, the new length under a name of its own -/
theorem bytes_app' {base n c m d : Nat} {A B : Option Addr} {f g : List Nat} {w : World} (h : w.ownsRow base 5 1 (.slice A n c) n (inB f)) (hs : Src w 1 B m (inB g)) (hn2 : n ≤ 10000000) (hm : m ≤ 10000000) (hB : base ≤ w.heap.size) :
    ∃ A' c' w' k, k = n + m ∧ (Builtin.append_ #[24, 24] 24 #[.slice A n c, .slice B m d]).run Try.prog w = .ok (.slice A' k c') w' ∧
      w'.ownsRow base 5 1 (.slice A' k c') k (inB (f ++ g)) ∧ Keep (Value.slice A n c).ownBlock.toList w w' := by
  obtain ⟨A', c', w', h1, h2, h3⟩ := bytes_app (d := d) h hs hn2 hm hB
  exact ⟨A', c', w', _, rfl, h1, h2, h3⟩
theorem own_b {w : World} {base n : Nat} {v : Value} {l : List Nat} (h : w.ownsRow base 5 1 v n (inB l)) : n = l.length := by
  have := h.1
  rw [inB_len] at this
  omega
theorem TSrc.tok {w : World} {A : Option Addr} {l : List Tk} (h : TSrc w A l) {k : Nat} (hk : k < l.length) : ∃ g o, A = some ⟨g, o, none⟩ ∧ ∀ W, Keep [] w W →
    W.cell? ⟨g, o + k * 3, none⟩ = some (.int .i64 l[k].1) ∧ W.cell? ⟨g, o + k * 3 + 1, none⟩ = some (.int .i64 l[k].2.1) ∧ W.cell? ⟨g, o + k * 3 + 2, none⟩ = some (.int .u8 (l[k].2.2 : Nat)) := by
  obtain ⟨g, o, rfl, hg, h1, h2, h3⟩ := h.1 k hk
  exact ⟨g, o, rfl, fun W hW => ⟨(hW.cell (p := ⟨g, o + k * 3, none⟩) hg (by simp)).trans h1, (hW.cell (p := ⟨g, o + k * 3 + 1, none⟩) hg (by simp)).trans h2, (hW.cell (p := ⟨g, o + k * 3 + 2, none⟩) hg (by simp)).trans h3⟩⟩
/-- lengths of both books in memory, and the header's first bytes -/
structure HD1 (w : World) (la lb : List Int) (hd : List Nat) (AA : Option Addr) (cA : Nat) (AD : Option Addr) (cD : Nat) (AO : Option Addr) (n cO : Nat) (wr : World) : Prop where
  a : wr.ownsRow w.heap.size 3 1 (.slice AA la.length cA) la.length (inI la)
  b : wr.ownsRow w.heap.size 3 1 (.slice AD lb.length cD) lb.length (inI lb)
  hdr : wr.ownsRow w.heap.size 5 1 (.slice AO n cO) n (inB hd)
  len : n = hd.length
  kp : Keep [] w wr
theorem HD1.start {w wr : World} {la lb : List Int} {AA AD : Option Addr} {cA cD : Nat} (a : wr.ownsRow w.heap.size 3 1 (.slice AA la.length cA) la.length (inI la)) (b : wr.ownsRow w.heap.size 3 1 (.slice AD lb.length cD) lb.length (inI lb)) (kp : Keep [] w wr)
    {w5 : World} {A5 : Option Addr} {c5 : Nat} {ra : List Nat} (h5 : w5.ownsRow wr.heap.size 5 1 (.slice A5 ra.length c5) ra.length (inB ra)) (k5 : Keep [] wr w5) : HD1 w la lb ra AA cA AD cD A5 ra.length c5 w5 :=
  ⟨ownsRow_keep a k5 (by simp), ownsRow_keep b k5 (by simp), own_le h5 kp.size, rfl, kp.trans k5⟩
/-- more bytes behind the header -/
theorem HD1.app {w wr w6 : World} {la lb : List Int} {hd r : List Nat} {AA AD AO A6 : Option Addr} {cA cD cO n c6 : Nat} (h : HD1 w la lb hd AA cA AD cD AO n cO wr)
    (h6 : w6.ownsRow wr.heap.size 5 1 (.slice A6 r.length c6) r.length (inB r)) (k6 : Keep [] wr w6) (hn : n ≤ 1000000) (hr : r.length ≤ 1000000) :
    ∃ A' c' w' k, (Builtin.append_ #[24, 24] 24 #[.slice AO n cO, .slice A6 r.length c6]).run Try.prog w6 = .ok (.slice A' k c') w' ∧ k = n + r.length ∧ HD1 w la lb (hd ++ r) AA cA AD cD A' k c' w' := by
  have hh := ownsRow_keep h.hdr k6 (by simp)
  have ha := ownsRow_keep h.a k6 (by simp)
  have hb := ownsRow_keep h.b k6 (by simp)
  obtain ⟨A', c', w', k, hk, hap, hown, hkp⟩ := bytes_app' (d := c6) hh (Src.of_own h6) (by omega) (by omega) (h.kp.trans k6).size
  exact ⟨A', c', w', k, hap, hk, ownsRow_keep ha hkp (fun i hi hm => own_ne_own ha hh (by decide) hi (by simpa using hm)), ownsRow_keep hb hkp (fun i hi hm => own_ne_own hb hh (by decide) hi (by simpa using hm)), hown,
    by rw [hk, List.length_append, h.len], (h.kp.trans k6).step hkp (fun j hj => .inr (own_far hh j hj))⟩
theorem RPI.start {w w9 w10 w11 : World} {la lb : List Int} {hd : List Nat} {AA AC AD AE AO : Option Addr} {cA cC cD cE cO n : Nat} (h : HD1 w la lb hd AA cA AD cD AO n cO w9)
    (h10 : w10.ownsRow w9.heap.size 68 1 (.slice AC la.length cC) la.length (inU (codesL la))) (k10 : Keep [] w9 w10) (h11 : w11.ownsRow w10.heap.size 68 1 (.slice AE lb.length cE) lb.length (inU (codesL lb))) (k11 : Keep [] w10 w11) :
    RPI w la lb hd AA cA AC cC AD cD AE cE AO cO [] none 0 w11 := by
  have k := k10.trans k11
  refine ⟨World.ownsRow_nil _ _ _ _, ⟨ownsRow_keep h.a k (by simp), own_le (ownsRow_keep h10 k11 (by simp)) h.kp.size⟩, ⟨ownsRow_keep h.b k (by simp), own_le h11 (h.kp.trans k10).size⟩, ?_, h.kp.trans k⟩
  have := ownsRow_keep h.hdr k (by simp)
  rw [h.len] at this
  exact this
theorem rpack_bad (l : List Tk) (A : Option Addr) (c : Nat) (w : World) (hs : TSrc w A l) (hl : l.length ≤ 100000) (h : sizeE l ≠ 0) :
    Calls Try.prog 12 #[.slice A l.length c] w fun e w' => e = .returned (.tuple #[.slice none 0 0, .int .i64 (sizeE l)]) ∧ Keep [] w w' := by
  have Hc := Lib.hid (rsize_any l A c w hs (by omega))
  have hne : (sizeE l != 0) = true := by simpa using h
  have hwe : IntKind.i64.wrap (sizeE l) = sizeE l := by
    unfold sizeE
    split
    · split <;> rfl
    · rfl
  clear hs h
  generalize sizeE l = E at *
  generalize sizeN l = M at *
  go_enter Try.func12, Try.ntmps12
  go_wp2_with (go_at_call 33; refine Hc.out.mono ?_; rintro e w1 ⟨rfl, hk⟩; have Hk := Lib.hid hk; clear hk)
  go_ret2
  exact ⟨rfl, Hk.out⟩
set_option maxRecDepth 20000 in
set_option maxHeartbeats 8000000 in
theorem rpack_ok (l : List Tk) (A : Option Addr) (c : Nat) (w : World) (hs : TSrc w A l) (hl : l.length ≤ 20000) (h : sizeE l = 0) :
    Calls Try.prog 12 #[.slice A l.length c] w fun e w' => ∃ AO cO, e = .returned (.tuple #[.slice AO (packP l).length cO, .int .i64 0]) ∧ w'.ownsRow w.heap.size 5 1 (.slice AO (packP l).length cO) (packP l).length (inB (packP l)) ∧ Keep [] w w' := by
  have hall : l.all okT = true := by
    unfold sizeE at h
    split at h
    · assumption
    · cases h
  have Hc := Lib.hid (rsize_any l A c w hs (by omega))
  rw [h] at Hc
  have Hcn := Lib.hid (fun w1 (k : Keep [] w w1) => rcounts_any l A c w1 (hs.keep k (by simp)) (by omega) hall)
  have Hs := Lib.hid hs
  have Hall := Lib.hid hall
  obtain ⟨hoa, hla, _⟩ := lenA_ok (l := l) (by omega)
  obtain ⟨hob, hlb, _⟩ := lenD_ok (l := l) (by omega)
  have HA := Lib.hid (fun (w1 w2 w0 : World) (ga gb : Nat) (h : TCI w1 l l.length ga gb w2) (k : Keep [] w2 w0) => rlenA_any h (by omega) k)
  have HD := Lib.hid (fun (w1 w2 w0 : World) (ga gb : Nat) (h : TCI w1 l l.length ga gb w2) (k : Keep [] w2 w0) => rlenD_any h (by omega) k)
  have hra := runsP_len (lenA l)
  have hrb := runsP_len (lenD l)
  have hvl := varP_len l.length
  have HP : Hid (packP l = (runsP (lenA l) ++ runsP (lenD l) ++ varP l.length) ++ pack (tokB (lenA l) (lenD l) l)) := Lib.hid rfl
  have HTB := Lib.hid (fun (k : Nat) => tokB_len hoa.2.1 hob.2.1 (all_take hall k))
  generalize hLA : lenA l = la at *
  generalize hLB : lenD l = lb at *
  have Hoa := Lib.hid hoa
  have Hob := Lib.hid hob
  have HLa := Lib.hid hla
  have HLb := Lib.hid hlb
  have HR1 := Lib.hid (fun (w1 : World) (A1 : Option Addr) (c1 : Nat) (h : ISrc w1 A1 la) => rruns_any la A1 c1 w1 h (by omega) (good_255 hoa))
  have HR2 := Lib.hid (fun (w1 : World) (A1 : Option Addr) (c1 : Nat) (h : ISrc w1 A1 lb) => rruns_any lb A1 c1 w1 h (by omega) (good_255 hob))
  have HV := Lib.hid (fun w1 => rvarint_any l.length w1 (by omega))
  have HC1 := Lib.hid (fun (w1 : World) (A1 : Option Addr) (c1 : Nat) (h : ISrc w1 A1 la) => rcodes_ok la A1 c1 w1 h hoa)
  have HC2 := Lib.hid (fun (w1 : World) (A1 : Option Addr) (c1 : Nat) (h : ISrc w1 A1 lb) => rcodes_ok lb A1 c1 w1 h hob)
  have Hla := Lib.hid (And.intro hra (And.intro hrb hvl))
  have hwl : IntKind.u64.wrap (l.length : Int) = (l.length : Int) := by rw [IntKind.wrap_u64]; omega
  clear hs h hall hoa hob hLA hLB hra hrb hvl hla hlb
  go_enter Try.func12, Try.ntmps12
  go_upto_region 5 with (first
    | (go_at_call 33; refine Hc.out.mono ?_; rintro e w1 ⟨rfl, hk⟩; have Hk1 := Lib.hid hk; clear hk)
    | (go_at_call 34; refine (Hcn.out w1 Hk1.out).mono ?_; rintro e w2 ⟨ga, gb, rfl, hT⟩))
  go_upto_region 6 with (go_at_call 35; refine (HA.out _ _ _ _ _ hT.out (Keep.refl [] _)).mono ?_; rintro e w3 ⟨AA, cA, rfl, ha3, hk3⟩; have H3 := Lib.hid (And.intro ha3 hk3); clear ha3 hk3)
  go_upto_region 7 with (go_at_call 35; refine (HD.out _ _ _ _ _ hT.out H3.out.2).mono ?_; rintro e w4 ⟨AD, cD, rfl, hd4, hk4⟩; have Kw2 := Lib.hid (Hk1.out.trans hT.out.2.2.2.2.2.2.2); have Kw4 := Lib.hid (Kw2.out.trans (H3.out.2.trans hk4)); have H4 := Lib.hid (And.intro (own_le (ownsRow_keep H3.out.1 hk4 (by simp)) Kw2.out.size) (own_le hd4 (Kw2.out.trans H3.out.2).size)); clear hd4 hk4 H3)
  have TK : True := trivial
  have hra6 : (runsP la).length ≤ 10000 := by have h1 := Hla.out.1; have h2 := HLa.out; omega
  have hrb6 : (runsP lb).length ≤ 10000 := by have h1 := Hla.out.2.1; have h2 := HLb.out; omega
  have hrv6 : (varP l.length).length ≤ 10000 := by have h1 := Hla.out.2.2; omega
  go_upto_region 8 with (first
    | (go_at_call 36; clear TK; refine (HR1.out _ _ _ (isrc_own H4.out.1)).mono ?_; rintro e w5 ⟨A5, c5, rfl, h5, k5⟩; have H5 := Lib.hid (HD1.start H4.out.1 H4.out.2 Kw4.out h5 k5); clear h5 k5)
    | (go_at_call 36; refine (HR2.out _ _ _ (isrc_own H5.out.b)).mono ?_; rintro e w6 ⟨A6, c6, rfl, h6, k6⟩; obtain ⟨A7, c7, w7, n7, hap7, hn7, h7⟩ := H5.out.app h6 k6 (by omega) (by omega); have H7 := Lib.hid h7; have hn7' : n7 ≤ 20000 := (by omega); clear h6 k6 hn7 h7)
    | (at_builtin; refine wpList_append2 (v1 := .slice A5 (runsP la).length c5) (v2 := .slice A6 (runsP lb).length c6) rfl (.tmp 45) (.tmp 47) rfl rfl rfl hap7 ?_))
  go_upto_region 9 with (first
    | (go_at_call 37; refine (HV.out _).mono ?_; rintro e w8 ⟨A8, c8, rfl, h8, k8⟩; obtain ⟨A9, c9, w9, n9, hap9, hn9, h9⟩ := H7.out.app h8 k8 (by omega) (by omega); have H9 := Lib.hid h9; have hn9' : n9 ≤ 30000 := (by omega); clear h8 k8 hn9 h9)
    | (at_builtin; refine wpList_append2 (v1 := .slice A7 n7 c7) (v2 := .slice A8 (varP l.length).length c8) rfl (.tmp 49) (.tmp 53) rfl rfl rfl hap9 ?_))
  go_upto_region 10 with (go_at_call 38; refine (HC1.out _ _ _ (isrc_own H9.out.a)).mono ?_; rintro e w10 ⟨AC, cC, rfl, h10, k10⟩; have H10 := Lib.hid (And.intro h10 k10); clear h10 k10)
  go_upto_region 11 with (go_at_call 38; refine (HC2.out _ _ _ (isrc_own (ownsRow_keep H9.out.b H10.out.2 (by simp)))).mono ?_; rintro e w11 ⟨AE, cE, rfl, h11, k11⟩; have H0 : Hid (RPI w la lb (runsP la ++ runsP lb ++ varP l.length) AA cA AC cC AD cD AE cE A9 c9 [] none 0 w11) := Lib.hid (RPI.start H9.out H10.out.1 H10.out.2 h11 k11); have HN9 := Lib.hid H9.out.len; clear h11 k11)
  clear HA HD HR1 HR2 HV HC1 HC2 Hc Hcn hT Hk1 Kw2 Kw4 H4 H5 H7 H9 H10 hap7 hap9
  generalize runsP la ++ runsP lb ++ varP l.length = hd at *
  go_wp2_with fail
  go_loopw [17, 18] (fun vb vi wr => ∃ (k n : Nat) (A2 : Option Addr) (c2 : Nat), vi = .int .i64 k ∧ k ≤ l.length ∧ vb = .slice A2 n c2 ∧ n ≤ 1000000 ∧ Hid (n = (tokB la lb (l.take k)).length ∧ RPI w la lb hd AA cA AC cC AD cD AE cE A9 c9 (tokB la lb (l.take k)) A2 c2 wr)) (fun _ vi _ => l.length - (intOf vi).toNat)
  case atStart => exact ⟨0, 0, none, 0, rfl, by omega, rfl, by omega, Lib.hid ⟨by simp [tokB], by rw [List.take_zero]; exact H0.out⟩⟩
  case round =>
    obtain ⟨k, n, A2, c2, rfl, hk, rfl, hn, hI⟩ := hrel
    clear H0
    rcases Nat.lt_or_ge k l.length with hkl | hkl
    · as_aux_lemma =>
        have hkli : (k : Int) < l.length := by omega
        have hwk : IntKind.i64.wrap ((k : Int) + 1) = (k : Int) + 1 := by rw [IntKind.wrap_i64]; omega
        have hok := all_get Hall.out hkl
        have hlit := (Hs.out.2 _ (List.getElem_mem hkl)).2.2
        have htk : l.take (k + 1) = l.take k ++ [l[k]] := List.take_succ_eq_append_getElem hkl
        obtain ⟨hnn, hR⟩ := hI.out
        obtain ⟨g, o, rfl, hTok⟩ := Hs.out.tok hkl
        have HTok := Lib.hid hTok
        obtain ⟨d1, d2, d3⟩ := hTok _ hR.kp
        clear hTok
        have htb := HTB.out (k + 1)
        have htb0 := HTB.out k
        have htl : (l.take (k + 1)).length ≤ 20000 := by rw [List.length_take]; omega
        have htl0 : (l.take k).length ≤ 20000 := by rw [List.length_take]; omega
        have hst := tokB_snoc la lb (l.take k) l[k]
        rw [← htk] at hst
        have hbn : (tokB la lb (l.take (k + 1))).length ≤ 1000000 := by omega
        have hbn0 : (tokB la lb (l.take k)).length ≤ 1000000 := by omega
        have hsl := symT_lt hok hlit
        obtain ⟨L, hL, hL15, hLn⟩ := ln_get (ls := la) (s := symT l[k]) (by rw [HLa.out]; exact hsl) Hoa.out.2.1
        have hcv := codeV_small Hoa.out (s := symT l[k]) (by rw [HLa.out]; exact hsl)
        have hsb : symBits la (symT l[k]) = bitsK (codeV la (symT l[k])) L := by unfold symBits; rw [Int.toNat_natCast, hLn]
        have HRb := Lib.hid hR.b
        obtain ⟨gl, gc, rfl, rfl, hgl, hgc, _, _, m1, m2⟩ := hR.a.at_ (s := symT l[k]) (by rw [HLa.out]; exact hsl)
        rw [hL] at m1
        have HBt := Lib.hid (fun w0 k0 => hR.bits (cv := codeV la (symT l[k])) (L := L) (by omega) hL15 (by omega) w0 k0)
        rw [← hnn] at HBt
        have HSS : Hid (∀ W : World, Keep [] wr W → W.cell? ⟨gc, symT l[k], none⟩ = some (.int .u16 (codeV la (symT l[k]) : Nat)) ∧ W.cell? ⟨gl, symT l[k], none⟩ = some (.int .i64 (L : Nat))) := Lib.hid (fun W kk => ⟨(kk.cell (p := ⟨gc, symT l[k], none⟩) hgc (by simp)).trans m2, (kk.cell (p := ⟨gl, symT l[k], none⟩) hgl (by simp)).trans m1⟩)
        have Hst := Lib.hid (And.intro hst (And.intro hsb hbn))
        have Hbn := Lib.hid (show (tokB la lb (l.take k)).length + L ≤ 2000000 by omega)
        have Hnn := Lib.hid hnn
        have hslA : symT l[k] < la.length := by rw [HLa.out]; exact hsl
        have hcv2 : codeV la (symT l[k]) < 65536 := by omega
        clear hI hR htb htb0 htl htl0 hst hbn hbn0 hsb hL hLn m1 m2 htk hnn hcv
        have Hok := Lib.hid hok
        clear hok
        generalize hB2e : tokB la lb (l.take (k + 1)) = B2 at *
        have HB2e := Lib.hid hB2e
        clear hB2e
        generalize tokB la lb (l.take k) = B at *
        generalize l[k] = t at *
        obtain ⟨d, q, x⟩ := t
        dsimp only at d1 d2 d3 hlit HTok
        rcases okT_cases Hok.out with ⟨h1, h2⟩ | ⟨h1, h2, h3, h4, h5⟩
        · dsimp only at h1 h2
          subst h1
          subst h2
          have hsy : symT (0, 1, x) = x := rfl
          have hnb : tokBits la lb (0, 1, x) = symBits la x := by simp [tokBits, hsy]
          rw [hsy] at HBt HSS Hst hslA hcv2
          have Hnb := Lib.hid hnb
          have HC := Lib.hid (fun w => rsymbol_lit 1 x w hlit)
          have hxi : (x : Int) < la.length := by omega
          generalize codeV la x = cv at *
          clear Hok hnb hsy hsl
          go_upto_region 16 with (go_at_call 39; refine (HC.out _).mono ?_; rintro e w2 ⟨rfl, hk2⟩; have Hk2 := Lib.hid hk2; clear hk2)
          have hS16 := HSS.out _ Hk2.out.drew
          refine wp_region_G (fun W => W.cell? ⟨gc, x, none⟩ = some (.int .u16 (cv : Nat)) ∧ W.cell? ⟨gl, x, none⟩ = some (.int .i64 (L : Nat))) [10, 11] #[false, false, false, false, false, false, false, false, false, false, false, false] 12 (by kernel_rfl) (by kernel_rfl) (by kernel_rfl) ?_
          refine wpAnyG_take0 (i := 0) (oi := { dst := some 76, op := Go.Op.move (Go.Operand.tmp 17), type := 74, pos := "ref.go:85", after := #[], guard := none }) (v := ?vg1_0) rfl (by kernel_rfl) (by kernel_rfl) (by kernel_rfl) (by kernel_rfl) (fun _ _ _ h => h) (fun _ => hS16) (Or.inl ⟨by rfl, ?hg1_0⟩) ?_
          case hg1_0 => intro w _; go_simp; (try with_reducible rfl)
          try simp only [Act.put, List.setIfInBounds_toArray, List.set_cons_zero, List.set_cons_succ]
          refine wpAnyG_take0 (i := 1) (oi := { dst := some 77, op := Go.Op.move (Go.Operand.tmp 13), type := 54, pos := "ref.go:85", after := #[], guard := none }) (v := ?vg1_1) rfl (by kernel_rfl) (by kernel_rfl) (by kernel_rfl) (by kernel_rfl) (fun _ _ _ h => h) (fun _ => hS16) (Or.inl ⟨by rfl, ?hg1_1⟩) ?_
          case hg1_1 => intro w _; go_simp; (try with_reducible rfl)
          try simp only [Act.put, List.setIfInBounds_toArray, List.set_cons_zero, List.set_cons_succ]
          refine wpAnyG_take0 (i := 2) (oi := { dst := some 78, op := Go.Op.move (Go.Operand.tmp 19), type := 3, pos := "ref.go:85", after := #[], guard := none }) (v := ?vg1_2) rfl (by kernel_rfl) (by kernel_rfl) (by kernel_rfl) (by kernel_rfl) (fun _ _ _ h => h) (fun _ => hS16) (Or.inl ⟨by rfl, ?hg1_2⟩) ?_
          case hg1_2 => intro w _; go_simp; (try with_reducible rfl)
          try simp only [Act.put, List.setIfInBounds_toArray, List.set_cons_zero, List.set_cons_succ]
          refine wpAnyG_take0 (i := 3) (oi := { dst := some 79, op := Go.Op.indexAddr 54 (Go.Operand.tmp 77) (Go.Operand.tmp 78), type := 0, pos := "ref.go:85", after := #[{ on := 1, ground := Go.Ground.data }, { on := 2, ground := Go.Ground.data }], guard := none }) (v := ?vg1_3) rfl (by kernel_rfl) (by kernel_rfl) (by kernel_rfl) (by kernel_rfl) (fun _ _ _ h => h) (fun _ => hS16) (Or.inl ⟨by rfl, ?hg1_3⟩) ?_
          case hg1_3 => intro w _; go_simp; (try with_reducible rfl)
          try simp only [Act.put, List.setIfInBounds_toArray, List.set_cons_zero, List.set_cons_succ]
          refine wpAnyG_take (i := 4) (oi := { dst := some 80, op := Go.Op.load 68 (Go.Operand.tmp 79), type := 68, pos := "ref.go:85", after := #[{ on := 3, ground := Go.Ground.data }], guard := none }) (v := ?vg1_4) [4, 9, 10, 11] rfl (by kernel_rfl) (by kernel_rfl) (by kernel_rfl) (by kernel_rfl) (by kernel_rfl) (fun _ _ _ h => h) (fun _ => hS16) (Or.inl ⟨by rfl, ?hg1_4⟩) ?_
          case hg1_4 => intro w hSw; (try dsimp only at hSw); go_simp; (try with_reducible rfl)
          try simp only [Act.put, List.setIfInBounds_toArray, List.set_cons_zero, List.set_cons_succ]
          refine wpAnyG_take0 (i := 5) (oi := { dst := some 81, op := Go.Op.move (Go.Operand.tmp 8), type := 49, pos := "ref.go:85", after := #[], guard := none }) (v := ?vg1_5) rfl (by kernel_rfl) (by kernel_rfl) (by kernel_rfl) (by kernel_rfl) (fun _ _ _ h => h) (fun _ => hS16) (Or.inl ⟨by rfl, ?hg1_5⟩) ?_
          case hg1_5 => intro w _; go_simp; (try with_reducible rfl)
          try simp only [Act.put, List.setIfInBounds_toArray, List.set_cons_zero, List.set_cons_succ]
          refine wpAnyG_take0 (i := 6) (oi := { dst := some 82, op := Go.Op.move (Go.Operand.tmp 19), type := 3, pos := "ref.go:85", after := #[], guard := none }) (v := ?vg1_6) rfl (by kernel_rfl) (by kernel_rfl) (by kernel_rfl) (by kernel_rfl) (fun _ _ _ h => h) (fun _ => hS16) (Or.inl ⟨by rfl, ?hg1_6⟩) ?_
          case hg1_6 => intro w _; go_simp; (try with_reducible rfl)
          try simp only [Act.put, List.setIfInBounds_toArray, List.set_cons_zero, List.set_cons_succ]
          refine wpAnyG_take0 (i := 7) (oi := { dst := some 83, op := Go.Op.indexAddr 49 (Go.Operand.tmp 81) (Go.Operand.tmp 82), type := 0, pos := "ref.go:85", after := #[{ on := 5, ground := Go.Ground.data }, { on := 6, ground := Go.Ground.data }], guard := none }) (v := ?vg1_7) rfl (by kernel_rfl) (by kernel_rfl) (by kernel_rfl) (by kernel_rfl) (fun _ _ _ h => h) (fun _ => hS16) (Or.inl ⟨by rfl, ?hg1_7⟩) ?_
          case hg1_7 => intro w _; go_simp; (try with_reducible rfl)
          try simp only [Act.put, List.setIfInBounds_toArray, List.set_cons_zero, List.set_cons_succ]
          refine wpAnyG_take (i := 8) (oi := { dst := some 84, op := Go.Op.load 3 (Go.Operand.tmp 83), type := 3, pos := "ref.go:85", after := #[{ on := 7, ground := Go.Ground.data }], guard := none }) (v := ?vg1_8) [8, 9, 10, 11] rfl (by kernel_rfl) (by kernel_rfl) (by kernel_rfl) (by kernel_rfl) (by kernel_rfl) (fun _ _ _ h => h) (fun _ => hS16) (Or.inl ⟨by rfl, ?hg1_8⟩) ?_
          case hg1_8 => intro w hSw; (try dsimp only at hSw); go_simp; (try with_reducible rfl)
          try simp only [Act.put, List.setIfInBounds_toArray, List.set_cons_zero, List.set_cons_succ]
          refine wpAnyG_step (i := 9) (oi := { dst := some 85, op := Go.Op.call { callee := Go.Callee.value (Go.Operand.func 40), args := #[Go.Operand.tmp 80, Go.Operand.tmp 84], argTypes := #[68, 3] }, type := 74, pos := "ref.go:85", after := #[{ on := 4, ground := Go.Ground.data }, { on := 8, ground := Go.Ground.data }], guard := none }) rfl (by kernel_rfl) (by rfl) (fun K hK => ?_)
          go_simp
          go_at_call 40
          refine (HBt.out _ Hk2.out.drew).mono ?_
          rintro e w3 ⟨AO, rfl, hk3, A4, c4, w4, hap, hre⟩
          have Hk3 := Lib.hid hk3
          have Hap := Lib.hid hap
          have HRE := Lib.hid hre
          clear hk3 hap hre
          refine hK _ _ ?_ (fun hSg1_9 => ?_)
          · intro _; exact HSS.out _ Hk3.out
          replace hSg1_9 := hSg1_9 (by kernel_rfl)
          clear hK
          try simp only [Act.put, List.setIfInBounds_toArray, List.set_cons_zero, List.set_cons_succ]
          refine wpAnyG_step (i := 10) (oi := { dst := some 86, op := Go.Op.call { callee := Go.Callee.builtin Go.Builtin.append, args := #[Go.Operand.tmp 76, Go.Operand.tmp 85], argTypes := #[74, 74] }, type := 74, pos := "ref.go:85", after := #[{ on := 0, ground := Go.Ground.data }, { on := 9, ground := Go.Ground.data }, { on := 9, ground := Go.Ground.chain }], guard := none }) rfl (by kernel_rfl) (by rfl) (fun K hK => ?_)
          have hap := Hap.out
          refine wp_append2 (v1 := .slice A2 n c2) (v2 := .slice AO L L) (.tmp 76) (.tmp 85) rfl rfl rfl hap ?_
          refine hK _ _ (fun h => absurd h (Bool.eq_false_iff.1 (by kernel_rfl))) (fun _ => ?_)
          clear hK
          try simp only [Act.put, List.setIfInBounds_toArray, List.set_cons_zero, List.set_cons_succ]
          refine wpAnyG_step (i := 11) (oi := { dst := some 17, op := Go.Op.assign (Go.Operand.tmp 86), type := 74, pos := "ref.go:85", after := #[{ on := 10, ground := Go.Ground.data }, { on := 10, ground := Go.Ground.chain }, { on := 0, ground := Go.Ground.phase }, { on := 1, ground := Go.Ground.phase }, { on := 2, ground := Go.Ground.phase }, { on := 3, ground := Go.Ground.phase }, { on := 4, ground := Go.Ground.phase }, { on := 5, ground := Go.Ground.phase }, { on := 6, ground := Go.Ground.phase }, { on := 7, ground := Go.Ground.phase }, { on := 8, ground := Go.Ground.phase }, { on := 9, ground := Go.Ground.phase }, { on := 10, ground := Go.Ground.phase }], guard := none }) rfl (by kernel_rfl) (by rfl) (fun K hK => ?_)
          go_simp
          refine hK _ _ (fun h => absurd h (Bool.eq_false_iff.1 (by kernel_rfl))) (fun _ => ?_)
          clear hK
          try simp only [Act.put, List.setIfInBounds_toArray, List.set_cons_zero, List.set_cons_succ]
          refine wpAnyG_done (by kernel_rfl) ?_ _
          have e1 := (HTok.out _ HRE.out.kp).1
          have HB2 : Hid (B2 = B ++ bitsK cv L) := Lib.hid (by rw [Hst.out.1, Hnb.out, Hst.out.2.1])
          have HN2 : Hid (n + L = B2.length) := Lib.hid (by rw [HB2.out, List.length_append, bitsK_len, Hnn.out])
          have hn2 : n + L ≤ 1000000 := by rw [HN2.out]; exact Hst.out.2.2
          go_wp2_with fail
          go_roundw
          case rel => exact ⟨k + 1, n + L, A4, c4, by simp, by omega, rfl, hn2, Lib.hid ⟨by rw [HB2e.out, HN2.out], by rw [HB2e.out, HB2.out]; exact HRE.out⟩⟩
          case measure => simp [intOf]; omega
        · dsimp only at h1 h2 h3 h4 h5
          subst h5
          obtain ⟨q, rfl⟩ : ∃ z : Nat, q = z := ⟨q.toNat, by omega⟩
          obtain ⟨dn, rfl⟩ : ∃ dn : Nat, d = dn := ⟨d.toNat, by omega⟩
          have hsy : symT ((dn : Int), (q : Int), 0) = 252 + q := by unfold symT; rw [if_neg (by simp; omega)]; simp; omega
          have hds : dsT ((dn : Int), (q : Int), 0) = Nat.log2 dn := by simp [dsT]
          have hdl := log_le (x := dn) (by omega)
          have hnb : tokBits la lb ((dn : Int), (q : Int), 0) = symBits la ((252 + q : Nat) : Int) ++ (symBits lb (Nat.log2 dn : Nat) ++ bitsK dn (Nat.log2 dn)) := by
            unfold tokBits
            rw [hsy, hds, if_pos (by simp; omega)]
            simp
          have HC : Hid (∀ w, Calls Try.prog 39 #[.agg #[.int .i64 (dn : Nat), .int .i64 (q : Nat), .int .u8 ((0 : Nat) : Int)]] w fun e w' => e = .returned (.int .i64 ((252 + q : Nat) : Int)) ∧ Keep [] w w') := Lib.hid (fun w => by
            have := rsymbol_copy dn q 0 w h1 h3 h4
            rwa [show (252 + (q : Int)) = ((252 + q : Nat) : Int) by omega] at this)
          have HDi := Lib.hid (fun w => rdist_any dn w (by omega))
          obtain ⟨M, hM, hM15, hMn⟩ := ln_get (ls := lb) (s := Nat.log2 dn) (by rw [HLb.out]; omega) Hob.out.2.1
          have hcw := codeV_small Hob.out (s := Nat.log2 dn) (by rw [HLb.out]; omega)
          have hsd : symBits lb (Nat.log2 dn : Nat) = bitsK (codeV lb (Nat.log2 dn)) M := by unfold symBits; rw [Int.toNat_natCast, hMn]
          obtain ⟨gd, gf, rfl, rfl, -⟩ := HRb.out.at_ (s := Nat.log2 dn) (by rw [HLb.out]; omega)
          have hrB : Nat.log2 dn < lb.length := by rw [HLb.out]; omega
          have HDc : Hid (∀ W, LC w lb (some ⟨gd, 0, none⟩) cD (some ⟨gf, 0, none⟩) cE W → gd < W.heap.size ∧ gf < W.heap.size ∧ W.cell? ⟨gd, Nat.log2 dn, none⟩ = some (.int .i64 (M : Nat)) ∧ W.cell? ⟨gf, Nat.log2 dn, none⟩ = some (.int .u16 (codeV lb (Nat.log2 dn) : Nat))) := Lib.hid (fun W h => by
            have := h.cells hrB
            rwa [hM] at this)
          rw [hsy] at HBt HSS Hst hslA hcv2
          have Hnb := Lib.hid hnb
          have Hsd := Lib.hid hsd
          have hxi : ((252 + q : Nat) : Int) < la.length := by omega
          have hdi : (0 : Int) < dn := by omega
          have hdn : 0 < dn := by omega
          have hri : ((Nat.log2 dn : Nat) : Int) < lb.length := by omega
          have hwd : IntKind.u16.wrap (dn : Int) = (dn : Int) := by rw [IntKind.wrap_u16]; omega
          have hdn4 : dn ≤ 4096 := by omega
          have hcw2 : codeV lb (Nat.log2 dn) < 65536 := by omega
          clear Hok hsy hds hsl hnb hM hMn hsd hcw h1 h2 h3 h4 hlit
          generalize hm : 252 + q = m at *
          generalize hr : Nat.log2 dn = r at *
          generalize codeV la m = cv at *
          generalize codeV lb r = cw at *
          clear hm
          have Hr := Lib.hid hr
          clear hr
          go_upto_region 16 with (go_at_call 39; refine (HC.out _).mono ?_; rintro e w2 ⟨rfl, hk2⟩; have Hk2 := Lib.hid hk2; clear hk2)
          have hS16 := HSS.out _ Hk2.out.drew
          refine wp_region_G (fun W => W.cell? ⟨gc, m, none⟩ = some (.int .u16 (cv : Nat)) ∧ W.cell? ⟨gl, m, none⟩ = some (.int .i64 (L : Nat))) [10, 11] #[false, false, false, false, false, false, false, false, false, false, false, false] 12 (by kernel_rfl) (by kernel_rfl) (by kernel_rfl) ?_
          refine wpAnyG_take0 (i := 0) (oi := { dst := some 76, op := Go.Op.move (Go.Operand.tmp 17), type := 74, pos := "ref.go:85", after := #[], guard := none }) (v := ?vg2_0) rfl (by kernel_rfl) (by kernel_rfl) (by kernel_rfl) (by kernel_rfl) (fun _ _ _ h => h) (fun _ => hS16) (Or.inl ⟨by rfl, ?hg2_0⟩) ?_
          case hg2_0 => intro w _; go_simp; (try with_reducible rfl)
          try simp only [Act.put, List.setIfInBounds_toArray, List.set_cons_zero, List.set_cons_succ]
          refine wpAnyG_take0 (i := 1) (oi := { dst := some 77, op := Go.Op.move (Go.Operand.tmp 13), type := 54, pos := "ref.go:85", after := #[], guard := none }) (v := ?vg2_1) rfl (by kernel_rfl) (by kernel_rfl) (by kernel_rfl) (by kernel_rfl) (fun _ _ _ h => h) (fun _ => hS16) (Or.inl ⟨by rfl, ?hg2_1⟩) ?_
          case hg2_1 => intro w _; go_simp; (try with_reducible rfl)
          try simp only [Act.put, List.setIfInBounds_toArray, List.set_cons_zero, List.set_cons_succ]
          refine wpAnyG_take0 (i := 2) (oi := { dst := some 78, op := Go.Op.move (Go.Operand.tmp 19), type := 3, pos := "ref.go:85", after := #[], guard := none }) (v := ?vg2_2) rfl (by kernel_rfl) (by kernel_rfl) (by kernel_rfl) (by kernel_rfl) (fun _ _ _ h => h) (fun _ => hS16) (Or.inl ⟨by rfl, ?hg2_2⟩) ?_
          case hg2_2 => intro w _; go_simp; (try with_reducible rfl)
          try simp only [Act.put, List.setIfInBounds_toArray, List.set_cons_zero, List.set_cons_succ]
          refine wpAnyG_take0 (i := 3) (oi := { dst := some 79, op := Go.Op.indexAddr 54 (Go.Operand.tmp 77) (Go.Operand.tmp 78), type := 0, pos := "ref.go:85", after := #[{ on := 1, ground := Go.Ground.data }, { on := 2, ground := Go.Ground.data }], guard := none }) (v := ?vg2_3) rfl (by kernel_rfl) (by kernel_rfl) (by kernel_rfl) (by kernel_rfl) (fun _ _ _ h => h) (fun _ => hS16) (Or.inl ⟨by rfl, ?hg2_3⟩) ?_
          case hg2_3 => intro w _; go_simp; (try with_reducible rfl)
          try simp only [Act.put, List.setIfInBounds_toArray, List.set_cons_zero, List.set_cons_succ]
          refine wpAnyG_take (i := 4) (oi := { dst := some 80, op := Go.Op.load 68 (Go.Operand.tmp 79), type := 68, pos := "ref.go:85", after := #[{ on := 3, ground := Go.Ground.data }], guard := none }) (v := ?vg2_4) [4, 9, 10, 11] rfl (by kernel_rfl) (by kernel_rfl) (by kernel_rfl) (by kernel_rfl) (by kernel_rfl) (fun _ _ _ h => h) (fun _ => hS16) (Or.inl ⟨by rfl, ?hg2_4⟩) ?_
          case hg2_4 => intro w hSw; (try dsimp only at hSw); go_simp; (try with_reducible rfl)
          try simp only [Act.put, List.setIfInBounds_toArray, List.set_cons_zero, List.set_cons_succ]
          refine wpAnyG_take0 (i := 5) (oi := { dst := some 81, op := Go.Op.move (Go.Operand.tmp 8), type := 49, pos := "ref.go:85", after := #[], guard := none }) (v := ?vg2_5) rfl (by kernel_rfl) (by kernel_rfl) (by kernel_rfl) (by kernel_rfl) (fun _ _ _ h => h) (fun _ => hS16) (Or.inl ⟨by rfl, ?hg2_5⟩) ?_
          case hg2_5 => intro w _; go_simp; (try with_reducible rfl)
          try simp only [Act.put, List.setIfInBounds_toArray, List.set_cons_zero, List.set_cons_succ]
          refine wpAnyG_take0 (i := 6) (oi := { dst := some 82, op := Go.Op.move (Go.Operand.tmp 19), type := 3, pos := "ref.go:85", after := #[], guard := none }) (v := ?vg2_6) rfl (by kernel_rfl) (by kernel_rfl) (by kernel_rfl) (by kernel_rfl) (fun _ _ _ h => h) (fun _ => hS16) (Or.inl ⟨by rfl, ?hg2_6⟩) ?_
          case hg2_6 => intro w _; go_simp; (try with_reducible rfl)
          try simp only [Act.put, List.setIfInBounds_toArray, List.set_cons_zero, List.set_cons_succ]
          refine wpAnyG_take0 (i := 7) (oi := { dst := some 83, op := Go.Op.indexAddr 49 (Go.Operand.tmp 81) (Go.Operand.tmp 82), type := 0, pos := "ref.go:85", after := #[{ on := 5, ground := Go.Ground.data }, { on := 6, ground := Go.Ground.data }], guard := none }) (v := ?vg2_7) rfl (by kernel_rfl) (by kernel_rfl) (by kernel_rfl) (by kernel_rfl) (fun _ _ _ h => h) (fun _ => hS16) (Or.inl ⟨by rfl, ?hg2_7⟩) ?_
          case hg2_7 => intro w _; go_simp; (try with_reducible rfl)
          try simp only [Act.put, List.setIfInBounds_toArray, List.set_cons_zero, List.set_cons_succ]
          refine wpAnyG_take (i := 8) (oi := { dst := some 84, op := Go.Op.load 3 (Go.Operand.tmp 83), type := 3, pos := "ref.go:85", after := #[{ on := 7, ground := Go.Ground.data }], guard := none }) (v := ?vg2_8) [8, 9, 10, 11] rfl (by kernel_rfl) (by kernel_rfl) (by kernel_rfl) (by kernel_rfl) (by kernel_rfl) (fun _ _ _ h => h) (fun _ => hS16) (Or.inl ⟨by rfl, ?hg2_8⟩) ?_
          case hg2_8 => intro w hSw; (try dsimp only at hSw); go_simp; (try with_reducible rfl)
          try simp only [Act.put, List.setIfInBounds_toArray, List.set_cons_zero, List.set_cons_succ]
          refine wpAnyG_step (i := 9) (oi := { dst := some 85, op := Go.Op.call { callee := Go.Callee.value (Go.Operand.func 40), args := #[Go.Operand.tmp 80, Go.Operand.tmp 84], argTypes := #[68, 3] }, type := 74, pos := "ref.go:85", after := #[{ on := 4, ground := Go.Ground.data }, { on := 8, ground := Go.Ground.data }], guard := none }) rfl (by kernel_rfl) (by rfl) (fun K hK => ?_)
          go_simp
          go_at_call 40
          refine (HBt.out _ Hk2.out.drew).mono ?_
          rintro e w3 ⟨AO, rfl, hk3, A4, c4, w4, hap, hre⟩
          have Hk3 := Lib.hid hk3
          have Hap := Lib.hid hap
          have HRE := Lib.hid hre
          clear hk3 hap hre
          refine hK _ _ ?_ (fun hSg2_9 => ?_)
          · intro _; exact HSS.out _ Hk3.out
          replace hSg2_9 := hSg2_9 (by kernel_rfl)
          clear hK
          try simp only [Act.put, List.setIfInBounds_toArray, List.set_cons_zero, List.set_cons_succ]
          refine wpAnyG_step (i := 10) (oi := { dst := some 86, op := Go.Op.call { callee := Go.Callee.builtin Go.Builtin.append, args := #[Go.Operand.tmp 76, Go.Operand.tmp 85], argTypes := #[74, 74] }, type := 74, pos := "ref.go:85", after := #[{ on := 0, ground := Go.Ground.data }, { on := 9, ground := Go.Ground.data }, { on := 9, ground := Go.Ground.chain }], guard := none }) rfl (by kernel_rfl) (by rfl) (fun K hK => ?_)
          have hap := Hap.out
          refine wp_append2 (v1 := .slice A2 n c2) (v2 := .slice AO L L) (.tmp 76) (.tmp 85) rfl rfl rfl hap ?_
          refine hK _ _ (fun h => absurd h (Bool.eq_false_iff.1 (by kernel_rfl))) (fun _ => ?_)
          clear hK
          try simp only [Act.put, List.setIfInBounds_toArray, List.set_cons_zero, List.set_cons_succ]
          refine wpAnyG_step (i := 11) (oi := { dst := some 17, op := Go.Op.assign (Go.Operand.tmp 86), type := 74, pos := "ref.go:85", after := #[{ on := 10, ground := Go.Ground.data }, { on := 10, ground := Go.Ground.chain }, { on := 0, ground := Go.Ground.phase }, { on := 1, ground := Go.Ground.phase }, { on := 2, ground := Go.Ground.phase }, { on := 3, ground := Go.Ground.phase }, { on := 4, ground := Go.Ground.phase }, { on := 5, ground := Go.Ground.phase }, { on := 6, ground := Go.Ground.phase }, { on := 7, ground := Go.Ground.phase }, { on := 8, ground := Go.Ground.phase }, { on := 9, ground := Go.Ground.phase }, { on := 10, ground := Go.Ground.phase }], guard := none }) rfl (by kernel_rfl) (by rfl) (fun K hK => ?_)
          go_simp
          refine hK _ _ (fun h => absurd h (Bool.eq_false_iff.1 (by kernel_rfl))) (fun _ => ?_)
          clear hK
          try simp only [Act.put, List.setIfInBounds_toArray, List.set_cons_zero, List.set_cons_succ]
          refine wpAnyG_done (by kernel_rfl) ?_ _
          have e1 := (HTok.out _ HRE.out.kp).1
          obtain ⟨z1, z2, e3, e4⟩ := HDc.out _ HRE.out.b
          have HSD : Hid (∀ W : World, Keep [] w4 W → W.cell? ⟨gf, r, none⟩ = some (.int .u16 (cw : Nat)) ∧ W.cell? ⟨gd, r, none⟩ = some (.int .i64 (M : Nat))) := Lib.hid (fun W kk => ⟨(kk.cell (p := ⟨gf, r, none⟩) z2 (by simp)).trans e4, (kk.cell (p := ⟨gd, r, none⟩) z1 (by simp)).trans e3⟩)
          generalize hn4 : n + L = n4 at *
          have HBd := Lib.hid (fun w0 k0 => HRE.out.bits (cv := cw) (L := M) hcw2 hM15 (by have h8 := Hbn.out; rw [List.length_append, bitsK_len]; omega) w0 k0)
          have hl4 : (B ++ bitsK cv L).length = n4 := by rw [List.length_append, bitsK_len, ← Hnn.out, hn4]
          rw [hl4] at HBd
          have Hl4 := Lib.hid hl4
          have Hn4 := Lib.hid hn4
          clear hl4 hn4 z1 z2 e3 e4 HDc HBt HSS
          go_upto_region 19 with (go_at_call 41; refine (HDi.out _).mono ?_; rintro e w5 ⟨rfl, rfl⟩)
          have hS19 := HSD.out _ (Keep.refl [] _).drew
          refine wp_region_G (fun W => W.cell? ⟨gf, r, none⟩ = some (.int .u16 (cw : Nat)) ∧ W.cell? ⟨gd, r, none⟩ = some (.int .i64 (M : Nat))) [10, 11] #[false, false, false, false, false, false, false, false, false, false, false, false] 12 (by kernel_rfl) (by kernel_rfl) (by kernel_rfl) ?_
          refine wpAnyG_take0 (i := 0) (oi := { dst := some 99, op := Go.Op.move (Go.Operand.tmp 17), type := 74, pos := "ref.go:88", after := #[], guard := none }) (v := ?vg3_0) rfl (by kernel_rfl) (by kernel_rfl) (by kernel_rfl) (by kernel_rfl) (fun _ _ _ h => h) (fun _ => hS19) (Or.inl ⟨by rfl, ?hg3_0⟩) ?_
          case hg3_0 => intro w _; go_simp; (try with_reducible rfl)
          try simp only [Act.put, List.setIfInBounds_toArray, List.set_cons_zero, List.set_cons_succ]
          refine wpAnyG_take0 (i := 1) (oi := { dst := some 100, op := Go.Op.move (Go.Operand.tmp 15), type := 54, pos := "ref.go:88", after := #[], guard := none }) (v := ?vg3_1) rfl (by kernel_rfl) (by kernel_rfl) (by kernel_rfl) (by kernel_rfl) (fun _ _ _ h => h) (fun _ => hS19) (Or.inl ⟨by rfl, ?hg3_1⟩) ?_
          case hg3_1 => intro w _; go_simp; (try with_reducible rfl)
          try simp only [Act.put, List.setIfInBounds_toArray, List.set_cons_zero, List.set_cons_succ]
          refine wpAnyG_take0 (i := 2) (oi := { dst := some 101, op := Go.Op.move (Go.Operand.tmp 20), type := 3, pos := "ref.go:88", after := #[], guard := none }) (v := ?vg3_2) rfl (by kernel_rfl) (by kernel_rfl) (by kernel_rfl) (by kernel_rfl) (fun _ _ _ h => h) (fun _ => hS19) (Or.inl ⟨by rfl, ?hg3_2⟩) ?_
          case hg3_2 => intro w _; go_simp; (try with_reducible rfl)
          try simp only [Act.put, List.setIfInBounds_toArray, List.set_cons_zero, List.set_cons_succ]
          refine wpAnyG_take0 (i := 3) (oi := { dst := some 102, op := Go.Op.indexAddr 54 (Go.Operand.tmp 100) (Go.Operand.tmp 101), type := 0, pos := "ref.go:88", after := #[{ on := 1, ground := Go.Ground.data }, { on := 2, ground := Go.Ground.data }], guard := none }) (v := ?vg3_3) rfl (by kernel_rfl) (by kernel_rfl) (by kernel_rfl) (by kernel_rfl) (fun _ _ _ h => h) (fun _ => hS19) (Or.inl ⟨by rfl, ?hg3_3⟩) ?_
          case hg3_3 => intro w _; go_simp; (try with_reducible rfl)
          try simp only [Act.put, List.setIfInBounds_toArray, List.set_cons_zero, List.set_cons_succ]
          refine wpAnyG_take (i := 4) (oi := { dst := some 103, op := Go.Op.load 68 (Go.Operand.tmp 102), type := 68, pos := "ref.go:88", after := #[{ on := 3, ground := Go.Ground.data }], guard := none }) (v := ?vg3_4) [4, 9, 10, 11] rfl (by kernel_rfl) (by kernel_rfl) (by kernel_rfl) (by kernel_rfl) (by kernel_rfl) (fun _ _ _ h => h) (fun _ => hS19) (Or.inl ⟨by rfl, ?hg3_4⟩) ?_
          case hg3_4 => intro w hSw; (try dsimp only at hSw); go_simp; (try with_reducible rfl)
          try simp only [Act.put, List.setIfInBounds_toArray, List.set_cons_zero, List.set_cons_succ]
          refine wpAnyG_take0 (i := 5) (oi := { dst := some 104, op := Go.Op.move (Go.Operand.tmp 10), type := 49, pos := "ref.go:88", after := #[], guard := none }) (v := ?vg3_5) rfl (by kernel_rfl) (by kernel_rfl) (by kernel_rfl) (by kernel_rfl) (fun _ _ _ h => h) (fun _ => hS19) (Or.inl ⟨by rfl, ?hg3_5⟩) ?_
          case hg3_5 => intro w _; go_simp; (try with_reducible rfl)
          try simp only [Act.put, List.setIfInBounds_toArray, List.set_cons_zero, List.set_cons_succ]
          refine wpAnyG_take0 (i := 6) (oi := { dst := some 105, op := Go.Op.move (Go.Operand.tmp 20), type := 3, pos := "ref.go:88", after := #[], guard := none }) (v := ?vg3_6) rfl (by kernel_rfl) (by kernel_rfl) (by kernel_rfl) (by kernel_rfl) (fun _ _ _ h => h) (fun _ => hS19) (Or.inl ⟨by rfl, ?hg3_6⟩) ?_
          case hg3_6 => intro w _; go_simp; (try with_reducible rfl)
          try simp only [Act.put, List.setIfInBounds_toArray, List.set_cons_zero, List.set_cons_succ]
          refine wpAnyG_take0 (i := 7) (oi := { dst := some 106, op := Go.Op.indexAddr 49 (Go.Operand.tmp 104) (Go.Operand.tmp 105), type := 0, pos := "ref.go:88", after := #[{ on := 5, ground := Go.Ground.data }, { on := 6, ground := Go.Ground.data }], guard := none }) (v := ?vg3_7) rfl (by kernel_rfl) (by kernel_rfl) (by kernel_rfl) (by kernel_rfl) (fun _ _ _ h => h) (fun _ => hS19) (Or.inl ⟨by rfl, ?hg3_7⟩) ?_
          case hg3_7 => intro w _; go_simp; (try with_reducible rfl)
          try simp only [Act.put, List.setIfInBounds_toArray, List.set_cons_zero, List.set_cons_succ]
          refine wpAnyG_take (i := 8) (oi := { dst := some 107, op := Go.Op.load 3 (Go.Operand.tmp 106), type := 3, pos := "ref.go:88", after := #[{ on := 7, ground := Go.Ground.data }], guard := none }) (v := ?vg3_8) [8, 9, 10, 11] rfl (by kernel_rfl) (by kernel_rfl) (by kernel_rfl) (by kernel_rfl) (by kernel_rfl) (fun _ _ _ h => h) (fun _ => hS19) (Or.inl ⟨by rfl, ?hg3_8⟩) ?_
          case hg3_8 => intro w hSw; (try dsimp only at hSw); go_simp; (try with_reducible rfl)
          try simp only [Act.put, List.setIfInBounds_toArray, List.set_cons_zero, List.set_cons_succ]
          refine wpAnyG_step (i := 9) (oi := { dst := some 108, op := Go.Op.call { callee := Go.Callee.value (Go.Operand.func 40), args := #[Go.Operand.tmp 103, Go.Operand.tmp 107], argTypes := #[68, 3] }, type := 74, pos := "ref.go:88", after := #[{ on := 4, ground := Go.Ground.data }, { on := 8, ground := Go.Ground.data }], guard := none }) rfl (by kernel_rfl) (by rfl) (fun K hK => ?_)
          go_simp
          go_at_call 40
          refine (HBd.out _ ((Keep.refl [] _).drew)).mono ?_
          rintro e w3b ⟨AOb, rfl, hk3, A4b, c4b, w4b, hap, hre⟩
          have Hk3b := Lib.hid hk3
          have Hapb := Lib.hid hap
          have HREb := Lib.hid hre
          clear hk3 hap hre
          refine hK _ _ ?_ (fun hSg3_9 => ?_)
          · intro _; exact HSD.out _ Hk3b.out
          replace hSg3_9 := hSg3_9 (by kernel_rfl)
          clear hK
          try simp only [Act.put, List.setIfInBounds_toArray, List.set_cons_zero, List.set_cons_succ]
          refine wpAnyG_step (i := 10) (oi := { dst := some 109, op := Go.Op.call { callee := Go.Callee.builtin Go.Builtin.append, args := #[Go.Operand.tmp 99, Go.Operand.tmp 108], argTypes := #[74, 74] }, type := 74, pos := "ref.go:88", after := #[{ on := 0, ground := Go.Ground.data }, { on := 9, ground := Go.Ground.data }, { on := 9, ground := Go.Ground.chain }], guard := none }) rfl (by kernel_rfl) (by rfl) (fun K hK => ?_)
          have hap := Hapb.out
          refine wp_append2 (v1 := .slice A4 n4 c4) (v2 := .slice AOb M M) (.tmp 99) (.tmp 108) rfl rfl rfl hap ?_
          refine hK _ _ (fun h => absurd h (Bool.eq_false_iff.1 (by kernel_rfl))) (fun _ => ?_)
          clear hK
          try simp only [Act.put, List.setIfInBounds_toArray, List.set_cons_zero, List.set_cons_succ]
          refine wpAnyG_step (i := 11) (oi := { dst := some 17, op := Go.Op.assign (Go.Operand.tmp 109), type := 74, pos := "ref.go:88", after := #[{ on := 10, ground := Go.Ground.data }, { on := 10, ground := Go.Ground.chain }, { on := 0, ground := Go.Ground.phase }, { on := 1, ground := Go.Ground.phase }, { on := 2, ground := Go.Ground.phase }, { on := 3, ground := Go.Ground.phase }, { on := 4, ground := Go.Ground.phase }, { on := 5, ground := Go.Ground.phase }, { on := 6, ground := Go.Ground.phase }, { on := 7, ground := Go.Ground.phase }, { on := 8, ground := Go.Ground.phase }, { on := 9, ground := Go.Ground.phase }, { on := 10, ground := Go.Ground.phase }], guard := none }) rfl (by kernel_rfl) (by rfl) (fun K hK => ?_)
          go_simp
          refine hK _ _ (fun h => absurd h (Bool.eq_false_iff.1 (by kernel_rfl))) (fun _ => ?_)
          clear hK
          try simp only [Act.put, List.setIfInBounds_toArray, List.set_cons_zero, List.set_cons_succ]
          refine wpAnyG_done (by kernel_rfl) ?_ _
          have e2 := (HTok.out _ HREb.out.kp).1
          have HBe := Lib.hid (fun w0 k0 => HREb.out.bits (cv := dn) (L := r) (by omega) (by have h8 := Hr.out; have h9 := log_le hdn4; omega) (by have h8 := Hbn.out; rw [List.length_append, bitsK_len, List.length_append, bitsK_len]; omega) w0 k0)
          generalize hn5 : n4 + M = n5 at *
          have hl5 : (B ++ bitsK cv L ++ bitsK cw M).length = n5 := by rw [List.length_append, bitsK_len, Hl4.out, hn5]
          rw [hl5] at HBe
          have HB2 : Hid (B2 = B ++ bitsK cv L ++ bitsK cw M ++ bitsK dn r) := Lib.hid (by rw [Hst.out.1, Hnb.out, Hst.out.2.1, Hsd.out]; simp)
          have HN2 : Hid (n5 + r = B2.length) := Lib.hid (by rw [HB2.out, List.length_append, bitsK_len, hl5])
          have hn2 : n5 + r ≤ 1000000 := by rw [HN2.out]; exact Hst.out.2.2
          clear hn5 hl5
          go_wp2_with (first
            | (go_at_call 40; refine (HBe.out _ (Keep.refl [] _)).mono ?_; rintro e w6 ⟨AOe, rfl, hk6, A6, c6, w7, hap, hre⟩; have HREe := Lib.hid hre; clear hre hk6)
            | (at_builtin; refine wpList_append2 (v1 := .slice A4b n5 c4b) (v2 := .slice AOe r r) rfl (.tmp 110) (.tmp 118) rfl rfl rfl hap ?_))
          go_roundw
          case rel => exact ⟨k + 1, n5 + r, A6, c6, by simp, by omega, rfl, hn2, Lib.hid ⟨by rw [HB2e.out, HN2.out], by rw [HB2e.out, HB2.out]; exact HREe.out⟩⟩
          case measure => simp [intOf]; omega
    · obtain rfl : k = l.length := by omega
      have hkli : ¬ (l.length : Int) < l.length := by omega
      obtain ⟨hnn, hR⟩ := hI.out
      rw [List.take_length] at hnn hR
      have HPk := Lib.hid (rpack_any (tokB la lb l) A2 c2 _ wr hR.own (by omega))
      rw [← hnn] at HPk
      have hpl := pack_len_le (tokB la lb l)
      have hpl2 : (pack (tokB la lb l)).length ≤ 1000000 := by omega
      have HR := Lib.hid hR
      have hn9 : n9 = hd.length := HN9.out
      have HPP := Lib.hid (show packP l = hd ++ pack (tokB la lb l) from HP.out)
      clear hI hnn hR hpl HTB HP
      generalize pack (tokB la lb l) = pk at *
      have HN := Lib.hid hn9
      clear hn9
      go_wp2_with (first
        | (go_at_call 42; refine HPk.out.mono ?_; rintro e w2 ⟨AP, cP, rfl, h6, k6⟩; have hh := ownsRow_keep HR.out.hdr k6 (by simp); rw [← HN.out] at hh; obtain ⟨A', c', w', k', hk', hap, hown, hkp⟩ := bytes_app' (d := cP) hh (Src.of_own h6) (by omega) (by omega) (HR.out.kp.trans k6).size; have HF := Lib.hid (And.intro hk' (And.intro hown ((HR.out.kp.trans k6).step hkp (fun j hj => .inr (own_far hh j hj))))); clear hh hk' hown hkp h6 k6)
        | (at_builtin; refine wpList_append2 (v1 := .slice A9 n9 c9) (v2 := .slice AP pk.length cP) rfl (.tmp 120) (.tmp 122) rfl rfl rfl hap ?_))
      go_ret2
      have hlen : k' = (packP l).length := by rw [HF.out.1, HPP.out, List.length_append, HN.out]
      refine ⟨_, _, by rw [hlen]; rfl, ?_, HF.out.2.2⟩
      rw [← hlen, HPP.out]
      exact HF.out.2.1
end Go.Proofs.Ytiejjbdmkgdniaa
