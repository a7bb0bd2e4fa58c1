/- Unpack. -/
import Derived.Test.YtdnaahbhfjclpaaGreatDoorXj
import Derived.Test.YtdnaahbhfjclpaaGreatDoorW3
import Derived.Test.YtdnaahbhfjclpaaGreatDoorWz
import Derived.Test.YtdnaahbhfjclpaaGreatDoorShelf
set_option linter.unusedVariables false
set_option linter.unusedSimpArgs false
namespace Go.Pck
open Go.Cod
def hdP (c : List Nat) : List Nat := hdB c.length (encP c).length (shaP c)
def sumP (c : List Nat) : Nat := crcL 0 [hdP c, encP c]
def blkB (c : List Nat) : List Nat := hdP c ++ bytP 2 4 (sumP c) ++ encP c ++ List.replicate (512 * blksP (encP c).length - (44 + (encP c).length)) 0
theorem hdB_len {r k : Nat} {d : List Nat} (h : d.length = 32) : (hdB r k d).length = 40 := by simp [hdB, bytP_len, h]
theorem hdP_len (c : List Nat) : (hdP c).length = 40 := hdB_len (shaP_len c)
theorem hdB_lt {r k : Nat} {d : List Nat} (h : ∀ x ∈ d, x < 256) : ∀ x ∈ hdB r k d, x < 256 := by
  intro x hx
  unfold hdB at hx
  rcases List.mem_append.1 hx with hx | hx
  · rcases List.mem_append.1 hx with hx | hx
    · rcases List.mem_append.1 hx with hx | hx
      · simp at hx; omega
      · exact bytP_lt _ _ _ x hx
    · exact bytP_lt _ _ _ x hx
  · exact h x hx
theorem crcL_lt : ∀ (L : List (List Nat)) (s : Nat), s < 4294967296 → crcL s L < 4294967296
  | [], s, h => h
  | l :: L, s, h => crcL_lt L _ (crcA_lt s l)
theorem sumP_lt (c : List Nat) : sumP c < 4294967296 := crcL_lt _ _ (by omega)
end Go.Pck
namespace Go.Proofs.YtdnaahbhfjclpaaGreatDoor
open Go.RowKit Go.Sal Go.Pck Go.Huf Go.Cod
theorem built58f (r k : Nat) (f : Nat → Nat) : Tryz.prog.built 58 [(0, .int .i64 (r : Int)), (1, .int .i64 (k : Int)), (2, .agg (inB ((List.range 32).map f)).toArray)] = some (headC r k ((List.range 32).map f)).toArray := by kernel_rfl
theorem built58d (r k : Nat) (d : List Nat) (hd : d.length = 32) : Tryz.prog.built 58 [(0, .int .i64 (r : Int)), (1, .int .i64 (k : Int)), (2, .agg (inB d).toArray)] = some (headC r k d).toArray := by
  have e : d = (List.range 32).map fun i => d.getD i 0 := by
    apply List.ext_getElem (by simp [hd])
    intro i h1 h2
    simp [List.getD, h1]
  generalize (fun i => d.getD i 0) = f at e
  subst e
  exact built58f r k f
theorem own_weaken {w : World} {base base2 n size : Nat} {e : TypeId} {v : Value} {xs : List Value} (h : w.ownsRow base e size v n xs) (hb : base2 ≤ base) : w.ownsRow base2 e size v n xs := by
  refine ⟨h.1, ?_⟩
  rcases h.2 with h0 | ⟨g, cap, cur, h1, h2, h3⟩
  · exact .inl h0
  · exact .inr ⟨g, cap, cur, h1, by omega, h3⟩
theorem rows2 {w : World} {g : Nat} {A B : Option Addr} {l m : List Nat} {c d : Nat} (hb : Blk w g 22 #[.slice A l.length c, .slice B m.length d]) (hA : BySrc w A l) (hB : BySrc w B m) (h1 : l.length ≤ 1000000) (h2 : m.length ≤ 1000000) : RowsAt w g [(A, l, c), (B, m, d)] := fun i hi => by
  match i, hi with
  | 0, _ => exact ⟨by rw [hb.cell]; rfl, hA, h1⟩
  | 1, _ => exact ⟨by rw [hb.cell]; rfl, hB, h2⟩
theorem rows1 {w : World} {g : Nat} {A : Option Addr} {l : List Nat} {c : Nat} (hb : Blk w g 22 #[.slice A l.length c]) (hA : BySrc w A l) (h1 : l.length ≤ 1000000) : RowsAt w g [(A, l, c)] := fun i hi => by
  match i, hi with
  | 0, _ => exact ⟨by rw [hb.cell]; rfl, hA, h1⟩
theorem OwB.zeros {w wr : World} {A : Option Addr} {c n : Nat} {l : List Nat} (h : OwB w A c l wr) (tn : TypeId) (kn : IntKind) (htn : Tryz.prog.underlying tn = some (.int kn)) (hn : n = l.length) (k : Nat) (hk : n + k ≤ 1000000) :
    ∃ A' c' w' m, m = (l ++ List.replicate k 0).length ∧ (Builtin.append_ #[22, tn] 22 #[.slice A n c, .int kn k]).run Tryz.prog wr = .ok (.slice A' m c') w' ∧ OwB w A' c' (l ++ List.replicate k 0) w' := by
  subst hn
  obtain ⟨A', c', w', m, hm, hrun, ho, hkp⟩ := zeros_app tn kn htn h.1 k hk h.2.size
  have e := own_b ho
  exact ⟨A', c', w', m, e, hrun, by rw [← e]; exact ho, h.2.step hkp (fun i hi => .inr (own_far h.1 i hi))⟩
set_option maxRecDepth 20000 in
set_option maxHeartbeats 1000000 in
theorem pbytes_any (c : List Nat) (AB : Option Addr) (cB : Nat) (w : World) (hs : BySrc w AB c) (hc : c.length ≤ cB) (hA : ∀ a, AB = some a → a.block < w.heap.size) (h1 : 1 ≤ c.length) (hl : c.length ≤ 2000) :
    Calls Tryz.prog 13 #[.slice AB c.length cB] w fun e w' => RowBE w (blkB c) 0 e w' := by
  have n1 : ¬ (c.length : Int) < 1 := by omega
  have n2 : ¬ (4096 : Int) < (c.length : Int) := by omega
  have HE := Lib.hid (encode_any c AB cB w hs hc (by omega))
  have hel := enc_len (b := c) (by omega)
  have helt := enc_lt hs.2 (by omega)
  have HH := Lib.hid (And.intro hs (And.intro hA (And.intro hel (And.intro helt hl))))
  have z := zero58
  have hZC : ((headC 0 0 (List.replicate 32 0)).toArray).size = 34 := rfl
  generalize (headC 0 0 (List.replicate 32 0)).toArray = ZC at *
  clear hs hc hA hel helt h1
  go_enter Tryz.func13, Tryz.ntmps13
  go_upto_region 6 with (go_at_call 35; refine HE.out.mono ?_; rintro e w1 ⟨A1, c1, rfl, ho1, hk1⟩; have H1 := Lib.hid (And.intro ho1 hk1); clear ho1 hk1)
  obtain ⟨w2, hw2⟩ : ∃ w2, w1.alloc (.cells #[.slice AB c.length cB] 22) = w2 := ⟨_, rfl⟩
  refine wp_region_lit ?_
  iterate 6 (refine wpList_plain rfl (fun K hK => ?_); go_simp; refine hK _ _ ?_; clear hK K)
  obtain ⟨gR, hgR⟩ : ∃ gR, gR = w1.heap.size := ⟨_, rfl⟩
  have H2 : Hid (Keep [] w w2 ∧ OwB w A1 c1 (encP c) w2 ∧ BySrc w2 AB c ∧ Blk w2 gR 22 #[.slice AB c.length cB] ∧ gR < w2.heap.size) := Lib.hid (by
    have k2 : Keep [] w1 w2 := by rw [← hw2]; exact (Keep.refl _ w1).alloc _
    have hb : Blk w2 gR 22 #[.slice AB c.length cB] := by rw [← hw2, hgR]; exact Blk.new w1 22 _
    exact ⟨H1.out.2.trans k2, ⟨ownsRow_keep H1.out.1 k2 (by simp), H1.out.2.trans k2⟩, HH.out.1.keep (H1.out.2.trans k2) (fun a _ => by simp), hb, hb.lt⟩)
  have HS : Hid (Calls Tryz.prog 21 #[.slice (some ⟨gR, 0, none⟩) 1 1] w2 fun e w' => e = .returned (.agg (inB (shaP c)).toArray) ∧ Keep [] w2 w') := Lib.hid (by
    obtain ⟨q1, q2, q3, q4, q5⟩ := H2.out
    have h := sum_any [(AB, c, cB)] gR 1 1 w2 rfl (by omega) (rows1 q4 q3 (by omega)) q5 (fun r hr a ha => by
      simp at hr
      subst hr
      exact Nat.lt_of_lt_of_le (HH.out.2.1 a ha) q1.size) (by simp [allR]; omega)
    have e : allR [(AB, c, cB)] = c := by simp [allR]
    rw [e] at h
    exact h)
  have Hw2 := Lib.hid hw2
  rw [← hgR]
  clear hw2 H1 HE
  obtain ⟨CL, hCL⟩ : ∃ CL, CL = headC c.length (encP c).length (shaP c) := ⟨_, rfl⟩
  have hb58 := built58d c.length (encP c).length (shaP c) (shaP_len c)
  rw [← hCL] at hb58
  have hC34 : CL.toArray.size = 34 := by rw [List.size_toArray, hCL, headC_len (shaP_len c)]
  have hoC : CL.toArray.all (·.oneCell') = true := by rw [hCL]; exact all_oneCell_toArray (headC_one _ _ _)
  have HCL := Lib.hid hCL
  have HgR := Lib.hid hgR
  clear hCL hgR
  generalize (inB (shaP c)).toArray = D at *
  generalize hlen : c.length = lc at *
  generalize hen : (encP c).length = le at *
  have Hlen := Lib.hid (And.intro hlen hen)
  clear hlen hen
  refine wpList_plain rfl (fun K hK => ?_)
  go_simp
  go_at_call 21
  refine HS.out.mono ?_
  rintro e w3 ⟨rfl, hk3⟩
  have H3 := Lib.hid (H2.out.1.trans hk3)
  have H3b := Lib.hid hk3
  refine hK _ _ ?_
  clear hK K hk3 HS
  refine wpList_buildTo rfl 58 _ rfl (some 33) rfl CL.toArray (by simp only [List.map_toArray, List.map_cons, List.map_nil]; exact hb58) ?_
  refine wpList_plain rfl (fun K hK => ?_)
  go_simp
  refine hK _ _ ?_
  clear hK K
  refine wpList_store_rowTo rfl 58 (.tmp 6) (.tmp 33) rfl rfl w3.heap.size CL.toArray rfl rfl 58 ZC (heap_alloc_last w3 _) (by rw [hC34]; exact size58) (by rw [hC34]; exact hZC) hoC ?_
  rw [World.setRow_alloc_new]
  obtain ⟨h, hh⟩ : ∃ h, h = w3.heap.size := ⟨_, rfl⟩
  obtain ⟨w4, hw4⟩ : ∃ w4, w3.alloc (.cells CL.toArray 58) = w4 := ⟨_, rfl⟩
  rw [hw4, ← hh]
  have H4 : Hid (Keep [] w w4 ∧ Keep [] w2 w4 ∧ Blk w4 h 58 CL.toArray) := Lib.hid (by
    have k4 : Keep [] w3 w4 := by rw [← hw4]; exact (Keep.refl _ w3).alloc _
    exact ⟨H3.out.trans k4, H3b.out.trans k4, by rw [← hw4, hh]; exact Blk.new w3 58 _⟩)
  clear hw4 hh H3 H3b hb58
  have HB : Hid (Calls Tryz.prog 28 #[.agg CL.toArray] w4 fun e w' => RowB w4 (hdP c) e w') := Lib.hid (by
    have := hbytes_any c.length (encP c).length (shaP c) w4 (by have := HH.out.2.2.2.2; have := Hlen.out; omega) (by have := HH.out.2.2.1; have := HH.out.2.2.2.2; have := Hlen.out; omega) (shaP_len c) (shaP_lt c)
    have e : headC c.length (encP c).length (shaP c) = CL := by rw [HCL.out, Hlen.out.1, Hlen.out.2]
    rw [e] at this
    exact this)
  have hr7 := H4.out.2.2
  go_upto_region 7 with (fail)
  refine wp_region_lit ?_
  refine wpList_load_row rfl 58 (.tmp 6) rfl h rfl 58 CL.toArray (0, 0) _ hr7 Tryz.underlying58 rfl (by rw [hC34]; exact size58) ?_
  refine wpList_plain rfl (fun K hK => ?_)
  go_simp
  go_at_call 28
  refine HB.out.mono ?_
  rintro e w5 hq
  obtain ⟨A5, c5, rfl, ho5⟩ := rowB_own hq
  have H5 := Lib.hid ho5
  refine hK _ _ ?_
  clear hK K hq ho5 HB hr7
  have hl40 := hdP_len c
  rw [hl40]
  go_upto_region 8 with (fail)
  obtain ⟨w6, hw6⟩ : ∃ w6, w5.alloc (.cells #[.slice A5 40 c5, .slice A1 le c1] 22) = w6 := ⟨_, rfl⟩
  refine wp_region_lit ?_
  iterate 3 (refine wpList_plain rfl (fun K hK => ?_); go_simp; refine hK _ _ ?_; clear hK K)
  obtain ⟨g6, hg6⟩ : ∃ g6, g6 = w5.heap.size := ⟨_, rfl⟩
  have H6 : Hid (Keep [] w5 w6 ∧ OwB w4 A5 c5 (hdP c) w6 ∧ OwB w A1 c1 (encP c) w6 ∧ Blk w6 g6 22 #[.slice A5 (hdP c).length c5, .slice A1 (encP c).length c1]) := Lib.hid (by
    have k6 : Keep [] w5 w6 := by rw [← hw6]; exact (Keep.refl _ w5).alloc _
    refine ⟨k6, H5.out.keep k6, H2.out.2.1.keep (H4.out.2.1.trans (H5.out.2.trans k6)), ?_⟩
    rw [hl40, Hlen.out.2, ← hw6, hg6]
    exact Blk.new w5 22 _)
  have HOf : Hid (Calls Tryz.prog 27 #[.slice (some ⟨g6, 0, none⟩) 2 2] w6 fun e w' => e = .returned (.int .u32 (sumP c : Nat)) ∧ w' = w6) := Lib.hid (by
    obtain ⟨q1, q2, q3, q4⟩ := H6.out
    exact of_any [(A5, hdP c, c5), (A1, encP c, c1)] g6 2 2 w6 rfl (by omega) (rows2 q4 (q2.src (hdB_lt (shaP_lt c))) (q3.src HH.out.2.2.2.1) (by rw [hl40]; omega) (by have := HH.out.2.2.1; have := HH.out.2.2.2.2; have := Hlen.out; omega)) q4.lt)
  rw [← hg6]
  clear hw6 hg6
  have hwu : IntKind.u64.wrap ((sumP c : Nat) : Int) = ((sumP c : Nat) : Int) := by rw [IntKind.wrap_u64]; have := sumP_lt c; omega
  have HBy : Hid (∀ w, Calls Tryz.prog 36 #[.int .u64 (sumP c : Nat), .int .i64 32, .int .i64 2] w fun e w' => ∃ A c', e = .returned (.tuple #[.slice A 4 c', .int .i64 0]) ∧ OwB w A c' (bytP 2 4 (sumP c)) w') := Lib.hid (fun W => by
    have h4 : (bytP 2 4 (sumP c)).length = 4 := bytP_len _ _ _
    refine (bytes_any (sumP c) 4 2 (by have := sumP_lt c; omega) (by unfold okB; omega) (.inr rfl) W).mono ?_
    rintro e w' ⟨A, c', rfl, ho, hk⟩
    exact ⟨A, c', rfl, by rw [h4]; exact ho, hk⟩)
  have HN : Hid (blkB c = hdP c ++ bytP 2 4 (sumP c) ++ encP c ++ List.replicate (512 * blksP (encP c).length - (44 + (encP c).length)) 0) := Lib.hid rfl
  go_upto_region 9 with (first
    | (go_at_call 27; refine HOf.out.mono ?_; rintro e w6' ⟨rfl, hww⟩; subst hww)
    | (go_at_call 36; refine (HBy.out _).mono ?_; rintro e w7 ⟨A7, c7, rfl, ho7⟩; have H7 := Lib.hid ho7; clear ho7))
  have hb4 : (bytP 2 4 (sumP c)).length = 4 := bytP_len _ _ _
  obtain ⟨A8, c8, w8, k8, hk8, hrun8, ho8, hkp8, hkb8⟩ := (H6.out.2.1.keep H7.out.2).app (d := c7) (H7.out.src (bytP_lt _ _ _)) hl40.symm (by rw [hl40]; omega) (by rw [hb4]; omega)
  rw [hb4] at hrun8
  have hle : le ≤ 3000 := by have := HH.out.2.2.1; have := HH.out.2.2.2.2; omega
  have hkk8 : Keep [] w2 w8 := H4.out.2.1.trans ho8.2
  obtain ⟨A9, c9, w9, k9, hk9, hrun9, ho9, -, hkb9⟩ := ho8.app (d := c1) (n := k8) ((H2.out.2.1.keep hkk8).src HH.out.2.2.2.1) hk8 (by rw [← hk8, hk8, List.length_append, hl40, hb4]; omega) (by rw [Hlen.out.2]; omega)
  rw [Hlen.out.2] at hrun9
  have hk9' : k9 = 44 + le := by rw [hk9, List.length_append, List.length_append, hl40, hb4, Hlen.out.2]
  obtain ⟨n, hn⟩ : ∃ n, n = blksP le := ⟨_, rfl⟩
  obtain ⟨q, hq⟩ : ∃ q, q = 512 * n - k9 := ⟨_, rfl⟩
  obtain ⟨m5, hm5⟩ : ∃ m5, m5 = n * 512 := ⟨_, rfl⟩
  have hnb : n ≤ 10 ∧ k9 ≤ 512 * n := by rw [hn, hk9']; unfold blksP; omega
  have e1 : IntKind.i64.wrap ((n : Int) * 512) = (m5 : Int) := by rw [IntKind.wrap_i64]; omega
  have e2 : IntKind.i64.wrap ((m5 : Int) - (k9 : Int)) = (q : Int) := by rw [IntKind.wrap_i64]; omega
  have hr10 : Blk w9 h 58 CL.toArray := by
    have h5 := H4.out.2.2.keep (H5.out.2.trans (H6.out.1.trans H7.out.2)) (by simp)
    exact hkb9 _ _ _ (hkb8 _ _ _ h5 (by decide)) (by decide)
  have HBl : Hid (Calls Tryz.prog 24 #[.agg CL.toArray] w9 fun e w' => e = .returned (.int .i64 n) ∧ Keep [] w9 w') := Lib.hid (by
    have := blocks_any c.length (encP c).length (shaP c) w9 (by rw [Hlen.out.2]; omega)
    have e : headC c.length (encP c).length (shaP c) = CL := by rw [HCL.out, Hlen.out.1, Hlen.out.2]
    rw [e, Hlen.out.2, ← hn] at this
    exact this)
  have HZ : Hid (∀ w10, Keep [] w9 w10 → ∃ A' c' w' m, m = (blkB c).length ∧ (Builtin.append_ #[22, 3] 22 #[.slice A9 k9 c9, .int .i64 q]).run Tryz.prog w10 = .ok (.slice A' m c') w' ∧ w'.ownsRow w.heap.size 5 1 (.slice A' m c') m (inB (blkB c)) ∧ Keep [] w w') := Lib.hid (fun w10 k10 => by
    obtain ⟨A', c', w', m, hm, hrun, ho⟩ := (ho9.keep k10).zeros 3 .i64 Tryz.underlying3 hk9 q (by omega)
    have e : hdP c ++ bytP 2 4 (sumP c) ++ encP c ++ List.replicate q 0 = blkB c := by rw [HN.out, hq, hn, hk9', Hlen.out.2]
    rw [e] at hm ho
    refine ⟨A', c', w', m, hm, hrun, ?_, H4.out.1.trans ho.2⟩
    rw [hm]
    exact own_weaken ho.1 H4.out.1.size)
  have Hq := Lib.hid (And.intro hq (And.intro hn hm5))
  clear hk8 ho8 hkp8 hkb8 hkk8 hk9 ho9 hkb9 hk9' hn hq hm5 hb4 H2 H4 H5 H6 H7 HOf HBy HN hnb hle hl40 hwu
  go_upto_region 10 with (first
    | (at_builtin; refine wpList_append2 (v1 := .slice A5 40 c5) (v2 := .slice A7 4 c7) rfl (.tmp 45) (.tmp 46) rfl rfl rfl hrun8 ?_)
    | (at_builtin; refine wpList_append2 (v1 := .slice A8 k8 c8) (v2 := .slice A1 le c1) rfl (.tmp 47) (.tmp 48) rfl rfl rfl hrun9 ?_))
  refine wp_region_lit ?_
  refine wpList_plain rfl (fun K hK => ?_)
  go_simp
  refine hK _ _ ?_
  clear hK K
  refine wpList_load_row rfl 58 (.tmp 6) rfl h rfl 58 CL.toArray (0, 0) _ hr10 Tryz.underlying58 rfl (by rw [hC34]; exact size58) ?_
  refine wpList_plain rfl (fun K hK => ?_)
  go_simp
  go_at_call 24
  refine HBl.out.mono ?_
  rintro e w10 ⟨rfl, hk10⟩
  obtain ⟨A11, c11, w11, m11, hm11, hrun11, ho11, hkp11⟩ := HZ.out w10 hk10
  have H11 := Lib.hid (And.intro hm11 (And.intro ho11 hkp11))
  refine hK _ _ ?_
  clear hK K HZ HBl hrun8 hrun9 hr10 hk10 hm11 ho11 hkp11
  go_wp2_with (at_builtin; refine wpList_append2 (v1 := .slice A9 k9 c9) (v2 := .int .i64 q) rfl (.tmp 50) (.tmp 56) rfl rfl rfl hrun11 ?_)
  go_ret2
  obtain ⟨rfl, ho, hk⟩ := H11.out
  exact ⟨A11, c11, rfl, ho, hk⟩
end Go.Proofs.YtdnaahbhfjclpaaGreatDoor

namespace Go.Proofs.YtdnaahbhfjclpaaGreatDoor
open Go.RowKit Go.Sal Go.Huf Go.Cod
set_option maxRecDepth 20000 in
set_option maxHeartbeats 1000000 in
theorem unpack_any (bl : List Nat) (AB : Option Addr) (cB : Nat) (w : World) (hs : BySrc w AB bl) (hc : bl.length ≤ cB) (hA : ∀ a, AB = some a → a.block < w.heap.size) (hl : bl.length ≤ 2400) :
    Calls Tryz.prog 57 #[.slice AB bl.length cB] w fun e w' => RowT w (unpT bl) (unpE bl) e w' := by
  have hmf : ∀ (fn : Fn) (first cap : Array Value) (w : World), (Instr.makeFunc fn first cap).run Tryz.prog w = .ok (.func fn first cap) w := fun _ _ _ _ => rfl
  have hle : ¬ (bl.length : Int) > 262144 := by omega
  have hleb : decide ((bl.length : Int) > 262144) = false := decide_eq_false hle
  have hlen : ¬ 262144 < bl.length := by omega
  have H4 : Hid (UpS w bl 0 [] none 0 0 (((w.alloc (.cells #[.slice none 0 0] 96)).alloc (.cells #[.int .i64 0] 24)).alloc (.cells #[.slice AB bl.length cB, .int .i64 0] 137))) := by
    have k1 : Keep [] w (w.alloc (.cells #[.slice none 0 0] 96)) := (Keep.refl [] w).alloc _
    have k2 : Keep [] w ((w.alloc (.cells #[.slice none 0 0] 96)).alloc (.cells #[.int .i64 0] 24)) := k1.alloc _
    have k3 : Keep [] w (((w.alloc (.cells #[.slice none 0 0] 96)).alloc (.cells #[.int .i64 0] 24)).alloc (.cells #[.slice AB bl.length cB, .int .i64 0] 137)) := k2.alloc _
    have b1 := ((Blk.new w 96 #[.slice none 0 0]).alloc (.cells #[.int .i64 0] 24)).alloc (.cells #[.slice AB bl.length cB, .int .i64 0] 137)
    have b2 := (Blk.new (w.alloc (.cells #[.slice none 0 0] 96)) 24 #[.int .i64 0]).alloc (.cells #[.slice AB bl.length cB, .int .i64 0] 137)
    have b3 := Blk.new ((w.alloc (.cells #[.slice none 0 0] 96)).alloc (.cells #[.int .i64 0] 24)) 137 #[.slice AB bl.length cB, .int .i64 0]
    simp at b2 b3
    exact Lib.hid ⟨b1, b2, World.ownsRow_nil _ _ _ _, ⟨AB, cB, b3, hs.keep k3 (by simp), hc, fun a ha => by have := hA a ha; omega⟩, k3⟩
  have Hs := Lib.hid hs
  clear hs hA hc
  go_enter_defers Tryz.func57, Tryz.ntmps57
  go_upto_region 5 with fail
  generalize (((w.alloc (.cells #[.slice none 0 0] 96)).alloc (.cells #[.int .i64 0] 24)).alloc (.cells #[.slice AB bl.length cB, .int .i64 0] 137)) = W4 at *
  have HL := Lib.hid (lengths_left 137 (w.heap.size + 2) 511 bl 0 W4 H4.out.left (by decide) (by omega) (by omega))
  cases hla : lenP 511 bl with
  | none =>
    rw [hla] at HL
    have HR := Lib.hid (unp_none hl (by unfold readP; rw [hla]))
    clear hla
    go_wp2_with (go_at_call 91; refine HL.out.mono ?_; rintro e w' ⟨rfl, hk⟩; have Hk := Lib.hid hk; clear hk)
    refine UpS.dies H4.out Hk.out ?_ ?_ HR.out.1 HR.out.2 <;> rfl
  | some p1 =>
    obtain ⟨la, b1⟩ := p1
    rw [hla] at HL
    obtain ⟨hoa, hla5, hb1, hm1⟩ := lenP_ok hla
    have HBk := Lib.hid (fun (A : Option Addr) (c : Nat) (w : World) (hs : ISrc w A la) => book_any la A c w hs hoa)
    have HP1 := Lib.hid (And.intro hla (And.intro hla5 hm1))
    clear hla hla5 hm1 hoa
    go_upto_region 6 with (first
      | (go_at_call 91; refine HL.out.mono ?_; rintro e w5 ⟨A5, c5, rfl, hown5, hlf5, hk5⟩; have H5 := Lib.hid (And.intro (H4.out.next hlf5 hk5) hk5.size); have Ho5 := Lib.hid (ISrc.of_own hown5); clear hown5 hlf5 hk5)
      | (go_at_call 90; refine (HBk.out _ _ _ Ho5.out).mono ?_; rintro e w6 ⟨g1, rfl, hg1, hbk1, hk6⟩; have H6 := Lib.hid (And.intro (H5.out.1.next (H5.out.1.left.keep0 hk6) (hk6.mono (by simp))) (And.intro hbk1 hg1)); clear hbk1 hg1 hk6))
    clear HL HBk
    have HL := Lib.hid (lengths_left 137 (w.heap.size + 2) 13 b1 0 w6 H6.out.1.left (by decide) (by omega) (by omega))
    cases hlb : lenP 13 b1 with
    | none =>
      rw [hlb] at HL
      have HR := Lib.hid (unp_none hl (by unfold readP; rw [HP1.out.1]; simp only; rw [hlb]))
      clear hlb
      go_wp2_with (go_at_call 91; refine HL.out.mono ?_; rintro e w' ⟨rfl, hk⟩; have Hk := Lib.hid hk; clear hk)
      refine UpS.dies H6.out.1 Hk.out ?_ ?_ HR.out.1 HR.out.2 <;> rfl
    | some p2 =>
      obtain ⟨lb, b2⟩ := p2
      rw [hlb] at HL
      obtain ⟨hob, hlb5, hb2, hm2⟩ := lenP_ok hlb
      have HBk := Lib.hid (fun (A : Option Addr) (c : Nat) (w : World) (hs : ISrc w A lb) => book_any lb A c w hs hob)
      have HP2 := Lib.hid (And.intro hlb (And.intro hlb5 hm2))
      clear hlb hlb5 hm2 hob
      have Hg1 : Hid (w.heap.size + 2 < g1) := Lib.hid (by
        have h1 := H6.out.2.2
        have h2 := H5.out.1.left.lt
        omega)
      go_upto_region 7 with (first
        | (go_at_call 91; refine HL.out.mono ?_; rintro e w7 ⟨A7, c7, rfl, hown7, hlf7, hk7⟩; have H7 := Lib.hid (And.intro (H6.out.1.next hlf7 hk7) (And.intro (H6.out.2.1.keep hk7 (by have := Hg1.out; simp; omega)) hk7.size)); have Ho7 := Lib.hid (ISrc.of_own hown7); clear hown7 hlf7 hk7)
        | (go_at_call 90; refine (HBk.out _ _ _ Ho7.out).mono ?_; rintro e w8 ⟨g2, rfl, hg2, hbk2, hk8⟩; have H8 : Hid (UpB w b2 0 [] none 0 0 g1 g2 la lb w8) := Lib.hid ⟨H7.out.1.next (H7.out.1.left.keep0 hk8) (hk8.mono (by simp)), H7.out.2.1.keep hk8 (by simp), hbk2, Hg1.out, by have h2 := H7.out.1.left.lt; omega⟩; clear hbk2 hg2 hk8))
      clear HL HBk H4 H5 H6 H7 Ho5 Ho7 Hg1
      by_cases hv : ∃ x u, rdV 0 b2 = some (x, u) ∧ x ≤ 65536
      · obtain ⟨x, u, hr, hx⟩ := hv
        have HV := Lib.hid (varint_ok 137 (w.heap.size + 2) b2 0 65536 x u w8 H8.out.up.left (by omega) (by omega) hr hx)
        have HP : Hid (readP bl = toksF la lb (b2.drop u) x 0) := Lib.hid (by
          unfold readP
          rw [HP1.out.1]
          simp only
          rw [HP2.out.1]
          simp only
          rw [hr]
          simp only
          rw [if_neg (by omega)])
        have hb3 : (b2.drop u).length ≤ 2400 := by rw [List.length_drop]; omega
        obtain ⟨b3, hb3e⟩ : ∃ b3, b2.drop u = b3 := ⟨_, rfl⟩
        rw [hb3e] at HV HP hb3
        clear hr hb3e
        go_wp2_with (go_at_call 88; refine HV.out.mono ?_; rintro e w9 ⟨rfl, hlf, hk⟩; have H9 := Lib.hid (H8.out.next hlf hk); clear hlf hk)
        clear HV H8
        go_loopw [31] (fun v31 wr => ∃ i : Nat, v31 = .int .i64 i ∧ i ≤ x ∧ Hid (∃ tl A n c a, UpB w b3 a tl A n c g1 g2 la lb wr ∧ tl.length = i ∧ n = i ∧ readP bl = (toksF la lb b3 (x - i) a).map (tl ++ ·) ∧ a ≤ 8 * b3.length ∧ i ≤ a ∧ ∀ t ∈ tl, bdT t)) (fun v31 _ => x - (intOf v31).toNat)
        case atStart => exact ⟨0, rfl, by omega, Lib.hid ⟨[], none, 0, 0, 0, H9.out, rfl, rfl, by rw [HP.out]; simp, by omega, by omega, by simp⟩⟩
        case round =>
          obtain ⟨i, rfl, hi, hI⟩ := hrel
          clear H9
          obtain ⟨tl, A, n, c, a, hU, hln, rfl, hR, ha8, hia, hlit⟩ := hI.out
          clear hI
          rcases Nat.lt_or_ge n x with hix | hix
          · have hixi : (n : Int) < x := by omega
            have hwn : IntKind.i64.wrap ((n : Int) + 1) = (n : Int) + 1 := by rw [IntKind.wrap_i64]; omega
            have hf1 := hU.f1
            have hf2 := hU.f2
            have HT := Lib.hid (token_left 137 (w.heap.size + 2) g1 g2 la lb b3 a wr.drew (hU.up.left.keep0 (Keep.refl [] _).drew) (hU.m1.keep (Keep.refl [] _).drew (by simp)) (hU.m2.keep (Keep.refl [] _).drew (by simp)) (by omega) (by omega) (by omega) ha8 (by have := HP1.out.2.1; omega) (by have := HP2.out.2.1; omega))
            have hS0 : wr.drew.cell? ⟨w.heap.size, 0, none⟩ = some (.slice A n c) := hU.up.res.cell 0
            obtain ⟨k, hk⟩ : ∃ k, x - n = k + 1 := ⟨x - n - 1, by omega⟩
            cases ht : tokR la lb b3 a with
            | none =>
              rw [ht] at HT
              have HN := Lib.hid (unp_none hl (by rw [hR, hk, toksF_none ht]; rfl))
              have HU := Lib.hid hU
              clear hU hln hR ha8 hia hlit hf1 hf2 hk ht hi hix
              go_upto_region 9 with (fail)
              refine wp_upq (R := fun W => Keep [w.heap.size + 2] wr W) (d0 := [{ target := .fn (.func 89) #[.pointer (some ⟨w.heap.size, 0, none⟩), .pointer (some ⟨w.heap.size + 1, 0, none⟩)], args := #[] }]) (t2 := .pointer (some ⟨w.heap.size, 0, none⟩)) (t3 := .pointer (some ⟨w.heap.size + 1, 0, none⟩)) (fun a W hR hd h2 h3 => ?_) ?_
              · obtain ⟨T, ds⟩ := a
                subst hd
                exact UpS.dies HU.out.up hR h2 h3 HN.out.1 HN.out.2
              refine wp_region_G (fun W => W.cell? ⟨w.heap.size, 0, none⟩ = some (.slice A n c)) [7] #[false, false, false, false, false, false, false, false] 8 (by kernel_rfl) (by kernel_rfl) (by kernel_rfl) ?_
              refine wpAnyG_take (i := 0) (oi := ⟨_, _, _, _, _, _⟩) (v := ?vg2_0) [0, 6, 7] rfl (by kernel_rfl) (by kernel_rfl) (by kernel_rfl) (by kernel_rfl) (by kernel_rfl) (fun _ _ _ h => UpQ.put (by decide) h) (fun _ => hS0) (Or.inl ⟨by rfl, ?hg2_0⟩) ?_
              case hg2_0 => intro w hSw; (try dsimp only at hSw); go_simp; (try with_reducible rfl)
              try simp only [Act.put, List.setIfInBounds_toArray, List.set_cons_zero, List.set_cons_succ]
              refine wpAnyG_take0 (i := 1) (oi := ⟨_, _, _, _, _, _⟩) (v := ?vg2_1) rfl (by kernel_rfl) (by kernel_rfl) (by kernel_rfl) (by kernel_rfl) (fun _ _ _ h => UpQ.put (by decide) h) (fun _ => hS0) (Or.inl ⟨by rfl, ?hg2_1⟩) ?_
              case hg2_1 => intro w _; go_simp; (try with_reducible rfl)
              try simp only [Act.put, List.setIfInBounds_toArray, List.set_cons_zero, List.set_cons_succ]
              refine wpAnyG_take0 (i := 2) (oi := ⟨_, _, _, _, _, _⟩) (v := ?vg2_2) rfl (by kernel_rfl) (by kernel_rfl) (by kernel_rfl) (by kernel_rfl) (fun _ _ _ h => UpQ.put (by decide) h) (fun _ => hS0) (Or.inl ⟨by rfl, ?hg2_2⟩) ?_
              case hg2_2 => intro w _; go_simp; (try with_reducible rfl)
              try simp only [Act.put, List.setIfInBounds_toArray, List.set_cons_zero, List.set_cons_succ]
              refine wpAnyG_take0 (i := 3) (oi := ⟨_, _, _, _, _, _⟩) (v := ?vg2_3) rfl (by kernel_rfl) (by kernel_rfl) (by kernel_rfl) (by kernel_rfl) (fun _ _ _ h => UpQ.put (by decide) h) (fun _ => hS0) (Or.inl ⟨by rfl, ?hg2_3⟩) ?_
              case hg2_3 => intro w _; go_simp; (try with_reducible rfl)
              try simp only [Act.put, List.setIfInBounds_toArray, List.set_cons_zero, List.set_cons_succ]
              refine wpAnyG_step (i := 4) (oi := ⟨_, _, _, _, _, _⟩) rfl (by kernel_rfl) (by rfl) (fun K hK => ?_)
              go_simp
              go_at_call 92
              refine HT.out.mono ?_
              rintro e w' ⟨rfl, hk⟩
              exact ⟨rfl, hk.of_drew, rfl, rfl, rfl⟩
            | some p =>
              obtain ⟨⟨d, m, lt⟩, a2⟩ := p
              rw [ht] at HT
              have hok := tokR_ok ht
              have hbd := tokR_bd ht (by have := HP1.out.2.1; omega) (by have := HP2.out.2.1; omega)
              have HR : Hid (readP bl = (toksF la lb b3 (x - (n + 1)) a2).map ((tl ++ [(d, m, lt)]) ++ ·) ∧ a2 ≤ 8 * b3.length ∧ n + 1 ≤ a2 ∧ (∀ t ∈ tl ++ [(d, m, lt)], bdT t) ∧ (tl ++ [(d, m, lt)]).length = n + 1) := by
                refine Lib.hid ⟨?_, hok.2.1, by omega, fun t ht => ?_, by simp [hln]⟩
                · rw [hR, hk, toksF_some ht, show x - (n + 1) = k by omega, Option.map_map]
                  congr 1
                  funext l
                  simp
                · rcases List.mem_append.1 ht with h | h
                  · exact hlit t h
                  · simp at h
                    subst h
                    exact hbd
              have HX := Lib.hid (fun (w3 : World) (hl : LF 137 (w.heap.size + 2) b3 a2 w3) (hk : Keep [w.heap.size + 2] wr.drew w3) => hU.step (by omega) hl hk.of_drew d m lt)
              have hix2 : n + 1 ≤ x := hix
              clear hU hln hR ha8 hia hlit hf1 hf2 hk ht hi hok hbd
              go_upto_region 9 with (fail)
              refine wp_region_noPanic ?_
              refine wp_region_G (fun W => W.cell? ⟨w.heap.size, 0, none⟩ = some (.slice A n c)) [7] #[false, false, false, false, false, false, false, false] 8 (by kernel_rfl) (by kernel_rfl) (by kernel_rfl) ?_
              refine wpAnyG_take (i := 0) (oi := ⟨_, _, _, _, _, _⟩) (v := ?vg1_0) [0, 6, 7] rfl (by kernel_rfl) (by kernel_rfl) (by kernel_rfl) (by kernel_rfl) (by kernel_rfl) (fun _ _ _ h => h) (fun _ => hS0) (Or.inl ⟨by rfl, ?hg1_0⟩) ?_
              case hg1_0 => intro w hSw; (try dsimp only at hSw); go_simp; (try with_reducible rfl)
              try simp only [Act.put, List.setIfInBounds_toArray, List.set_cons_zero, List.set_cons_succ]
              refine wpAnyG_take0 (i := 1) (oi := ⟨_, _, _, _, _, _⟩) (v := ?vg1_1) rfl (by kernel_rfl) (by kernel_rfl) (by kernel_rfl) (by kernel_rfl) (fun _ _ _ h => h) (fun _ => hS0) (Or.inl ⟨by rfl, ?hg1_1⟩) ?_
              case hg1_1 => intro w _; go_simp; (try with_reducible rfl)
              try simp only [Act.put, List.setIfInBounds_toArray, List.set_cons_zero, List.set_cons_succ]
              refine wpAnyG_take0 (i := 2) (oi := ⟨_, _, _, _, _, _⟩) (v := ?vg1_2) rfl (by kernel_rfl) (by kernel_rfl) (by kernel_rfl) (by kernel_rfl) (fun _ _ _ h => h) (fun _ => hS0) (Or.inl ⟨by rfl, ?hg1_2⟩) ?_
              case hg1_2 => intro w _; go_simp; (try with_reducible rfl)
              try simp only [Act.put, List.setIfInBounds_toArray, List.set_cons_zero, List.set_cons_succ]
              refine wpAnyG_take0 (i := 3) (oi := ⟨_, _, _, _, _, _⟩) (v := ?vg1_3) rfl (by kernel_rfl) (by kernel_rfl) (by kernel_rfl) (by kernel_rfl) (fun _ _ _ h => h) (fun _ => hS0) (Or.inl ⟨by rfl, ?hg1_3⟩) ?_
              case hg1_3 => intro w _; go_simp; (try with_reducible rfl)
              try simp only [Act.put, List.setIfInBounds_toArray, List.set_cons_zero, List.set_cons_succ]
              refine wpAnyG_step (i := 4) (oi := ⟨_, _, _, _, _, _⟩) rfl (by kernel_rfl) (by rfl) (fun K hK => ?_)
              go_simp
              go_at_call 92
              refine HT.out.mono ?_
              rintro e w3 ⟨rfl, hlf3, hk3⟩
              obtain ⟨A', c', w4, hap, x0, x1, x2, x3, hN⟩ := HX.out w3 hlf3 hk3
              have HN := Lib.hid hN
              clear hN hlf3 hk3
              refine hK _ _ ?_ (fun hSg1_4 => ?_)
              · intro _; exact x0
              replace hSg1_4 := hSg1_4 (by kernel_rfl)
              clear hK
              try simp only [Act.put, List.setIfInBounds_toArray, List.set_cons_zero, List.set_cons_succ]
              refine wpAnyG_step (i := 5) (oi := ⟨_, _, _, _, _, _⟩) rfl (by kernel_rfl) (by rfl) (fun K hK => ?_)
              go_simp
              refine hK _ _ ?_ (fun hSg1_5 => ?_)
              · intro _; exact x1
              replace hSg1_5 := hSg1_5 (by kernel_rfl)
              clear hK
              try simp only [Act.put, List.setIfInBounds_toArray, List.set_cons_zero, List.set_cons_succ]
              refine wpAnyG_step (i := 6) (oi := ⟨_, _, _, _, _, _⟩) rfl (by kernel_rfl) (by rfl) (fun K hK => ?_)
              refine wp_append2 (v1 := .slice A n c) (v2 := .slice (some ⟨w3.heap.size, 0, none⟩) 1 1) (.tmp 33) (.tmp 38) rfl rfl rfl hap ?_
              refine hK _ _ ?_ (fun hSg1_6 => ?_)
              · intro _; exact x2
              replace hSg1_6 := hSg1_6 (by kernel_rfl)
              clear hK
              try simp only [Act.put, List.setIfInBounds_toArray, List.set_cons_zero, List.set_cons_succ]
              refine wpAnyG_step (i := 7) (oi := ⟨_, _, _, _, _, _⟩) rfl (by kernel_rfl) (by rfl) (fun K hK => ?_)
              go_simp
              refine hK _ _ (fun h => absurd h (Bool.eq_false_iff.1 (by kernel_rfl))) (fun _ => ?_)
              clear hK
              try simp only [Act.put, List.setIfInBounds_toArray, List.set_cons_zero, List.set_cons_succ]
              refine wpAnyG_done (by kernel_rfl) ?_ _
              refine NoPanic.normal ?_
              go_wp2_with fail
              go_roundw
              case rel => exact ⟨n + 1, by simp, hix2, Lib.hid ⟨_, A', n + 1, c', a2, HN.out, HR.out.2.2.2.2, rfl, HR.out.1, HR.out.2.1, HR.out.2.2.1, HR.out.2.2.2.1⟩⟩
              case measure => simp [intOf]; omega
          · obtain rfl : n = x := by omega
            have hni : ¬ (n : Int) < n := by omega
            have hR2 : readP bl = some tl := by rw [hR, Nat.sub_self]; simp [toksF]
            have HPk := Lib.hid (packR_any tl A c wr (tsrc_own hU.up.own hln hlit) (by omega))
            rw [hln] at HPk
            have d0 : wr.cell? ⟨w.heap.size, 0, none⟩ = some (.slice A n c) := hU.up.res.cell 0
            have HU := Lib.hid hU.up
            have Hln := Lib.hid hln
            have HLt := Lib.hid (packR_lt (l := tl) (by omega))
            have HEq := Lib.hid (fun (w1 : World) (AO : Option Addr) (cO : Nat) (hown : w1.ownsRow wr.heap.size 5 1 (.slice AO (packR tl).length cO) (packR tl).length (inB (packR tl))) (hk : Keep [] wr w1) => equal_any (packR tl) bl AO AB cO cB w1 (bsrc_own hown HLt.out) (Hs.out.keep (HU.out.kp.trans hk) (by simp)))
            have HK := Lib.hid (fun (w1 : World) (hk : Keep [] wr w1) => HU.out.next (HU.out.left.keep0 hk) (hk.mono (by simp)))
            by_cases hok : sizeE tl = 0 ∧ packR tl = bl
            · have HV : Hid (unpT bl = tl ∧ unpE bl = 0) := by
                have hpp : packP tl = bl := by
                  have := hok.2
                  unfold packR at this
                  rw [if_pos hok.1] at this
                  exact this
                refine Lib.hid ⟨?_, ?_⟩
                · unfold unpT
                  rw [hR2]
                  simp only
                  rw [if_pos ⟨by omega, hok.1, hpp⟩]
                · unfold unpE
                  rw [hR2, if_neg (by omega)]
                  simp only
                  rw [if_pos ⟨hok.1, hpp⟩]
              have hsz : (sizeE tl == 0) = true := by simp [hok.1]
              have hdb : decide (packR tl = bl) = true := decide_eq_true hok.2
              generalize sizeE tl = E at *
              clear hU hln hR hR2 ha8 hia hlit hok hi hix
              go_wp2_with (first
                | (go_at_call 69; refine HPk.out.mono ?_; rintro e w1 ⟨AO, cO, rfl, hown, hk⟩; have H1 := Lib.hid (HK.out w1 hk); have HQ := Lib.hid (HEq.out w1 AO cO hown hk); have b1 := H1.out.res; have b2 := H1.out.err; have c1 : w1.cell? ⟨w.heap.size, 0, none⟩ = some (.slice A n c) := b1.cell 0; have c2 : w1.cell? ⟨w.heap.size + 1, 0, none⟩ = some (.int .i64 0) := b2.cell 0; have f1 := b1.free 0; have f2 := b2.free 0; clear hown hk b1 b2)
                | (go_at_call 93; refine HQ.out.mono ?_; rintro e w2 ⟨rfl, rfl⟩)
                | (go_at_call 58; refine (must_yes _).mono ?_; rintro e w' ⟨rfl, rfl⟩))
              refine UpS.done H1.out ?_ ?_ Hln.out HV.out.1 HV.out.2 <;> rfl
            · have HV : Hid (unpT bl = [] ∧ unpE bl = 70) := by
                have hpp : ¬ (sizeE tl = 0 ∧ packP tl = bl) := fun h => hok ⟨h.1, by unfold packR; rw [if_pos h.1]; exact h.2⟩
                refine Lib.hid ⟨?_, ?_⟩
                · unfold unpT
                  rw [hR2]
                  simp only
                  rw [if_neg (fun h => hpp h.2)]
                · unfold unpE
                  rw [hR2, if_neg (by omega)]
                  simp only
                  rw [if_neg hpp]
              by_cases hs0 : sizeE tl = 0
              · have hsz : (sizeE tl == 0) = true := by simp [hs0]
                have hdb : decide (packR tl = bl) = false := decide_eq_false (fun h => hok ⟨hs0, h⟩)
                generalize sizeE tl = E at *
                clear hU hln hR hR2 ha8 hia hlit hok hi hix hs0
                go_wp2_with (first
                  | (go_at_call 69; refine HPk.out.mono ?_; rintro e w1 ⟨AO, cO, rfl, hown, hk⟩; have H1 := Lib.hid (HK.out w1 hk); have HQ := Lib.hid (HEq.out w1 AO cO hown hk); clear hown hk)
                  | (go_at_call 93; refine HQ.out.mono ?_; rintro e w2 ⟨rfl, rfl⟩)
                  | (go_at_call 58; refine (must_no _).mono ?_; rintro e w' ⟨rfl, hk⟩; have Hk := Lib.hid hk; clear hk))
                refine UpS.dies H1.out (Hk.out.mono (by simp)) ?_ ?_ HV.out.1 HV.out.2 <;> rfl
              · have hsz : (sizeE tl == 0) = false := by simpa using hs0
                generalize sizeE tl = E at *
                clear hU hln hR hR2 ha8 hia hlit hok hi hix hs0
                go_wp2_with (first
                  | (go_at_call 69; refine HPk.out.mono ?_; rintro e w1 ⟨AO, cO, rfl, hown, hk⟩; have H1 := Lib.hid (HK.out w1 hk); clear hown hk)
                  | (go_at_call 58; refine (must_no _).mono ?_; rintro e w' ⟨rfl, hk⟩; have Hk := Lib.hid hk; clear hk))
                refine UpS.dies H1.out (Hk.out.mono (by simp)) ?_ ?_ HV.out.1 HV.out.2 <;> rfl
      · have HV := Lib.hid (varint_no 137 (w.heap.size + 2) b2 0 65536 w8 H8.out.up.left (by omega) (by omega) (fun x n h => by
          rcases Nat.lt_or_ge 65536 x with h1 | h1
          · exact h1
          · exact absurd ⟨x, n, h, h1⟩ hv))
        have HR := Lib.hid (unp_none hl (by
          unfold readP
          rw [HP1.out.1]
          simp only
          rw [HP2.out.1]
          simp only
          cases hr : rdV 0 b2 with
          | none => rfl
          | some p =>
            obtain ⟨x, u⟩ := p
            simp only
            rw [if_pos]
            rcases Nat.lt_or_ge 65536 x with h1 | h1
            · exact h1
            · exact absurd ⟨x, u, hr, h1⟩ hv))
        clear hv
        go_wp2_with (go_at_call 88; refine HV.out.mono ?_; rintro e w' ⟨rfl, hk⟩; have Hk := Lib.hid hk; clear hk)
        refine UpS.dies H8.out.up (Hk.out.mono (by simp)) ?_ ?_ HR.out.1 HR.out.2 <;> rfl
end Go.Proofs.YtdnaahbhfjclpaaGreatDoor

