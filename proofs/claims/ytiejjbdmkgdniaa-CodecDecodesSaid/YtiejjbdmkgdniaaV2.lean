/- head: what a row's code says. -/
import Derived.Test.YtiejjbdmkgdniaaUa
import Derived.Test.YtiejjbdmkgdniaaCp6
import Derived.Test.YtiejjbdmkgdniaaF5
set_option linter.unusedVariables false
set_option linter.unusedSimpArgs false
namespace Go.Proofs.Ytiejjbdmkgdniaa
open Go.RowKit Go.Sal Go.Huf Go.Cod
/-- what head answers, or the panic -/
def HeadE (w : World) (r : Option (Nat × Bool × List Nat)) (e : Ending) (w' : World) : Prop := match r with
  | some (n, p, l) => ∃ A c, e = .returned (.tuple #[.int .i64 (n : Nat), .bool p, .slice A l.length c]) ∧ BySrc w' A l ∧ l.length ≤ c ∧ (∀ a, A = some a → a.block < w'.heap.size) ∧ Keep [] w w'
  | none => e = .panicked PN ∧ Keep [] w w'
theorem HeadE.no {w w' : World} {r : Option (Nat × Bool × List Nat)} (h : r = none) (k : Keep [] w w') : HeadE w r (.panicked PN) w' := by
  subst h
  exact ⟨rfl, k⟩
set_option maxRecDepth 20000 in
set_option maxHeartbeats 1000000 in
theorem head_bad (bl : List Nat) (AB : Option Addr) (cB : Nat) (w : World) (hs : BySrc w AB bl) (hl : bl.length ≤ 1000000) (h : ∀ x b1, bl = x :: b1 → 1 < x) :
    Calls Try.prog 55 #[.slice AB bl.length cB] w fun e w' => HeadE w (headP bl) e w' := by
  cases bl with
  | nil =>
    have HN := Lib.hid (show headP [] = none from rfl)
    clear hs h
    go_enter Try.func55, Try.ntmps55
    go_wp2_with (go_at_call 49; refine (must_no _).mono ?_; rintro e w' ⟨rfl, hk⟩; have Hk := Lib.hid hk; clear hk)
    exact ⟨rfl, HeadE.no HN.out Hk.out⟩
  | cons x b1 =>
    have hx := h x b1 rfl
    have HN := Lib.hid (show headP (x :: b1) = none by unfold headP; simp only; rw [if_neg (by omega)])
    obtain ⟨g, o, rfl, hg, d0⟩ := hs.1 0 (by simp)
    simp at d0
    obtain ⟨N, hN⟩ : ∃ N, N = (x :: b1).length := ⟨_, rfl⟩
    have hN0 : (0 : Int) < N := by rw [hN]; simp
    have hN1 : 0 < N := by rw [hN]; simp
    have hgt : decide ((N : Int) > 0) = true := decide_eq_true hN0
    have hxb : decide ((x : Int) ≤ 1) = false := decide_eq_false (by omega)
    have hxi : ¬ (x : Int) ≤ 1 := by omega
    have hxn : ¬ x ≤ 1 := by omega
    rw [← hN]
    clear hs h hN hx hl
    go_enter Try.func55, Try.ntmps55
    go_wp2_with (go_at_call 49; refine (must_no _).mono ?_; rintro e w' ⟨rfl, hk⟩; have Hk := Lib.hid hk; clear hk)
    exact ⟨rfl, HeadE.no HN.out Hk.out⟩
set_option maxRecDepth 20000 in
set_option maxHeartbeats 1000000 in
theorem head_ok (x : Nat) (b1 : List Nat) (AB : Option Addr) (cB : Nat) (w : World) (hs : BySrc w AB (x :: b1)) (hc : (x :: b1).length ≤ cB) (hl : (x :: b1).length ≤ 1000000) (hx : x ≤ 1) :
    Calls Try.prog 55 #[.slice AB (x :: b1).length cB] w fun e w' => HeadE w (headP (x :: b1)) e w' := by
  obtain ⟨g, o, rfl, hg, d0⟩ := hs.1 0 (by simp)
  simp at d0
  obtain ⟨t1, t2, t3, t4⟩ := bsrc_tail (k := 1) hs (by simp) hc
  obtain ⟨A1, hA1⟩ : ∃ A1, A1 = (if cB = 1 then some (⟨g, o, none⟩ : Addr) else Option.map (fun x : Addr => x.add (1 * 1)) (some ⟨g, o, none⟩)) := ⟨_, rfl⟩
  rw [← hA1] at t1 t4
  have hst : ∀ W, (Instr.slice 24 (.slice (some ⟨g, o, none⟩) (x :: b1).length cB) (some (.int .i64 1)) none none).run Try.prog W = .ok (.slice A1 ((x :: b1).length - 1) (cB - 1)) W := fun W => by
    rw [hA1]
    exact slice_tail (P := Try.prog) 24 5 Try.underlying24 (some ⟨g, o, none⟩) (x :: b1).length cB 1 (by simp) W 1 (by kernel_rfl)
  clear hA1
  obtain ⟨N, hN⟩ : ∃ N, N = (x :: b1).length := ⟨_, rfl⟩
  rw [← hN] at hst
  have hN2 : N - 1 = b1.length := by rw [hN]; simp
  rw [hN2] at hst
  have k1 : Keep [] w (w.alloc (.cells #[.slice A1 b1.length (cB - 1), .int .i64 0] 81)) := (Keep.refl [] w).alloc _
  have HL : LF 81 w.heap.size b1 0 (w.alloc (.cells #[.slice A1 b1.length (cB - 1), .int .i64 0] 81)) := ⟨A1, cB - 1, Blk.new w 81 _, t1.keep k1 (by simp), t3, fun a ha => by
    obtain ⟨a', e1, e2⟩ := t4 a ha
    injection e1 with e1
    subst e1
    rw [e2]
    exact hg⟩
  have hN0 : (0 : Int) < N := by rw [hN]; simp
  have hN1 : 0 < N := by rw [hN]; simp
  have hgt : decide ((N : Int) > 0) = true := decide_eq_true hN0
  have hxb : decide ((x : Int) ≤ 1) = true := decide_eq_true (by omega)
  have hxi : (x : Int) ≤ 1 := by omega
  have hb1 : b1.length ≤ 1000000 := by simp at hl; omega
  rw [← hN]
  by_cases hv : ∃ n u, rdV 0 b1 = some (n, u) ∧ n ≤ 65536
  · obtain ⟨n, u, hr, hn⟩ := hv
    have HV := Lib.hid (varint_ok 81 w.heap.size b1 0 65536 n u _ HL hb1 (by omega) hr hn)
    have HN : Hid (headP (x :: b1) = some (n, decide (x = 1), b1.drop u)) := Lib.hid (by
      unfold headP
      simp only
      rw [if_pos hx, hr]
      simp only
      rw [if_pos hn])
    have Hk1 := Lib.hid k1
    have Hd : Hid (∀ W, Keep [w.heap.size] (w.alloc (.cells #[.slice A1 b1.length (cB - 1), .int .i64 0] 81)) W → W.cell? ⟨g, o, none⟩ = some (.int .u8 (x : Nat))) := Lib.hid (fun W k => (k.cell (p := ⟨g, o, none⟩) (by simp; omega) (by simp; omega)).trans ((k1.cell (p := ⟨g, o, none⟩) hg (by simp)).trans d0))
    have hxe : ((x : Int) == 1) = decide (x = 1) := by
      rcases Nat.lt_or_ge x 1 with h | h
      · obtain rfl : x = 0 := by omega
        rfl
      · obtain rfl : x = 1 := by omega
        rfl
    generalize decide (x = 1) = xd at *
    clear hs hc hl hN hN2 hx HL t1 t2 t3 t4 k1 hr hn
    go_enter Try.func55, Try.ntmps55
    go_upto_region 4 with (first
      | (go_at_call 49; refine (must_yes _).mono ?_; rintro e w' ⟨rfl, rfl⟩)
      | (go_at_call 47; refine HV.out.mono ?_; rintro e w3 ⟨rfl, hlf, hk⟩; obtain ⟨A2, c2, hb2, hs2, hc2, hne2⟩ := hlf; have HX := Lib.hid (And.intro hb2.lt (And.intro hs2 (And.intro hc2 (And.intro hne2 hk)))); have m0 : w3.cell? ⟨w.heap.size, 0, none⟩ = some (.slice A2 (b1.drop u).length c2) := hb2.cell 0; have d1 := Hd.out w3 hk; clear hb2 hs2 hc2 hne2 hk))
    generalize hbl : b1.drop u = bl2 at *
    clear hbl
    go_quiet (fail)
    go_wp2
    refine bodyPost_ret (v := .tuple #[.int .i64 (n : Nat), .bool xd, .slice A2 bl2.length c2]) (by simp [results, Try.results55, go_sem]) rfl ?_
    show HeadE w (headP (x :: b1)) _ _
    rw [HN.out]
    obtain ⟨z1, z2, z3, z4, z5⟩ := HX.out
    exact ⟨A2, c2, rfl, z2.keep ((Keep.refl [] w3).drewN _) (by simp), z3, fun a ha => Nat.lt_trans (z4 a ha) z1, (Hk1.out.step z5 (fun i hi => .inr (by simp at hi; omega))).drewN _⟩
  · have HV := Lib.hid (varint_no 81 w.heap.size b1 0 65536 _ HL hb1 (by omega) (fun n u h => by
      rcases Nat.lt_or_ge 65536 n with h1 | h1
      · exact h1
      · exact absurd ⟨n, u, h, h1⟩ hv))
    have HN : Hid (headP (x :: b1) = none) := Lib.hid (by
      unfold headP
      simp only
      rw [if_pos hx]
      cases hr : rdV 0 b1 with
      | none => rfl
      | some p =>
        obtain ⟨n, u⟩ := p
        simp only
        rw [if_neg (fun h1 => hv ⟨n, u, hr, h1⟩)])
    have Hk1 := Lib.hid k1
    clear hs hc hl hN hN2 hx hv HL t1 t2 t3 t4 k1
    go_enter Try.func55, Try.ntmps55
    go_wp2_with (first
      | (go_at_call 49; refine (must_yes _).mono ?_; rintro e w' ⟨rfl, rfl⟩)
      | (go_at_call 47; refine HV.out.mono ?_; rintro e w' ⟨rfl, hk⟩; have Hk := Lib.hid hk; clear hk))
    exact ⟨rfl, HeadE.no HN.out (Hk1.out.trans Hk.out)⟩
end Go.Proofs.Ytiejjbdmkgdniaa
set_option linter.unusedVariables false
set_option linter.unusedSimpArgs false
namespace Go.Proofs.Ytiejjbdmkgdniaa
open Go.RowKit Go.Sal Go.Huf Go.Cod
theorem dcatch_panicking (a b : Nat) (v1 v2 : Value) (w : World) (hA : Blk w a 24 #[v1]) (hB : Blk w b 25 #[v2]) (hne : b ≠ a) :
    CallsD Try.prog 54 #[.pointer (some ⟨a, 0, none⟩), .pointer (some ⟨b, 0, none⟩)] (.panicking PN) w fun e u' w' =>
      e = .returned (.tuple #[]) ∧ u' = .panicking [{ v := .iface 107 (.agg #[]), recovered := true }] ∧ ∃ w1, Keep [] w w1 ∧ w' = (w1.setCell ⟨a, 0, none⟩ (.slice none 0 0)).setCell ⟨b, 0, none⟩ (.int .i64 70) := by
  have HC := Lib.hid caught_yes
  refine callsD_of_wpS Try.func54 rfl fun c₀ cs hu => ?_
  unfold PN at hu
  apply wpS_seq
  apply wpS_region
  simp [wpOpsS, go_sem, recoverD, hu, Try.ntmps54, Exit.thenS]
  refine (HC.out w).mono ?_
  rintro e w1 ⟨rfl, hk⟩
  have hA1 := hA.keep hk (by simp)
  have hB1 := hB.keep hk (by simp)
  have hB2 : Blk (w1.setCell ⟨a, 0, none⟩ (.slice none 0 0)) b 25 #[v2] := hB1.keep ((Keep.refl [a] w1).setCell (.inl (by simp)) _) (by simpa using hne)
  have c0 : w1.cell? ⟨a, 0, none⟩ = some v1 := hA1.cell 0
  have f0 := hA1.free 0
  have c1 : (w1.setCell ⟨a, 0, none⟩ (.slice none 0 0)).cell? ⟨b, 0, none⟩ = some v2 := hB2.cell 0
  have f1 := hB1.free 0
  refine wpS_cond (t := true) (by simp [Act.eval, Array.replicate]) ?_
  simp only [if_true]
  apply wpS_region
  simp [wpOpsS, go_sem, c0, f0, c1, f1, bodyPostS, results, Try.results54]
  exact ⟨w1, hk, rfl⟩
theorem dcatch_idle (a b : Nat) (w : World) :
    CallsD Try.prog 54 #[.pointer (some ⟨a, 0, none⟩), .pointer (some ⟨b, 0, none⟩)] .returning w fun e u' w' => e = .returned (.tuple #[]) ∧ u' = .returning ∧ w' = w := by
  have HC := Lib.hid caught_nil
  refine callsD_of_wpS Try.func54 rfl fun c₀ cs hu => ?_
  apply wpS_seq
  apply wpS_region
  simp [wpOpsS, go_sem, recoverD, hu, Try.ntmps54, Exit.thenS]
  refine (HC.out w).mono ?_
  rintro e w1 ⟨rfl, rfl⟩
  refine wpS_cond (t := false) (by simp [Act.eval, Array.replicate]) ?_
  simp only [Bool.false_eq_true, if_false]
  refine wpS_of_wp (wp_skip ?_)
  cases c₀
  simp_all [bodyPostS, results, Try.results54]
end Go.Proofs.Ytiejjbdmkgdniaa
set_option linter.unusedVariables false
set_option linter.unusedSimpArgs false
namespace Go.Proofs.Ytiejjbdmkgdniaa
open Go.RowKit Go.Sal Go.Huf Go.Cod
/-- the answer: a new row of bytes and a number -/
def RowBE (w : World) (l : List Nat) (E : Int) (e : Ending) (w' : World) : Prop := ∃ A c, e = .returned (.tuple #[.slice A l.length c, .int .i64 E]) ∧ w'.ownsRow w.heap.size 5 1 (.slice A l.length c) l.length (inB l) ∧ Keep [] w w'
theorem row_one (w : World) (x base : Nat) (hb : base ≤ w.heap.size) : (w.alloc (.cells #[.int .u8 (x : Nat)] 5)).ownsRow base 5 1 (.slice (some ⟨w.heap.size, 0, none⟩) 1 1) 1 (inB [x]) :=
  ⟨rfl, .inr ⟨w.heap.size, 1, _, rfl, hb, heap_alloc_new w _, Nat.le_refl _, by simp [maxLen], rfl, rfl⟩⟩
theorem two_app {w wr : World} {A6 AP : Option Addr} {c6 cP b6 : Nat} {s p : List Nat} (k : Keep [] w wr) (x : Nat) (h6 : wr.ownsRow b6 5 1 (.slice A6 s.length c6) s.length (inB s)) (hp : BySrc wr AP p) (l1 : s.length ≤ 1000000) (l2 : p.length ≤ 1000000) :
    ∃ A1 c1 w1 k1, (Builtin.append_ #[24, 24] 24 #[.slice (some ⟨wr.heap.size, 0, none⟩) 1 1, .slice A6 s.length c6]).run Try.prog (wr.alloc (.cells #[.int .u8 (x : Nat)] 5)) = .ok (.slice A1 k1 c1) w1 ∧
      ∃ A2 c2 w2 k2, (Builtin.append_ #[24, 24] 24 #[.slice A1 k1 c1, .slice AP p.length cP]).run Try.prog w1 = .ok (.slice A2 k2 c2) w2 ∧ RowBE w (x :: (s ++ p)) 0 (.returned (.tuple #[.slice A2 k2 c2, .int .i64 0])) w2 := by
  have ka : Keep [] wr (wr.alloc (.cells #[.int .u8 (x : Nat)] 5)) := (Keep.refl [] wr).alloc _
  have h0 := row_one wr x w.heap.size k.size
  obtain ⟨A1, c1, w1, k1, hk1, hr1, ho1, hkp1⟩ := bytes_app' (d := c6) h0 (Src.of_own (ownsRow_keep h6 ka (by simp))) (by omega) (by omega) (k.trans ka).size
  have kw1 : Keep [] wr w1 := ka.step hkp1 (fun i hi => .inr (by simp [Value.ownBlock] at hi; omega))
  obtain ⟨A2, c2, w2, k2, hk2, hr2, ho2, hkp2⟩ := bytes_app' (d := cP) ho1 (bsrc_src (hp.keep kw1 (by simp))) (by omega) (by omega) (k.trans kw1).size
  refine ⟨A1, c1, w1, k1, hr1, A2, c2, w2, k2, hr2, ?_⟩
  have e : k2 = (x :: (s ++ p)).length := by rw [hk2, hk1]; simp; omega
  have e2 : [x] ++ s ++ p = x :: (s ++ p) := by simp
  rw [e2] at ho2
  subst e
  exact ⟨A2, c2, rfl, ho2, (k.trans kw1).step hkp2 (fun i hi => .inr (own_far ho1 i hi))⟩
theorem okT_bd {t : Tk} (h : okT t = true) (h2 : t.2.2 < 256) : bdT t := by
  unfold bdT
  rcases okT_cases h with h | h <;> omega
theorem tokP_bd {b : List Nat} (hb : ∀ x ∈ b, x < 256) : ∀ t ∈ tokP b, bdT t := fun t ht => by
  obtain ⟨h1, h2⟩ := tokF_all hb _ _ t ht
  exact okT_bd h1 h2
set_option maxRecDepth 20000 in
set_option maxHeartbeats 1000000 in
theorem encode_any (bl : List Nat) (AB : Option Addr) (cB : Nat) (w : World) (hs : BySrc w AB bl) (hc : bl.length ≤ cB) (hl : bl.length ≤ 20000) :
    Calls Try.prog 18 #[.slice AB bl.length cB] w fun e w' => RowBE w (encP bl) 0 e w' := by
  have hbd := tokP_bd hs.2
  have htl : (tokP bl).length ≤ bl.length := tok_len _ 0
  have HT := Lib.hid (tokens_any bl AB cB w hs hc (by omega))
  have HV := Lib.hid (fun w1 => varint_any bl.length w1 (by omega))
  have HP := Lib.hid (fun (w1 : World) (A : Option Addr) (c : Nat) (h : TSrc w1 A (tokP bl)) => packR_any (tokP bl) A c w1 h (by omega))
  have hpl := packR_lt (l := tokP bl) (by omega)
  have hvl := varP_len bl.length
  have HE : Hid (encP bl = if (packR (tokP bl)).length < bl.length then 1 :: (varP bl.length ++ packR (tokP bl)) else 0 :: (varP bl.length ++ bl)) := Lib.hid rfl
  have Hs := Lib.hid hs
  have Hbd := Lib.hid hbd
  have Hpl := Lib.hid hpl
  have hwl : IntKind.u64.wrap (bl.length : Int) = (bl.length : Int) := by rw [IntKind.wrap_u64]; omega
  clear hs hbd hpl
  generalize tokP bl = tl at *
  generalize varP bl.length = vl at *
  go_enter Try.func18, Try.ntmps18
  go_upto_region 4 with (go_at_call 52; refine HT.out.mono ?_; rintro e w1 ⟨A1, c1, rfl, ho1, hk1⟩; have H1 := Lib.hid (And.intro ho1 hk1); clear ho1 hk1)
  go_upto_region 5 with (go_at_call 29; refine (HV.out _).mono ?_; rintro e w2 ⟨A2, c2, rfl, ho2, hk2⟩; have H2 := Lib.hid (And.intro (ownsRow_keep H1.out.1 hk2 (by simp)) (And.intro (H1.out.2.trans hk2) ho2)); clear ho2 hk2)
  go_upto_region 6 with (go_at_call 11; refine (HP.out _ _ _ (tsrc_own H2.out.1 rfl Hbd.out)).mono ?_; rintro e w3 ⟨A3, c3, rfl, ho3, hk3⟩; have H3 := Lib.hid (And.intro (ownsRow_keep H2.out.2.2 hk3 (by simp)) (And.intro (H2.out.2.1.trans hk3) ho3)); clear ho3 hk3)
  clear HT HV HP H1 H2
  by_cases h : (packR tl).length < bl.length
  · have hi : ((packR tl).length : Int) < bl.length := by omega
    obtain ⟨A4, c4, w4, k4, ha4, A5, c5, w5, k5, ha5, hR⟩ := two_app (cP := c3) H3.out.2.1 1 H3.out.1 (bsrc_own H3.out.2.2 Hpl.out) (by omega) (by omega)
    have HR := Lib.hid hR
    have HF := HE.out
    rw [if_pos h] at HF
    have HG := Lib.hid HF
    clear hR HF HE
    generalize (packR tl).length = pn at *
    go_wp2_with (first
      | (at_builtin; refine wpList_append2 (v1 := .slice (some ⟨w3.heap.size, 0, none⟩) 1 1) (v2 := .slice A2 vl.length c2) rfl (.tmp 31) (.tmp 32) rfl rfl rfl ha4 ?_)
      | (at_builtin; refine wpList_append2 (v1 := .slice A4 k4 c4) (v2 := .slice A3 pn c3) rfl (.tmp 33) (.tmp 34) rfl rfl rfl ha5 ?_))
    go_ret2
    rw [HG.out]
    exact HR.out
  · have hi : ¬ ((packR tl).length : Int) < bl.length := by omega
    obtain ⟨A4, c4, w4, k4, ha4, A5, c5, w5, k5, ha5, hR⟩ := two_app (cP := cB) H3.out.2.1 0 H3.out.1 (Hs.out.keep H3.out.2.1 (by simp)) (by omega) (by omega)
    have HR := Lib.hid hR
    have HF := HE.out
    rw [if_neg h] at HF
    have HG := Lib.hid HF
    clear hR HF HE
    generalize (packR tl).length = pn at *
    go_wp2_with (first
      | (at_builtin; refine wpList_append2 (v1 := .slice (some ⟨w3.heap.size, 0, none⟩) 1 1) (v2 := .slice A2 vl.length c2) rfl (.tmp 36) (.tmp 37) rfl rfl rfl ha4 ?_)
      | (at_builtin; refine wpList_append2 (v1 := .slice A4 k4 c4) (v2 := .slice AB bl.length cB) rfl (.tmp 38) (.tmp 39) rfl rfl rfl ha5 ?_))
    go_ret2
    rw [HG.out]
    exact HR.out
end Go.Proofs.Ytiejjbdmkgdniaa
