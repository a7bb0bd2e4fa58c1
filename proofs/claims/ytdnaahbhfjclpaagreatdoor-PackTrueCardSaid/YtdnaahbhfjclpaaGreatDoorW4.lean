/- Decode, walked. -/
import Derived.Test.YtdnaahbhfjclpaaGreatDoorWz
import Derived.Test.YtdnaahbhfjclpaaGreatDoorK10
import Derived.Test.YtdnaahbhfjclpaaGreatDoorCp3
import Derived.Test.YtdnaahbhfjclpaaGreatDoorU9
import Derived.Test.YtdnaahbhfjclpaaGreatDoorW3
import Derived.Test.YtdnaahbhfjclpaaGreatDoorXd
set_option linter.unusedVariables false
set_option linter.unusedSimpArgs false
namespace Go.Proofs.YtdnaahbhfjclpaaGreatDoor
open Go.RowKit Go.Sal Go.Huf Go.Cod
def HeadE (w : World) (r : Option (Nat × Bool × List Nat)) (e : Ending) (w' : World) : Prop := match r with
  | some (n, p, l) => ∃ A c, e = .returned (.tuple #[.int .i64 (n : Nat), .bool p, .slice A l.length c]) ∧ BySrc w' A l ∧ l.length ≤ c ∧ (∀ a, A = some a → a.block < w'.heap.size) ∧ Keep [] w w'
  | none => e = .panicked PN ∧ Keep [] w w'
theorem HeadE.no {w w' : World} {r : Option (Nat × Bool × List Nat)} (h : r = none) (k : Keep [] w w') : HeadE w r (.panicked PN) w' := by
  subst h
  exact ⟨rfl, k⟩
set_option maxRecDepth 20000 in
set_option maxHeartbeats 1000000 in
theorem head_bad (bl : List Nat) (AB : Option Addr) (cB : Nat) (w : World) (hs : BySrc w AB bl) (hl : bl.length ≤ 1000000) (h : ∀ x b1, bl = x :: b1 → 1 < x) :
    Calls Tryz.prog 56 #[.slice AB bl.length cB] w fun e w' => HeadE w (headP bl) e w' := by
  cases bl with
  | nil =>
    have HN := Lib.hid (show headP [] = none from rfl)
    clear hs h
    go_enter Tryz.func56, Tryz.ntmps56
    go_wp2_with (go_at_call 58; refine (must_no _).mono ?_; rintro e w' ⟨rfl, hk⟩; have Hk := Lib.hid hk; clear hk)
    exact ⟨rfl, HeadE.no HN.out Hk.out⟩
  | cons x b1 =>
    have hx := h x b1 rfl
    have HN := Lib.hid (show headP (x :: b1) = none by unfold headP; simp only; rw [if_neg (by omega)])
    obtain ⟨g, o, rfl, hg, d0⟩ := hs.1 0 (by simp)
    simp at d0
    obtain ⟨N, hN⟩ : ∃ N, N = (x :: b1).length := ⟨_, rfl⟩
    have hN0 : (0 : Int) < N := by rw [hN]; simp
    have hN1 : 0 < N := by rw [hN]; simp
    have hgt : decide ((N : Int) > 0) = true := decide_eq_true hN0
    have hxb : decide ((x : Int) ≤ 1) = false := decide_eq_false (by omega)
    have hxi : ¬ (x : Int) ≤ 1 := by omega
    have hxn : ¬ x ≤ 1 := by omega
    rw [← hN]
    clear hs h hN hx hl
    go_enter Tryz.func56, Tryz.ntmps56
    go_wp2_with (go_at_call 58; refine (must_no _).mono ?_; rintro e w' ⟨rfl, hk⟩; have Hk := Lib.hid hk; clear hk)
    exact ⟨rfl, HeadE.no HN.out Hk.out⟩
set_option maxRecDepth 20000 in
set_option maxHeartbeats 1000000 in
theorem head_ok (x : Nat) (b1 : List Nat) (AB : Option Addr) (cB : Nat) (w : World) (hs : BySrc w AB (x :: b1)) (hc : (x :: b1).length ≤ cB) (hl : (x :: b1).length ≤ 1000000) (hx : x ≤ 1) :
    Calls Tryz.prog 56 #[.slice AB (x :: b1).length cB] w fun e w' => HeadE w (headP (x :: b1)) e w' := by
  obtain ⟨g, o, rfl, hg, d0⟩ := hs.1 0 (by simp)
  simp at d0
  obtain ⟨t1, t2, t3, t4⟩ := bsrc_tail (k := 1) hs (by simp) hc
  obtain ⟨A1, hA1⟩ : ∃ A1, A1 = (if cB = 1 then some (⟨g, o, none⟩ : Addr) else Option.map (fun x : Addr => x.add (1 * 1)) (some ⟨g, o, none⟩)) := ⟨_, rfl⟩
  rw [← hA1] at t1 t4
  have hst : ∀ W, (Instr.slice 22 (.slice (some ⟨g, o, none⟩) (x :: b1).length cB) (some (.int .i64 1)) none none).run Tryz.prog W = .ok (.slice A1 ((x :: b1).length - 1) (cB - 1)) W := fun W => by
    rw [hA1]
    exact slice_tail (P := Tryz.prog) 22 5 Tryz.underlying22 (some ⟨g, o, none⟩) (x :: b1).length cB 1 (by simp) W 1 (by kernel_rfl)
  clear hA1
  obtain ⟨N, hN⟩ : ∃ N, N = (x :: b1).length := ⟨_, rfl⟩
  rw [← hN] at hst
  have hN2 : N - 1 = b1.length := by rw [hN]; simp
  rw [hN2] at hst
  have k1 : Keep [] w (w.alloc (.cells #[.slice A1 b1.length (cB - 1), .int .i64 0] 133)) := (Keep.refl [] w).alloc _
  have HL : LF 133 w.heap.size b1 0 (w.alloc (.cells #[.slice A1 b1.length (cB - 1), .int .i64 0] 133)) := ⟨A1, cB - 1, Blk.new w 133 _, t1.keep k1 (by simp), t3, fun a ha => by
    obtain ⟨a', e1, e2⟩ := t4 a ha
    injection e1 with e1
    subst e1
    rw [e2]
    exact hg⟩
  have hN0 : (0 : Int) < N := by rw [hN]; simp
  have hN1 : 0 < N := by rw [hN]; simp
  have hgt : decide ((N : Int) > 0) = true := decide_eq_true hN0
  have hxb : decide ((x : Int) ≤ 1) = true := decide_eq_true (by omega)
  have hxi : (x : Int) ≤ 1 := by omega
  have hb1 : b1.length ≤ 1000000 := by simp at hl; omega
  rw [← hN]
  by_cases hv : ∃ n u, rdV 0 b1 = some (n, u) ∧ n ≤ 65536
  · obtain ⟨n, u, hr, hn⟩ := hv
    have HV := Lib.hid (varint_ok 133 w.heap.size b1 0 65536 n u _ HL hb1 (by omega) hr hn)
    have HN : Hid (headP (x :: b1) = some (n, decide (x = 1), b1.drop u)) := Lib.hid (by
      unfold headP
      simp only
      rw [if_pos hx, hr]
      simp only
      rw [if_pos hn])
    have Hk1 := Lib.hid k1
    have Hd : Hid (∀ W, Keep [w.heap.size] (w.alloc (.cells #[.slice A1 b1.length (cB - 1), .int .i64 0] 133)) W → W.cell? ⟨g, o, none⟩ = some (.int .u8 (x : Nat))) := Lib.hid (fun W k => (k.cell (p := ⟨g, o, none⟩) (by simp; omega) (by simp; omega)).trans ((k1.cell (p := ⟨g, o, none⟩) hg (by simp)).trans d0))
    have hxe : ((x : Int) == 1) = decide (x = 1) := by
      rcases Nat.lt_or_ge x 1 with h | h
      · obtain rfl : x = 0 := by omega
        rfl
      · obtain rfl : x = 1 := by omega
        rfl
    generalize decide (x = 1) = xd at *
    clear hs hc hl hN hN2 hx HL t1 t2 t3 t4 k1 hr hn
    go_enter Tryz.func56, Tryz.ntmps56
    go_upto_region 4 with (first
      | (go_at_call 58; refine (must_yes _).mono ?_; rintro e w' ⟨rfl, rfl⟩)
      | (go_at_call 88; refine HV.out.mono ?_; rintro e w3 ⟨rfl, hlf, hk⟩; obtain ⟨A2, c2, hb2, hs2, hc2, hne2⟩ := hlf; have HX := Lib.hid (And.intro hb2.lt (And.intro hs2 (And.intro hc2 (And.intro hne2 hk)))); have m0 : w3.cell? ⟨w.heap.size, 0, none⟩ = some (.slice A2 (b1.drop u).length c2) := hb2.cell 0; have d1 := Hd.out w3 hk; clear hb2 hs2 hc2 hne2 hk))
    generalize hbl : b1.drop u = bl2 at *
    clear hbl
    go_quiet (fail)
    go_wp2
    refine bodyPost_ret (v := .tuple #[.int .i64 (n : Nat), .bool xd, .slice A2 bl2.length c2]) (by simp [results, Tryz.results56, go_sem]) rfl ?_
    show HeadE w (headP (x :: b1)) _ _
    rw [HN.out]
    obtain ⟨z1, z2, z3, z4, z5⟩ := HX.out
    exact ⟨A2, c2, rfl, z2.keep ((Keep.refl [] w3).drewN _) (by simp), z3, fun a ha => Nat.lt_trans (z4 a ha) z1, (Hk1.out.step z5 (fun i hi => .inr (by simp at hi; omega))).drewN _⟩
  · have HV := Lib.hid (varint_no 133 w.heap.size b1 0 65536 _ HL hb1 (by omega) (fun n u h => by
      rcases Nat.lt_or_ge 65536 n with h1 | h1
      · exact h1
      · exact absurd ⟨n, u, h, h1⟩ hv))
    have HN : Hid (headP (x :: b1) = none) := Lib.hid (by
      unfold headP
      simp only
      rw [if_pos hx]
      cases hr : rdV 0 b1 with
      | none => rfl
      | some p =>
        obtain ⟨n, u⟩ := p
        simp only
        rw [if_neg (fun h1 => hv ⟨n, u, hr, h1⟩)])
    have Hk1 := Lib.hid k1
    clear hs hc hl hN hN2 hx hv HL t1 t2 t3 t4 k1
    go_enter Tryz.func56, Tryz.ntmps56
    go_wp2_with (first
      | (go_at_call 58; refine (must_yes _).mono ?_; rintro e w' ⟨rfl, rfl⟩)
      | (go_at_call 88; refine HV.out.mono ?_; rintro e w' ⟨rfl, hk⟩; have Hk := Lib.hid hk; clear hk))
    exact ⟨rfl, HeadE.no HN.out (Hk1.out.trans Hk.out)⟩
end Go.Proofs.YtdnaahbhfjclpaaGreatDoor

namespace Go.Proofs.YtdnaahbhfjclpaaGreatDoor
open Go.RowKit Go.Sal Go.Huf Go.Cod
theorem dcatch_panicking (a b : Nat) (v1 v2 : Value) (w : World) (hA : Blk w a 22 #[v1]) (hB : Blk w b 24 #[v2]) (hne : b ≠ a) :
    CallsD Tryz.prog 54 #[.pointer (some ⟨a, 0, none⟩), .pointer (some ⟨b, 0, none⟩)] (.panicking PN) w fun e u' w' =>
      e = .returned (.tuple #[]) ∧ u' = .panicking [{ v := .iface 129 (.agg #[]), recovered := true }] ∧ ∃ w1, Keep [] w w1 ∧ w' = (w1.setCell ⟨a, 0, none⟩ (.slice none 0 0)).setCell ⟨b, 0, none⟩ (.int .i64 70) := by
  have HC := Lib.hid caught_yes
  refine callsD_of_wpS Tryz.func54 rfl fun c₀ cs hu => ?_
  unfold PN at hu
  apply wpS_seq
  apply wpS_region
  simp [wpOpsS, go_sem, recoverD, hu, Tryz.ntmps54, Exit.thenS]
  refine (HC.out w).mono ?_
  rintro e w1 ⟨rfl, hk⟩
  have hA1 := hA.keep hk (by simp)
  have hB1 := hB.keep hk (by simp)
  have hB2 : Blk (w1.setCell ⟨a, 0, none⟩ (.slice none 0 0)) b 24 #[v2] := hB1.keep ((Keep.refl [a] w1).setCell (.inl (by simp)) _) (by simpa using hne)
  have c0 : w1.cell? ⟨a, 0, none⟩ = some v1 := hA1.cell 0
  have f0 := hA1.free 0
  have c1 : (w1.setCell ⟨a, 0, none⟩ (.slice none 0 0)).cell? ⟨b, 0, none⟩ = some v2 := hB2.cell 0
  have f1 := hB1.free 0
  refine wpS_cond (t := true) (by simp [Act.eval, Array.replicate]) ?_
  simp only [if_true]
  apply wpS_region
  simp [wpOpsS, go_sem, c0, f0, c1, f1, bodyPostS, results, Tryz.results54]
  exact ⟨w1, hk, rfl⟩
theorem dcatch_idle (a b : Nat) (w : World) :
    CallsD Tryz.prog 54 #[.pointer (some ⟨a, 0, none⟩), .pointer (some ⟨b, 0, none⟩)] .returning w fun e u' w' => e = .returned (.tuple #[]) ∧ u' = .returning ∧ w' = w := by
  have HC := Lib.hid caught_nil
  refine callsD_of_wpS Tryz.func54 rfl fun c₀ cs hu => ?_
  apply wpS_seq
  apply wpS_region
  simp [wpOpsS, go_sem, recoverD, hu, Tryz.ntmps54, Exit.thenS]
  refine (HC.out w).mono ?_
  rintro e w1 ⟨rfl, rfl⟩
  refine wpS_cond (t := false) (by simp [Act.eval, Array.replicate]) ?_
  simp only [Bool.false_eq_true, if_false]
  refine wpS_of_wp (wp_skip ?_)
  cases c₀
  simp_all [bodyPostS, results, Tryz.results54]
end Go.Proofs.YtdnaahbhfjclpaaGreatDoor

namespace Go.Cod
open Go.Huf
theorem bytF_none {t : Tk} {l : List Tk} {b : List Nat} (h : okT t = false ∨ (b.length : Int) < t.1 ∨ 65536 - (b.length : Int) < t.2.1) : bytF (t :: l) b = none := by rw [bytF, if_pos h]
theorem bytF_lit {t : Tk} {l : List Tk} {b : List Nat} (h : ¬ (okT t = false ∨ (b.length : Int) < t.1 ∨ 65536 - (b.length : Int) < t.2.1)) (h1 : t.1 = 0) : bytF (t :: l) b = bytF l (b ++ [t.2.2]) := by rw [bytF, if_neg h, if_pos h1]
theorem bytF_cpy {t : Tk} {l : List Tk} {b : List Nat} (h : ¬ (okT t = false ∨ (b.length : Int) < t.1 ∨ 65536 - (b.length : Int) < t.2.1)) (h1 : t.1 ≠ 0) : bytF (t :: l) b = bytF l (cpyF t.1.toNat t.2.1.toNat b) := by rw [bytF, if_neg h, if_neg h1]
theorem cpyF_step (d n : Nat) (b : List Nat) : cpyF d (n + 1) b = cpyF d n (b ++ [b.getD (b.length - d) 0]) := rfl
theorem getD_lt {b : List Nat} (h : ∀ x ∈ b, x < 256) (i : Nat) : b.getD i 0 < 256 := by
  rw [List.getD_eq_getElem?_getD]
  cases hi : b[i]? with
  | none => simp
  | some x => exact h x (List.mem_of_getElem? hi)
theorem cpyF_lt (d : Nat) : ∀ n b, (∀ x ∈ b, x < 256) → ∀ x ∈ cpyF d n b, x < 256
  | 0, b, h => h
  | n + 1, b, h => cpyF_lt d n _ (fun x hx => by
    rcases List.mem_append.1 hx with hx | hx
    · exact h x hx
    · have hx := List.mem_singleton.1 hx
      rw [hx]
      exact getD_lt h _)
theorem bytF_lt : ∀ (l : List Tk) (b q : List Nat), (∀ t ∈ l, t.2.2 < 256) → (∀ x ∈ b, x < 256) → b.length ≤ 65536 → bytF l b = some q → (∀ x ∈ q, x < 256) ∧ q.length ≤ 65536
  | [], b, q, _, h, hn, e => by
    rw [bytF] at e
    injection e with e
    subst e
    exact ⟨h, hn⟩
  | t :: l, b, q, hl, h, hn, e => by
    have hl' : ∀ t ∈ l, t.2.2 < 256 := fun s hs => hl s (List.mem_cons_of_mem _ hs)
    by_cases h0 : okT t = false ∨ (b.length : Int) < t.1 ∨ 65536 - (b.length : Int) < t.2.1
    · rw [bytF_none h0] at e
      cases e
    · have hok : okT t = true := by
        cases hb : okT t with
        | true => rfl
        | false => exact absurd (.inl hb) h0
      have hln := okT_len hok
      have h2 : ¬ 65536 - (b.length : Int) < t.2.1 := fun q => h0 (.inr (.inr q))
      by_cases h1 : t.1 = 0
      · rw [bytF_lit h0 h1] at e
        refine bytF_lt l _ q hl' (fun x hx => ?_) ?_ e
        · rcases List.mem_append.1 hx with hx | hx
          · exact h x hx
          · rw [List.mem_singleton.1 hx]
            exact hl t (by simp)
        · rw [List.length_append]; simp; omega
      · rw [bytF_cpy h0 h1] at e
        refine bytF_lt l _ q hl' (cpyF_lt _ _ _ h) ?_ e
        rw [cpy_len]; omega
end Go.Cod
namespace Go.Proofs.YtdnaahbhfjclpaaGreatDoor
open Go.RowKit Go.Sal Go.Huf Go.Cod
structure BI (w : World) (q : List Nat) (A : Option Addr) (n c : Nat) (wr : World) : Prop where
  len : n = q.length
  own : wr.ownsRow w.heap.size 5 1 (.slice A n c) n (inB q)
  kp : Keep [] w wr
section
variable {w wr w1 : World} {q : List Nat} {A : Option Addr} {n c : Nat}
theorem BI.start (w : World) : BI w [] none 0 0 w := ⟨rfl, World.ownsRow_nil _ _ _ _, Keep.refl _ _⟩
theorem BI.keep (h : BI w q A n c wr) (k : Keep [] wr w1) : BI w q A n c w1 := ⟨h.len, ownsRow_keep h.own k (by simp), h.kp.trans k⟩
theorem BI.add (h : BI w q A n c wr) (hn : n ≤ 1000000) (x : Nat) : ∃ A' c' w', (Builtin.append_ #[22, 22] 22 #[.slice A n c, .slice (some ⟨wr.heap.size, 0, none⟩) 1 1]).run Tryz.prog (wr.alloc (.cells #[.int .u8 (x : Nat)] 5)) = .ok (.slice A' (n + 1) c') w' ∧
    BI w (q ++ [x]) A' (n + 1) c' w' ∧ ∀ g t cs, t ≠ 5 → Blk wr g t cs → Blk w' g t cs := by
  obtain ⟨A', c', w', h1, h2, h3⟩ := byte_app h.own x (by omega) h.kp.size
  refine ⟨A', c', w', h1, ⟨by rw [List.length_append, h.len]; rfl, h2, h.kp.step h3 (fun i hi => .inr (own_far h.own i hi))⟩, fun g t cs ht hb => hb.keep h3 (fun hm => own_ne_blk h.own hb (Ne.symm ht) (by simpa using hm))⟩
theorem BI.get (h : BI w q A n c wr) {i : Nat} (hi : i < n) : ∃ g, A = some ⟨g, 0, none⟩ ∧ wr.cell? ⟨g, i, none⟩ = some (.int .u8 (q.getD i 0 : Nat)) := by
  obtain ⟨g, rfl, _, _⟩ := own_some h.own (by omega)
  have hi2 : i < q.length := by rw [← h.len]; exact hi
  refine ⟨g, rfl, ?_⟩
  rw [(inB_cell h.own hi2).1, List.getD_eq_getElem?_getD, List.getElem?_eq_getElem hi2]
  rfl
end
def ByE (w : World) (r : Option (List Nat)) (e : Ending) (w' : World) : Prop := match r with
  | some q => ∃ A c, e = .returned (.tuple #[.slice A q.length c, .int .i64 0, .int .i64 0]) ∧ w'.ownsRow w.heap.size 5 1 (.slice A q.length c) q.length (inB q) ∧ Keep [] w w'
  | none => ∃ (i E : Int), e = .returned (.tuple #[.slice none 0 0, .int .i64 i, .int .i64 E]) ∧ (E == 0) = false ∧ Keep [] w w'
theorem ByE.no {w w' : World} {r : Option (List Nat)} (h : r = none) (i E : Int) (hE : (E == 0) = false) (k : Keep [] w w') : ByE w r (.returned (.tuple #[.slice none 0 0, .int .i64 i, .int .i64 E])) w' := by
  subst h
  exact ⟨i, E, rfl, hE, k⟩
theorem BI.fin {w wr : World} {q : List Nat} {A : Option Addr} {n c : Nat} (h : BI w q A n c wr) {r : Option (List Nat)} (hr : r = some q) : ByE w r (.returned (.tuple #[.slice A n c, .int .i64 0, .int .i64 0])) wr := by
  subst hr
  obtain ⟨h1, h2, h3⟩ := h
  subst h1
  exact ⟨A, c, rfl, h2, h3⟩
set_option maxRecDepth 20000 in
set_option maxHeartbeats 2000000 in
theorem lzbytes_any (l : List Tk) (A : Option Addr) (c : Nat) (w : World) (hs : TSrc w A l) (hl : l.length ≤ 20000) :
    Calls Tryz.prog 59 #[.slice A l.length c] w fun e w' => ByE w (bytP l) e w' := by
  have Hs := Lib.hid hs
  clear hs
  go_enter Tryz.func59, Tryz.ntmps59
  go_wp2
  go_loopw [10, 5] (fun v10 v5 wr => ∃ (k n5 : Nat) (A5 : Option Addr) (c5 : Nat), v10 = .int .i64 k ∧ k ≤ l.length ∧ v5 = .slice A5 n5 c5 ∧ n5 ≤ 65536 ∧ Hid (∃ q, BI w q A5 n5 c5 wr ∧ bytP l = bytF (l.drop k) q)) (fun v10 _ _ => l.length - (intOf v10).toNat)
  case atStart => exact ⟨0, 0, none, 0, rfl, by omega, rfl, by omega, Lib.hid ⟨[], BI.start w, rfl⟩⟩
  case round =>
    obtain ⟨k, n5, A5, c5, rfl, hk, rfl, hn5, hI⟩ := hrel
    obtain ⟨q, hB, hP⟩ := hI.out
    clear hI
    rcases Nat.lt_or_ge k l.length with hkl | hkl
    · as_aux_lemma =>
        obtain ⟨g, o, rfl, hg, d1, d2, d3⟩ := (Hs.out.keep hB.kp (by simp)).1 k hkl
        have hkli : (k : Int) < l.length := by omega
        have hwk : IntKind.i64.wrap ((k : Int) + 1) = (k : Int) + 1 := by rw [IntKind.wrap_i64]; omega
        have Hc := Lib.hid (fun w => tokcheck_any l[k] w)
        rw [List.drop_eq_getElem_cons hkl] at hP
        have hq := hB.len
        have hT := Lib.hid (show okT l[k] = true → 1 ≤ l[k].2.1 ∧ l[k].2.1 ≤ 258 ∧ 0 ≤ l[k].1 from fun h => by rcases okT_cases h with h | h <;> omega)
        generalize l[k] = t at *
        obtain ⟨r, hr⟩ : ∃ r, r = l.drop (k + 1) := ⟨_, rfl⟩
        rw [← hr] at hP
        have Hr := Lib.hid hr
        clear hr
        obtain ⟨d, m, x⟩ := t
        dsimp only at d1 d2 d3 Hc hT
        have HB := Lib.hid hB
        have HP := Lib.hid hP
        have Hq := Lib.hid hq
        clear hB hP hq
        have HX : Hid (∀ w1, Keep [] (wr.alloc (.cells #[.int .i64 d, .int .i64 m, .int .u8 (x : Nat)] 143)) w1 → BI w q A5 n5 c5 w1 ∧ Blk w1 wr.heap.size 143 #[.int .i64 d, .int .i64 m, .int .u8 (x : Nat)]) :=
          Lib.hid (fun w1 hk1 => ⟨HB.out.keep (((Keep.refl [] wr).alloc _).trans hk1), (Blk.new wr 143 _).keep hk1 (by simp)⟩)
        cases hb : okT (d, m, x) with
        | false =>
          rw [hb] at Hc
          have HN : Hid (bytP l = none) := Lib.hid (by rw [HP.out, bytF_none (.inl hb)])
          clear hb hT
          go_wp2_with (go_at_call 94; refine (Hc.out _).mono ?_; rintro e w1 ⟨rfl, hk1⟩; have H1 := Lib.hid (HX.out w1 hk1); clear hk1)
          go_ret3
          exact ByE.no HN.out _ _ (by decide) H1.out.1.kp
        | true =>
          rw [hb] at Hc
          have Hb := Lib.hid hb
          obtain ⟨hm1, hm2, hd0⟩ := hT.out hb
          clear hb hT
          by_cases h1 : (n5 : Int) < d
          · have HN : Hid (bytP l = none) := Lib.hid (by rw [HP.out, bytF_none (.inr (.inl (by rw [← Hq.out]; exact h1)))])
            go_wp2_with (go_at_call 94; refine (Hc.out _).mono ?_; rintro e w1 ⟨rfl, hk1⟩; have H1 := Lib.hid (HX.out w1 hk1); have c0 : w1.cell? ⟨wr.heap.size, 0, none⟩ = some (.int .i64 d) := H1.out.2.cell 0; clear hk1)
            go_ret3
            exact ByE.no HN.out _ _ (by decide) H1.out.1.kp
          · have hws : IntKind.i64.wrap (65536 - (n5 : Int)) = 65536 - (n5 : Int) := by rw [IntKind.wrap_i64]; omega
            by_cases h2 : 65536 - (n5 : Int) < m
            · have HN : Hid (bytP l = none) := Lib.hid (by rw [HP.out, bytF_none (.inr (.inr (by rw [← Hq.out]; exact h2)))])
              go_wp2_with (go_at_call 94; refine (Hc.out _).mono ?_; rintro e w1 ⟨rfl, hk1⟩; have H1 := Lib.hid (HX.out w1 hk1); have c0 : w1.cell? ⟨wr.heap.size, 0, none⟩ = some (.int .i64 d) := H1.out.2.cell 0; have c1 : w1.cell? ⟨wr.heap.size, 1, none⟩ = some (.int .i64 m) := H1.out.2.cell 1; clear hk1)
              go_ret3
              exact ByE.no HN.out _ _ (by decide) H1.out.1.kp
            · have hno : ¬ (okT (d, m, x) = false ∨ (q.length : Int) < (d, m, x).1 ∨ 65536 - (q.length : Int) < (d, m, x).2.1) := by
                rw [← Hq.out, Hb.out]
                simp
                omega
              have Hno := Lib.hid hno
              clear hno
              by_cases h3 : d = 0
              · subst h3
                have HN : Hid (bytP l = bytF r (q ++ [x])) := Lib.hid (by rw [HP.out, bytF_lit Hno.out rfl])
                go_upto_region 16 with (go_at_call 94; refine (Hc.out _).mono ?_; rintro e w1 ⟨rfl, hk1⟩; have H1 := Lib.hid (HX.out w1 hk1); have c0 : w1.cell? ⟨wr.heap.size, 0, none⟩ = some (.int .i64 0) := H1.out.2.cell 0; have c1 : w1.cell? ⟨wr.heap.size, 1, none⟩ = some (.int .i64 m) := H1.out.2.cell 1; have c2 : w1.cell? ⟨wr.heap.size, 2, none⟩ = some (.int .u8 (x : Nat)) := H1.out.2.cell 2; clear hk1)
                obtain ⟨A6, c6, w2, hap, hB2, _⟩ := H1.out.1.add (by omega) x
                have HB2 := Lib.hid hB2
                clear hB2
                go_wp2_with (at_builtin; refine wpList_append2 (v1 := .slice A5 n5 c5) (v2 := .slice (some ⟨w1.heap.size, 0, none⟩) 1 1) rfl (.tmp 55) (.tmp 58) rfl rfl rfl hap ?_)
                go_roundw
                case rel => exact ⟨k + 1, n5 + 1, A6, c6, by simp, by omega, by simp, by omega, Lib.hid ⟨_, HB2.out, by rw [← Hr.out]; exact HN.out⟩⟩
                case measure => simp [intOf]; omega
              · obtain ⟨dn, rfl⟩ : ∃ dn : Nat, d = dn := ⟨d.toNat, by omega⟩
                obtain ⟨mn, rfl⟩ : ∃ mn : Nat, m = mn := ⟨m.toNat, by omega⟩
                have HN : Hid (bytP l = bytF r (cpyF dn mn q)) := Lib.hid (by rw [HP.out, bytF_cpy Hno.out (by simpa using h3)]; simp)
                have hdb : ((dn : Int) == 0) = false := by simpa using h3
                have hd1 : 1 ≤ dn := by omega
                have h1n : ¬ n5 < dn := by omega
                have h2b : decide (65536 - (n5 : Int) < (mn : Int)) = false := decide_eq_false h2
                go_upto_region 5 with (go_at_call 94; refine (Hc.out _).mono ?_; rintro e w1 ⟨rfl, hk1⟩; have H1 := Lib.hid (HX.out w1 hk1); have c0 : w1.cell? ⟨wr.heap.size, 0, none⟩ = some (.int .i64 (dn : Nat)) := H1.out.2.cell 0; have c1 : w1.cell? ⟨wr.heap.size, 1, none⟩ = some (.int .i64 (mn : Nat)) := H1.out.2.cell 1; clear hk1)
                clear HX
                generalize wr.heap.size = tb at *
                go_wp2
                go_loopw [17, 5] (fun v17 v5 w2 => ∃ (j n2 : Nat) (A2 : Option Addr) (c2 : Nat), v17 = .int .i64 j ∧ j ≤ mn ∧ v5 = .slice A2 n2 c2 ∧ n2 = n5 + j ∧ Hid (∃ q2, BI w q2 A2 n2 c2 w2 ∧ cpyF dn (mn - j) q2 = cpyF dn mn q ∧ Blk w2 tb 143 #[.int .i64 (dn : Nat), .int .i64 (mn : Nat), .int .u8 (x : Nat)])) (fun v17 _ _ => mn - (intOf v17).toNat)
                case atStart => exact ⟨0, n5, A5, c5, rfl, by omega, rfl, rfl, Lib.hid ⟨q, H1.out.1, rfl, H1.out.2⟩⟩
                case round =>
                  obtain ⟨j, n2, A2, c2, rfl, hj, rfl, hn2, hJ⟩ := hrel
                  obtain ⟨q2, hB2, hC, hT2⟩ := hJ.out
                  clear hJ H1 c0 c1
                  rcases Nat.lt_or_ge j mn with hjm | hjm
                  · have hjmi : (j : Int) < mn := by omega
                    have hwj : IntKind.i64.wrap ((j : Int) + 1) = (j : Int) + 1 := by rw [IntKind.wrap_i64]; omega
                    have hwi : IntKind.i64.wrap ((n2 : Int) - (dn : Int)) = ((n2 - dn : Nat) : Int) := by rw [IntKind.wrap_i64]; omega
                    have hlt : n2 - dn < n2 := by omega
                    obtain ⟨g2, rfl, hcell⟩ := hB2.get hlt
                    obtain ⟨i2, hi2⟩ : ∃ i2, i2 = n2 - dn := ⟨_, rfl⟩
                    rw [← hi2] at hcell hwi hlt
                    have c0 : wr.cell? ⟨tb, 0, none⟩ = some (.int .i64 (dn : Nat)) := hT2.cell 0
                    obtain ⟨A6, c6, w3, hap, hB3, hB4⟩ := hB2.add (by omega) (q2.getD i2 0)
                    have H3 : Hid (BI w (q2 ++ [q2.getD i2 0]) A6 (n2 + 1) c6 w3 ∧ cpyF dn (mn - (j + 1)) (q2 ++ [q2.getD i2 0]) = cpyF dn mn q ∧ Blk w3 tb 143 #[.int .i64 (dn : Nat), .int .i64 (mn : Nat), .int .u8 (x : Nat)]) := by
                      refine Lib.hid ⟨hB3, ?_, hB4 _ _ _ (by decide) hT2⟩
                      rw [← hC, show mn - j = (mn - (j + 1)) + 1 by omega, cpyF_step, hi2, hB2.len]
                    clear hB2 hC hT2 hB3 hB4
                    generalize q2.getD i2 0 = xx at *
                    have hi2' : i2 < n2 := hlt
                    have Hn3 : Hid (n2 + 1 = n5 + (j + 1)) := Lib.hid (by omega)
                    have Hn := Lib.hid (And.intro hn2 hi2)
                    clear hn2 hi2
                    go_wp2_with (at_builtin; refine wpList_append2 (v1 := .slice (some ⟨g2, 0, none⟩) n2 c2) (v2 := .slice (some ⟨wr.heap.size, 0, none⟩) 1 1) rfl (.tmp 19) (.tmp 28) rfl rfl rfl hap ?_)
                    go_roundw
                    case rel => exact ⟨j + 1, n2 + 1, A6, c6, by simp, by omega, by simp, Hn3.out, Lib.hid ⟨_, H3.out⟩⟩
                    case measure => simp [intOf]; omega
                  · obtain rfl : j = mn := by omega
                    have hjn : ¬ (j : Int) < j := by omega
                    have HF : Hid (∃ q, BI w q A2 n2 c2 wr ∧ bytP l = bytF r q) := Lib.hid ⟨q2, hB2, by rw [HN.out, ← hC]; simp [cpyF]⟩
                    have hn6 : n2 ≤ 65536 := by omega
                    clear hB2 hC hT2 hjm
                    go_wp2
                    go_roundw
                    case rel => exact ⟨k + 1, n2, A2, c2, by simp, by omega, by simp, hn6, by rw [← Hr.out]; exact HF⟩
                    case measure => simp [intOf]; omega
    · obtain rfl : k = l.length := by omega
      have hki : ¬ (l.length : Int) < l.length := by omega
      have HR : Hid (ByE w (bytP l) (.returned (.tuple #[.slice A5 n5 c5, .int .i64 0, .int .i64 0])) wr) := Lib.hid (hB.fin (by rw [hP, List.drop_length]; rfl))
      clear hB hP hkl hk
      go_wp2
      go_ret3
      exact HR.out
end Go.Proofs.YtdnaahbhfjclpaaGreatDoor

namespace Go.Cod
open Go.Huf
theorem toksF_lit {la lb : List Int} {b : List Nat} : ∀ (n a : Nat) (l : List Tk), toksF la lb b n a = some l → ∀ t ∈ l, t.2.2 < 256
  | 0, a, l, h, t, ht => by
    simp [toksF] at h
    subst h
    simp at ht
  | n + 1, a, l, h, t, ht => by
    cases hr : tokR la lb b a with
    | none => rw [toksF_none hr] at h; cases h
    | some p =>
      obtain ⟨t0, a2⟩ := p
      rw [toksF_some hr] at h
      cases hq : toksF la lb b n a2 with
      | none => rw [hq] at h; cases h
      | some l2 =>
        rw [hq] at h
        simp at h
        subst h
        rcases List.mem_cons.1 ht with rfl | ht
        · exact (tokR_ok hr).2.2
        · exact toksF_lit n a2 l2 hq t ht
theorem readP_lit {b : List Nat} {l : List Tk} (h : readP b = some l) : ∀ t ∈ l, t.2.2 < 256 := by
  unfold readP at h
  split at h
  · cases h
  · split at h
    · cases h
    · split at h
      · cases h
      · split at h
        · cases h
        · exact toksF_lit _ _ _ h
theorem unpT_lit (b : List Nat) : ∀ t ∈ unpT b, t.2.2 < 256 := by
  unfold unpT
  cases hr : readP b with
  | none => simp
  | some l =>
    simp only
    split
    · exact readP_lit hr
    · simp
theorem toksF_cnt {la lb : List Int} {b : List Nat} : ∀ (n a : Nat) (l : List Tk), toksF la lb b n a = some l → l.length = n ∧ (n = 0 ∨ a + n ≤ 8 * b.length)
  | 0, a, l, h => by
    simp [toksF] at h
    subst h
    simp
  | n + 1, a, l, h => by
    cases hr : tokR la lb b a with
    | none => rw [toksF_none hr] at h; cases h
    | some p =>
      obtain ⟨t0, a2⟩ := p
      have hk := tokR_ok hr
      rw [toksF_some hr] at h
      cases hq : toksF la lb b n a2 with
      | none => rw [hq] at h; cases h
      | some l2 =>
        rw [hq] at h
        simp at h
        subst h
        obtain ⟨h1, h2⟩ := toksF_cnt n a2 l2 hq
        refine ⟨by simp [h1], .inr ?_⟩
        rcases h2 with h2 | h2 <;> omega
theorem readP_cnt {b : List Nat} {l : List Tk} (h : readP b = some l) : l.length ≤ 8 * b.length := by
  unfold readP at h
  split at h
  · cases h
  · rename_i h1
    split at h
    · cases h
    · rename_i h2
      split at h
      · cases h
      · split at h
        · cases h
        · have e1 := (lenP_ok h1).2.2.1
          have e2 := (lenP_ok h2).2.2.1
          obtain ⟨e3, e4⟩ := toksF_cnt _ _ _ h
          rw [List.length_drop] at e4
          omega
theorem unpT_cnt (b : List Nat) : (unpT b).length ≤ 8 * b.length := by
  unfold unpT
  cases hr : readP b with
  | none => simp
  | some l =>
    simp only
    split
    · exact readP_cnt hr
    · simp
theorem size_all {l : List Tk} (h : sizeE l = 0) : l.all okT = true := by
  unfold sizeE at h
  split at h
  · assumption
  · cases h
def decT (b : List Nat) : List Nat := (decP b).getD []
def decC (b : List Nat) : Int := match decP b with
  | some _ => 0
  | none => 70
theorem dec_no {b : List Nat} (h : decP b = none) : decT b = [] ∧ decC b = 70 := by
  unfold decT decC
  rw [h]
  exact ⟨rfl, rfl⟩
theorem dec_yes {b q : List Nat} (h : decP b = some q) : decT b = q ∧ decC b = 0 := by
  unfold decT decC
  rw [h]
  exact ⟨rfl, rfl⟩
end Go.Cod
namespace Go.Proofs.YtdnaahbhfjclpaaGreatDoor
open Go.RowKit Go.Sal Go.Huf Go.Cod
theorem unpT_bd {b : List Nat} (h : unpE b = 0) : ∀ t ∈ unpT b, bdT t := fun t ht =>
  okT_bd (List.all_eq_true.1 (size_all (unp_one h).1) t ht) (unpT_lit b t ht)
theorem head_any (bl : List Nat) (AB : Option Addr) (cB : Nat) (w : World) (hs : BySrc w AB bl) (hc : bl.length ≤ cB) (hl : bl.length ≤ 1000000) :
    Calls Tryz.prog 56 #[.slice AB bl.length cB] w fun e w' => HeadE w (headP bl) e w' := by
  cases bl with
  | nil => exact head_bad [] AB cB w hs hl (fun x b1 h => by cases h)
  | cons x b1 =>
    by_cases hx : x ≤ 1
    · exact head_ok x b1 AB cB w hs hc hl hx
    · exact head_bad (x :: b1) AB cB w hs hl (fun y b2 h => by injection h with h1 h2; omega)
structure DeS (w W : World) : Prop where
  res : Blk W w.heap.size 22 #[.slice none 0 0]
  err : Blk W (w.heap.size + 1) 24 #[.int .i64 0]
  kp : Keep [] w W
theorem DeS.keep {w W W' : World} (h : DeS w W) (k : Keep [] W W') : DeS w W' := ⟨h.res.keep k (by simp), h.err.keep k (by simp), h.kp.trans k⟩
theorem DeS.dies {w W W' : World} {bl0 : List Nat} (h : DeS w W) (hk : Keep [] W W') {T : Array Value} (h2 : T[2]? = some (.pointer (some ⟨w.heap.size, 0, none⟩))) (h3 : T[3]? = some (.pointer (some ⟨w.heap.size + 1, 0, none⟩))) (hT : decT bl0 = []) (hE : decC bl0 = 70) :
    bodyPostD Tryz.prog Tryz.f30 (fun e w' => RowBE w (decT bl0) (decC bl0) e w') (.panic PN) { tmps := T, defers := [{ target := .fn (.func 54) #[.pointer (some ⟨w.heap.size, 0, none⟩), .pointer (some ⟨w.heap.size + 1, 0, none⟩)], args := #[] }] } W' := by
  have r1 := h.res.keep hk (by simp)
  have r2 := h.err.keep hk (by simp)
  have kp := h.kp.trans hk
  refine leaves_cons (f := 54) (args := #[.pointer (some ⟨w.heap.size, 0, none⟩), .pointer (some ⟨w.heap.size + 1, 0, none⟩)]) (by simp) (by simp [go_sem]) ?_
  refine (dcatch_panicking _ _ _ _ _ r1 r2 (by omega)).mono ?_
  rintro e u' w'' ⟨rfl, rfl, w1, k1, rfl⟩
  have b1 := (r1.keep k1 (by simp)).set_ 0 (.slice none 0 0)
  have b2 : Blk ((w1.setCell ⟨w.heap.size, 0, none⟩ (.slice none 0 0)).setCell ⟨w.heap.size + 1, 0, none⟩ (.int .i64 70)) (w.heap.size + 1) 24 _ := ((r2.keep k1 (by simp)).keep ((Keep.refl [w.heap.size] w1).setCell (.inl (by simp)) _) (by simp)).set_ 0 (.int .i64 70)
  have b3 : Blk ((w1.setCell ⟨w.heap.size, 0, none⟩ (.slice none 0 0)).setCell ⟨w.heap.size + 1, 0, none⟩ (.int .i64 70)) w.heap.size 22 _ := b1.keep ((Keep.refl [w.heap.size + 1] _).setCell (.inl (by simp)) _) (by simp)
  have c1 := b3.cell 0
  have c2 := b2.cell 0
  have kk : Keep [] w ((w1.setCell ⟨w.heap.size, 0, none⟩ (.slice none 0 0)).setCell ⟨w.heap.size + 1, 0, none⟩ (.int .i64 70)) := ((kp.trans k1).setCell (.inr (Nat.le_refl _)) _).setCell (.inr (by simp)) _
  simp at c1 c2
  generalize ((w1.setCell ⟨w.heap.size, 0, none⟩ (.slice none 0 0)).setCell ⟨w.heap.size + 1, 0, none⟩ (.int .i64 70)) = W2 at *
  rw [hT, hE]
  simp [Leaves, settle, results, Tryz.results30, go_sem, h2, h3, c1, c2]
  exact ⟨none, 0, rfl, World.ownsRow_nil _ _ _ _, kk⟩
theorem DeS.done {w w1 : World} {bl0 q : List Nat} {A : Option Addr} {c : Nat} (h : DeS w w1) (own : w1.ownsRow w.heap.size 5 1 (.slice A q.length c) q.length (inB q)) {T : Array Value} (h2 : T[2]? = some (.pointer (some ⟨w.heap.size, 0, none⟩))) (h3 : T[3]? = some (.pointer (some ⟨w.heap.size + 1, 0, none⟩))) (hT : decT bl0 = q) (hE : decC bl0 = 0) :
    bodyPostD Tryz.prog Tryz.f30 (fun e w' => RowBE w (decT bl0) (decC bl0) e w') .ret { tmps := T, defers := [{ target := .fn (.func 54) #[.pointer (some ⟨w.heap.size, 0, none⟩), .pointer (some ⟨w.heap.size + 1, 0, none⟩)], args := #[] }] } ((w1.setCell ⟨w.heap.size, 0, none⟩ (.slice A q.length c)).setCell ⟨w.heap.size + 1, 0, none⟩ (.int .i64 0)) := by
  refine leaves_cons (f := 54) (args := #[.pointer (some ⟨w.heap.size, 0, none⟩), .pointer (some ⟨w.heap.size + 1, 0, none⟩)]) (by simp) (by simp [go_sem]) ?_
  refine (dcatch_idle _ _ _).mono ?_
  rintro e u' w'' ⟨rfl, rfl, rfl⟩
  have k1 : Keep [w.heap.size] w1 (w1.setCell ⟨w.heap.size, 0, none⟩ (.slice A q.length c)) := (Keep.refl _ _).setCell (.inl (by simp)) _
  have k2 : Keep [w.heap.size + 1] (w1.setCell ⟨w.heap.size, 0, none⟩ (.slice A q.length c)) ((w1.setCell ⟨w.heap.size, 0, none⟩ (.slice A q.length c)).setCell ⟨w.heap.size + 1, 0, none⟩ (.int .i64 0)) := (Keep.refl _ _).setCell (.inl (by simp)) _
  have b1 := (h.res.set_ 0 (.slice A q.length c)).keep k2 (by simp)
  have b2 := (h.err.keep k1 (by simp)).set_ 0 (.int .i64 0)
  have hown := ownsRow_keep (ownsRow_keep own k1 (fun g hg hm => by
    simp at hm
    subst hm
    exact own_ne_blk own h.res (by decide) hg)) k2 (fun g hg hm => by
    simp at hm
    subst hm
    exact own_ne_blk own h.err (by decide) hg)
  have kk := (h.kp.step k1 (fun i hi => .inr (by simp at hi; omega))).step k2 (fun i hi => .inr (by simp at hi; omega))
  have c1 := b1.cell 0
  have c2 := b2.cell 0
  simp at c1 c2
  generalize ((w1.setCell ⟨w.heap.size, 0, none⟩ (.slice A q.length c)).setCell ⟨w.heap.size + 1, 0, none⟩ (.int .i64 0)) = W2 at *
  rw [hT, hE]
  simp [Leaves, settle, results, Tryz.results30, go_sem, h2, h3, c1, c2]
  exact ⟨A, c, rfl, hown, kk⟩
theorem DeS.copy {w w1 : World} {q : List Nat} (h : DeS w w1) {A : Option Addr} {c : Nat} {w2 : World} (ho : w2.ownsRow w1.heap.size 5 1 (.slice A q.length c) q.length (inB q)) (k : Keep [] w1 w2) :
    DeS w w2 ∧ w2.ownsRow w.heap.size 5 1 (.slice A q.length c) q.length (inB q) ∧ w2.cell? ⟨w.heap.size, 0, none⟩ = some (.slice none 0 0) ∧ w2.frozen? ⟨w.heap.size, 0, none⟩ = false ∧ w2.cell? ⟨w.heap.size + 1, 0, none⟩ = some (.int .i64 0) ∧ w2.frozen? ⟨w.heap.size + 1, 0, none⟩ = false := by
  have h2 := h.keep k
  exact ⟨h2, own_le ho h.kp.size, h2.res.cell 0, h2.res.free 0, h2.err.cell 0, h2.err.free 0⟩
set_option maxRecDepth 20000 in
set_option maxHeartbeats 1000000 in
theorem decode_any (bl : List Nat) (AB : Option Addr) (cB : Nat) (w : World) (hs : BySrc w AB bl) (hc : bl.length ≤ cB) (hA : ∀ a, AB = some a → a.block < w.heap.size) (hl : bl.length ≤ 2400) :
    Calls Tryz.prog 30 #[.slice AB bl.length cB] w fun e w' => RowBE w (decT bl) (decC bl) e w' := by
  have hmf : ∀ (fn : Fn) (first cap : Array Value) (w : World), (Instr.makeFunc fn first cap).run Tryz.prog w = .ok (.func fn first cap) w := fun _ _ _ _ => rfl
  have hle : ¬ (bl.length : Int) > 262144 := by omega
  have hleb : decide ((bl.length : Int) > 262144) = false := decide_eq_false hle
  have hlen : ¬ 262144 < bl.length := by omega
  have H4 : Hid (DeS w ((w.alloc (.cells #[.slice none 0 0] 22)).alloc (.cells #[.int .i64 0] 24))) := by
    have k2 : Keep [] w ((w.alloc (.cells #[.slice none 0 0] 22)).alloc (.cells #[.int .i64 0] 24)) := ((Keep.refl [] w).alloc _).alloc _
    have b1 := (Blk.new w 22 #[.slice none 0 0]).alloc (.cells #[.int .i64 0] 24)
    have b2 := Blk.new (w.alloc (.cells #[.slice none 0 0] 22)) 24 #[.int .i64 0]
    simp at b2
    exact Lib.hid ⟨b1, b2, k2⟩
  have Hs := Lib.hid hs
  clear hs hA
  go_enter_defers Tryz.func30, Tryz.ntmps30
  go_upto_region 4 with fail
  generalize ((w.alloc (.cells #[.slice none 0 0] 22)).alloc (.cells #[.int .i64 0] 24)) = W4 at *
  have HH := Lib.hid (head_any bl AB cB W4 (Hs.out.keep H4.out.kp (by simp)) hc (by omega))
  have Hhl : Hid (∀ n p r, headP bl = some (n, p, r) → r.length ≤ bl.length) := Lib.hid (fun n p r h => by
    cases bl with
    | nil => simp [headP] at h
    | cons x b1 =>
      unfold headP at h
      simp only at h
      split at h
      · split at h
        · cases h
        · split at h
          · simp at h
            rw [← h.2.2]
            simp
            omega
          · cases h
      · cases h)
  cases hh : headP bl with
  | none =>
    rw [hh] at HH
    have HR := Lib.hid (dec_no (b := bl) (by unfold decP; rw [hh]))
    clear hh
    go_wp2_with (go_at_call 56; refine HH.out.mono ?_; rintro e w' ⟨rfl, hk⟩; have Hk := Lib.hid hk; clear hk)
    refine DeS.dies H4.out Hk.out ?_ ?_ HR.out.1 HR.out.2 <;> rfl
  | some z =>
    obtain ⟨n, p, r⟩ := z
    rw [hh] at HH
    have hrl := Hhl.out n p r hh
    have HP : Hid (decP bl = if p then (if unpE r = 0 then (match bytP (unpT r) with
      | none => none
      | some q => if q.length = n then some q else none) else none) else if r.length = n then some r else none) := Lib.hid (by unfold decP; rw [hh]; rfl)
    clear hh Hhl
    cases p with
    | false =>
      go_upto_region 10 with (go_at_call 56; refine HH.out.mono ?_; rintro e w5 ⟨A5, c5, rfl, hs5, hc5, hA5, hk5⟩; have H5 := Lib.hid (H4.out.keep hk5); have Hs5 := Lib.hid hs5; clear hs5 hA5 hk5)
      by_cases hn : r.length = n
      · have HR := Lib.hid (dec_yes (b := bl) (q := r) (by rw [HP.out]; simp [hn]))
        have HC := Lib.hid (clone_any r A5 c5 w5 Hs5.out (by omega))
        have hnb : ((r.length : Int) == (n : Int)) = true := by simp [hn]
        clear hn HP
        go_wp2_with (first
          | (go_at_call 58; refine (must_yes _).mono ?_; rintro e w' ⟨rfl, rfl⟩)
          | (go_at_call 60; refine HC.out.mono ?_; rintro e w6 ⟨A6, c6, rfl, ho6, hk6⟩; obtain ⟨hd6, hw6, x0, x1, x2, x3⟩ := H5.out.copy ho6 hk6; have H6 := Lib.hid (And.intro hd6 hw6); clear hd6 hw6 ho6 hk6))
        refine DeS.done H6.out.1 H6.out.2 ?_ ?_ HR.out.1 HR.out.2 <;> rfl
      · have HR := Lib.hid (dec_no (b := bl) (by rw [HP.out]; simp [hn]))
        have hnb : ((r.length : Int) == (n : Int)) = false := by simp; omega
        clear hn HP
        go_wp2_with (go_at_call 58; refine (must_no _).mono ?_; rintro e w' ⟨rfl, hk⟩; have Hk := Lib.hid hk; clear hk)
        refine DeS.dies H5.out Hk.out ?_ ?_ HR.out.1 HR.out.2 <;> rfl
    | true =>
      go_upto_region 6 with (go_at_call 56; refine HH.out.mono ?_; rintro e w5 ⟨A5, c5, rfl, hs5, hc5, hA5, hk5⟩; have H5 := Lib.hid (H4.out.keep hk5); have HU := Lib.hid (unpack_any r A5 c5 w5 hs5 hc5 hA5 (by omega)); clear hs5 hA5 hk5)
      go_upto_region 7 with (go_at_call 57; refine HU.out.mono ?_; rintro e w6 ⟨A6, c6, rfl, ho6, hk6⟩; have H6 := Lib.hid (And.intro (H5.out.keep hk6) ho6); clear ho6 hk6)
      clear HU HH
      by_cases hu : unpE r = 0
      · have hub : (unpE r == 0) = true := by simp [hu]
        have hone := unp_one hu
        have htl : (unpT r).length ≤ 20000 := by have := unpT_cnt r; omega
        have HB := Lib.hid (lzbytes_any (unpT r) A6 c6 w6 (tsrc_own H6.out.2 rfl (unpT_bd hu)) htl)
        have HP2 : Hid (decP bl = (match bytP (unpT r) with
          | none => none
          | some q => if q.length = n then some q else none)) := Lib.hid (by rw [HP.out]; simp [hu])
        have HL := Lib.hid (fun q h => bytF_lt (unpT r) [] q (unpT_lit r) (by simp) (by simp) h)
        clear hu HP hone
        generalize unpE r = ue at *
        cases hb : bytP (unpT r) with
        | none =>
          rw [hb] at HB HP2
          have HR := Lib.hid (dec_no (b := bl) HP2.out)
          clear HP2 hb
          go_wp2_with (first
            | (go_at_call 59; refine HB.out.mono ?_; rintro e w7 ⟨i7, E7, rfl, hE7, hk7⟩; have H7 := Lib.hid (H6.out.1.keep hk7); clear hk7)
            | (go_at_call 58; refine (must_yes _).mono ?_; rintro e w' ⟨rfl, rfl⟩)
            | (go_at_call 58; refine (must_no _).mono ?_; rintro e w' ⟨rfl, hk⟩; have Hk := Lib.hid hk; clear hk))
          refine DeS.dies H7.out Hk.out ?_ ?_ HR.out.1 HR.out.2 <;> rfl
        | some q =>
          rw [hb] at HB HP2
          have hq := HL.out q hb
          have Hq := Lib.hid hq.1
          have hql := hq.2
          clear HL hb hq
          go_upto_region 10 with (first
            | (go_at_call 59; refine HB.out.mono ?_; rintro e w7 ⟨A7, c7, rfl, ho7, hk7⟩; have H7 := Lib.hid (And.intro (H6.out.1.keep hk7) (bsrc_own ho7 Hq.out)); clear hk7 ho7)
            | (go_at_call 58; refine (must_yes _).mono ?_; rintro e w' ⟨rfl, rfl⟩))
          by_cases hn : q.length = n
          · have HR := Lib.hid (dec_yes (b := bl) (q := q) (by rw [HP2.out]; simp [hn]))
            have HC := Lib.hid (clone_any q A7 c7 w7 H7.out.2 (by omega))
            have hnb : ((q.length : Int) == (n : Int)) = true := by simp [hn]
            clear hn HP2
            go_wp2_with (first
              | (go_at_call 58; refine (must_yes _).mono ?_; rintro e w' ⟨rfl, rfl⟩)
              | (go_at_call 60; refine HC.out.mono ?_; rintro e w8 ⟨A8, c8, rfl, ho8, hk8⟩; obtain ⟨hd8, hw8, x0, x1, x2, x3⟩ := H7.out.1.copy ho8 hk8; have H8 := Lib.hid (And.intro hd8 hw8); clear hd8 hw8 ho8 hk8))
            refine DeS.done H8.out.1 H8.out.2 ?_ ?_ HR.out.1 HR.out.2 <;> rfl
          · have HR := Lib.hid (dec_no (b := bl) (by rw [HP2.out]; simp [hn]))
            have hnb : ((q.length : Int) == (n : Int)) = false := by simp; omega
            clear hn HP2
            go_wp2_with (go_at_call 58; refine (must_no _).mono ?_; rintro e w' ⟨rfl, hk⟩; have Hk := Lib.hid hk; clear hk)
            refine DeS.dies H7.out.1 Hk.out ?_ ?_ HR.out.1 HR.out.2 <;> rfl
      · have HR := Lib.hid (dec_no (b := bl) (by rw [HP.out]; simp [hu]))
        have hub : (unpE r == 0) = false := by simpa using hu
        generalize unpE r = ue at *
        clear hu HP
        go_wp2_with (go_at_call 58; refine (must_no _).mono ?_; rintro e w' ⟨rfl, hk⟩; have Hk := Lib.hid hk; clear hk)
        refine DeS.dies H6.out.1 Hk.out ?_ ?_ HR.out.1 HR.out.2 <;> rfl
end Go.Proofs.YtdnaahbhfjclpaaGreatDoor

