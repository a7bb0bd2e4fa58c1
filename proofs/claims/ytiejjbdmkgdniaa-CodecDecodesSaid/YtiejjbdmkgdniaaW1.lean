/- What tokens make, in the program. -/
import Derived.Test.YtiejjbdmkgdniaaK10
import Derived.Test.YtiejjbdmkgdniaaL2
set_option linter.unusedVariables false
set_option linter.unusedSimpArgs false
namespace Go.Cod
open Go.Huf
theorem bytF_none {t : Tk} {l : List Tk} {b : List Nat} (h : okT t = false ∨ (b.length : Int) < t.1 ∨ 65536 - (b.length : Int) < t.2.1) : bytF (t :: l) b = none := by rw [bytF, if_pos h]
theorem bytF_lit {t : Tk} {l : List Tk} {b : List Nat} (h : ¬ (okT t = false ∨ (b.length : Int) < t.1 ∨ 65536 - (b.length : Int) < t.2.1)) (h1 : t.1 = 0) : bytF (t :: l) b = bytF l (b ++ [t.2.2]) := by rw [bytF, if_neg h, if_pos h1]
theorem bytF_cpy {t : Tk} {l : List Tk} {b : List Nat} (h : ¬ (okT t = false ∨ (b.length : Int) < t.1 ∨ 65536 - (b.length : Int) < t.2.1)) (h1 : t.1 ≠ 0) : bytF (t :: l) b = bytF l (cpyF t.1.toNat t.2.1.toNat b) := by rw [bytF, if_neg h, if_neg h1]
theorem cpyF_step (d n : Nat) (b : List Nat) : cpyF d (n + 1) b = cpyF d n (b ++ [b.getD (b.length - d) 0]) := rfl
theorem getD_lt {b : List Nat} (h : ∀ x ∈ b, x < 256) (i : Nat) : b.getD i 0 < 256 := by
  rw [List.getD_eq_getElem?_getD]
  cases hi : b[i]? with
  | none => simp
  | some x => exact h x (List.mem_of_getElem? hi)
theorem cpyF_lt (d : Nat) : ∀ n b, (∀ x ∈ b, x < 256) → ∀ x ∈ cpyF d n b, x < 256
  | 0, b, h => h
  | n + 1, b, h => cpyF_lt d n _ (fun x hx => by
    rcases List.mem_append.1 hx with hx | hx
    · exact h x hx
    · have hx := List.mem_singleton.1 hx
      rw [hx]
      exact getD_lt h _)
theorem bytF_lt : ∀ (l : List Tk) (b q : List Nat), (∀ t ∈ l, t.2.2 < 256) → (∀ x ∈ b, x < 256) → b.length ≤ 65536 → bytF l b = some q → (∀ x ∈ q, x < 256) ∧ q.length ≤ 65536
  | [], b, q, _, h, hn, e => by
    rw [bytF] at e
    injection e with e
    subst e
    exact ⟨h, hn⟩
  | t :: l, b, q, hl, h, hn, e => by
    have hl' : ∀ t ∈ l, t.2.2 < 256 := fun s hs => hl s (List.mem_cons_of_mem _ hs)
    by_cases h0 : okT t = false ∨ (b.length : Int) < t.1 ∨ 65536 - (b.length : Int) < t.2.1
    · rw [bytF_none h0] at e
      cases e
    · have hok : okT t = true := by
        cases hb : okT t with
        | true => rfl
        | false => exact absurd (.inl hb) h0
      have hln := okT_len hok
      have h2 : ¬ 65536 - (b.length : Int) < t.2.1 := fun q => h0 (.inr (.inr q))
      by_cases h1 : t.1 = 0
      · rw [bytF_lit h0 h1] at e
        refine bytF_lt l _ q hl' (fun x hx => ?_) ?_ e
        · rcases List.mem_append.1 hx with hx | hx
          · exact h x hx
          · rw [List.mem_singleton.1 hx]
            exact hl t (by simp)
        · rw [List.length_append]; simp; omega
      · rw [bytF_cpy h0 h1] at e
        refine bytF_lt l _ q hl' (cpyF_lt _ _ _ h) ?_ e
        rw [cpy_len]; omega
end Go.Cod
namespace Go.Proofs.Ytiejjbdmkgdniaa
open Go.RowKit Go.Sal Go.Huf Go.Cod
/-- bytes made so far -/
structure BI (w : World) (q : List Nat) (A : Option Addr) (n c : Nat) (wr : World) : Prop where
  len : n = q.length
  own : wr.ownsRow w.heap.size 5 1 (.slice A n c) n (inB q)
  kp : Keep [] w wr
section
variable {w wr w1 : World} {q : List Nat} {A : Option Addr} {n c : Nat}
theorem BI.start (w : World) : BI w [] none 0 0 w := ⟨rfl, World.ownsRow_nil _ _ _ _, Keep.refl _ _⟩
theorem BI.keep (h : BI w q A n c wr) (k : Keep [] wr w1) : BI w q A n c w1 := ⟨h.len, ownsRow_keep h.own k (by simp), h.kp.trans k⟩
theorem BI.add (h : BI w q A n c wr) (hn : n ≤ 1000000) (x : Nat) : ∃ A' c' w', (Builtin.append_ #[24, 24] 24 #[.slice A n c, .slice (some ⟨wr.heap.size, 0, none⟩) 1 1]).run Try.prog (wr.alloc (.cells #[.int .u8 (x : Nat)] 5)) = .ok (.slice A' (n + 1) c') w' ∧
    BI w (q ++ [x]) A' (n + 1) c' w' ∧ ∀ g t cs, t ≠ 5 → Blk wr g t cs → Blk w' g t cs := by
  obtain ⟨A', c', w', h1, h2, h3⟩ := byte_app h.own x (by omega) h.kp.size
  refine ⟨A', c', w', h1, ⟨by rw [List.length_append, h.len]; rfl, h2, h.kp.step h3 (fun i hi => .inr (own_far h.own i hi))⟩, fun g t cs ht hb => hb.keep h3 (fun hm => own_ne_blk h.own hb (Ne.symm ht) (by simpa using hm))⟩
theorem BI.get (h : BI w q A n c wr) {i : Nat} (hi : i < n) : ∃ g, A = some ⟨g, 0, none⟩ ∧ wr.cell? ⟨g, i, none⟩ = some (.int .u8 (q.getD i 0 : Nat)) := by
  obtain ⟨g, rfl, _, _⟩ := own_some h.own (by omega)
  have hi2 : i < q.length := by rw [← h.len]; exact hi
  refine ⟨g, rfl, ?_⟩
  rw [(inB_cell h.own hi2).1, List.getD_eq_getElem?_getD, List.getElem?_eq_getElem hi2]
  rfl
end
/-- what Bytes answers -/
def ByE (w : World) (r : Option (List Nat)) (e : Ending) (w' : World) : Prop := match r with
  | some q => ∃ A c, e = .returned (.tuple #[.slice A q.length c, .int .i64 0, .int .i64 0]) ∧ w'.ownsRow w.heap.size 5 1 (.slice A q.length c) q.length (inB q) ∧ Keep [] w w'
  | none => ∃ (i E : Int), e = .returned (.tuple #[.slice none 0 0, .int .i64 i, .int .i64 E]) ∧ (E == 0) = false ∧ Keep [] w w'
theorem ByE.no {w w' : World} {r : Option (List Nat)} (h : r = none) (i E : Int) (hE : (E == 0) = false) (k : Keep [] w w') : ByE w r (.returned (.tuple #[.slice none 0 0, .int .i64 i, .int .i64 E])) w' := by
  subst h
  exact ⟨i, E, rfl, hE, k⟩
theorem BI.fin {w wr : World} {q : List Nat} {A : Option Addr} {n c : Nat} (h : BI w q A n c wr) {r : Option (List Nat)} (hr : r = some q) : ByE w r (.returned (.tuple #[.slice A n c, .int .i64 0, .int .i64 0])) wr := by
  subst hr
  obtain ⟨h1, h2, h3⟩ := h
  subst h1
  exact ⟨A, c, rfl, h2, h3⟩
set_option maxRecDepth 20000 in
set_option maxHeartbeats 2000000 in
theorem lzbytes_any (l : List Tk) (A : Option Addr) (c : Nat) (w : World) (hs : TSrc w A l) (hl : l.length ≤ 20000) :
    Calls Try.prog 56 #[.slice A l.length c] w fun e w' => ByE w (bytP l) e w' := by
  have Hs := Lib.hid hs
  clear hs
  go_enter Try.func56, Try.ntmps56
  go_wp2
  go_loopw [10, 5] (fun v10 v5 wr => ∃ (k n5 : Nat) (A5 : Option Addr) (c5 : Nat), v10 = .int .i64 k ∧ k ≤ l.length ∧ v5 = .slice A5 n5 c5 ∧ n5 ≤ 65536 ∧ Hid (∃ q, BI w q A5 n5 c5 wr ∧ bytP l = bytF (l.drop k) q)) (fun v10 _ _ => l.length - (intOf v10).toNat)
  case atStart => exact ⟨0, 0, none, 0, rfl, by omega, rfl, by omega, Lib.hid ⟨[], BI.start w, rfl⟩⟩
  case round =>
    obtain ⟨k, n5, A5, c5, rfl, hk, rfl, hn5, hI⟩ := hrel
    obtain ⟨q, hB, hP⟩ := hI.out
    clear hI
    rcases Nat.lt_or_ge k l.length with hkl | hkl
    · as_aux_lemma =>
        obtain ⟨g, o, rfl, hg, d1, d2, d3⟩ := (Hs.out.keep hB.kp (by simp)).1 k hkl
        have hkli : (k : Int) < l.length := by omega
        have hwk : IntKind.i64.wrap ((k : Int) + 1) = (k : Int) + 1 := by rw [IntKind.wrap_i64]; omega
        have Hc := Lib.hid (fun w => tokcheck_any l[k] w)
        rw [List.drop_eq_getElem_cons hkl] at hP
        have hq := hB.len
        have hT := Lib.hid (show okT l[k] = true → 1 ≤ l[k].2.1 ∧ l[k].2.1 ≤ 258 ∧ 0 ≤ l[k].1 from fun h => by rcases okT_cases h with h | h <;> omega)
        generalize l[k] = t at *
        obtain ⟨r, hr⟩ : ∃ r, r = l.drop (k + 1) := ⟨_, rfl⟩
        rw [← hr] at hP
        have Hr := Lib.hid hr
        clear hr
        obtain ⟨d, m, x⟩ := t
        dsimp only at d1 d2 d3 Hc hT
        have HB := Lib.hid hB
        have HP := Lib.hid hP
        have Hq := Lib.hid hq
        clear hB hP hq
        have HX : Hid (∀ w1, Keep [] (wr.alloc (.cells #[.int .i64 d, .int .i64 m, .int .u8 (x : Nat)] 64)) w1 → BI w q A5 n5 c5 w1 ∧ Blk w1 wr.heap.size 64 #[.int .i64 d, .int .i64 m, .int .u8 (x : Nat)]) :=
          Lib.hid (fun w1 hk1 => ⟨HB.out.keep (((Keep.refl [] wr).alloc _).trans hk1), (Blk.new wr 64 _).keep hk1 (by simp)⟩)
        cases hb : okT (d, m, x) with
        | false =>
          rw [hb] at Hc
          have HN : Hid (bytP l = none) := Lib.hid (by rw [HP.out, bytF_none (.inl hb)])
          clear hb hT
          go_wp2_with (go_at_call 61; refine (Hc.out _).mono ?_; rintro e w1 ⟨rfl, hk1⟩; have H1 := Lib.hid (HX.out w1 hk1); clear hk1)
          go_ret3
          exact ByE.no HN.out _ _ (by decide) H1.out.1.kp
        | true =>
          rw [hb] at Hc
          have Hb := Lib.hid hb
          obtain ⟨hm1, hm2, hd0⟩ := hT.out hb
          clear hb hT
          by_cases h1 : (n5 : Int) < d
          · have HN : Hid (bytP l = none) := Lib.hid (by rw [HP.out, bytF_none (.inr (.inl (by rw [← Hq.out]; exact h1)))])
            go_wp2_with (go_at_call 61; refine (Hc.out _).mono ?_; rintro e w1 ⟨rfl, hk1⟩; have H1 := Lib.hid (HX.out w1 hk1); have c0 : w1.cell? ⟨wr.heap.size, 0, none⟩ = some (.int .i64 d) := H1.out.2.cell 0; clear hk1)
            go_ret3
            exact ByE.no HN.out _ _ (by decide) H1.out.1.kp
          · have hws : IntKind.i64.wrap (65536 - (n5 : Int)) = 65536 - (n5 : Int) := by rw [IntKind.wrap_i64]; omega
            by_cases h2 : 65536 - (n5 : Int) < m
            · have HN : Hid (bytP l = none) := Lib.hid (by rw [HP.out, bytF_none (.inr (.inr (by rw [← Hq.out]; exact h2)))])
              go_wp2_with (go_at_call 61; refine (Hc.out _).mono ?_; rintro e w1 ⟨rfl, hk1⟩; have H1 := Lib.hid (HX.out w1 hk1); have c0 : w1.cell? ⟨wr.heap.size, 0, none⟩ = some (.int .i64 d) := H1.out.2.cell 0; have c1 : w1.cell? ⟨wr.heap.size, 1, none⟩ = some (.int .i64 m) := H1.out.2.cell 1; clear hk1)
              go_ret3
              exact ByE.no HN.out _ _ (by decide) H1.out.1.kp
            · have hno : ¬ (okT (d, m, x) = false ∨ (q.length : Int) < (d, m, x).1 ∨ 65536 - (q.length : Int) < (d, m, x).2.1) := by
                rw [← Hq.out, Hb.out]
                simp
                omega
              have Hno := Lib.hid hno
              clear hno
              by_cases h3 : d = 0
              · subst h3
                have HN : Hid (bytP l = bytF r (q ++ [x])) := Lib.hid (by rw [HP.out, bytF_lit Hno.out rfl])
                go_upto_region 16 with (go_at_call 61; refine (Hc.out _).mono ?_; rintro e w1 ⟨rfl, hk1⟩; have H1 := Lib.hid (HX.out w1 hk1); have c0 : w1.cell? ⟨wr.heap.size, 0, none⟩ = some (.int .i64 0) := H1.out.2.cell 0; have c1 : w1.cell? ⟨wr.heap.size, 1, none⟩ = some (.int .i64 m) := H1.out.2.cell 1; have c2 : w1.cell? ⟨wr.heap.size, 2, none⟩ = some (.int .u8 (x : Nat)) := H1.out.2.cell 2; clear hk1)
                obtain ⟨A6, c6, w2, hap, hB2, _⟩ := H1.out.1.add (by omega) x
                have HB2 := Lib.hid hB2
                clear hB2
                go_wp2_with (at_builtin; refine wpList_append2 (v1 := .slice A5 n5 c5) (v2 := .slice (some ⟨w1.heap.size, 0, none⟩) 1 1) rfl (.tmp 55) (.tmp 58) rfl rfl rfl hap ?_)
                go_roundw
                case rel => exact ⟨k + 1, n5 + 1, A6, c6, by simp, by omega, by simp, by omega, Lib.hid ⟨_, HB2.out, by rw [← Hr.out]; exact HN.out⟩⟩
                case measure => simp [intOf]; omega
              · obtain ⟨dn, rfl⟩ : ∃ dn : Nat, d = dn := ⟨d.toNat, by omega⟩
                obtain ⟨mn, rfl⟩ : ∃ mn : Nat, m = mn := ⟨m.toNat, by omega⟩
                have HN : Hid (bytP l = bytF r (cpyF dn mn q)) := Lib.hid (by rw [HP.out, bytF_cpy Hno.out (by simpa using h3)]; simp)
                have hdb : ((dn : Int) == 0) = false := by simpa using h3
                have hd1 : 1 ≤ dn := by omega
                have h1n : ¬ n5 < dn := by omega
                have h2b : decide (65536 - (n5 : Int) < (mn : Int)) = false := decide_eq_false h2
                go_upto_region 5 with (go_at_call 61; refine (Hc.out _).mono ?_; rintro e w1 ⟨rfl, hk1⟩; have H1 := Lib.hid (HX.out w1 hk1); have c0 : w1.cell? ⟨wr.heap.size, 0, none⟩ = some (.int .i64 (dn : Nat)) := H1.out.2.cell 0; have c1 : w1.cell? ⟨wr.heap.size, 1, none⟩ = some (.int .i64 (mn : Nat)) := H1.out.2.cell 1; clear hk1)
                clear HX
                generalize wr.heap.size = tb at *
                go_wp2
                go_loopw [17, 5] (fun v17 v5 w2 => ∃ (j n2 : Nat) (A2 : Option Addr) (c2 : Nat), v17 = .int .i64 j ∧ j ≤ mn ∧ v5 = .slice A2 n2 c2 ∧ n2 = n5 + j ∧ Hid (∃ q2, BI w q2 A2 n2 c2 w2 ∧ cpyF dn (mn - j) q2 = cpyF dn mn q ∧ Blk w2 tb 64 #[.int .i64 (dn : Nat), .int .i64 (mn : Nat), .int .u8 (x : Nat)])) (fun v17 _ _ => mn - (intOf v17).toNat)
                case atStart => exact ⟨0, n5, A5, c5, rfl, by omega, rfl, rfl, Lib.hid ⟨q, H1.out.1, rfl, H1.out.2⟩⟩
                case round =>
                  obtain ⟨j, n2, A2, c2, rfl, hj, rfl, hn2, hJ⟩ := hrel
                  obtain ⟨q2, hB2, hC, hT2⟩ := hJ.out
                  clear hJ H1 c0 c1
                  rcases Nat.lt_or_ge j mn with hjm | hjm
                  · have hjmi : (j : Int) < mn := by omega
                    have hwj : IntKind.i64.wrap ((j : Int) + 1) = (j : Int) + 1 := by rw [IntKind.wrap_i64]; omega
                    have hwi : IntKind.i64.wrap ((n2 : Int) - (dn : Int)) = ((n2 - dn : Nat) : Int) := by rw [IntKind.wrap_i64]; omega
                    have hlt : n2 - dn < n2 := by omega
                    obtain ⟨g2, rfl, hcell⟩ := hB2.get hlt
                    obtain ⟨i2, hi2⟩ : ∃ i2, i2 = n2 - dn := ⟨_, rfl⟩
                    rw [← hi2] at hcell hwi hlt
                    have c0 : wr.cell? ⟨tb, 0, none⟩ = some (.int .i64 (dn : Nat)) := hT2.cell 0
                    obtain ⟨A6, c6, w3, hap, hB3, hB4⟩ := hB2.add (by omega) (q2.getD i2 0)
                    have H3 : Hid (BI w (q2 ++ [q2.getD i2 0]) A6 (n2 + 1) c6 w3 ∧ cpyF dn (mn - (j + 1)) (q2 ++ [q2.getD i2 0]) = cpyF dn mn q ∧ Blk w3 tb 64 #[.int .i64 (dn : Nat), .int .i64 (mn : Nat), .int .u8 (x : Nat)]) := by
                      refine Lib.hid ⟨hB3, ?_, hB4 _ _ _ (by decide) hT2⟩
                      rw [← hC, show mn - j = (mn - (j + 1)) + 1 by omega, cpyF_step, hi2, hB2.len]
                    clear hB2 hC hT2 hB3 hB4
                    generalize q2.getD i2 0 = xx at *
                    have hi2' : i2 < n2 := hlt
                    have Hn3 : Hid (n2 + 1 = n5 + (j + 1)) := Lib.hid (by omega)
                    have Hn := Lib.hid (And.intro hn2 hi2)
                    clear hn2 hi2
                    go_wp2_with (at_builtin; refine wpList_append2 (v1 := .slice (some ⟨g2, 0, none⟩) n2 c2) (v2 := .slice (some ⟨wr.heap.size, 0, none⟩) 1 1) rfl (.tmp 19) (.tmp 28) rfl rfl rfl hap ?_)
                    go_roundw
                    case rel => exact ⟨j + 1, n2 + 1, A6, c6, by simp, by omega, by simp, Hn3.out, Lib.hid ⟨_, H3.out⟩⟩
                    case measure => simp [intOf]; omega
                  · obtain rfl : j = mn := by omega
                    have hjn : ¬ (j : Int) < j := by omega
                    have HF : Hid (∃ q, BI w q A2 n2 c2 wr ∧ bytP l = bytF r q) := Lib.hid ⟨q2, hB2, by rw [HN.out, ← hC]; simp [cpyF]⟩
                    have hn6 : n2 ≤ 65536 := by omega
                    clear hB2 hC hT2 hjm
                    go_wp2
                    go_roundw
                    case rel => exact ⟨k + 1, n2, A2, c2, by simp, by omega, by simp, hn6, by rw [← Hr.out]; exact HF⟩
                    case measure => simp [intOf]; omega
    · obtain rfl : k = l.length := by omega
      have hki : ¬ (l.length : Int) < l.length := by omega
      have HR : Hid (ByE w (bytP l) (.returned (.tuple #[.slice A5 n5 c5, .int .i64 0, .int .i64 0])) wr) := Lib.hid (hB.fin (by rw [hP, List.drop_length]; rfl))
      clear hB hP hkl hk
      go_wp2
      go_ret3
      exact HR.out
end Go.Proofs.Ytiejjbdmkgdniaa
set_option linter.unusedVariables false
set_option linter.unusedSimpArgs false
namespace Go.Proofs.Ytiejjbdmkgdniaa
open Go.RowKit Go.Sal Go.Huf Go.Cod
set_option maxRecDepth 20000 in
set_option maxHeartbeats 2000000 in
theorem rbytes_any (l : List Tk) (A : Option Addr) (c : Nat) (w : World) (hs : TSrc w A l) (hl : l.length ≤ 20000) :
    Calls Try.prog 58 #[.slice A l.length c] w fun e w' => ByE w (bytP l) e w' := by
  have Hs := Lib.hid hs
  clear hs
  go_enter Try.func58, Try.ntmps58
  go_wp2
  go_loopw [6, 5] (fun v10 v5 wr => ∃ (k n5 : Nat) (A5 : Option Addr) (c5 : Nat), v10 = .int .i64 k ∧ k ≤ l.length ∧ v5 = .slice A5 n5 c5 ∧ n5 ≤ 65536 ∧ Hid (∃ q, BI w q A5 n5 c5 wr ∧ bytP l = bytF (l.drop k) q)) (fun v10 _ _ => l.length - (intOf v10).toNat)
  case atStart => exact ⟨0, 0, none, 0, rfl, by omega, rfl, by omega, Lib.hid ⟨[], BI.start w, rfl⟩⟩
  case round =>
    obtain ⟨k, n5, A5, c5, rfl, hk, rfl, hn5, hI⟩ := hrel
    obtain ⟨q, hB, hP⟩ := hI.out
    clear hI
    rcases Nat.lt_or_ge k l.length with hkl | hkl
    · as_aux_lemma =>
        obtain ⟨g, o, rfl, hg, d1, d2, d3⟩ := (Hs.out.keep hB.kp (by simp)).1 k hkl
        have hkli : (k : Int) < l.length := by omega
        have hwk : IntKind.i64.wrap ((k : Int) + 1) = (k : Int) + 1 := by rw [IntKind.wrap_i64]; omega
        have Hc := Lib.hid (fun w => tokrcheck_any l[k] w)
        rw [List.drop_eq_getElem_cons hkl] at hP
        have hq := hB.len
        have hT := Lib.hid (show okT l[k] = true → 1 ≤ l[k].2.1 ∧ l[k].2.1 ≤ 258 ∧ 0 ≤ l[k].1 from fun h => by rcases okT_cases h with h | h <;> omega)
        generalize l[k] = t at *
        obtain ⟨r, hr⟩ : ∃ r, r = l.drop (k + 1) := ⟨_, rfl⟩
        rw [← hr] at hP
        have Hr := Lib.hid hr
        clear hr
        obtain ⟨d, m, x⟩ := t
        dsimp only at d1 d2 d3 Hc hT
        have HB := Lib.hid hB
        have HP := Lib.hid hP
        have Hq := Lib.hid hq
        clear hB hP hq
        have HX : Hid (∀ w1, Keep [] (wr.alloc (.cells #[.int .i64 d, .int .i64 m, .int .u8 (x : Nat)] 64)) w1 → BI w q A5 n5 c5 w1 ∧ Blk w1 wr.heap.size 64 #[.int .i64 d, .int .i64 m, .int .u8 (x : Nat)]) :=
          Lib.hid (fun w1 hk1 => ⟨HB.out.keep (((Keep.refl [] wr).alloc _).trans hk1), (Blk.new wr 64 _).keep hk1 (by simp)⟩)
        cases hb : okT (d, m, x) with
        | false =>
          rw [hb] at Hc
          have HN : Hid (bytP l = none) := Lib.hid (by rw [HP.out, bytF_none (.inl hb)])
          clear hb hT
          go_wp2_with (go_at_call 68; refine (Hc.out _).mono ?_; rintro e w1 ⟨rfl, hk1⟩; have H1 := Lib.hid (HX.out w1 hk1); clear hk1)
          go_ret3
          exact ByE.no HN.out _ _ (by decide) H1.out.1.kp
        | true =>
          rw [hb] at Hc
          have Hb := Lib.hid hb
          obtain ⟨hm1, hm2, hd0⟩ := hT.out hb
          clear hb hT
          by_cases h1 : (n5 : Int) < d
          · have HN : Hid (bytP l = none) := Lib.hid (by rw [HP.out, bytF_none (.inr (.inl (by rw [← Hq.out]; exact h1)))])
            go_wp2_with (go_at_call 68; refine (Hc.out _).mono ?_; rintro e w1 ⟨rfl, hk1⟩; have H1 := Lib.hid (HX.out w1 hk1); have c0 : w1.cell? ⟨wr.heap.size, 0, none⟩ = some (.int .i64 d) := H1.out.2.cell 0; clear hk1)
            go_ret3
            exact ByE.no HN.out _ _ (by decide) H1.out.1.kp
          · have hws : IntKind.i64.wrap (65536 - (n5 : Int)) = 65536 - (n5 : Int) := by rw [IntKind.wrap_i64]; omega
            by_cases h2 : 65536 - (n5 : Int) < m
            · have HN : Hid (bytP l = none) := Lib.hid (by rw [HP.out, bytF_none (.inr (.inr (by rw [← Hq.out]; exact h2)))])
              go_wp2_with (go_at_call 68; refine (Hc.out _).mono ?_; rintro e w1 ⟨rfl, hk1⟩; have H1 := Lib.hid (HX.out w1 hk1); have c0 : w1.cell? ⟨wr.heap.size, 0, none⟩ = some (.int .i64 d) := H1.out.2.cell 0; have c1 : w1.cell? ⟨wr.heap.size, 1, none⟩ = some (.int .i64 m) := H1.out.2.cell 1; clear hk1)
              go_ret3
              exact ByE.no HN.out _ _ (by decide) H1.out.1.kp
            · have hno : ¬ (okT (d, m, x) = false ∨ (q.length : Int) < (d, m, x).1 ∨ 65536 - (q.length : Int) < (d, m, x).2.1) := by
                rw [← Hq.out, Hb.out]
                simp
                omega
              have Hno := Lib.hid hno
              clear hno
              by_cases h3 : d = 0
              · subst h3
                have HN : Hid (bytP l = bytF r (q ++ [x])) := Lib.hid (by rw [HP.out, bytF_lit Hno.out rfl])
                go_upto_region 18 with (go_at_call 68; refine (Hc.out _).mono ?_; rintro e w1 ⟨rfl, hk1⟩; have H1 := Lib.hid (HX.out w1 hk1); have c0 : w1.cell? ⟨wr.heap.size, 0, none⟩ = some (.int .i64 0) := H1.out.2.cell 0; have c1 : w1.cell? ⟨wr.heap.size, 1, none⟩ = some (.int .i64 m) := H1.out.2.cell 1; have c2 : w1.cell? ⟨wr.heap.size, 2, none⟩ = some (.int .u8 (x : Nat)) := H1.out.2.cell 2; clear hk1)
                obtain ⟨A6, c6, w2, hap, hB2, _⟩ := H1.out.1.add (by omega) x
                have HB2 := Lib.hid hB2
                clear hB2
                go_wp2_with (at_builtin; refine wpList_append2 (v1 := .slice A5 n5 c5) (v2 := .slice (some ⟨w1.heap.size, 0, none⟩) 1 1) rfl (.tmp 62) (.tmp 65) rfl rfl rfl hap ?_)
                go_roundw
                case rel => exact ⟨k + 1, n5 + 1, A6, c6, by simp, by omega, by simp, by omega, Lib.hid ⟨_, HB2.out, by rw [← Hr.out]; exact HN.out⟩⟩
                case measure => simp [intOf]; omega
              · obtain ⟨dn, rfl⟩ : ∃ dn : Nat, d = dn := ⟨d.toNat, by omega⟩
                obtain ⟨mn, rfl⟩ : ∃ mn : Nat, m = mn := ⟨m.toNat, by omega⟩
                have HN : Hid (bytP l = bytF r (cpyF dn mn q)) := Lib.hid (by rw [HP.out, bytF_cpy Hno.out (by simpa using h3)]; simp)
                have hdb : ((dn : Int) == 0) = false := by simpa using h3
                have hd1 : 1 ≤ dn := by omega
                have h1n : ¬ n5 < dn := by omega
                have h2b : decide (65536 - (n5 : Int) < (mn : Int)) = false := decide_eq_false h2
                go_upto_region 6 with (go_at_call 68; refine (Hc.out _).mono ?_; rintro e w1 ⟨rfl, hk1⟩; have H1 := Lib.hid (HX.out w1 hk1); have c0 : w1.cell? ⟨wr.heap.size, 0, none⟩ = some (.int .i64 (dn : Nat)) := H1.out.2.cell 0; have c1 : w1.cell? ⟨wr.heap.size, 1, none⟩ = some (.int .i64 (mn : Nat)) := H1.out.2.cell 1; clear hk1)
                clear HX
                generalize wr.heap.size = tb at *
                go_wp2
                go_loopw [8, 5] (fun v17 v5 w2 => ∃ (j n2 : Nat) (A2 : Option Addr) (c2 : Nat), v17 = .int .i64 j ∧ j ≤ mn ∧ v5 = .slice A2 n2 c2 ∧ n2 = n5 + j ∧ Hid (∃ q2, BI w q2 A2 n2 c2 w2 ∧ cpyF dn (mn - j) q2 = cpyF dn mn q ∧ Blk w2 tb 64 #[.int .i64 (dn : Nat), .int .i64 (mn : Nat), .int .u8 (x : Nat)])) (fun v17 _ _ => mn - (intOf v17).toNat)
                case atStart => exact ⟨0, n5, A5, c5, rfl, by omega, rfl, rfl, Lib.hid ⟨q, H1.out.1, rfl, H1.out.2⟩⟩
                case round =>
                  obtain ⟨j, n2, A2, c2, rfl, hj, rfl, hn2, hJ⟩ := hrel
                  obtain ⟨q2, hB2, hC, hT2⟩ := hJ.out
                  clear hJ H1 c0 c1
                  have c1 : wr.cell? ⟨tb, 1, none⟩ = some (.int .i64 (mn : Nat)) := hT2.cell 1
                  rcases Nat.lt_or_ge j mn with hjm | hjm
                  · have hjmi : (j : Int) < mn := by omega
                    have hwj : IntKind.i64.wrap ((j : Int) + 1) = (j : Int) + 1 := by rw [IntKind.wrap_i64]; omega
                    have hwi : IntKind.i64.wrap ((n2 : Int) - (dn : Int)) = ((n2 - dn : Nat) : Int) := by rw [IntKind.wrap_i64]; omega
                    have hlt : n2 - dn < n2 := by omega
                    obtain ⟨g2, rfl, hcell⟩ := hB2.get hlt
                    obtain ⟨i2, hi2⟩ : ∃ i2, i2 = n2 - dn := ⟨_, rfl⟩
                    rw [← hi2] at hcell hwi hlt
                    have c0 : wr.cell? ⟨tb, 0, none⟩ = some (.int .i64 (dn : Nat)) := hT2.cell 0
                    obtain ⟨A6, c6, w3, hap, hB3, hB4⟩ := hB2.add (by omega) (q2.getD i2 0)
                    have H3 : Hid (BI w (q2 ++ [q2.getD i2 0]) A6 (n2 + 1) c6 w3 ∧ cpyF dn (mn - (j + 1)) (q2 ++ [q2.getD i2 0]) = cpyF dn mn q ∧ Blk w3 tb 64 #[.int .i64 (dn : Nat), .int .i64 (mn : Nat), .int .u8 (x : Nat)]) := by
                      refine Lib.hid ⟨hB3, ?_, hB4 _ _ _ (by decide) hT2⟩
                      rw [← hC, show mn - j = (mn - (j + 1)) + 1 by omega, cpyF_step, hi2, hB2.len]
                    clear hB2 hC hT2 hB3 hB4
                    generalize q2.getD i2 0 = xx at *
                    have hi2' : i2 < n2 := hlt
                    have Hn3 : Hid (n2 + 1 = n5 + (j + 1)) := Lib.hid (by omega)
                    have Hn := Lib.hid (And.intro hn2 hi2)
                    clear hn2 hi2
                    go_wp2_with (at_builtin; refine wpList_append2 (v1 := .slice (some ⟨g2, 0, none⟩) n2 c2) (v2 := .slice (some ⟨wr.heap.size, 0, none⟩) 1 1) rfl (.tmp 34) (.tmp 36) rfl rfl rfl hap ?_)
                    go_roundw
                    case rel => exact ⟨j + 1, n2 + 1, A6, c6, by simp, by omega, by simp, Hn3.out, Lib.hid ⟨_, H3.out⟩⟩
                    case measure => simp [intOf]; omega
                  · obtain rfl : j = mn := by omega
                    have hjn : ¬ (j : Int) < j := by omega
                    have HF : Hid (∃ q, BI w q A2 n2 c2 wr ∧ bytP l = bytF r q) := Lib.hid ⟨q2, hB2, by rw [HN.out, ← hC]; simp [cpyF]⟩
                    have hn6 : n2 ≤ 65536 := by omega
                    clear hB2 hC hT2 hjm
                    go_wp2
                    go_roundw
                    case rel => exact ⟨k + 1, n2, A2, c2, by simp, by omega, by simp, hn6, by rw [← Hr.out]; exact HF⟩
                    case measure => simp [intOf]; omega
    · obtain rfl : k = l.length := by omega
      have hki : ¬ (l.length : Int) < l.length := by omega
      have HR : Hid (ByE w (bytP l) (.returned (.tuple #[.slice A5 n5 c5, .int .i64 0, .int .i64 0])) wr) := Lib.hid (hB.fin (by rw [hP, List.drop_length]; rfl))
      clear hB hP hkl hk
      go_wp2
      go_ret3
      exact HR.out
end Go.Proofs.Ytiejjbdmkgdniaa
