/- order's comparison; slices.insertionSortCmpFunc at it. -/
import Derived.Test.YtiejjbdmkgdniaaC1
import Derived.Test.YtiejjbdmkgdniaaHfP
import Derived.BigQuiet
set_option linter.unusedVariables false
set_option linter.unusedSimpArgs false
namespace Go.Proofs.Ytiejjbdmkgdniaa
open Go.RowKit Go.Sal Go.Huf
theorem cmp_any (ls : List Int) (A : Option Addr) (c bx : Nat) (a b : Nat) (w : World) (hB : Blk w bx 49 #[.slice A ls.length c]) (hs : ISrc w A ls) (hg : good ls) (ha : a < ls.length) (hb : b < ls.length) :
    Calls Try.prog 87 #[.int .i64 (a : Nat), .int .i64 (b : Nat), .pointer (some ⟨bx, 0, none⟩)] w fun e w' => e = .returned (.int .i64 (ls[a] - ls[b])) ∧ ∃ k, w' = w.drewN k := by
  obtain ⟨g, o, rfl, hg1, c1⟩ := hs a ha
  obtain ⟨g', o', he, hg2, c2⟩ := hs b hb
  injection he with he
  injection he with e1 e2
  subst e1 e2
  have r0 : w.cell? ⟨bx, 0, none⟩ = some (.slice (some ⟨g, o, none⟩) ls.length c) := hB.cell 0
  have h1 := hg _ (List.getElem_mem ha)
  have h2 := hg _ (List.getElem_mem hb)
  have hw : IntKind.i64.wrap (ls[a] - ls[b]) = ls[a] - ls[b] := by rw [IntKind.wrap_i64]; omega
  have hai : (a : Int) < ls.length := by omega
  have hbi : (b : Int) < ls.length := by omega
  clear hs hg hB
  generalize ls[a] = x at *
  generalize ls[b] = y at *
  generalize ls.length = n at *
  go_enter Try.func87, Try.ntmps87
  go_wp2
  go_quiet (fail)
  go_wp2
  go_ret
  exact ⟨rfl, _, rfl⟩
/-- what the sorts ask of the comparison: in every world in which only the sorted row (its block g) is turned -/
def Cmp (g : Nat) (w : World) (key : Nat → Int) (m : Nat) (bx : Nat) : Prop :=
  ∀ wr, Keep [g] w wr → ∀ a b : Nat, a < m → b < m → Calls Try.prog 87 #[.int .i64 (a : Nat), .int .i64 (b : Nat), .pointer (some ⟨bx, 0, none⟩)] wr fun e w' => e = .returned (.int .i64 (key a - key b)) ∧ ∃ k, w' = wr.drewN k
theorem Cmp.of {ls : List Int} {A : Option Addr} {c bx g : Nat} {w : World} (hB : Blk w bx 49 #[.slice A ls.length c]) (hs : ISrc w A ls) (hg : good ls) (h1 : bx ≠ g) (h2 : ∀ a, A = some a → a.block ≠ g) : Cmp g w (fun i => ls.getD i 0) ls.length bx := fun wr hk a b ha hb => by
  have := cmp_any ls A c bx a b wr (hB.keep hk (by simpa using h1)) (hs.keep hk (fun a h => by simpa using h2 a h)) hg ha hb
  simpa [List.getD, ha, hb] using this
end Go.Proofs.Ytiejjbdmkgdniaa
set_option linter.unusedVariables false
set_option linter.unusedSimpArgs false
namespace Go.Huf
section
variable {key : Nat → Int}
theorem ins_done {T1 T2 : List Nat} {x : Nat} (hs : srtd key (T1 ++ T2)) (h2 : ∀ y ∈ T2, lexlt key x y) (h1 : ∀ y ∈ T1, lexlt key y x) : srtd key (T1 ++ x :: T2) := by
  have h := List.pairwise_append.1 hs
  refine List.pairwise_append.2 ⟨h.1, List.pairwise_cons.2 ⟨h2, h.2.1⟩, fun a ha b hb => ?_⟩
  rcases List.mem_cons.1 hb with rfl | hb
  · exact h1 a ha
  · exact h.2.2 a ha b hb
theorem last_all {T : List Nat} {y x : Nat} (hs : srtd key (T ++ [y])) (h : lexlt key y x) : ∀ z ∈ T ++ [y], lexlt key z x := fun z hz => by
  rcases List.mem_append.1 hz with hz | hz
  · exact lex_trans ((List.pairwise_append.1 hs).2.2 z hz y (by simp)) h
  · simp at hz; subst hz; exact h
end
end Go.Huf
namespace Go.Proofs.Ytiejjbdmkgdniaa
open Go.RowKit Go.Sal Go.Huf
theorem inN_append (l l' : List Nat) : inN (l ++ l') = inN l ++ inN l' := by simp [inN]
theorem row_n {w : World} {base g n cap : Nat} {l : List Nat} (h : w.ownsRow base 3 1 (.slice (some ⟨g, 0, none⟩) n cap) n (inN l)) : n = l.length := by
  have := h.1
  rw [inN_len] at this
  omega
theorem row_at {w : World} {base g n cap : Nat} {l : List Nat} (h : w.ownsRow base 3 1 (.slice (some ⟨g, 0, none⟩) n cap) n (inN l)) {i x : Nat} (hx : l[i]? = some x) :
    w.cell? ⟨g, i, none⟩ = some (.int .i64 (x : Nat)) ∧ w.frozen? ⟨g, i, none⟩ = false :=
  ownsRow_cell h (by simp [inN, hx])
theorem row_set {w : World} {base g n cap : Nat} {l : List Nat} (h : w.ownsRow base 3 1 (.slice (some ⟨g, 0, none⟩) n cap) n (inN l)) (i x : Nat) (hi : i < n) :
    (w.setCell ⟨g, i, none⟩ (.int .i64 (x : Nat))).ownsRow base 3 1 (.slice (some ⟨g, 0, none⟩) n cap) n (inN (l.set i x)) := by
  have := ownsRow_set h i (by omega) (.int .i64 (x : Nat))
  simpa [inN, List.map_set] using this
theorem two_cells {w : World} {base g n cap : Nat} {Q R : List Nat} {x y : Nat} (h : w.ownsRow base 3 1 (.slice (some ⟨g, 0, none⟩) n cap) n (inN (Q ++ y :: x :: R))) :
    w.cell? ⟨g, Q.length, none⟩ = some (.int .i64 (y : Nat)) ∧ w.cell? ⟨g, Q.length + 1, none⟩ = some (.int .i64 (x : Nat)) ∧ w.frozen? ⟨g, Q.length, none⟩ = false ∧ w.frozen? ⟨g, Q.length + 1, none⟩ = false ∧ n = Q.length + 2 + R.length := by
  have a := row_at h (i := Q.length) (x := y) (by simp)
  have b := row_at h (i := Q.length + 1) (x := x) (by simp)
  have := row_n h
  simp at this
  exact ⟨a.1, b.1, a.2, b.2, by omega⟩
theorem two_swap {w : World} {base g n cap : Nat} {Q R : List Nat} {x y : Nat} (h : w.ownsRow base 3 1 (.slice (some ⟨g, 0, none⟩) n cap) n (inN (Q ++ y :: x :: R))) :
    ((w.setCell ⟨g, Q.length + 1, none⟩ (.int .i64 (y : Nat))).setCell ⟨g, Q.length, none⟩ (.int .i64 (x : Nat))).ownsRow base 3 1 (.slice (some ⟨g, 0, none⟩) n cap) n (inN (Q ++ x :: y :: R)) := by
  have hn := (two_cells h).2.2.2.2
  have h1 := row_set (row_set h (Q.length + 1) y (by omega)) Q.length x (by omega)
  have e : ((Q ++ y :: x :: R).set (Q.length + 1) y).set Q.length x = Q ++ x :: y :: R := by
    rw [List.set_append_right _ _ (by omega), List.set_append_right _ _ (by omega)]
    simp
  rw [e] at h1
  exact h1
/-- the row while it is sorted -/
def SR (w : World) (base g n cap : Nat) (l : List Nat) (wr : World) : Prop :=
  wr.ownsRow base 3 1 (.slice (some ⟨g, 0, none⟩) n cap) n (inN l) ∧ Keep [g] w wr
/-- while one is sunk -/
def SI (w : World) (base g n cap : Nat) (key : Nat → Int) (P T T2 R : List Nat) (x : Nat) (U : List Nat) (wr : World) : Prop :=
  SR w base g n cap (P ++ (T ++ x :: T2) ++ R) wr ∧ T ++ T2 = U ∧ ∀ y ∈ T2, lexlt key x y

set_option maxRecDepth 20000 in
set_option maxHeartbeats 16000000 in
theorem inssort_any (key : Nat → Int) (m base g n cap bx : Nat) (P X R : List Nat) (w : World) (h : w.ownsRow base 3 1 (.slice (some ⟨g, 0, none⟩) n cap) n (inN (P ++ X ++ R))) (hc : Cmp g w key m bx)
    (hm : ∀ x ∈ X, x < m) (hk : ∀ x < m, -100 ≤ key x ∧ key x ≤ 100) (hX : X.Pairwise (· < ·)) (hn : n ≤ 1000000) :
    Calls Try.prog 102 #[.slice (some ⟨g, 0, none⟩) n cap, .int .i64 (P.length : Nat), .int .i64 ((P.length + X.length : Nat) : Int), .func (.func 87) #[] #[.pointer (some ⟨bx, 0, none⟩)]] w fun e w' =>
      e = .returned (.tuple #[]) ∧ SR w base g n cap (P ++ isort key X ++ R) w' := by
  have hnl := row_n h
  simp only [List.length_append] at hnl
  have Hc := Lib.hid hc
  have Hm := Lib.hid hm
  have Hk := Lib.hid hk
  have HX := Lib.hid hX
  have H0 : Hid (SR w base g n cap (P ++ isort key (X.take 1) ++ (X.drop 1 ++ R)) w) := Lib.hid ⟨by
    have e : isort key (X.take 1) = X.take 1 := by
      match X with
      | [] => rfl
      | x :: X => rfl
    rw [e, List.append_assoc, ← List.append_assoc (X.take 1), List.take_append_drop, ← List.append_assoc]
    exact h, Keep.refl _ _⟩
  obtain ⟨a, ha⟩ : ∃ a, a = P.length := ⟨_, rfl⟩
  obtain ⟨L, hL⟩ : ∃ L, L = X.length := ⟨_, rfl⟩
  rw [← ha, ← hL] at hnl ⊢
  have Ha := Lib.hid ha
  have HL' := Lib.hid hnl
  have hn1 : a + L ≤ n := by omega
  have HL := Lib.hid hL
  clear hc hm hk hX h ha hL hnl
  have hwa : IntKind.i64.wrap ((a : Int) + 1) = (a : Int) + 1 := by rw [IntKind.wrap_i64]; omega
  go_enter Try.func102, Try.ntmps102
  go_wp2
  go_loopw [8, 9] (fun i _ wr => ∃ k : Nat, i = .int .i64 ((a : Int) + k) ∧ 1 ≤ k ∧ (k = 1 ∨ k ≤ L) ∧ Hid (SR w base g n cap (P ++ isort key (X.take k) ++ (X.drop k ++ R)) wr)) (fun i _ _ => a + L + 1 - (intOf i).toNat)
  case atStart => exact ⟨1, by simp, by omega, .inl rfl, H0⟩
  case round =>
    obtain ⟨k, rfl, hk1, hkL, hI⟩ := hrel
    clear H0
    rcases Nat.lt_or_ge k L with hlt | hge
    · as_aux_lemma =>
        have hkX : k < X.length := by have := HL.out; omega
        have hlti : (a : Int) + k < ((a + L : Nat) : Int) := by omega
        have hdr : X.drop k = X[k] :: X.drop (k + 1) := List.drop_eq_getElem_cons hkX
        have htk : X.take (k + 1) = X.take k ++ [X[k]] := List.take_succ_eq_append_getElem hkX
        obtain ⟨x, hx⟩ : ∃ x, x = X[k] := ⟨_, rfl⟩
        rw [← hx] at hdr htk
        have hxm : x < m := by rw [hx]; exact Hm.out _ (List.getElem_mem hkX)
        have hlate : ∀ y ∈ X.take k, y < x := fun y hy => by
          have h1 := HX.out.sublist (List.take_sublist (k + 1) X)
          rw [htk] at h1
          exact (List.pairwise_append.1 h1).2.2 y hy x (by simp)
        have hnd : (X.take (k + 1)).Nodup := (HX.out.sublist (List.take_sublist (k + 1) X)).imp (fun hab => by omega)
        have hkl : (isort key (X.take k)).length = k := by rw [isort_len, List.length_take]; omega
        have H1 : Hid (SI w base g n cap key P (isort key (X.take k)) [] (X.drop (k + 1) ++ R) x (isort key (X.take k)) wr) := by
          refine Lib.hid ⟨?_, by simp, by simp⟩
          have := hI.out
          rw [hdr] at this
          simpa using this
        have hU : Hid (∀ T T2, T ++ T2 = isort key (X.take k) → (∀ y ∈ T2, lexlt key x y) → (∀ y ∈ T, lexlt key y x) → T ++ x :: T2 = isort key (X.take (k + 1))) := Lib.hid (fun T T2 he h2 h1 => by
          have hs : srtd key (T ++ T2) := by rw [he]; exact isort_srtd (hnd.sublist (List.take_sublist_take_left (by omega)))
          refine isort_eq (ins_done hs h2 h1) ?_
          rw [htk]
          refine (List.perm_middle).trans ?_
          rw [he]
          refine ((isort_perm (key := key) (X.take k)).cons x).trans ?_
          exact (List.perm_append_singleton x _).symm)
        have hUm : Hid (∀ y ∈ isort key (X.take k), y < x ∧ y < m) := Lib.hid (fun y hy => by
          have h1 := (isort_perm (X.take k)).mem_iff.1 hy
          exact ⟨hlate y h1, Hm.out y (List.mem_of_mem_take h1)⟩)
        have hUs : Hid (srtd key (isort key (X.take k))) := Lib.hid (isort_srtd (hnd.sublist (List.take_sublist_take_left (by omega))))
        have Hxm := Lib.hid hxm
        obtain ⟨U, hUd⟩ : ∃ U, U = isort key (X.take k) := ⟨_, rfl⟩
        rw [← hUd] at H1 hU hUm hUs hkl
        obtain ⟨R2, hR2⟩ : ∃ R2, R2 = X.drop (k + 1) ++ R := ⟨_, rfl⟩
        have HR2 := Lib.hid hR2
        rw [← hR2] at H1
        have hwk : IntKind.i64.wrap ((a : Int) + k + 1) = (a : Int) + (k + 1 : Nat) := by rw [IntKind.wrap_i64]; omega
        have hkL2 : k < L := hlt
        clear hI hdr htk hx hxm hlate hnd hUd hR2 hlt hkX hkL
        go_wp2_with fail
        go_loopw [9] (fun j wr => ∃ (T T2 : List Nat), j = .int .i64 ((a : Int) + T.length) ∧ Hid (SI w base g n cap key P T T2 R2 x U wr)) (fun j _ => (intOf j).toNat)
        case atStart => exact ⟨U, [], by rw [hkl], H1⟩
        case round =>
          obtain ⟨T, T2, rfl, hJ⟩ := hrel
          clear H1
          obtain ⟨hSR, hTU, hT2⟩ := hJ.out
          have HT2 := Lib.hid hT2
          have HTU := Lib.hid hTU
          have hTl : T.length ≤ k := by rw [← hkl, ← hTU, List.length_append]; omega
          rcases List.eq_nil_or_concat T with rfl | ⟨T', y, rfl⟩
          · as_aux_lemma =>
              have HF : Hid (∀ q2, SR w base g n cap (P ++ isort key (X.take (k + 1)) ++ (X.drop (k + 1) ++ R)) (wr.drewN q2)) := by
                rw [← hU.out [] T2 hTU hT2 (by simp), ← HR2.out]
                exact Lib.hid (fun q2 => ⟨hSR.1, hSR.2.drewN q2⟩)
              have d0 : decide ((a : Int) < (a : Int) + (([] : List Nat).length : Nat)) = false := by simp
              clear hJ hSR hTU hT2 hU hUm hUs HT2 HTU HR2
              simp only [List.length_nil, Int.natCast_zero, Int.add_zero] at d0 ⊢
              have d1 : decide ((a : Int) < a) = false := by simp
              go_wp2_with fail
              go_quiet (fail)
              go_wp2_with fail
              exact ⟨⟨k + 1, by simp, by omega, by omega, Lib.hid (HF.out nq)⟩, by simp [intOf]; omega⟩
          · as_aux_lemma =>
              rw [List.concat_eq_append] at *
              have hyU : y ∈ U := by rw [← hTU]; simp
              obtain ⟨hyx, hym⟩ := hUm.out y hyU
              have hrow : wr.ownsRow base 3 1 (.slice (some ⟨g, 0, none⟩) n cap) n (inN ((P ++ T') ++ y :: x :: (T2 ++ R2))) := by
                have := hSR.1
                simpa using this
              have hkw := hSR.2
              have hgl : g < wr.heap.size := (hrow.lt g rfl).2
              obtain ⟨c1, c2, z1, z2, hn2⟩ := two_cells hrow
              have hsw := two_swap hrow
              have hql : (P ++ T').length = a + T'.length := by rw [List.length_append, ← Ha.out]
              rw [hql] at c1 c2 z1 z2 hn2 hsw
              obtain ⟨q, hq⟩ : ∃ q, q = a + T'.length := ⟨_, rfl⟩
              rw [← hq] at c1 c2 z1 z2 hn2 hsw
              have hqj : ((a : Int) + ((T' ++ [y]).length : Nat)) = ((q + 1 : Nat) : Int) := by simp; omega
              rw [hqj]
              have hcm : ∀ k2, Calls Try.prog 87 #[.int .i64 (x : Nat), .int .i64 (y : Nat), .pointer (some ⟨bx, 0, none⟩)] (wr.drewN k2) fun e w' => e = .returned (.int .i64 (key x - key y)) ∧ ∃ k, w' = (wr.drewN k2).drewN k := fun k2 => Hc.out _ (hkw.drewN k2) x y Hxm.out hym
              have HF2 : Hid (lexlt key x y → ∀ q2, SI w base g n cap key P T' (y :: T2) R2 x U ((((wr.drewN q2).setCell ⟨g, q + 1, none⟩ (.int .i64 (y : Nat))).setCell ⟨g, q, none⟩ (.int .i64 (x : Nat))).drew)) := Lib.hid (fun hxy q2 => by
                refine ⟨⟨?_, (((hkw.drewN q2).setCell (.inl (by simp)) _).setCell (.inl (by simp)) _).drew⟩, by rw [← hTU]; simp, fun z hz => ?_⟩
                · have e : P ++ (T' ++ x :: y :: T2) ++ R2 = (P ++ T') ++ x :: y :: (T2 ++ R2) := by simp
                  rw [e]
                  exact hsw
                · rcases List.mem_cons.1 hz with rfl | hz
                  · exact hxy
                  · exact hT2 z hz)
              have hkx := Hk.out x Hxm.out
              have hky := Hk.out y hym
              have hlex := lex_late (key := key) hyx
              have HF3 : Hid (¬ lexlt key x y → ∀ q2, SR w base g n cap (P ++ isort key (X.take (k + 1)) ++ (X.drop (k + 1) ++ R)) (wr.drewN q2)) := Lib.hid (fun hxy q2 => by
                have hs : srtd key (T' ++ [y] ++ T2) := by rw [hTU]; exact hUs.out
                have h1 := last_all (List.pairwise_append.1 hs).1 ((lex_total (key := key) (show y ≠ x by omega)).resolve_right hxy)
                rw [← hU.out (T' ++ [y]) T2 hTU hT2 h1, ← HR2.out]
                exact ⟨hSR.1, hkw.drewN q2⟩)
              have Hcm := Lib.hid hcm
              have Hlex := Lib.hid hlex
              have dg : decide ((a : Int) < ((q + 1 : Nat) : Int)) = true := by simp; omega
              have hqn : q + 1 < n := by omega
              have hqni : (q : Int) + 1 < n := by omega
              have hqni2 : (q : Int) < n := by omega
              have hq0 : (0 : Int) ≤ (q : Int) + 1 := by omega
              have haq : (a : Int) < (q : Int) + 1 := by omega
              obtain ⟨kx, hkxd⟩ : ∃ kx, kx = key x := ⟨_, rfl⟩
              obtain ⟨ky, hkyd⟩ : ∃ ky, ky = key y := ⟨_, rfl⟩
              rw [← hkxd, ← hkyd] at Hcm
              rw [← hkxd] at hkx
              rw [← hkyd] at hky
              have Hkk := Lib.hid (And.intro hkxd hkyd)
              have hmeas : Hid (q < q + 1) := Lib.hid (by omega)
              have HqT : Hid (q = a + T'.length) := Lib.hid hq
              clear hJ hSR hTU hT2 hU hUm hUs hrow hkw hsw hql hqj hn2 hcm hlex hkxd hkyd hyU hq HT2 HTU HR2 hTl hkl
              have hw1 : IntKind.i64.wrap ((q : Int) + 1 - 1) = (q : Int) := by rw [IntKind.wrap_i64]; omega
              have hw0 : IntKind.i64.wrap (q : Int) = (q : Int) := by rw [IntKind.wrap_i64]; omega
              by_cases hlt2 : kx - ky < 0
              · have dlt : decide (kx - ky < 0) = true := by simpa using hlt2
                go_wp2_with fail
                go_quiet ((go_at_call 87; exact Calls.quiet_of (Hcm.out _)))
                go_wp2_with fail
                have HF4 := Lib.hid (HF2.out (Hlex.out.2 (by rw [← Hkk.out.1, ← Hkk.out.2]; omega)) nq)
                obtain ⟨wq, hwq⟩ : ∃ wq, wq = wr.drewN nq := ⟨_, rfl⟩
                rw [← hwq] at HF4 ⊢
                have c1q : wq.cell? ⟨g, q, none⟩ = some (.int .i64 (y : Nat)) := by rw [hwq]; exact c1
                have c2q : wq.cell? ⟨g, q + 1, none⟩ = some (.int .i64 (x : Nat)) := by rw [hwq]; exact c2
                have z1q : wq.frozen? ⟨g, q, none⟩ = false := by rw [hwq]; exact z1
                have z2q : wq.frozen? ⟨g, q + 1, none⟩ = false := by rw [hwq]; exact z2
                have hglq : g < wq.heap.size := by rw [hwq]; exact hgl
                have HS6 : Hid (∀ W : World, Keep [] wq W → W.cell? ⟨g, q, none⟩ = some (.int .i64 (y : Nat)) ∧ W.cell? ⟨g, q + 1, none⟩ = some (.int .i64 (x : Nat))) := Lib.hid (fun W k => ⟨(k.cell (p := ⟨g, q, none⟩) hglq (by simp)).trans c1q, (k.cell (p := ⟨g, q + 1, none⟩) hglq (by simp)).trans c2q⟩)
                have hS6 := HS6.out _ ((Keep.refl [] wq).drew)
                clear hwq c1 c2 z1 z2 Hcm HF2 HF3
                refine wp_region_G (fun W => W.cell? ⟨g, q, none⟩ = some (.int .i64 (y : Nat)) ∧ W.cell? ⟨g, q + 1, none⟩ = some (.int .i64 (x : Nat))) [15, 17] #[false, false, false, false, false, false, false, false, false, false, false, false, false, false, false, false, false, false] 18 (by kernel_rfl) (by kernel_rfl) (by kernel_rfl) ?_
                refine wpAnyG_take0 (i := 0) (oi := { dst := some 37, op := Go.Op.move (Go.Operand.tmp 0), type := 49, pos := "zsortanyfunc.go:13", after := #[], guard := none }) (v := ?vg1_0) rfl (by kernel_rfl) (by kernel_rfl) (by kernel_rfl) (by kernel_rfl) (fun _ _ _ h => h) (fun _ => hS6) (Or.inl ⟨by rfl, ?hg1_0⟩) ?_
                case hg1_0 => intro w _; go_simp; (try with_reducible rfl)
                try simp only [Act.put, List.setIfInBounds_toArray, List.set_cons_zero, List.set_cons_succ]
                refine wpAnyG_take0 (i := 1) (oi := { dst := some 38, op := Go.Op.move (Go.Operand.tmp 9), type := 3, pos := "zsortanyfunc.go:13", after := #[], guard := none }) (v := ?vg1_1) rfl (by kernel_rfl) (by kernel_rfl) (by kernel_rfl) (by kernel_rfl) (fun _ _ _ h => h) (fun _ => hS6) (Or.inl ⟨by rfl, ?hg1_1⟩) ?_
                case hg1_1 => intro w _; go_simp; (try with_reducible rfl)
                try simp only [Act.put, List.setIfInBounds_toArray, List.set_cons_zero, List.set_cons_succ]
                refine wpAnyG_take0 (i := 2) (oi := { dst := some 39, op := Go.Op.move (Go.Operand.tmp 0), type := 49, pos := "zsortanyfunc.go:13", after := #[{ on := 15, ground := Go.Ground.gcOnly Go.Departure.lateStores }], guard := none }) (v := ?vg1_2) rfl (by kernel_rfl) (by kernel_rfl) (by kernel_rfl) (by kernel_rfl) (fun _ _ _ h => h) (fun _ => hS6) (Or.inl ⟨by rfl, ?hg1_2⟩) ?_
                case hg1_2 => intro w _; go_simp; (try with_reducible rfl)
                try simp only [Act.put, List.setIfInBounds_toArray, List.set_cons_zero, List.set_cons_succ]
                refine wpAnyG_take0 (i := 3) (oi := { dst := some 40, op := Go.Op.move (Go.Operand.tmp 9), type := 3, pos := "zsortanyfunc.go:13", after := #[{ on := 15, ground := Go.Ground.gcOnly Go.Departure.lateStores }], guard := none }) (v := ?vg1_3) rfl (by kernel_rfl) (by kernel_rfl) (by kernel_rfl) (by kernel_rfl) (fun _ _ _ h => h) (fun _ => hS6) (Or.inl ⟨by rfl, ?hg1_3⟩) ?_
                case hg1_3 => intro w _; go_simp; (try with_reducible rfl)
                try simp only [Act.put, List.setIfInBounds_toArray, List.set_cons_zero, List.set_cons_succ]
                refine wpAnyG_take0 (i := 4) (oi := { dst := some 41, op := Go.Op.binOp Go.BinOp.sub 3 (Go.Operand.tmp 40) (Go.Operand.const (Go.Value.int Go.IntKind.i64 1)) 3, type := 3, pos := "zsortanyfunc.go:13", after := #[{ on := 3, ground := Go.Ground.data }, { on := 15, ground := Go.Ground.gcOnly Go.Departure.lateStores }], guard := none }) (v := ?vg1_4) rfl (by kernel_rfl) (by kernel_rfl) (by kernel_rfl) (by kernel_rfl) (fun _ _ _ h => h) (fun _ => hS6) (Or.inl ⟨by rfl, ?hg1_4⟩) ?_
                case hg1_4 => intro w _; go_simp; (try with_reducible rfl)
                try simp only [Act.put, List.setIfInBounds_toArray, List.set_cons_zero, List.set_cons_succ]
                refine wpAnyG_take0 (i := 5) (oi := { dst := some 42, op := Go.Op.move (Go.Operand.tmp 0), type := 49, pos := "zsortanyfunc.go:13", after := #[], guard := none }) (v := ?vg1_5) rfl (by kernel_rfl) (by kernel_rfl) (by kernel_rfl) (by kernel_rfl) (fun _ _ _ h => h) (fun _ => hS6) (Or.inl ⟨by rfl, ?hg1_5⟩) ?_
                case hg1_5 => intro w _; go_simp; (try with_reducible rfl)
                try simp only [Act.put, List.setIfInBounds_toArray, List.set_cons_zero, List.set_cons_succ]
                refine wpAnyG_take0 (i := 6) (oi := { dst := some 43, op := Go.Op.move (Go.Operand.tmp 9), type := 3, pos := "zsortanyfunc.go:13", after := #[], guard := none }) (v := ?vg1_6) rfl (by kernel_rfl) (by kernel_rfl) (by kernel_rfl) (by kernel_rfl) (fun _ _ _ h => h) (fun _ => hS6) (Or.inl ⟨by rfl, ?hg1_6⟩) ?_
                case hg1_6 => intro w _; go_simp; (try with_reducible rfl)
                try simp only [Act.put, List.setIfInBounds_toArray, List.set_cons_zero, List.set_cons_succ]
                refine wpAnyG_take0 (i := 7) (oi := { dst := some 44, op := Go.Op.binOp Go.BinOp.sub 3 (Go.Operand.tmp 43) (Go.Operand.const (Go.Value.int Go.IntKind.i64 1)) 3, type := 3, pos := "zsortanyfunc.go:13", after := #[{ on := 6, ground := Go.Ground.data }], guard := none }) (v := ?vg1_7) rfl (by kernel_rfl) (by kernel_rfl) (by kernel_rfl) (by kernel_rfl) (fun _ _ _ h => h) (fun _ => hS6) (Or.inl ⟨by rfl, ?hg1_7⟩) ?_
                case hg1_7 => intro w _; go_simp; (try with_reducible rfl)
                try simp only [Act.put, List.setIfInBounds_toArray, List.set_cons_zero, List.set_cons_succ]
                refine wpAnyG_take0 (i := 8) (oi := { dst := some 45, op := Go.Op.indexAddr 49 (Go.Operand.tmp 42) (Go.Operand.tmp 44), type := 0, pos := "zsortanyfunc.go:13", after := #[{ on := 5, ground := Go.Ground.data }, { on := 7, ground := Go.Ground.data }], guard := none }) (v := ?vg1_8) rfl (by kernel_rfl) (by kernel_rfl) (by kernel_rfl) (by kernel_rfl) (fun _ _ _ h => h) (fun _ => hS6) (Or.inl ⟨by rfl, ?hg1_8⟩) ?_
                case hg1_8 => intro w _; go_simp; (try with_reducible rfl)
                try simp only [Act.put, List.setIfInBounds_toArray, List.set_cons_zero, List.set_cons_succ]
                refine wpAnyG_take (i := 9) (oi := { dst := some 46, op := Go.Op.load 3 (Go.Operand.tmp 45), type := 3, pos := "zsortanyfunc.go:13", after := #[{ on := 8, ground := Go.Ground.data }], guard := none }) (v := ?vg1_9) [9, 14, 15, 16, 17] rfl (by kernel_rfl) (by kernel_rfl) (by kernel_rfl) (by kernel_rfl) (by kernel_rfl) (fun _ _ _ h => h) (fun _ => hS6) (Or.inl ⟨by rfl, ?hg1_9⟩) ?_
                case hg1_9 => intro w hSw; (try dsimp only at hSw); go_simp; (try with_reducible rfl)
                try simp only [Act.put, List.setIfInBounds_toArray, List.set_cons_zero, List.set_cons_succ]
                refine wpAnyG_take0 (i := 10) (oi := { dst := some 47, op := Go.Op.move (Go.Operand.tmp 0), type := 49, pos := "zsortanyfunc.go:13", after := #[], guard := none }) (v := ?vg1_10) rfl (by kernel_rfl) (by kernel_rfl) (by kernel_rfl) (by kernel_rfl) (fun _ _ _ h => h) (fun _ => hS6) (Or.inl ⟨by rfl, ?hg1_10⟩) ?_
                case hg1_10 => intro w _; go_simp; (try with_reducible rfl)
                try simp only [Act.put, List.setIfInBounds_toArray, List.set_cons_zero, List.set_cons_succ]
                refine wpAnyG_take0 (i := 11) (oi := { dst := some 48, op := Go.Op.move (Go.Operand.tmp 9), type := 3, pos := "zsortanyfunc.go:13", after := #[], guard := none }) (v := ?vg1_11) rfl (by kernel_rfl) (by kernel_rfl) (by kernel_rfl) (by kernel_rfl) (fun _ _ _ h => h) (fun _ => hS6) (Or.inl ⟨by rfl, ?hg1_11⟩) ?_
                case hg1_11 => intro w _; go_simp; (try with_reducible rfl)
                try simp only [Act.put, List.setIfInBounds_toArray, List.set_cons_zero, List.set_cons_succ]
                refine wpAnyG_take0 (i := 12) (oi := { dst := some 49, op := Go.Op.indexAddr 49 (Go.Operand.tmp 47) (Go.Operand.tmp 48), type := 0, pos := "zsortanyfunc.go:13", after := #[{ on := 10, ground := Go.Ground.data }, { on := 11, ground := Go.Ground.data }], guard := none }) (v := ?vg1_12) rfl (by kernel_rfl) (by kernel_rfl) (by kernel_rfl) (by kernel_rfl) (fun _ _ _ h => h) (fun _ => hS6) (Or.inl ⟨by rfl, ?hg1_12⟩) ?_
                case hg1_12 => intro w _; go_simp; (try with_reducible rfl)
                try simp only [Act.put, List.setIfInBounds_toArray, List.set_cons_zero, List.set_cons_succ]
                refine wpAnyG_take (i := 13) (oi := { dst := some 50, op := Go.Op.load 3 (Go.Operand.tmp 49), type := 3, pos := "zsortanyfunc.go:13", after := #[{ on := 12, ground := Go.Ground.data }], guard := none }) (v := ?vg1_13) [13, 14, 15, 16, 17] rfl (by kernel_rfl) (by kernel_rfl) (by kernel_rfl) (by kernel_rfl) (by kernel_rfl) (fun _ _ _ h => h) (fun _ => hS6) (Or.inl ⟨by rfl, ?hg1_13⟩) ?_
                case hg1_13 => intro w hSw; (try dsimp only at hSw); go_simp; (try with_reducible rfl)
                try simp only [Act.put, List.setIfInBounds_toArray, List.set_cons_zero, List.set_cons_succ]
                refine wpAnyG_take0 (i := 14) (oi := { dst := some 51, op := Go.Op.indexAddr 49 (Go.Operand.tmp 37) (Go.Operand.tmp 38), type := 0, pos := "zsortanyfunc.go:13", after := #[{ on := 0, ground := Go.Ground.data }, { on := 1, ground := Go.Ground.data }, { on := 0, ground := Go.Ground.phase }, { on := 1, ground := Go.Ground.phase }, { on := 2, ground := Go.Ground.textOnly Go.Departure.lateStores }, { on := 3, ground := Go.Ground.textOnly Go.Departure.lateStores }, { on := 4, ground := Go.Ground.textOnly Go.Departure.lateStores }, { on := 5, ground := Go.Ground.phase }, { on := 6, ground := Go.Ground.phase }, { on := 7, ground := Go.Ground.phase }, { on := 8, ground := Go.Ground.phase }, { on := 9, ground := Go.Ground.phase }, { on := 10, ground := Go.Ground.textOnly Go.Departure.lateStores }, { on := 11, ground := Go.Ground.textOnly Go.Departure.lateStores }, { on := 12, ground := Go.Ground.textOnly Go.Departure.lateStoresUnsure }, { on := 13, ground := Go.Ground.phase }], guard := none }) (v := ?vg1_14) rfl (by kernel_rfl) (by kernel_rfl) (by kernel_rfl) (by kernel_rfl) (fun _ _ _ h => h) (fun _ => hS6) (Or.inl ⟨by rfl, ?hg1_14⟩) ?_
                case hg1_14 => intro w _; go_simp; (try with_reducible rfl)
                try simp only [Act.put, List.setIfInBounds_toArray, List.set_cons_zero, List.set_cons_succ]
                refine wpAnyG_step (i := 15) (oi := { dst := none, op := Go.Op.store 3 (Go.Operand.tmp 51) (Go.Operand.tmp 46), type := 0, pos := "zsortanyfunc.go:13", after := #[{ on := 14, ground := Go.Ground.data }, { on := 9, ground := Go.Ground.data }, { on := 0, ground := Go.Ground.phase }, { on := 1, ground := Go.Ground.phase }, { on := 2, ground := Go.Ground.textOnly Go.Departure.lateStores }, { on := 3, ground := Go.Ground.textOnly Go.Departure.lateStores }, { on := 4, ground := Go.Ground.textOnly Go.Departure.lateStores }, { on := 5, ground := Go.Ground.phase }, { on := 6, ground := Go.Ground.phase }, { on := 7, ground := Go.Ground.phase }, { on := 8, ground := Go.Ground.phase }, { on := 9, ground := Go.Ground.phase }, { on := 10, ground := Go.Ground.textOnly Go.Departure.lateStores }, { on := 11, ground := Go.Ground.textOnly Go.Departure.lateStores }, { on := 12, ground := Go.Ground.textOnly Go.Departure.lateStoresUnsure }, { on := 13, ground := Go.Ground.phase }], guard := none }) rfl (by kernel_rfl) (by rfl) (fun K hK => ?_)
                go_simp
                refine hK _ _ (fun h => absurd h (Bool.eq_false_iff.1 (by kernel_rfl))) (fun _ => ?_)
                clear hK
                try simp only [Act.put, List.setIfInBounds_toArray, List.set_cons_zero, List.set_cons_succ]
                refine wpAnyG_take0 (i := 16) (oi := { dst := some 52, op := Go.Op.indexAddr 49 (Go.Operand.tmp 39) (Go.Operand.tmp 41), type := 0, pos := "zsortanyfunc.go:13", after := #[{ on := 2, ground := Go.Ground.data }, { on := 4, ground := Go.Ground.data }, { on := 0, ground := Go.Ground.phase }, { on := 1, ground := Go.Ground.phase }, { on := 2, ground := Go.Ground.phase }, { on := 3, ground := Go.Ground.phase }, { on := 4, ground := Go.Ground.phase }, { on := 5, ground := Go.Ground.phase }, { on := 6, ground := Go.Ground.phase }, { on := 7, ground := Go.Ground.phase }, { on := 8, ground := Go.Ground.phase }, { on := 9, ground := Go.Ground.phase }, { on := 10, ground := Go.Ground.phase }, { on := 11, ground := Go.Ground.phase }, { on := 12, ground := Go.Ground.phase }, { on := 13, ground := Go.Ground.phase }, { on := 14, ground := Go.Ground.phase }, { on := 15, ground := Go.Ground.phase }], guard := none }) (v := ?vg1_16) rfl (by kernel_rfl) (by kernel_rfl) (by kernel_rfl) (by kernel_rfl) (fun _ _ _ h => h) (fun h => absurd h (Bool.eq_false_iff.1 (by kernel_rfl))) (Or.inl ⟨by rfl, ?hg1_16⟩) ?_
                case hg1_16 => intro w _; go_simp; (try with_reducible rfl)
                try simp only [Act.put, List.setIfInBounds_toArray, List.set_cons_zero, List.set_cons_succ]
                refine wpAnyG_step (i := 17) (oi := { dst := none, op := Go.Op.store 3 (Go.Operand.tmp 52) (Go.Operand.tmp 50), type := 0, pos := "zsortanyfunc.go:13", after := #[{ on := 16, ground := Go.Ground.data }, { on := 13, ground := Go.Ground.data }, { on := 15, ground := Go.Ground.chain }, { on := 0, ground := Go.Ground.phase }, { on := 1, ground := Go.Ground.phase }, { on := 2, ground := Go.Ground.phase }, { on := 3, ground := Go.Ground.phase }, { on := 4, ground := Go.Ground.phase }, { on := 5, ground := Go.Ground.phase }, { on := 6, ground := Go.Ground.phase }, { on := 7, ground := Go.Ground.phase }, { on := 8, ground := Go.Ground.phase }, { on := 9, ground := Go.Ground.phase }, { on := 10, ground := Go.Ground.phase }, { on := 11, ground := Go.Ground.phase }, { on := 12, ground := Go.Ground.phase }, { on := 13, ground := Go.Ground.phase }, { on := 14, ground := Go.Ground.phase }, { on := 15, ground := Go.Ground.phase }], guard := none }) rfl (by kernel_rfl) (by rfl) (fun K hK => ?_)
                go_simp
                refine hK _ _ (fun h => absurd h (Bool.eq_false_iff.1 (by kernel_rfl))) (fun _ => ?_)
                clear hK
                try simp only [Act.put, List.setIfInBounds_toArray, List.set_cons_zero, List.set_cons_succ]
                refine wpAnyG_done (by kernel_rfl) ?_ _
                go_wp2_with fail
                go_roundw
                case rel => (repeat apply Exists.intro); exact ⟨⟨T', y :: T2, by rw [HqT.out]; simp, HF4⟩, rfl⟩
                case measure => simp [intOf]
              · have dlt : decide (kx - ky < 0) = false := by simpa using hlt2
                have Hn := Lib.hid (show ¬ lexlt key x y from fun h => hlt2 (by have := Hlex.out.1 h; rw [← Hkk.out.1, ← Hkk.out.2] at this; omega))
                go_wp2_with fail
                go_quiet ((go_at_call 87; exact Calls.quiet_of (Hcm.out _)))
                go_wp2_with fail
                have HF4 := Lib.hid (HF3.out Hn.out nq)
                go_roundw
                case rel => (repeat apply Exists.intro); exact ⟨⟨k + 1, by simp, by omega, by omega, HF4⟩, rfl⟩
                case measure => simp [intOf]; omega
    · have hge2 : ¬ (a : Int) + k < ((a + L : Nat) : Int) := by omega
      have HF : Hid (SR w base g n cap (P ++ isort key X ++ R) wr) := by
        have h1 : X.take k = X := List.take_of_length_le (by have := HL.out; omega)
        have h2 : X.drop k = [] := List.drop_of_length_le (by have := HL.out; omega)
        have := hI.out
        rw [h1, h2] at this
        exact Lib.hid this
      clear hI
      go_wp2
      refine bodyPost_end (results_none rfl _ _ _) rfl ?_
      exact ⟨rfl, by have := HF.out; rwa [List.append_assoc] at this⟩
end Go.Proofs.Ytiejjbdmkgdniaa
set_option linter.unusedVariables false
set_option linter.unusedSimpArgs false
namespace Go.Proofs.Ytiejjbdmkgdniaa
open Go.RowKit Go.Sal Go.Huf
/-- what function f does with a row of at most N: stableCmpFunc (48, with the row's length) -/
def StabOK (N : Nat) : Prop := ∀ (key : Nat → Int) (m base g n cap bx : Nat) (l : List Nat) (w : World), w.ownsRow base 3 1 (.slice (some ⟨g, 0, none⟩) n cap) n (inN l) → Cmp g w key m bx → (∀ x ∈ l, x < m) →
  (∀ x < m, -100 ≤ key x ∧ key x ≤ 100) → l.Pairwise (· < ·) → n ≤ N →
  Calls Try.prog 99 #[.slice (some ⟨g, 0, none⟩) n cap, .int .i64 (n : Nat), .func (.func 87) #[] #[.pointer (some ⟨bx, 0, none⟩)]] w fun e w' =>
    e = .returned (.tuple #[]) ∧ SR w base g n cap (isort key l) w'
theorem stab_small : StabOK 19 := fun key m base g n cap bx l w h hc hm hk hl hn => by
  have hnl := row_n h
  have hi := inssort_any key m base g n cap bx [] l [] w (by simpa using h) hc hm hk hl (by omega)
  simp only [List.length_nil, Nat.zero_add, List.nil_append, List.append_nil] at hi
  rw [← hnl] at hi
  have Hi := Lib.hid hi
  clear hi h hc hm hk hl hnl
  have h20 : ¬ (20 : Int) ≤ n := by omega
  have h20' : ¬ (20 : Int) < n := by omega
  go_enter Try.func99, Try.ntmps99
  go_wp2
  refine wp_loop_rounds 1 ?_
  rw [rounds_succ]
  go_wp2_with (go_at_call 102; refine Hi.out.mono ?_; rintro e w1 ⟨rfl, hS⟩)
  refine wp_loop_rounds 1 ?_
  rw [rounds_succ]
  go_wp2
  refine bodyPost_end (results_none rfl _ _ _) rfl ?_
  exact ⟨rfl, hS⟩
/-- SortStableFunc -/
theorem sort_any {N : Nat} (H : StabOK N) (hN : N ≤ 1000000) (key : Nat → Int) (m base g n cap bx : Nat) (l : List Nat) (w : World) (h : w.ownsRow base 3 1 (.slice (some ⟨g, 0, none⟩) n cap) n (inN l)) (hc : Cmp g w key m bx) (hm : ∀ x ∈ l, x < m)
    (hk : ∀ x < m, -100 ≤ key x ∧ key x ≤ 100) (hl : l.Pairwise (· < ·)) (hn : n ≤ N) :
    Calls Try.prog 86 #[.slice (some ⟨g, 0, none⟩) n cap, .func (.func 87) #[] #[.pointer (some ⟨bx, 0, none⟩)]] w fun e w' =>
      e = .returned (.tuple #[]) ∧ SR w base g n cap (isort key l) w' := by
  have Hi := Lib.hid (H key m base g n cap bx l w h hc hm hk hl hn)
  clear h hc hm hk hl H
  go_enter Try.func86, Try.ntmps86
  go_wp2_with (go_at_call 99; refine Hi.out.mono ?_; rintro e w1 ⟨rfl, hS⟩)
  refine bodyPost_end (results_none rfl _ _ _) rfl ?_
  exact ⟨rfl, hS⟩
end Go.Proofs.Ytiejjbdmkgdniaa
set_option linter.unusedVariables false
set_option linter.unusedSimpArgs false
namespace Go.Proofs.Ytiejjbdmkgdniaa
open Go.RowKit Go.Sal Go.Huf
theorem inssort_nil (w : World) (fv : Value) : Calls Try.prog 102 #[.slice none 0 0, .int .i64 0, .int .i64 0, fv] w fun e w' => e = .returned (.tuple #[]) ∧ w = w' := by
  go_enter Try.func102, Try.ntmps102
  go_wp2
  refine wp_loop_rounds 1 ?_
  rw [rounds_succ]
  go_wp2
  refine bodyPost_end (results_none rfl _ _ _) rfl ?_
  exact ⟨rfl, rfl⟩
theorem stab_nil (w : World) (fv : Value) : Calls Try.prog 99 #[.slice none 0 0, .int .i64 0, fv] w fun e w' => e = .returned (.tuple #[]) ∧ w = w' := by
  go_enter Try.func99, Try.ntmps99
  go_wp2
  refine wp_loop_rounds 1 ?_
  rw [rounds_succ]
  go_wp2_with (go_at_call 102; refine (inssort_nil _ _).mono ?_; rintro e w1 ⟨rfl, rfl⟩)
  refine wp_loop_rounds 1 ?_
  rw [rounds_succ]
  go_wp2
  refine bodyPost_end (results_none rfl _ _ _) rfl ?_
  exact ⟨rfl, rfl⟩
theorem sort_nil (w : World) (fv : Value) : Calls Try.prog 86 #[.slice none 0 0, fv] w fun e w' => e = .returned (.tuple #[]) ∧ w = w' := by
  go_enter Try.func86, Try.ntmps86
  go_wp2_with (go_at_call 99; refine (stab_nil _ _).mono ?_; rintro e w1 ⟨rfl, rfl⟩)
  refine bodyPost_end (results_none rfl _ _ _) rfl ?_
  exact ⟨rfl, rfl⟩
def OA (w : World) (ls : List Int) (A : Option Addr) (c : Nat) (k : Nat) (A3 : Option Addr) (c3 : Nat) (wr : World) : Prop :=
  Blk wr w.heap.size 49 #[.slice A ls.length c] ∧ wr.ownsRow w.heap.size 3 1 (.slice A3 (symsK ls k).length c3) (symsK ls k).length (inN (symsK ls k)) ∧ Keep [] w wr

set_option maxRecDepth 20000 in
set_option maxHeartbeats 4000000 in
theorem order_any {N : Nat} (H : StabOK N) (hN : N ≤ 100000) (ls : List Int) (A : Option Addr) (c : Nat) (w : World) (hs : ISrc w A ls) (hl : ls.length ≤ N) (hg : good ls) :
    Calls Try.prog 66 #[.slice A ls.length c] w fun e w' => ∃ AO cO, e = .returned (.slice AO (ord ls).length cO) ∧
      w'.ownsRow w.heap.size 3 1 (.slice AO (ord ls).length cO) (ord ls).length (inN (ord ls)) ∧ Keep [] w w' := by
  have Hs := Lib.hid hs
  have HH := Lib.hid H
  have Hg := Lib.hid hg
  have H0 : Hid (OA w ls A c 0 none 0 (w.alloc (.cells #[.slice A ls.length c] 49 (0, 0)))) := Lib.hid ⟨Blk.new w 49 _, World.ownsRow_nil _ _ _ _, (Keep.refl [] w).alloc _⟩
  have r0 : (w.alloc (.cells #[.slice A ls.length c] 49 (0, 0))).cell? ⟨w.heap.size, 0, none⟩ = some (.slice A ls.length c) := (Blk.new w 49 _).cell 0
  clear hs H hg
  go_enter Try.func66, Try.ntmps66
  go_wp2
  go_loopw [3, 8] (fun v i wr => ∃ (k : Nat) (A3 : Option Addr) (c3 : Nat), i = .int .i64 k ∧ k ≤ ls.length ∧ v = .slice A3 (symsK ls k).length c3 ∧ Hid (OA w ls A c k A3 c3 wr)) (fun _ i _ => ls.length - (intOf i).toNat)
  case atStart => exact ⟨0, none, 0, rfl, by omega, rfl, H0⟩
  case round =>
    obtain ⟨k, A3, c3, rfl, hk, rfl, hI⟩ := hrel
    clear H0 r0
    obtain ⟨hB, hown, hkp⟩ := hI.out
    rcases Nat.lt_or_ge k ls.length with hkl | hkl
    · as_aux_lemma =>
        obtain ⟨g, o, rfl, hg, hc⟩ := Hs.out k hkl
        have d0 := (hkp.cell (p := ⟨g, o + k, none⟩) hg (by simp)).trans hc
        have hsy := symsK_succ ls k
        have e : ls.getD k 0 = ls[k] := by simp [List.getD, hkl]
        rw [e] at hsy
        have hwk : IntKind.i64.wrap ((k : Int) + 1) = (k : Int) + 1 := by rw [IntKind.wrap_i64]; omega
        have hsl := symsK_len ls k
        generalize ls[k] = x at *
        by_cases hx : 0 < x
        · rw [if_pos hx] at hsy
          obtain ⟨A2, c2, w2, hap, hown2, hk2, _⟩ := free_append (w := wr) hown k (by have := HH; omega) hkp.size
          have HF : Hid (OA w ls (some ⟨g, o, none⟩) c (k + 1) A2 c2 w2) := by
            refine Lib.hid ⟨hB.keep hk2 ?_, by rw [hsy]; exact hown2, hkp.step hk2 (fun j hj => .inr (hown.lt j (by simpa using hj)).1)⟩
            have := own_ne_blk hown hB (by decide)
            simpa using this
          have Hap := Lib.hid hap
          have Hsy := Lib.hid hsy
          clear hI hB hown hkp hc hsy hown2 hk2 hap e
          have hap := Hap.out
          go_wp2_with (at_builtin; refine wpList_append2 (v1 := .slice A3 (symsK ls k).length c3) (v2 := .slice (some ⟨wr.heap.size, 0, none⟩) 1 1) rfl (.tmp 15) (.tmp 17) rfl rfl rfl hap ?_)
          exact ⟨⟨k + 1, A2, c2, by simp, by omega, by rw [Hsy.out]; simp, HF⟩, by simp [intOf]; omega⟩
        · rw [if_neg hx, List.append_nil] at hsy
          have HF : Hid (OA w ls (some ⟨g, o, none⟩) c (k + 1) A3 c3 wr) := Lib.hid ⟨hB, by rw [hsy]; exact hown, hkp⟩
          have Hsy := Lib.hid hsy
          clear hI hB hown hkp hc hsy e
          go_wp2
          exact ⟨⟨k + 1, A3, c3, by simp, by omega, by rw [Hsy.out], HF⟩, by simp [intOf]; omega⟩
    · obtain rfl : k = ls.length := by omega
      have HO := Lib.hid hown
      rcases hown.2 with ⟨hv, hnil⟩ | ⟨g3, cap3, cur3, hv, hg3b, hh3, ho1, ho2, ho3, ho4⟩
      · injection hv with e1 e2 e3
        subst e1 e3
        have hoe : ord ls = [] := List.eq_nil_of_length_eq_zero (by rw [ord_len]; exact e2)
        have Hoe := Lib.hid hoe
        have Hkp := Lib.hid hkp
        clear hI hB hown hkp hnil HO hoe
        rw [e2]
        clear e2
        go_wp2_with (go_at_call 86; refine (sort_nil _ _).mono ?_; rintro e w1 ⟨rfl, rfl⟩)
        go_ret
        exact ⟨none, 0, by rw [Hoe.out]; rfl, by rw [Hoe.out]; exact World.ownsRow_nil _ _ _ _, Hkp.out⟩
      · injection hv with e1 e2 e3
        subst e1 e3
        have hg3 : g3 < wr.heap.size := lt_of_some hh3
        clear hh3 ho1 ho2 ho3 ho4 cur3
        have hne : w.heap.size ≠ g3 := fun e => own_ne_blk hown hB (by decide) (by rw [e]; rfl)
        have hsrc : ISrc wr A ls := Hs.out.keep hkp (by simp)
        have hcmp : Cmp g3 wr (fun i => ls.getD i 0) ls.length w.heap.size := by
          rcases Nat.eq_zero_or_pos ls.length with hlz | hlp
          · intro W hk a b ha hb
            omega
          · refine Cmp.of hB hsrc Hg.out hne (fun a ha => ?_)
            subst ha
            obtain ⟨g, o, he, hg, _⟩ := Hs.out 0 hlp
            injection he with he
            subst he
            show g ≠ g3
            omega
        have hso := sort_any HH.out (by omega) (fun i => ls.getD i 0) ls.length w.heap.size g3 (symsK ls ls.length).length c3 w.heap.size (symsK ls ls.length) wr hown hcmp (fun x hx => (symsK_mem.1 hx).1) (fun x hx => by
          have h1 := Hg.out _ (List.getElem_mem hx)
          simp only [List.getD, List.getElem?_eq_getElem hx, Option.getD_some]
          omega) (symsK_inc _ _) (by have := symsK_len ls ls.length; omega)
        have Hso := Lib.hid hso
        have Hkp := Lib.hid hkp
        clear hI hB hown hkp hsrc hcmp hso
        generalize hsl : (symsK ls ls.length).length = sl at *
        go_wp2_with (go_at_call 86; refine Hso.out.mono ?_; rintro e w1 ⟨rfl, hS⟩)
        go_ret
        refine ⟨some ⟨g3, 0, none⟩, c3, by rw [ord_len, hsl]; rfl, by rw [ord_len, hsl]; exact hS.1, ?_⟩
        exact Hkp.out.step hS.2 (by intro i hi; simp at hi; right; omega)
end Go.Proofs.Ytiejjbdmkgdniaa
