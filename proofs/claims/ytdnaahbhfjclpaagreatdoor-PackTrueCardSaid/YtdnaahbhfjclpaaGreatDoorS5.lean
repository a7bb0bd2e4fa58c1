/- slices.SortStableFunc at order's comparison: at fewer than 20; order. -/
import Derived.Test.YtdnaahbhfjclpaaGreatDoorR3
import Derived.Test.YtdnaahbhfjclpaaGreatDoorHfK
import Derived.BigQuiet
set_option linter.unusedVariables false
set_option linter.unusedSimpArgs false
namespace Go.Proofs.YtdnaahbhfjclpaaGreatDoor
open Go.RowKit Go.Sal Go.Huf
def histV (ls : List Int) : Array Value := ((List.range 16).map fun n => Value.int .i64 (cnt ls n : Nat)).toArray
theorem histV_nil : histV [] = #[.int .i64 0, .int .i64 0, .int .i64 0, .int .i64 0, .int .i64 0, .int .i64 0, .int .i64 0, .int .i64 0, .int .i64 0, .int .i64 0, .int .i64 0, .int .i64 0, .int .i64 0, .int .i64 0, .int .i64 0, .int .i64 0] := by
  simp [histV, cnt, List.range, List.range.loop]
theorem histV_get (ls : List Int) {n : Nat} (h : n < 16) : (histV ls)[n]? = some (.int .i64 (cnt ls n : Nat)) := by
  simp [histV, h]
theorem histV_set (ls : List Int) {x : Nat} (h : x < 16) : (histV ls).setIfInBounds x (.int .i64 ((cnt ls x : Int) + 1)) = histV (ls ++ [(x : Int)]) := by
  apply Array.ext_getElem?
  intro i
  rw [Array.getElem?_setIfInBounds]
  by_cases hi : i < 16
  · rw [histV_get _ hi, histV_get _ hi, cnt_snoc]
    by_cases hx : x = i
    · subst hx
      rw [if_pos rfl, if_pos (by simpa [histV] using h), if_pos rfl]
      simp
    · rw [if_neg hx, if_neg (by omega)]
      simp
  · by_cases hx : x = i
    · omega
    · rw [if_neg hx]
      simp [histV, hi]
theorem p2_shift {k : Nat} (h : k < 15) : (2 : Int) ^ (14 - k) = (p2 (k + 1) : Int) := by
  unfold p2
  rw [show 15 - (k + 1) = 14 - k by omega]
  simp
theorem wrap_two {a b : Int} (h1 : 0 ≤ b ∧ b ≤ 16777216) (h2 : 0 ≤ a + b ∧ a + b ≤ 1000000000) : RowKit.wrap64 (a + RowKit.wrap64 b) = a + b := by
  have e1 : RowKit.wrap64 b = b := IntWalk.wrap64_in _ ⟨by omega, by omega⟩
  rw [e1]
  exact IntWalk.wrap64_in _ ⟨by omega, by omega⟩
theorem rm_step {ls : List Int} (hl : ls.length ≤ 512) {k : Nat} (h : k < 15) : RowKit.wrap64 (rm ls k + RowKit.wrap64 ((cnt ls (k + 1) : Int) * 2 ^ (14 - k))) = rm ls (k + 1) := by
  have hrk := rm_small hl (k + 1)
  rw [p2_shift h]
  refine wrap_two (rm_mul hl (k + 1)) ?_
  rw [rm] at hrk
  generalize rm ls k + (cnt ls (k + 1) : Int) * (p2 (k + 1) : Int) = z at *
  omega
def CA (w : World) (ls : List Int) (k : Nat) (wr : World) : Prop := Blk wr w.heap.size 219 (histV (ls.take k)) ∧ Keep [] w wr ∧ ∀ j (h : j < ls.length), j < k → 0 ≤ ls[j] ∧ ls[j] ≤ 15
set_option maxRecDepth 20000 in
set_option maxHeartbeats 4000000 in
theorem check_any (ls : List Int) (A : Option Addr) (c : Nat) (w : World) (hs : ISrc w A ls) (hn : ls.length ≤ 100000000) :
    Calls Tryz.prog 132 #[.slice A ls.length c] w fun e w' => e = .returned (.int .i64 (chkE ls)) ∧ Keep [] w w' := by
  have Hs := Lib.hid hs
  clear hs
  go_enter Tryz.func132, Tryz.ntmps132
  by_cases hl : 512 < ls.length
  · have hl2 : (512 : Int) < ls.length := by omega
    have hr : Hid (chkE ls = 51) := Lib.hid (by unfold chkE; rw [if_neg (fun h => by have := h.1; omega)])
    go_wp2
    go_ret
    exact ⟨by rw [hr.out]; rfl, Keep.refl _ _⟩
  · have hl2 : ¬ (512 : Int) < ls.length := by omega
    have H0 : Hid (CA w ls 0 (w.alloc (.cells #[.int .i64 0, .int .i64 0, .int .i64 0, .int .i64 0, .int .i64 0, .int .i64 0, .int .i64 0, .int .i64 0, .int .i64 0, .int .i64 0, .int .i64 0, .int .i64 0, .int .i64 0, .int .i64 0, .int .i64 0, .int .i64 0] 219 (0, 0)))) := by
      refine Lib.hid ⟨?_, (Keep.refl [] w).alloc _, fun j h hj => by omega⟩
      rw [List.take_zero, histV_nil]
      exact Blk.new w 219 _
    go_wp2
    go_loopw [14] (fun i wr => ∃ k : Nat, i = .int .i64 k ∧ k ≤ ls.length ∧ Hid (CA w ls k wr)) (fun i _ => ls.length - (intOf i).toNat)
    case atStart => exact ⟨0, rfl, by omega, H0⟩
    case round =>
      obtain ⟨k, rfl, hk, hI⟩ := hrel
      clear H0
      obtain ⟨hB, hkp, hall⟩ := hI.out
      rcases Nat.lt_or_ge k ls.length with hkl | hkl
      · as_aux_lemma =>
          obtain ⟨g, o, rfl, hg, hc⟩ := Hs.out k hkl
          have d0 := (hkp.cell (p := ⟨g, o + k, none⟩) hg (by simp)).trans hc
          have hwk : IntKind.i64.wrap ((k : Int) + 1) = (k : Int) + 1 := by rw [IntKind.wrap_i64]; omega
          have htk : ls.take (k + 1) = ls.take k ++ [ls[k]] := List.take_succ_eq_append_getElem hkl
          have hbad : Hid (¬ (0 ≤ ls[k] ∧ ls[k] ≤ 15) → chkE ls = 51) := Lib.hid (fun h => by unfold chkE; rw [if_neg (fun h2 => h (h2.2.1 _ (List.getElem_mem hkl)))])
          have hstep : Hid (0 ≤ ls[k] ∧ ls[k] ≤ 15 → ∀ j (h : j < ls.length), j < k + 1 → 0 ≤ ls[j] ∧ ls[j] ≤ 15) := Lib.hid (fun hb j h hj => by
            rcases Nat.lt_succ_iff_lt_or_eq.1 hj with h1 | rfl
            · exact hall j h h1
            · exact hb)
          have Hkp := Lib.hid hkp
          generalize ls[k] = x at *
          by_cases h1 : x < 0
          · clear hI hB hkp hall htk
            have hb2 := Lib.hid (hbad.out (by omega))
            go_wp2
            go_ret
            exact ⟨by rw [hb2.out]; rfl, Hkp.out⟩
          · by_cases h2 : 15 < x
            · clear hI hB hkp hall htk
              have hb2 := Lib.hid (hbad.out (by omega))
              go_wp2
              go_ret
              exact ⟨by rw [hb2.out]; rfl, Hkp.out⟩
            · obtain ⟨n, rfl⟩ : ∃ n : Nat, x = n := ⟨x.toNat, by omega⟩
              have hn16 : n < 16 := by omega
              have m1 : wr.cell? ⟨w.heap.size, n, none⟩ = some (.int .i64 (cnt (ls.take k) n : Nat)) := (hB.cell n).trans (histV_get _ hn16)
              have m2 : wr.frozen? ⟨w.heap.size, n, none⟩ = false := hB.free n
              have hset := hB.set_ n (.int .i64 ((cnt (ls.take k) n : Int) + 1))
              rw [histV_set _ hn16, ← htk] at hset
              have hcl : cnt (ls.take k) n ≤ 512 := by
                have := cnt_le (ls.take k) n
                rw [List.length_take] at this
                omega
              have HN : Hid (CA w ls (k + 1) (wr.setCell ⟨w.heap.size, n, none⟩ (.int .i64 ((cnt (ls.take k) n : Int) + 1)))) :=
                Lib.hid ⟨hset, hkp.setCell (.inr (Nat.le_refl _)) _, hstep.out (by omega)⟩
              clear hI hB hkp hall htk hset hstep hbad
              generalize cnt (ls.take k) n = q at *
              have hwq : IntKind.i64.wrap ((q : Int) + 1) = (q : Int) + 1 := by rw [IntKind.wrap_i64]; omega
              go_wp2
              exact ⟨⟨k + 1, by simp, by omega, HN⟩, by simp [intOf]; omega⟩
      · obtain rfl : k = ls.length := by omega
        rw [List.take_length] at hB
        have hgood : good ls := fun n hn => by
          obtain ⟨j, hj, rfl⟩ := List.mem_iff_getElem.1 hn
          exact hall j hj hj
        have hsc := some_cnt ls hgood
        have hrr := rm_room ls hgood
        have m0 : wr.cell? ⟨w.heap.size, 0, none⟩ = some (.int .i64 (cnt ls 0 : Nat)) := (hB.cell 0).trans (histV_get _ (by omega))
        have m1 : wr.cell? ⟨w.heap.size, 1, none⟩ = some (.int .i64 (cnt ls 1 : Nat)) := (hB.cell 1).trans (histV_get _ (by omega))
        have HB := Lib.hid hB
        have Hkp := Lib.hid hkp
        have hc0 := cnt_le ls 0
        have hc1 := cnt_le ls 1
        have hse : IntKind.i64.wrap ((ls.length : Int) - (cnt ls 0 : Nat)) = (some_ ls : Nat) := by rw [IntKind.wrap_i64]; omega
        have hsl := some_le ls
        have hrng := room_range ls
        have Hok := Lib.hid (chkE_ok (ls := ls) (by omega) hgood)
        have Hno := Lib.hid (chkE_no (ls := ls))
        have Hrr := Lib.hid hrr
        clear hI hB hkp hall hgood hrr hsc hrng
        go_wp2_with fail
        go_quiet (fail)
        go_wp2_with fail
        obtain ⟨wq, hwq⟩ : ∃ wq, wq = wr.drewN nq := ⟨_, rfl⟩
        rw [← hwq]
        have HBq : Hid (Blk wq w.heap.size 219 (histV ls)) := by rw [hwq]; exact HB
        have Hkq : Hid (Keep [] w wq) := by rw [hwq]; exact Lib.hid (Hkp.out.drewN _)
        have mq1 : wq.cell? ⟨w.heap.size, 1, none⟩ = some (.int .i64 (cnt ls 1 : Nat)) := (HBq.out.cell 1).trans (histV_get _ (by omega))
        clear hwq HB Hkp m0 m1
        go_loop [6, 8] (fun r n => ∃ k : Nat, n = .int .i64 ((k : Int) + 1) ∧ k ≤ 15 ∧ r = .int .i64 (rm ls k)) (fun _ n => 16 - (intOf n).toNat)
        case atStart => exact ⟨0, rfl, by omega, rfl⟩
        case round =>
          obtain ⟨k, rfl, hk, rfl⟩ := hrel
          rcases Nat.lt_or_ge k 15 with hk15 | hk15
          · as_aux_lemma =>
              have mk : wq.cell? ⟨w.heap.size, k + 1, none⟩ = some (.int .i64 (cnt ls (k + 1) : Nat)) := (HBq.out.cell (k + 1)).trans (histV_get _ (by omega))
              have hk2 : (k : Int) + 1 ≤ 15 := by omega
              have hrm : rm ls (k + 1) = rm ls k + (cnt ls (k + 1) : Int) * (p2 (k + 1) : Int) := rfl
              have HR := Lib.hid (rm_step (ls := ls) (by omega) hk15)
              clear hrm hsl hse hc0 hc1
              go_wp2_with fail
              refine ⟨⟨k + 1, by simp, by omega, by rw [HR.out]⟩, by simp [intOf]; omega⟩
          · obtain rfl : k = 15 := by omega
            rw [Hrr.out]
            have hk2 : ¬ ((15 : Nat) : Int) + 1 ≤ 15 := by omega
            clear hse hc0 hc1 Hs hsl
            generalize room ls = R at *
            generalize some_ ls = S at *
            generalize cnt ls 1 = O at *
            by_cases h0 : S = 0
            · have hr := Lib.hid (Hok.out (.inl h0))
              subst h0
              go_wp2
              go_ret
              exact ⟨by rw [hr.out]; rfl, Hkq.out⟩
            · have d1 : ((S : Int) == 0) = false := by simpa using h0
              by_cases hR : R = 32768
              · have hr := Lib.hid (Hok.out (.inr (.inr hR)))
                subst hR
                by_cases h1 : S = 1
                · subst h1
                  by_cases h2 : O = 1
                  · subst h2
                    go_wp2
                    go_ret
                    exact ⟨by rw [hr.out]; rfl, Hkq.out⟩
                  · have d3 : ((O : Int) == 1) = false := by simpa using (by omega : (O : Int) ≠ 1)
                    go_wp2
                    go_ret
                    exact ⟨by rw [hr.out]; rfl, Hkq.out⟩
                · have d2 : ((S : Int) == 1) = false := by simpa using (by omega : (S : Int) ≠ 1)
                  go_wp2
                  go_ret
                  exact ⟨by rw [hr.out]; rfl, Hkq.out⟩
              · have d4 : (R == 32768) = false := by simpa using hR
                by_cases h1 : S = 1
                · by_cases h2 : O = 1
                  · have hr := Lib.hid (Hok.out (.inr (.inl ⟨h1, h2⟩)))
                    subst h1
                    subst h2
                    go_wp2
                    go_ret
                    exact ⟨by rw [hr.out]; rfl, Hkq.out⟩
                  · have hr := Lib.hid (Hno.out (by omega))
                    have d3 : ((O : Int) == 1) = false := by simpa using (by omega : (O : Int) ≠ 1)
                    subst h1
                    go_wp2
                    go_ret
                    exact ⟨by rw [hr.out]; rfl, Hkq.out⟩
                · have hr := Lib.hid (Hno.out (by omega))
                  have d2 : ((S : Int) == 1) = false := by simpa using (by omega : (S : Int) ≠ 1)
                  go_wp2
                  go_ret
                  exact ⟨by rw [hr.out]; rfl, Hkq.out⟩
end Go.Proofs.YtdnaahbhfjclpaaGreatDoor

namespace Go.Proofs.YtdnaahbhfjclpaaGreatDoor
open Go.RowKit Go.Sal Go.Huf
theorem cmp_any (ls : List Int) (A : Option Addr) (c bx : Nat) (a b : Nat) (w : World) (hB : Blk w bx 140 #[.slice A ls.length c]) (hs : ISrc w A ls) (hg : good ls) (ha : a < ls.length) (hb : b < ls.length) :
    Calls Tryz.prog 157 #[.int .i64 (a : Nat), .int .i64 (b : Nat), .pointer (some ⟨bx, 0, none⟩)] w fun e w' => e = .returned (.int .i64 (ls[a] - ls[b])) ∧ ∃ k, w' = w.drewN k := by
  obtain ⟨g, o, rfl, hg1, c1⟩ := hs a ha
  obtain ⟨g', o', he, hg2, c2⟩ := hs b hb
  injection he with he
  injection he with e1 e2
  subst e1 e2
  have r0 : w.cell? ⟨bx, 0, none⟩ = some (.slice (some ⟨g, o, none⟩) ls.length c) := hB.cell 0
  have h1 := hg _ (List.getElem_mem ha)
  have h2 := hg _ (List.getElem_mem hb)
  have hw : IntKind.i64.wrap (ls[a] - ls[b]) = ls[a] - ls[b] := by rw [IntKind.wrap_i64]; omega
  have hai : (a : Int) < ls.length := by omega
  have hbi : (b : Int) < ls.length := by omega
  clear hs hg hB
  generalize ls[a] = x at *
  generalize ls[b] = y at *
  generalize ls.length = n at *
  go_enter Tryz.func157, Tryz.ntmps157
  go_wp2
  go_quiet (fail)
  go_wp2
  go_ret
  exact ⟨rfl, _, rfl⟩
def Cmp (g : Nat) (w : World) (key : Nat → Int) (m : Nat) (bx : Nat) : Prop :=
  ∀ wr, Keep [g] w wr → ∀ a b : Nat, a < m → b < m → Calls Tryz.prog 157 #[.int .i64 (a : Nat), .int .i64 (b : Nat), .pointer (some ⟨bx, 0, none⟩)] wr fun e w' => e = .returned (.int .i64 (key a - key b)) ∧ ∃ k, w' = wr.drewN k
theorem Cmp.of {ls : List Int} {A : Option Addr} {c bx g : Nat} {w : World} (hB : Blk w bx 140 #[.slice A ls.length c]) (hs : ISrc w A ls) (hg : good ls) (h1 : bx ≠ g) (h2 : ∀ a, A = some a → a.block ≠ g) : Cmp g w (fun i => ls.getD i 0) ls.length bx := fun wr hk a b ha hb => by
  have := cmp_any ls A c bx a b wr (hB.keep hk (by simpa using h1)) (hs.keep hk (fun a h => by simpa using h2 a h)) hg ha hb
  simpa [List.getD, ha, hb] using this
end Go.Proofs.YtdnaahbhfjclpaaGreatDoor

namespace Go.Huf
section
variable {key : Nat → Int}
theorem ins_done {T1 T2 : List Nat} {x : Nat} (hs : srtd key (T1 ++ T2)) (h2 : ∀ y ∈ T2, lexlt key x y) (h1 : ∀ y ∈ T1, lexlt key y x) : srtd key (T1 ++ x :: T2) := by
  have h := List.pairwise_append.1 hs
  refine List.pairwise_append.2 ⟨h.1, List.pairwise_cons.2 ⟨h2, h.2.1⟩, fun a ha b hb => ?_⟩
  rcases List.mem_cons.1 hb with rfl | hb
  · exact h1 a ha
  · exact h.2.2 a ha b hb
theorem last_all {T : List Nat} {y x : Nat} (hs : srtd key (T ++ [y])) (h : lexlt key y x) : ∀ z ∈ T ++ [y], lexlt key z x := fun z hz => by
  rcases List.mem_append.1 hz with hz | hz
  · exact lex_trans ((List.pairwise_append.1 hs).2.2 z hz y (by simp)) h
  · simp at hz; subst hz; exact h
end
end Go.Huf
namespace Go.Proofs.YtdnaahbhfjclpaaGreatDoor
open Go.RowKit Go.Sal Go.Huf
theorem row_n {w : World} {base g n cap : Nat} {l : List Nat} (h : w.ownsRow base 3 1 (.slice (some ⟨g, 0, none⟩) n cap) n (inN l)) : n = l.length := by
  have := h.1
  rw [inN_len] at this
  omega
theorem row_at {w : World} {base g n cap : Nat} {l : List Nat} (h : w.ownsRow base 3 1 (.slice (some ⟨g, 0, none⟩) n cap) n (inN l)) {i x : Nat} (hx : l[i]? = some x) :
    w.cell? ⟨g, i, none⟩ = some (.int .i64 (x : Nat)) ∧ w.frozen? ⟨g, i, none⟩ = false :=
  ownsRow_cell h (by simp [inN, hx])
theorem row_set {w : World} {base g n cap : Nat} {l : List Nat} (h : w.ownsRow base 3 1 (.slice (some ⟨g, 0, none⟩) n cap) n (inN l)) (i x : Nat) (hi : i < n) :
    (w.setCell ⟨g, i, none⟩ (.int .i64 (x : Nat))).ownsRow base 3 1 (.slice (some ⟨g, 0, none⟩) n cap) n (inN (l.set i x)) := by
  have := ownsRow_set h i (by omega) (.int .i64 (x : Nat))
  simpa [inN, List.map_set] using this
theorem two_cells {w : World} {base g n cap : Nat} {Q R : List Nat} {x y : Nat} (h : w.ownsRow base 3 1 (.slice (some ⟨g, 0, none⟩) n cap) n (inN (Q ++ y :: x :: R))) :
    w.cell? ⟨g, Q.length, none⟩ = some (.int .i64 (y : Nat)) ∧ w.cell? ⟨g, Q.length + 1, none⟩ = some (.int .i64 (x : Nat)) ∧ w.frozen? ⟨g, Q.length, none⟩ = false ∧ w.frozen? ⟨g, Q.length + 1, none⟩ = false ∧ n = Q.length + 2 + R.length := by
  have a := row_at h (i := Q.length) (x := y) (by simp)
  have b := row_at h (i := Q.length + 1) (x := x) (by simp)
  have := row_n h
  simp at this
  exact ⟨a.1, b.1, a.2, b.2, by omega⟩
theorem two_swap {w : World} {base g n cap : Nat} {Q R : List Nat} {x y : Nat} (h : w.ownsRow base 3 1 (.slice (some ⟨g, 0, none⟩) n cap) n (inN (Q ++ y :: x :: R))) :
    ((w.setCell ⟨g, Q.length + 1, none⟩ (.int .i64 (y : Nat))).setCell ⟨g, Q.length, none⟩ (.int .i64 (x : Nat))).ownsRow base 3 1 (.slice (some ⟨g, 0, none⟩) n cap) n (inN (Q ++ x :: y :: R)) := by
  have hn := (two_cells h).2.2.2.2
  have h1 := row_set (row_set h (Q.length + 1) y (by omega)) Q.length x (by omega)
  have e : ((Q ++ y :: x :: R).set (Q.length + 1) y).set Q.length x = Q ++ x :: y :: R := by
    rw [List.set_append_right _ _ (by omega), List.set_append_right _ _ (by omega)]
    simp
  rw [e] at h1
  exact h1
def SR (w : World) (base g n cap : Nat) (l : List Nat) (wr : World) : Prop :=
  wr.ownsRow base 3 1 (.slice (some ⟨g, 0, none⟩) n cap) n (inN l) ∧ Keep [g] w wr
def SI (w : World) (base g n cap : Nat) (key : Nat → Int) (P T T2 R : List Nat) (x : Nat) (U : List Nat) (wr : World) : Prop :=
  SR w base g n cap (P ++ (T ++ x :: T2) ++ R) wr ∧ T ++ T2 = U ∧ ∀ y ∈ T2, lexlt key x y
set_option maxRecDepth 20000 in
set_option maxHeartbeats 16000000 in
theorem inssort_any (key : Nat → Int) (m base g n cap bx : Nat) (P X R : List Nat) (w : World) (h : w.ownsRow base 3 1 (.slice (some ⟨g, 0, none⟩) n cap) n (inN (P ++ X ++ R))) (hc : Cmp g w key m bx)
    (hm : ∀ x ∈ X, x < m) (hk : ∀ x < m, -100 ≤ key x ∧ key x ≤ 100) (hX : X.Pairwise (· < ·)) (hn : n ≤ 1000000) :
    Calls Tryz.prog 167 #[.slice (some ⟨g, 0, none⟩) n cap, .int .i64 (P.length : Nat), .int .i64 ((P.length + X.length : Nat) : Int), .func (.func 157) #[] #[.pointer (some ⟨bx, 0, none⟩)]] w fun e w' =>
      e = .returned (.tuple #[]) ∧ SR w base g n cap (P ++ isort key X ++ R) w' := by
  have hnl := row_n h
  simp only [List.length_append] at hnl
  have Hc := Lib.hid hc
  have Hm := Lib.hid hm
  have Hk := Lib.hid hk
  have HX := Lib.hid hX
  have H0 : Hid (SR w base g n cap (P ++ isort key (X.take 1) ++ (X.drop 1 ++ R)) w) := Lib.hid ⟨by
    have e : isort key (X.take 1) = X.take 1 := by
      match X with
      | [] => rfl
      | x :: X => rfl
    rw [e, List.append_assoc, ← List.append_assoc (X.take 1), List.take_append_drop, ← List.append_assoc]
    exact h, Keep.refl _ _⟩
  obtain ⟨a, ha⟩ : ∃ a, a = P.length := ⟨_, rfl⟩
  obtain ⟨L, hL⟩ : ∃ L, L = X.length := ⟨_, rfl⟩
  rw [← ha, ← hL] at hnl ⊢
  have Ha := Lib.hid ha
  have HL' := Lib.hid hnl
  have hn1 : a + L ≤ n := by omega
  have HL := Lib.hid hL
  clear hc hm hk hX h ha hL hnl
  have hwa : IntKind.i64.wrap ((a : Int) + 1) = (a : Int) + 1 := by rw [IntKind.wrap_i64]; omega
  go_enter Tryz.func167, Tryz.ntmps167
  go_wp2
  go_loopw [8, 9] (fun i _ wr => ∃ k : Nat, i = .int .i64 ((a : Int) + k) ∧ 1 ≤ k ∧ (k = 1 ∨ k ≤ L) ∧ Hid (SR w base g n cap (P ++ isort key (X.take k) ++ (X.drop k ++ R)) wr)) (fun i _ _ => a + L + 1 - (intOf i).toNat)
  case atStart => exact ⟨1, by simp, by omega, .inl rfl, H0⟩
  case round =>
    obtain ⟨k, rfl, hk1, hkL, hI⟩ := hrel
    clear H0
    rcases Nat.lt_or_ge k L with hlt | hge
    · as_aux_lemma =>
        have hkX : k < X.length := by have := HL.out; omega
        have hlti : (a : Int) + k < ((a + L : Nat) : Int) := by omega
        have hdr : X.drop k = X[k] :: X.drop (k + 1) := List.drop_eq_getElem_cons hkX
        have htk : X.take (k + 1) = X.take k ++ [X[k]] := List.take_succ_eq_append_getElem hkX
        obtain ⟨x, hx⟩ : ∃ x, x = X[k] := ⟨_, rfl⟩
        rw [← hx] at hdr htk
        have hxm : x < m := by rw [hx]; exact Hm.out _ (List.getElem_mem hkX)
        have hlate : ∀ y ∈ X.take k, y < x := fun y hy => by
          have h1 := HX.out.sublist (List.take_sublist (k + 1) X)
          rw [htk] at h1
          exact (List.pairwise_append.1 h1).2.2 y hy x (by simp)
        have hnd : (X.take (k + 1)).Nodup := (HX.out.sublist (List.take_sublist (k + 1) X)).imp (fun hab => by omega)
        have hkl : (isort key (X.take k)).length = k := by rw [isort_len, List.length_take]; omega
        have H1 : Hid (SI w base g n cap key P (isort key (X.take k)) [] (X.drop (k + 1) ++ R) x (isort key (X.take k)) wr) := by
          refine Lib.hid ⟨?_, by simp, by simp⟩
          have := hI.out
          rw [hdr] at this
          simpa using this
        have hU : Hid (∀ T T2, T ++ T2 = isort key (X.take k) → (∀ y ∈ T2, lexlt key x y) → (∀ y ∈ T, lexlt key y x) → T ++ x :: T2 = isort key (X.take (k + 1))) := Lib.hid (fun T T2 he h2 h1 => by
          have hs : srtd key (T ++ T2) := by rw [he]; exact isort_srtd (hnd.sublist (List.take_sublist_take_left (by omega)))
          refine isort_eq (ins_done hs h2 h1) ?_
          rw [htk]
          refine (List.perm_middle).trans ?_
          rw [he]
          refine ((isort_perm (key := key) (X.take k)).cons x).trans ?_
          exact (List.perm_append_singleton x _).symm)
        have hUm : Hid (∀ y ∈ isort key (X.take k), y < x ∧ y < m) := Lib.hid (fun y hy => by
          have h1 := (isort_perm (X.take k)).mem_iff.1 hy
          exact ⟨hlate y h1, Hm.out y (List.mem_of_mem_take h1)⟩)
        have hUs : Hid (srtd key (isort key (X.take k))) := Lib.hid (isort_srtd (hnd.sublist (List.take_sublist_take_left (by omega))))
        have Hxm := Lib.hid hxm
        obtain ⟨U, hUd⟩ : ∃ U, U = isort key (X.take k) := ⟨_, rfl⟩
        rw [← hUd] at H1 hU hUm hUs hkl
        obtain ⟨R2, hR2⟩ : ∃ R2, R2 = X.drop (k + 1) ++ R := ⟨_, rfl⟩
        have HR2 := Lib.hid hR2
        rw [← hR2] at H1
        have hwk : IntKind.i64.wrap ((a : Int) + k + 1) = (a : Int) + (k + 1 : Nat) := by rw [IntKind.wrap_i64]; omega
        have hkL2 : k < L := hlt
        clear hI hdr htk hx hxm hlate hnd hUd hR2 hlt hkX hkL
        go_wp2_with fail
        go_loopw [9] (fun j wr => ∃ (T T2 : List Nat), j = .int .i64 ((a : Int) + T.length) ∧ Hid (SI w base g n cap key P T T2 R2 x U wr)) (fun j _ => (intOf j).toNat)
        case atStart => exact ⟨U, [], by rw [hkl], H1⟩
        case round =>
          obtain ⟨T, T2, rfl, hJ⟩ := hrel
          clear H1
          obtain ⟨hSR, hTU, hT2⟩ := hJ.out
          have HT2 := Lib.hid hT2
          have HTU := Lib.hid hTU
          have hTl : T.length ≤ k := by rw [← hkl, ← hTU, List.length_append]; omega
          rcases List.eq_nil_or_concat T with rfl | ⟨T', y, rfl⟩
          · as_aux_lemma =>
              have HF : Hid (∀ q2, SR w base g n cap (P ++ isort key (X.take (k + 1)) ++ (X.drop (k + 1) ++ R)) (wr.drewN q2)) := by
                rw [← hU.out [] T2 hTU hT2 (by simp), ← HR2.out]
                exact Lib.hid (fun q2 => ⟨hSR.1, hSR.2.drewN q2⟩)
              have d0 : decide ((a : Int) < (a : Int) + (([] : List Nat).length : Nat)) = false := by simp
              clear hJ hSR hTU hT2 hU hUm hUs HT2 HTU HR2
              simp only [List.length_nil, Int.natCast_zero, Int.add_zero] at d0 ⊢
              have d1 : decide ((a : Int) < a) = false := by simp
              go_wp2_with fail
              go_quiet (fail)
              go_wp2_with fail
              exact ⟨⟨k + 1, by simp, by omega, by omega, Lib.hid (HF.out nq)⟩, by simp [intOf]; omega⟩
          · as_aux_lemma =>
              rw [List.concat_eq_append] at *
              have hyU : y ∈ U := by rw [← hTU]; simp
              obtain ⟨hyx, hym⟩ := hUm.out y hyU
              have hrow : wr.ownsRow base 3 1 (.slice (some ⟨g, 0, none⟩) n cap) n (inN ((P ++ T') ++ y :: x :: (T2 ++ R2))) := by
                have := hSR.1
                simpa using this
              have hkw := hSR.2
              have hgl : g < wr.heap.size := (hrow.lt g rfl).2
              obtain ⟨c1, c2, z1, z2, hn2⟩ := two_cells hrow
              have hsw := two_swap hrow
              have hql : (P ++ T').length = a + T'.length := by rw [List.length_append, ← Ha.out]
              rw [hql] at c1 c2 z1 z2 hn2 hsw
              obtain ⟨q, hq⟩ : ∃ q, q = a + T'.length := ⟨_, rfl⟩
              rw [← hq] at c1 c2 z1 z2 hn2 hsw
              have hqj : ((a : Int) + ((T' ++ [y]).length : Nat)) = ((q + 1 : Nat) : Int) := by simp; omega
              rw [hqj]
              have hcm : ∀ k2, Calls Tryz.prog 157 #[.int .i64 (x : Nat), .int .i64 (y : Nat), .pointer (some ⟨bx, 0, none⟩)] (wr.drewN k2) fun e w' => e = .returned (.int .i64 (key x - key y)) ∧ ∃ k, w' = (wr.drewN k2).drewN k := fun k2 => Hc.out _ (hkw.drewN k2) x y Hxm.out hym
              have HF2 : Hid (lexlt key x y → ∀ q2, SI w base g n cap key P T' (y :: T2) R2 x U ((((wr.drewN q2).setCell ⟨g, q + 1, none⟩ (.int .i64 (y : Nat))).setCell ⟨g, q, none⟩ (.int .i64 (x : Nat))).drew)) := Lib.hid (fun hxy q2 => by
                refine ⟨⟨?_, (((hkw.drewN q2).setCell (.inl (by simp)) _).setCell (.inl (by simp)) _).drew⟩, by rw [← hTU]; simp, fun z hz => ?_⟩
                · have e : P ++ (T' ++ x :: y :: T2) ++ R2 = (P ++ T') ++ x :: y :: (T2 ++ R2) := by simp
                  rw [e]
                  exact hsw
                · rcases List.mem_cons.1 hz with rfl | hz
                  · exact hxy
                  · exact hT2 z hz)
              have hkx := Hk.out x Hxm.out
              have hky := Hk.out y hym
              have hlex := lex_late (key := key) hyx
              have HF3 : Hid (¬ lexlt key x y → ∀ q2, SR w base g n cap (P ++ isort key (X.take (k + 1)) ++ (X.drop (k + 1) ++ R)) (wr.drewN q2)) := Lib.hid (fun hxy q2 => by
                have hs : srtd key (T' ++ [y] ++ T2) := by rw [hTU]; exact hUs.out
                have h1 := last_all (List.pairwise_append.1 hs).1 ((lex_total (key := key) (show y ≠ x by omega)).resolve_right hxy)
                rw [← hU.out (T' ++ [y]) T2 hTU hT2 h1, ← HR2.out]
                exact ⟨hSR.1, hkw.drewN q2⟩)
              have Hcm := Lib.hid hcm
              have Hlex := Lib.hid hlex
              have dg : decide ((a : Int) < ((q + 1 : Nat) : Int)) = true := by simp; omega
              have hqn : q + 1 < n := by omega
              have hqni : (q : Int) + 1 < n := by omega
              have hqni2 : (q : Int) < n := by omega
              have hq0 : (0 : Int) ≤ (q : Int) + 1 := by omega
              have haq : (a : Int) < (q : Int) + 1 := by omega
              obtain ⟨kx, hkxd⟩ : ∃ kx, kx = key x := ⟨_, rfl⟩
              obtain ⟨ky, hkyd⟩ : ∃ ky, ky = key y := ⟨_, rfl⟩
              rw [← hkxd, ← hkyd] at Hcm
              rw [← hkxd] at hkx
              rw [← hkyd] at hky
              have Hkk := Lib.hid (And.intro hkxd hkyd)
              have hmeas : Hid (q < q + 1) := Lib.hid (by omega)
              have HqT : Hid (q = a + T'.length) := Lib.hid hq
              clear hJ hSR hTU hT2 hU hUm hUs hrow hkw hsw hql hqj hn2 hcm hlex hkxd hkyd hyU hq HT2 HTU HR2 hTl hkl
              have hw1 : IntKind.i64.wrap ((q : Int) + 1 - 1) = (q : Int) := by rw [IntKind.wrap_i64]; omega
              have hw0 : IntKind.i64.wrap (q : Int) = (q : Int) := by rw [IntKind.wrap_i64]; omega
              by_cases hlt2 : kx - ky < 0
              · have dlt : decide (kx - ky < 0) = true := by simpa using hlt2
                go_wp2_with fail
                go_quiet ((go_at_call 157; exact Calls.quiet_of (Hcm.out _)))
                go_wp2_with fail
                have HF4 := Lib.hid (HF2.out (Hlex.out.2 (by rw [← Hkk.out.1, ← Hkk.out.2]; omega)) nq)
                obtain ⟨wq, hwq⟩ : ∃ wq, wq = wr.drewN nq := ⟨_, rfl⟩
                rw [← hwq] at HF4 ⊢
                have c1q : wq.cell? ⟨g, q, none⟩ = some (.int .i64 (y : Nat)) := by rw [hwq]; exact c1
                have c2q : wq.cell? ⟨g, q + 1, none⟩ = some (.int .i64 (x : Nat)) := by rw [hwq]; exact c2
                have z1q : wq.frozen? ⟨g, q, none⟩ = false := by rw [hwq]; exact z1
                have z2q : wq.frozen? ⟨g, q + 1, none⟩ = false := by rw [hwq]; exact z2
                have hglq : g < wq.heap.size := by rw [hwq]; exact hgl
                have HS6 : Hid (∀ W : World, Keep [] wq W → W.cell? ⟨g, q, none⟩ = some (.int .i64 (y : Nat)) ∧ W.cell? ⟨g, q + 1, none⟩ = some (.int .i64 (x : Nat))) := Lib.hid (fun W k => ⟨(k.cell (p := ⟨g, q, none⟩) hglq (by simp)).trans c1q, (k.cell (p := ⟨g, q + 1, none⟩) hglq (by simp)).trans c2q⟩)
                have hS6 := HS6.out _ ((Keep.refl [] wq).drew)
                clear hwq c1 c2 z1 z2 Hcm HF2 HF3
                refine wp_region_G (fun W => W.cell? ⟨g, q, none⟩ = some (.int .i64 (y : Nat)) ∧ W.cell? ⟨g, q + 1, none⟩ = some (.int .i64 (x : Nat))) [15, 17] #[false, false, false, false, false, false, false, false, false, false, false, false, false, false, false, false, false, false] 18 (by kernel_rfl) (by kernel_rfl) (by kernel_rfl) ?_
                refine wpAnyG_take0 (i := 0) (oi := ⟨_, _, _, _, _, _⟩) (v := ?vg1_0) rfl (by kernel_rfl) (by kernel_rfl) (by kernel_rfl) (by kernel_rfl) (fun _ _ _ h => h) (fun _ => hS6) (Or.inl ⟨by rfl, ?hg1_0⟩) ?_
                case hg1_0 => intro w _; go_simp; (try with_reducible rfl)
                try simp only [Act.put, List.setIfInBounds_toArray, List.set_cons_zero, List.set_cons_succ]
                refine wpAnyG_take0 (i := 1) (oi := ⟨_, _, _, _, _, _⟩) (v := ?vg1_1) rfl (by kernel_rfl) (by kernel_rfl) (by kernel_rfl) (by kernel_rfl) (fun _ _ _ h => h) (fun _ => hS6) (Or.inl ⟨by rfl, ?hg1_1⟩) ?_
                case hg1_1 => intro w _; go_simp; (try with_reducible rfl)
                try simp only [Act.put, List.setIfInBounds_toArray, List.set_cons_zero, List.set_cons_succ]
                refine wpAnyG_take0 (i := 2) (oi := ⟨_, _, _, _, _, _⟩) (v := ?vg1_2) rfl (by kernel_rfl) (by kernel_rfl) (by kernel_rfl) (by kernel_rfl) (fun _ _ _ h => h) (fun _ => hS6) (Or.inl ⟨by rfl, ?hg1_2⟩) ?_
                case hg1_2 => intro w _; go_simp; (try with_reducible rfl)
                try simp only [Act.put, List.setIfInBounds_toArray, List.set_cons_zero, List.set_cons_succ]
                refine wpAnyG_take0 (i := 3) (oi := ⟨_, _, _, _, _, _⟩) (v := ?vg1_3) rfl (by kernel_rfl) (by kernel_rfl) (by kernel_rfl) (by kernel_rfl) (fun _ _ _ h => h) (fun _ => hS6) (Or.inl ⟨by rfl, ?hg1_3⟩) ?_
                case hg1_3 => intro w _; go_simp; (try with_reducible rfl)
                try simp only [Act.put, List.setIfInBounds_toArray, List.set_cons_zero, List.set_cons_succ]
                refine wpAnyG_take0 (i := 4) (oi := ⟨_, _, _, _, _, _⟩) (v := ?vg1_4) rfl (by kernel_rfl) (by kernel_rfl) (by kernel_rfl) (by kernel_rfl) (fun _ _ _ h => h) (fun _ => hS6) (Or.inl ⟨by rfl, ?hg1_4⟩) ?_
                case hg1_4 => intro w _; go_simp; (try with_reducible rfl)
                try simp only [Act.put, List.setIfInBounds_toArray, List.set_cons_zero, List.set_cons_succ]
                refine wpAnyG_take0 (i := 5) (oi := ⟨_, _, _, _, _, _⟩) (v := ?vg1_5) rfl (by kernel_rfl) (by kernel_rfl) (by kernel_rfl) (by kernel_rfl) (fun _ _ _ h => h) (fun _ => hS6) (Or.inl ⟨by rfl, ?hg1_5⟩) ?_
                case hg1_5 => intro w _; go_simp; (try with_reducible rfl)
                try simp only [Act.put, List.setIfInBounds_toArray, List.set_cons_zero, List.set_cons_succ]
                refine wpAnyG_take0 (i := 6) (oi := ⟨_, _, _, _, _, _⟩) (v := ?vg1_6) rfl (by kernel_rfl) (by kernel_rfl) (by kernel_rfl) (by kernel_rfl) (fun _ _ _ h => h) (fun _ => hS6) (Or.inl ⟨by rfl, ?hg1_6⟩) ?_
                case hg1_6 => intro w _; go_simp; (try with_reducible rfl)
                try simp only [Act.put, List.setIfInBounds_toArray, List.set_cons_zero, List.set_cons_succ]
                refine wpAnyG_take0 (i := 7) (oi := ⟨_, _, _, _, _, _⟩) (v := ?vg1_7) rfl (by kernel_rfl) (by kernel_rfl) (by kernel_rfl) (by kernel_rfl) (fun _ _ _ h => h) (fun _ => hS6) (Or.inl ⟨by rfl, ?hg1_7⟩) ?_
                case hg1_7 => intro w _; go_simp; (try with_reducible rfl)
                try simp only [Act.put, List.setIfInBounds_toArray, List.set_cons_zero, List.set_cons_succ]
                refine wpAnyG_take0 (i := 8) (oi := ⟨_, _, _, _, _, _⟩) (v := ?vg1_8) rfl (by kernel_rfl) (by kernel_rfl) (by kernel_rfl) (by kernel_rfl) (fun _ _ _ h => h) (fun _ => hS6) (Or.inl ⟨by rfl, ?hg1_8⟩) ?_
                case hg1_8 => intro w _; go_simp; (try with_reducible rfl)
                try simp only [Act.put, List.setIfInBounds_toArray, List.set_cons_zero, List.set_cons_succ]
                refine wpAnyG_take (i := 9) (oi := ⟨_, _, _, _, _, _⟩) (v := ?vg1_9) [9, 14, 15, 16, 17] rfl (by kernel_rfl) (by kernel_rfl) (by kernel_rfl) (by kernel_rfl) (by kernel_rfl) (fun _ _ _ h => h) (fun _ => hS6) (Or.inl ⟨by rfl, ?hg1_9⟩) ?_
                case hg1_9 => intro w hSw; (try dsimp only at hSw); go_simp; (try with_reducible rfl)
                try simp only [Act.put, List.setIfInBounds_toArray, List.set_cons_zero, List.set_cons_succ]
                refine wpAnyG_take0 (i := 10) (oi := ⟨_, _, _, _, _, _⟩) (v := ?vg1_10) rfl (by kernel_rfl) (by kernel_rfl) (by kernel_rfl) (by kernel_rfl) (fun _ _ _ h => h) (fun _ => hS6) (Or.inl ⟨by rfl, ?hg1_10⟩) ?_
                case hg1_10 => intro w _; go_simp; (try with_reducible rfl)
                try simp only [Act.put, List.setIfInBounds_toArray, List.set_cons_zero, List.set_cons_succ]
                refine wpAnyG_take0 (i := 11) (oi := ⟨_, _, _, _, _, _⟩) (v := ?vg1_11) rfl (by kernel_rfl) (by kernel_rfl) (by kernel_rfl) (by kernel_rfl) (fun _ _ _ h => h) (fun _ => hS6) (Or.inl ⟨by rfl, ?hg1_11⟩) ?_
                case hg1_11 => intro w _; go_simp; (try with_reducible rfl)
                try simp only [Act.put, List.setIfInBounds_toArray, List.set_cons_zero, List.set_cons_succ]
                refine wpAnyG_take0 (i := 12) (oi := ⟨_, _, _, _, _, _⟩) (v := ?vg1_12) rfl (by kernel_rfl) (by kernel_rfl) (by kernel_rfl) (by kernel_rfl) (fun _ _ _ h => h) (fun _ => hS6) (Or.inl ⟨by rfl, ?hg1_12⟩) ?_
                case hg1_12 => intro w _; go_simp; (try with_reducible rfl)
                try simp only [Act.put, List.setIfInBounds_toArray, List.set_cons_zero, List.set_cons_succ]
                refine wpAnyG_take (i := 13) (oi := ⟨_, _, _, _, _, _⟩) (v := ?vg1_13) [13, 14, 15, 16, 17] rfl (by kernel_rfl) (by kernel_rfl) (by kernel_rfl) (by kernel_rfl) (by kernel_rfl) (fun _ _ _ h => h) (fun _ => hS6) (Or.inl ⟨by rfl, ?hg1_13⟩) ?_
                case hg1_13 => intro w hSw; (try dsimp only at hSw); go_simp; (try with_reducible rfl)
                try simp only [Act.put, List.setIfInBounds_toArray, List.set_cons_zero, List.set_cons_succ]
                refine wpAnyG_take0 (i := 14) (oi := ⟨_, _, _, _, _, _⟩) (v := ?vg1_14) rfl (by kernel_rfl) (by kernel_rfl) (by kernel_rfl) (by kernel_rfl) (fun _ _ _ h => h) (fun _ => hS6) (Or.inl ⟨by rfl, ?hg1_14⟩) ?_
                case hg1_14 => intro w _; go_simp; (try with_reducible rfl)
                try simp only [Act.put, List.setIfInBounds_toArray, List.set_cons_zero, List.set_cons_succ]
                refine wpAnyG_step (i := 15) (oi := ⟨_, _, _, _, _, _⟩) rfl (by kernel_rfl) (by rfl) (fun K hK => ?_)
                go_simp
                refine hK _ _ (fun h => absurd h (Bool.eq_false_iff.1 (by kernel_rfl))) (fun _ => ?_)
                clear hK
                try simp only [Act.put, List.setIfInBounds_toArray, List.set_cons_zero, List.set_cons_succ]
                refine wpAnyG_take0 (i := 16) (oi := ⟨_, _, _, _, _, _⟩) (v := ?vg1_16) rfl (by kernel_rfl) (by kernel_rfl) (by kernel_rfl) (by kernel_rfl) (fun _ _ _ h => h) (fun h => absurd h (Bool.eq_false_iff.1 (by kernel_rfl))) (Or.inl ⟨by rfl, ?hg1_16⟩) ?_
                case hg1_16 => intro w _; go_simp; (try with_reducible rfl)
                try simp only [Act.put, List.setIfInBounds_toArray, List.set_cons_zero, List.set_cons_succ]
                refine wpAnyG_step (i := 17) (oi := ⟨_, _, _, _, _, _⟩) rfl (by kernel_rfl) (by rfl) (fun K hK => ?_)
                go_simp
                refine hK _ _ (fun h => absurd h (Bool.eq_false_iff.1 (by kernel_rfl))) (fun _ => ?_)
                clear hK
                try simp only [Act.put, List.setIfInBounds_toArray, List.set_cons_zero, List.set_cons_succ]
                refine wpAnyG_done (by kernel_rfl) ?_ _
                go_wp2_with fail
                go_roundw
                case rel => (repeat apply Exists.intro); exact ⟨⟨T', y :: T2, by rw [HqT.out]; simp, HF4⟩, rfl⟩
                case measure => simp [intOf]
              · have dlt : decide (kx - ky < 0) = false := by simpa using hlt2
                have Hn := Lib.hid (show ¬ lexlt key x y from fun h => hlt2 (by have := Hlex.out.1 h; rw [← Hkk.out.1, ← Hkk.out.2] at this; omega))
                go_wp2_with fail
                go_quiet ((go_at_call 157; exact Calls.quiet_of (Hcm.out _)))
                go_wp2_with fail
                have HF4 := Lib.hid (HF3.out Hn.out nq)
                go_roundw
                case rel => (repeat apply Exists.intro); exact ⟨⟨k + 1, by simp, by omega, by omega, HF4⟩, rfl⟩
                case measure => simp [intOf]; omega
    · have hge2 : ¬ (a : Int) + k < ((a + L : Nat) : Int) := by omega
      have HF : Hid (SR w base g n cap (P ++ isort key X ++ R) wr) := by
        have h1 : X.take k = X := List.take_of_length_le (by have := HL.out; omega)
        have h2 : X.drop k = [] := List.drop_of_length_le (by have := HL.out; omega)
        have := hI.out
        rw [h1, h2] at this
        exact Lib.hid this
      clear hI
      go_wp2
      refine bodyPost_end (results_none rfl _ _ _) rfl ?_
      exact ⟨rfl, by have := HF.out; rwa [List.append_assoc] at this⟩
end Go.Proofs.YtdnaahbhfjclpaaGreatDoor

namespace Go.Proofs.YtdnaahbhfjclpaaGreatDoor
open Go.RowKit Go.Sal Go.Huf
def StabOK (N : Nat) : Prop := ∀ (key : Nat → Int) (m base g n cap bx : Nat) (l : List Nat) (w : World), w.ownsRow base 3 1 (.slice (some ⟨g, 0, none⟩) n cap) n (inN l) → Cmp g w key m bx → (∀ x ∈ l, x < m) →
  (∀ x < m, -100 ≤ key x ∧ key x ≤ 100) → l.Pairwise (· < ·) → n ≤ N →
  Calls Tryz.prog 166 #[.slice (some ⟨g, 0, none⟩) n cap, .int .i64 (n : Nat), .func (.func 157) #[] #[.pointer (some ⟨bx, 0, none⟩)]] w fun e w' =>
    e = .returned (.tuple #[]) ∧ SR w base g n cap (isort key l) w'
theorem sort_any {N : Nat} (H : StabOK N) (hN : N ≤ 1000000) (key : Nat → Int) (m base g n cap bx : Nat) (l : List Nat) (w : World) (h : w.ownsRow base 3 1 (.slice (some ⟨g, 0, none⟩) n cap) n (inN l)) (hc : Cmp g w key m bx) (hm : ∀ x ∈ l, x < m)
    (hk : ∀ x < m, -100 ≤ key x ∧ key x ≤ 100) (hl : l.Pairwise (· < ·)) (hn : n ≤ N) :
    Calls Tryz.prog 156 #[.slice (some ⟨g, 0, none⟩) n cap, .func (.func 157) #[] #[.pointer (some ⟨bx, 0, none⟩)]] w fun e w' =>
      e = .returned (.tuple #[]) ∧ SR w base g n cap (isort key l) w' := by
  have Hi := Lib.hid (H key m base g n cap bx l w h hc hm hk hl hn)
  clear h hc hm hk hl H
  go_enter Tryz.func156, Tryz.ntmps156
  go_wp2_with (go_at_call 166; refine Hi.out.mono ?_; rintro e w1 ⟨rfl, hS⟩)
  refine bodyPost_end (results_none rfl _ _ _) rfl ?_
  exact ⟨rfl, hS⟩
end Go.Proofs.YtdnaahbhfjclpaaGreatDoor

