/- Decode, walked. -/
import Derived.Test.YtdnaahbhfjclpaaGreatDoorU9
import Derived.Test.YtdnaahbhfjclpaaGreatDoorW1
import Derived.Test.YtdnaahbhfjclpaaGreatDoorW3
import Derived.Test.YtdnaahbhfjclpaaGreatDoorXd
set_option linter.unusedVariables false
set_option linter.unusedSimpArgs false
namespace Go.Cod
open Go.Huf
theorem toksF_lit {la lb : List Int} {b : List Nat} : ∀ (n a : Nat) (l : List Tk), toksF la lb b n a = some l → ∀ t ∈ l, t.2.2 < 256
  | 0, a, l, h, t, ht => by
    simp [toksF] at h
    subst h
    simp at ht
  | n + 1, a, l, h, t, ht => by
    cases hr : tokR la lb b a with
    | none => rw [toksF_none hr] at h; cases h
    | some p =>
      obtain ⟨t0, a2⟩ := p
      rw [toksF_some hr] at h
      cases hq : toksF la lb b n a2 with
      | none => rw [hq] at h; cases h
      | some l2 =>
        rw [hq] at h
        simp at h
        subst h
        rcases List.mem_cons.1 ht with rfl | ht
        · exact (tokR_ok hr).2.2
        · exact toksF_lit n a2 l2 hq t ht
theorem readP_lit {b : List Nat} {l : List Tk} (h : readP b = some l) : ∀ t ∈ l, t.2.2 < 256 := by
  unfold readP at h
  split at h
  · cases h
  · split at h
    · cases h
    · split at h
      · cases h
      · split at h
        · cases h
        · exact toksF_lit _ _ _ h
theorem unpT_lit (b : List Nat) : ∀ t ∈ unpT b, t.2.2 < 256 := by
  unfold unpT
  cases hr : readP b with
  | none => simp
  | some l =>
    simp only
    split
    · exact readP_lit hr
    · simp
theorem toksF_cnt {la lb : List Int} {b : List Nat} : ∀ (n a : Nat) (l : List Tk), toksF la lb b n a = some l → l.length = n ∧ (n = 0 ∨ a + n ≤ 8 * b.length)
  | 0, a, l, h => by
    simp [toksF] at h
    subst h
    simp
  | n + 1, a, l, h => by
    cases hr : tokR la lb b a with
    | none => rw [toksF_none hr] at h; cases h
    | some p =>
      obtain ⟨t0, a2⟩ := p
      have hk := tokR_ok hr
      rw [toksF_some hr] at h
      cases hq : toksF la lb b n a2 with
      | none => rw [hq] at h; cases h
      | some l2 =>
        rw [hq] at h
        simp at h
        subst h
        obtain ⟨h1, h2⟩ := toksF_cnt n a2 l2 hq
        refine ⟨by simp [h1], .inr ?_⟩
        rcases h2 with h2 | h2 <;> omega
theorem readP_cnt {b : List Nat} {l : List Tk} (h : readP b = some l) : l.length ≤ 8 * b.length := by
  unfold readP at h
  split at h
  · cases h
  · rename_i h1
    split at h
    · cases h
    · rename_i h2
      split at h
      · cases h
      · split at h
        · cases h
        · have e1 := (lenP_ok h1).2.2.1
          have e2 := (lenP_ok h2).2.2.1
          obtain ⟨e3, e4⟩ := toksF_cnt _ _ _ h
          rw [List.length_drop] at e4
          omega
theorem unpT_cnt (b : List Nat) : (unpT b).length ≤ 8 * b.length := by
  unfold unpT
  cases hr : readP b with
  | none => simp
  | some l =>
    simp only
    split
    · exact readP_cnt hr
    · simp
theorem size_all {l : List Tk} (h : sizeE l = 0) : l.all okT = true := by
  unfold sizeE at h
  split at h
  · assumption
  · cases h
def decT (b : List Nat) : List Nat := (decP b).getD []
def decC (b : List Nat) : Int := match decP b with
  | some _ => 0
  | none => 70
theorem dec_no {b : List Nat} (h : decP b = none) : decT b = [] ∧ decC b = 70 := by
  unfold decT decC
  rw [h]
  exact ⟨rfl, rfl⟩
theorem dec_yes {b q : List Nat} (h : decP b = some q) : decT b = q ∧ decC b = 0 := by
  unfold decT decC
  rw [h]
  exact ⟨rfl, rfl⟩
end Go.Cod
namespace Go.Proofs.YtdnaahbhfjclpaaGreatDoor
open Go.RowKit Go.Sal Go.Huf Go.Cod
theorem unpT_bd {b : List Nat} (h : unpE b = 0) : ∀ t ∈ unpT b, bdT t := fun t ht =>
  okT_bd (List.all_eq_true.1 (size_all (unp_one h).1) t ht) (unpT_lit b t ht)
theorem head_any (bl : List Nat) (AB : Option Addr) (cB : Nat) (w : World) (hs : BySrc w AB bl) (hc : bl.length ≤ cB) (hl : bl.length ≤ 1000000) :
    Calls Tryz.prog 56 #[.slice AB bl.length cB] w fun e w' => HeadE w (headP bl) e w' := by
  cases bl with
  | nil => exact head_bad [] AB cB w hs hl (fun x b1 h => by cases h)
  | cons x b1 =>
    by_cases hx : x ≤ 1
    · exact head_ok x b1 AB cB w hs hc hl hx
    · exact head_bad (x :: b1) AB cB w hs hl (fun y b2 h => by injection h with h1 h2; omega)
structure DeS (w W : World) : Prop where
  res : Blk W w.heap.size 22 #[.slice none 0 0]
  err : Blk W (w.heap.size + 1) 24 #[.int .i64 0]
  kp : Keep [] w W
theorem DeS.keep {w W W' : World} (h : DeS w W) (k : Keep [] W W') : DeS w W' := ⟨h.res.keep k (by simp), h.err.keep k (by simp), h.kp.trans k⟩
theorem DeS.dies {w W W' : World} {bl0 : List Nat} (h : DeS w W) (hk : Keep [] W W') {T : Array Value} (h2 : T[2]? = some (.pointer (some ⟨w.heap.size, 0, none⟩))) (h3 : T[3]? = some (.pointer (some ⟨w.heap.size + 1, 0, none⟩))) (hT : decT bl0 = []) (hE : decC bl0 = 70) :
    bodyPostD Tryz.prog Tryz.f30 (fun e w' => RowBE w (decT bl0) (decC bl0) e w') (.panic PN) { tmps := T, defers := [{ target := .fn (.func 54) #[.pointer (some ⟨w.heap.size, 0, none⟩), .pointer (some ⟨w.heap.size + 1, 0, none⟩)], args := #[] }] } W' := by
  have r1 := h.res.keep hk (by simp)
  have r2 := h.err.keep hk (by simp)
  have kp := h.kp.trans hk
  refine leaves_cons (f := 54) (args := #[.pointer (some ⟨w.heap.size, 0, none⟩), .pointer (some ⟨w.heap.size + 1, 0, none⟩)]) (by simp) (by simp [go_sem]) ?_
  refine (dcatch_panicking _ _ _ _ _ r1 r2 (by omega)).mono ?_
  rintro e u' w'' ⟨rfl, rfl, w1, k1, rfl⟩
  have b1 := (r1.keep k1 (by simp)).set_ 0 (.slice none 0 0)
  have b2 : Blk ((w1.setCell ⟨w.heap.size, 0, none⟩ (.slice none 0 0)).setCell ⟨w.heap.size + 1, 0, none⟩ (.int .i64 70)) (w.heap.size + 1) 24 _ := ((r2.keep k1 (by simp)).keep ((Keep.refl [w.heap.size] w1).setCell (.inl (by simp)) _) (by simp)).set_ 0 (.int .i64 70)
  have b3 : Blk ((w1.setCell ⟨w.heap.size, 0, none⟩ (.slice none 0 0)).setCell ⟨w.heap.size + 1, 0, none⟩ (.int .i64 70)) w.heap.size 22 _ := b1.keep ((Keep.refl [w.heap.size + 1] _).setCell (.inl (by simp)) _) (by simp)
  have c1 := b3.cell 0
  have c2 := b2.cell 0
  have kk : Keep [] w ((w1.setCell ⟨w.heap.size, 0, none⟩ (.slice none 0 0)).setCell ⟨w.heap.size + 1, 0, none⟩ (.int .i64 70)) := ((kp.trans k1).setCell (.inr (Nat.le_refl _)) _).setCell (.inr (by simp)) _
  simp at c1 c2
  generalize ((w1.setCell ⟨w.heap.size, 0, none⟩ (.slice none 0 0)).setCell ⟨w.heap.size + 1, 0, none⟩ (.int .i64 70)) = W2 at *
  rw [hT, hE]
  simp [Leaves, settle, results, Tryz.results30, go_sem, h2, h3, c1, c2]
  exact ⟨none, 0, rfl, World.ownsRow_nil _ _ _ _, kk⟩
theorem DeS.done {w w1 : World} {bl0 q : List Nat} {A : Option Addr} {c : Nat} (h : DeS w w1) (own : w1.ownsRow w.heap.size 5 1 (.slice A q.length c) q.length (inB q)) {T : Array Value} (h2 : T[2]? = some (.pointer (some ⟨w.heap.size, 0, none⟩))) (h3 : T[3]? = some (.pointer (some ⟨w.heap.size + 1, 0, none⟩))) (hT : decT bl0 = q) (hE : decC bl0 = 0) :
    bodyPostD Tryz.prog Tryz.f30 (fun e w' => RowBE w (decT bl0) (decC bl0) e w') .ret { tmps := T, defers := [{ target := .fn (.func 54) #[.pointer (some ⟨w.heap.size, 0, none⟩), .pointer (some ⟨w.heap.size + 1, 0, none⟩)], args := #[] }] } ((w1.setCell ⟨w.heap.size, 0, none⟩ (.slice A q.length c)).setCell ⟨w.heap.size + 1, 0, none⟩ (.int .i64 0)) := by
  refine leaves_cons (f := 54) (args := #[.pointer (some ⟨w.heap.size, 0, none⟩), .pointer (some ⟨w.heap.size + 1, 0, none⟩)]) (by simp) (by simp [go_sem]) ?_
  refine (dcatch_idle _ _ _).mono ?_
  rintro e u' w'' ⟨rfl, rfl, rfl⟩
  have k1 : Keep [w.heap.size] w1 (w1.setCell ⟨w.heap.size, 0, none⟩ (.slice A q.length c)) := (Keep.refl _ _).setCell (.inl (by simp)) _
  have k2 : Keep [w.heap.size + 1] (w1.setCell ⟨w.heap.size, 0, none⟩ (.slice A q.length c)) ((w1.setCell ⟨w.heap.size, 0, none⟩ (.slice A q.length c)).setCell ⟨w.heap.size + 1, 0, none⟩ (.int .i64 0)) := (Keep.refl _ _).setCell (.inl (by simp)) _
  have b1 := (h.res.set_ 0 (.slice A q.length c)).keep k2 (by simp)
  have b2 := (h.err.keep k1 (by simp)).set_ 0 (.int .i64 0)
  have hown := ownsRow_keep (ownsRow_keep own k1 (fun g hg hm => by
    simp at hm
    subst hm
    exact own_ne_blk own h.res (by decide) hg)) k2 (fun g hg hm => by
    simp at hm
    subst hm
    exact own_ne_blk own h.err (by decide) hg)
  have kk := (h.kp.step k1 (fun i hi => .inr (by simp at hi; omega))).step k2 (fun i hi => .inr (by simp at hi; omega))
  have c1 := b1.cell 0
  have c2 := b2.cell 0
  simp at c1 c2
  generalize ((w1.setCell ⟨w.heap.size, 0, none⟩ (.slice A q.length c)).setCell ⟨w.heap.size + 1, 0, none⟩ (.int .i64 0)) = W2 at *
  rw [hT, hE]
  simp [Leaves, settle, results, Tryz.results30, go_sem, h2, h3, c1, c2]
  exact ⟨A, c, rfl, hown, kk⟩
theorem DeS.copy {w w1 : World} {q : List Nat} (h : DeS w w1) {A : Option Addr} {c : Nat} {w2 : World} (ho : w2.ownsRow w1.heap.size 5 1 (.slice A q.length c) q.length (inB q)) (k : Keep [] w1 w2) :
    DeS w w2 ∧ w2.ownsRow w.heap.size 5 1 (.slice A q.length c) q.length (inB q) ∧ w2.cell? ⟨w.heap.size, 0, none⟩ = some (.slice none 0 0) ∧ w2.frozen? ⟨w.heap.size, 0, none⟩ = false ∧ w2.cell? ⟨w.heap.size + 1, 0, none⟩ = some (.int .i64 0) ∧ w2.frozen? ⟨w.heap.size + 1, 0, none⟩ = false := by
  have h2 := h.keep k
  exact ⟨h2, own_le ho h.kp.size, h2.res.cell 0, h2.res.free 0, h2.err.cell 0, h2.err.free 0⟩
set_option maxRecDepth 20000 in
set_option maxHeartbeats 1000000 in
theorem decode_any (bl : List Nat) (AB : Option Addr) (cB : Nat) (w : World) (hs : BySrc w AB bl) (hc : bl.length ≤ cB) (hA : ∀ a, AB = some a → a.block < w.heap.size) (hl : bl.length ≤ 2400) :
    Calls Tryz.prog 30 #[.slice AB bl.length cB] w fun e w' => RowBE w (decT bl) (decC bl) e w' := by
  have hmf : ∀ (fn : Fn) (first cap : Array Value) (w : World), (Instr.makeFunc fn first cap).run Tryz.prog w = .ok (.func fn first cap) w := fun _ _ _ _ => rfl
  have hle : ¬ (bl.length : Int) > 262144 := by omega
  have hleb : decide ((bl.length : Int) > 262144) = false := decide_eq_false hle
  have hlen : ¬ 262144 < bl.length := by omega
  have H4 : Hid (DeS w ((w.alloc (.cells #[.slice none 0 0] 22)).alloc (.cells #[.int .i64 0] 24))) := by
    have k2 : Keep [] w ((w.alloc (.cells #[.slice none 0 0] 22)).alloc (.cells #[.int .i64 0] 24)) := ((Keep.refl [] w).alloc _).alloc _
    have b1 := (Blk.new w 22 #[.slice none 0 0]).alloc (.cells #[.int .i64 0] 24)
    have b2 := Blk.new (w.alloc (.cells #[.slice none 0 0] 22)) 24 #[.int .i64 0]
    simp at b2
    exact Lib.hid ⟨b1, b2, k2⟩
  have Hs := Lib.hid hs
  clear hs hA
  go_enter_defers Tryz.func30, Tryz.ntmps30
  go_upto_region 4 with fail
  generalize ((w.alloc (.cells #[.slice none 0 0] 22)).alloc (.cells #[.int .i64 0] 24)) = W4 at *
  have HH := Lib.hid (head_any bl AB cB W4 (Hs.out.keep H4.out.kp (by simp)) hc (by omega))
  have Hhl : Hid (∀ n p r, headP bl = some (n, p, r) → r.length ≤ bl.length) := Lib.hid (fun n p r h => by
    cases bl with
    | nil => simp [headP] at h
    | cons x b1 =>
      unfold headP at h
      simp only at h
      split at h
      · split at h
        · cases h
        · split at h
          · simp at h
            rw [← h.2.2]
            simp
            omega
          · cases h
      · cases h)
  cases hh : headP bl with
  | none =>
    rw [hh] at HH
    have HR := Lib.hid (dec_no (b := bl) (by unfold decP; rw [hh]))
    clear hh
    go_wp2_with (go_at_call 56; refine HH.out.mono ?_; rintro e w' ⟨rfl, hk⟩; have Hk := Lib.hid hk; clear hk)
    refine DeS.dies H4.out Hk.out ?_ ?_ HR.out.1 HR.out.2 <;> rfl
  | some z =>
    obtain ⟨n, p, r⟩ := z
    rw [hh] at HH
    have hrl := Hhl.out n p r hh
    have HP : Hid (decP bl = if p then (if unpE r = 0 then (match bytP (unpT r) with
      | none => none
      | some q => if q.length = n then some q else none) else none) else if r.length = n then some r else none) := Lib.hid (by unfold decP; rw [hh]; rfl)
    clear hh Hhl
    cases p with
    | false =>
      go_upto_region 10 with (go_at_call 56; refine HH.out.mono ?_; rintro e w5 ⟨A5, c5, rfl, hs5, hc5, hA5, hk5⟩; have H5 := Lib.hid (H4.out.keep hk5); have Hs5 := Lib.hid hs5; clear hs5 hA5 hk5)
      by_cases hn : r.length = n
      · have HR := Lib.hid (dec_yes (b := bl) (q := r) (by rw [HP.out]; simp [hn]))
        have HC := Lib.hid (clone_any r A5 c5 w5 Hs5.out (by omega))
        have hnb : ((r.length : Int) == (n : Int)) = true := by simp [hn]
        clear hn HP
        go_wp2_with (first
          | (go_at_call 58; refine (must_yes _).mono ?_; rintro e w' ⟨rfl, rfl⟩)
          | (go_at_call 60; refine HC.out.mono ?_; rintro e w6 ⟨A6, c6, rfl, ho6, hk6⟩; obtain ⟨hd6, hw6, x0, x1, x2, x3⟩ := H5.out.copy ho6 hk6; have H6 := Lib.hid (And.intro hd6 hw6); clear hd6 hw6 ho6 hk6))
        refine DeS.done H6.out.1 H6.out.2 ?_ ?_ HR.out.1 HR.out.2 <;> rfl
      · have HR := Lib.hid (dec_no (b := bl) (by rw [HP.out]; simp [hn]))
        have hnb : ((r.length : Int) == (n : Int)) = false := by simp; omega
        clear hn HP
        go_wp2_with (go_at_call 58; refine (must_no _).mono ?_; rintro e w' ⟨rfl, hk⟩; have Hk := Lib.hid hk; clear hk)
        refine DeS.dies H5.out Hk.out ?_ ?_ HR.out.1 HR.out.2 <;> rfl
    | true =>
      go_upto_region 6 with (go_at_call 56; refine HH.out.mono ?_; rintro e w5 ⟨A5, c5, rfl, hs5, hc5, hA5, hk5⟩; have H5 := Lib.hid (H4.out.keep hk5); have HU := Lib.hid (unpack_any r A5 c5 w5 hs5 hc5 hA5 (by omega)); clear hs5 hA5 hk5)
      go_upto_region 7 with (go_at_call 57; refine HU.out.mono ?_; rintro e w6 ⟨A6, c6, rfl, ho6, hk6⟩; have H6 := Lib.hid (And.intro (H5.out.keep hk6) ho6); clear ho6 hk6)
      clear HU HH
      by_cases hu : unpE r = 0
      · have hub : (unpE r == 0) = true := by simp [hu]
        have hone := unp_one hu
        have htl : (unpT r).length ≤ 20000 := by have := unpT_cnt r; omega
        have HB := Lib.hid (lzbytes_any (unpT r) A6 c6 w6 (tsrc_own H6.out.2 rfl (unpT_bd hu)) htl)
        have HP2 : Hid (decP bl = (match bytP (unpT r) with
          | none => none
          | some q => if q.length = n then some q else none)) := Lib.hid (by rw [HP.out]; simp [hu])
        have HL := Lib.hid (fun q h => bytF_lt (unpT r) [] q (unpT_lit r) (by simp) (by simp) h)
        clear hu HP hone
        generalize unpE r = ue at *
        cases hb : bytP (unpT r) with
        | none =>
          rw [hb] at HB HP2
          have HR := Lib.hid (dec_no (b := bl) HP2.out)
          clear HP2 hb
          go_wp2_with (first
            | (go_at_call 59; refine HB.out.mono ?_; rintro e w7 ⟨i7, E7, rfl, hE7, hk7⟩; have H7 := Lib.hid (H6.out.1.keep hk7); clear hk7)
            | (go_at_call 58; refine (must_yes _).mono ?_; rintro e w' ⟨rfl, rfl⟩)
            | (go_at_call 58; refine (must_no _).mono ?_; rintro e w' ⟨rfl, hk⟩; have Hk := Lib.hid hk; clear hk))
          refine DeS.dies H7.out Hk.out ?_ ?_ HR.out.1 HR.out.2 <;> rfl
        | some q =>
          rw [hb] at HB HP2
          have hq := HL.out q hb
          have Hq := Lib.hid hq.1
          have hql := hq.2
          clear HL hb hq
          go_upto_region 10 with (first
            | (go_at_call 59; refine HB.out.mono ?_; rintro e w7 ⟨A7, c7, rfl, ho7, hk7⟩; have H7 := Lib.hid (And.intro (H6.out.1.keep hk7) (bsrc_own ho7 Hq.out)); clear hk7 ho7)
            | (go_at_call 58; refine (must_yes _).mono ?_; rintro e w' ⟨rfl, rfl⟩))
          by_cases hn : q.length = n
          · have HR := Lib.hid (dec_yes (b := bl) (q := q) (by rw [HP2.out]; simp [hn]))
            have HC := Lib.hid (clone_any q A7 c7 w7 H7.out.2 (by omega))
            have hnb : ((q.length : Int) == (n : Int)) = true := by simp [hn]
            clear hn HP2
            go_wp2_with (first
              | (go_at_call 58; refine (must_yes _).mono ?_; rintro e w' ⟨rfl, rfl⟩)
              | (go_at_call 60; refine HC.out.mono ?_; rintro e w8 ⟨A8, c8, rfl, ho8, hk8⟩; obtain ⟨hd8, hw8, x0, x1, x2, x3⟩ := H7.out.1.copy ho8 hk8; have H8 := Lib.hid (And.intro hd8 hw8); clear hd8 hw8 ho8 hk8))
            refine DeS.done H8.out.1 H8.out.2 ?_ ?_ HR.out.1 HR.out.2 <;> rfl
          · have HR := Lib.hid (dec_no (b := bl) (by rw [HP2.out]; simp [hn]))
            have hnb : ((q.length : Int) == (n : Int)) = false := by simp; omega
            clear hn HP2
            go_wp2_with (go_at_call 58; refine (must_no _).mono ?_; rintro e w' ⟨rfl, hk⟩; have Hk := Lib.hid hk; clear hk)
            refine DeS.dies H7.out.1 Hk.out ?_ ?_ HR.out.1 HR.out.2 <;> rfl
      · have HR := Lib.hid (dec_no (b := bl) (by rw [HP.out]; simp [hu]))
        have hub : (unpE r == 0) = false := by simpa using hu
        generalize unpE r = ue at *
        clear hu HP
        go_wp2_with (go_at_call 58; refine (must_no _).mono ?_; rintro e w' ⟨rfl, hk⟩; have Hk := Lib.hid hk; clear hk)
        refine DeS.dies H6.out.1 Hk.out ?_ ?_ HR.out.1 HR.out.2 <;> rfl
end Go.Proofs.YtdnaahbhfjclpaaGreatDoor

