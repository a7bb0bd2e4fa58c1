/- Decode, walked. -/
import Derived.Test.YtiejjbdmkgdniaaUa
import Derived.Test.YtiejjbdmkgdniaaV2
import Derived.Test.YtiejjbdmkgdniaaW1
set_option linter.unusedVariables false
set_option linter.unusedSimpArgs false
namespace Go.Cod
open Go.Huf
theorem toksF_lit {la lb : List Int} {b : List Nat} : ∀ (n a : Nat) (l : List Tk), toksF la lb b n a = some l → ∀ t ∈ l, t.2.2 < 256
  | 0, a, l, h, t, ht => by
    simp [toksF] at h
    subst h
    simp at ht
  | n + 1, a, l, h, t, ht => by
    cases hr : tokR la lb b a with
    | none => rw [toksF_none hr] at h; cases h
    | some p =>
      obtain ⟨t0, a2⟩ := p
      rw [toksF_some hr] at h
      cases hq : toksF la lb b n a2 with
      | none => rw [hq] at h; cases h
      | some l2 =>
        rw [hq] at h
        simp at h
        subst h
        rcases List.mem_cons.1 ht with rfl | ht
        · exact (tokR_ok hr).2.2
        · exact toksF_lit n a2 l2 hq t ht
theorem readP_lit {b : List Nat} {l : List Tk} (h : readP b = some l) : ∀ t ∈ l, t.2.2 < 256 := by
  unfold readP at h
  split at h
  · cases h
  · split at h
    · cases h
    · split at h
      · cases h
      · split at h
        · cases h
        · exact toksF_lit _ _ _ h
theorem unpT_lit (b : List Nat) : ∀ t ∈ unpT b, t.2.2 < 256 := by
  unfold unpT
  cases hr : readP b with
  | none => simp
  | some l =>
    simp only
    split
    · exact readP_lit hr
    · simp
theorem toksF_cnt {la lb : List Int} {b : List Nat} : ∀ (n a : Nat) (l : List Tk), toksF la lb b n a = some l → l.length = n ∧ (n = 0 ∨ a + n ≤ 8 * b.length)
  | 0, a, l, h => by
    simp [toksF] at h
    subst h
    simp
  | n + 1, a, l, h => by
    cases hr : tokR la lb b a with
    | none => rw [toksF_none hr] at h; cases h
    | some p =>
      obtain ⟨t0, a2⟩ := p
      have hk := tokR_ok hr
      rw [toksF_some hr] at h
      cases hq : toksF la lb b n a2 with
      | none => rw [hq] at h; cases h
      | some l2 =>
        rw [hq] at h
        simp at h
        subst h
        obtain ⟨h1, h2⟩ := toksF_cnt n a2 l2 hq
        refine ⟨by simp [h1], .inr ?_⟩
        rcases h2 with h2 | h2 <;> omega
theorem readP_cnt {b : List Nat} {l : List Tk} (h : readP b = some l) : l.length ≤ 8 * b.length := by
  unfold readP at h
  split at h
  · cases h
  · rename_i h1
    split at h
    · cases h
    · rename_i h2
      split at h
      · cases h
      · split at h
        · cases h
        · have e1 := (lenP_ok h1).2.2.1
          have e2 := (lenP_ok h2).2.2.1
          obtain ⟨e3, e4⟩ := toksF_cnt _ _ _ h
          rw [List.length_drop] at e4
          omega
theorem unpT_cnt (b : List Nat) : (unpT b).length ≤ 8 * b.length := by
  unfold unpT
  cases hr : readP b with
  | none => simp
  | some l =>
    simp only
    split
    · exact readP_cnt hr
    · simp
theorem size_all {l : List Tk} (h : sizeE l = 0) : l.all okT = true := by
  unfold sizeE at h
  split at h
  · assumption
  · cases h
def decT (b : List Nat) : List Nat := (decP b).getD []
def decC (b : List Nat) : Int := match decP b with
  | some _ => 0
  | none => 70
theorem dec_no {b : List Nat} (h : decP b = none) : decT b = [] ∧ decC b = 70 := by
  unfold decT decC
  rw [h]
  exact ⟨rfl, rfl⟩
theorem dec_yes {b q : List Nat} (h : decP b = some q) : decT b = q ∧ decC b = 0 := by
  unfold decT decC
  rw [h]
  exact ⟨rfl, rfl⟩
end Go.Cod
namespace Go.Proofs.Ytiejjbdmkgdniaa
open Go.RowKit Go.Sal Go.Huf Go.Cod
theorem unpT_bd {b : List Nat} (h : unpE b = 0) : ∀ t ∈ unpT b, bdT t := fun t ht =>
  okT_bd (List.all_eq_true.1 (size_all (unp_one h).1) t ht) (unpT_lit b t ht)
theorem clone_any (l : List Nat) (A : Option Addr) (c : Nat) (w : World) (hs : BySrc w A l) (hl : l.length ≤ 1000000) :
    Calls Try.prog 57 #[.slice A l.length c] w fun e w' => RowB w l e w' := by
  cases A with
  | none =>
    have h0 : l = [] := by
      cases l with
      | nil => rfl
      | cons x l =>
        obtain ⟨g, o, h, _⟩ := hs.1 0 (by simp)
        cases h
    subst h0
    refine (Try.bytes_Clone_nil 0 c w).mono ?_
    rintro e w' ⟨rfl, rfl⟩
    exact ⟨none, 0, rfl, World.ownsRow_nil _ _ _ _, Keep.refl _ _⟩
  | some a =>
    refine (Try.bytes_Clone_at a l.length c (l.map fun (x : Nat) => (x : Int)) w (by simp) (by omega) (fun i hi => ?_)).mono ?_
    · obtain ⟨g, o, h, _, hc⟩ := hs.1 i hi
      injection h with h
      subst h
      rw [add_mk, hc, List.getD_eq_getElem?_getD, List.getElem?_map, List.getElem?_eq_getElem hi]
      rfl
    · rintro e w' ⟨v', rfl, ho, _, hb⟩
      obtain ⟨A', c', rfl, _⟩ := own_slice ho
      refine ⟨A', c', rfl, ?_, Keep.of_below hb⟩
      have e1 : (l.map fun (x : Nat) => (x : Int)).map (Value.int .u8) = inB l := by unfold inB; rw [List.map_map]; rfl
      rw [← e1]
      exact ho
theorem head_any (bl : List Nat) (AB : Option Addr) (cB : Nat) (w : World) (hs : BySrc w AB bl) (hc : bl.length ≤ cB) (hl : bl.length ≤ 1000000) :
    Calls Try.prog 55 #[.slice AB bl.length cB] w fun e w' => HeadE w (headP bl) e w' := by
  cases bl with
  | nil => exact head_bad [] AB cB w hs hl (fun x b1 h => by cases h)
  | cons x b1 =>
    by_cases hx : x ≤ 1
    · exact head_ok x b1 AB cB w hs hc hl hx
    · exact head_bad (x :: b1) AB cB w hs hl (fun y b2 h => by injection h with h1 h2; omega)
/-- Decode in memory -/
structure DeS (w W : World) : Prop where
  res : Blk W w.heap.size 24 #[.slice none 0 0]
  err : Blk W (w.heap.size + 1) 25 #[.int .i64 0]
  kp : Keep [] w W
theorem DeS.keep {w W W' : World} (h : DeS w W) (k : Keep [] W W') : DeS w W' := ⟨h.res.keep k (by simp), h.err.keep k (by simp), h.kp.trans k⟩
theorem DeS.dies {w W W' : World} {bl0 : List Nat} (h : DeS w W) (hk : Keep [] W W') {T : Array Value} (h2 : T[2]? = some (.pointer (some ⟨w.heap.size, 0, none⟩))) (h3 : T[3]? = some (.pointer (some ⟨w.heap.size + 1, 0, none⟩))) (hT : decT bl0 = []) (hE : decC bl0 = 70) :
    bodyPostD Try.prog Try.f20 (fun e w' => RowBE w (decT bl0) (decC bl0) e w') (.panic PN) { tmps := T, defers := [{ target := .fn (.func 54) #[.pointer (some ⟨w.heap.size, 0, none⟩), .pointer (some ⟨w.heap.size + 1, 0, none⟩)], args := #[] }] } W' := by
  have r1 := h.res.keep hk (by simp)
  have r2 := h.err.keep hk (by simp)
  have kp := h.kp.trans hk
  refine leaves_cons (f := 54) (args := #[.pointer (some ⟨w.heap.size, 0, none⟩), .pointer (some ⟨w.heap.size + 1, 0, none⟩)]) (by simp) (by simp [go_sem]) ?_
  refine (dcatch_panicking _ _ _ _ _ r1 r2 (by omega)).mono ?_
  rintro e u' w'' ⟨rfl, rfl, w1, k1, rfl⟩
  have b1 := (r1.keep k1 (by simp)).set_ 0 (.slice none 0 0)
  have b2 : Blk ((w1.setCell ⟨w.heap.size, 0, none⟩ (.slice none 0 0)).setCell ⟨w.heap.size + 1, 0, none⟩ (.int .i64 70)) (w.heap.size + 1) 25 _ := ((r2.keep k1 (by simp)).keep ((Keep.refl [w.heap.size] w1).setCell (.inl (by simp)) _) (by simp)).set_ 0 (.int .i64 70)
  have b3 : Blk ((w1.setCell ⟨w.heap.size, 0, none⟩ (.slice none 0 0)).setCell ⟨w.heap.size + 1, 0, none⟩ (.int .i64 70)) w.heap.size 24 _ := b1.keep ((Keep.refl [w.heap.size + 1] _).setCell (.inl (by simp)) _) (by simp)
  have c1 := b3.cell 0
  have c2 := b2.cell 0
  have kk : Keep [] w ((w1.setCell ⟨w.heap.size, 0, none⟩ (.slice none 0 0)).setCell ⟨w.heap.size + 1, 0, none⟩ (.int .i64 70)) := ((kp.trans k1).setCell (.inr (Nat.le_refl _)) _).setCell (.inr (by simp)) _
  simp at c1 c2
  generalize ((w1.setCell ⟨w.heap.size, 0, none⟩ (.slice none 0 0)).setCell ⟨w.heap.size + 1, 0, none⟩ (.int .i64 70)) = W2 at *
  rw [hT, hE]
  simp [Leaves, settle, results, Try.results20, go_sem, h2, h3, c1, c2]
  exact ⟨none, 0, rfl, World.ownsRow_nil _ _ _ _, kk⟩
theorem DeS.done {w w1 : World} {bl0 q : List Nat} {A : Option Addr} {c : Nat} (h : DeS w w1) (own : w1.ownsRow w.heap.size 5 1 (.slice A q.length c) q.length (inB q)) {T : Array Value} (h2 : T[2]? = some (.pointer (some ⟨w.heap.size, 0, none⟩))) (h3 : T[3]? = some (.pointer (some ⟨w.heap.size + 1, 0, none⟩))) (hT : decT bl0 = q) (hE : decC bl0 = 0) :
    bodyPostD Try.prog Try.f20 (fun e w' => RowBE w (decT bl0) (decC bl0) e w') .ret { tmps := T, defers := [{ target := .fn (.func 54) #[.pointer (some ⟨w.heap.size, 0, none⟩), .pointer (some ⟨w.heap.size + 1, 0, none⟩)], args := #[] }] } ((w1.setCell ⟨w.heap.size, 0, none⟩ (.slice A q.length c)).setCell ⟨w.heap.size + 1, 0, none⟩ (.int .i64 0)) := by
  refine leaves_cons (f := 54) (args := #[.pointer (some ⟨w.heap.size, 0, none⟩), .pointer (some ⟨w.heap.size + 1, 0, none⟩)]) (by simp) (by simp [go_sem]) ?_
  refine (dcatch_idle _ _ _).mono ?_
  rintro e u' w'' ⟨rfl, rfl, rfl⟩
  have k1 : Keep [w.heap.size] w1 (w1.setCell ⟨w.heap.size, 0, none⟩ (.slice A q.length c)) := (Keep.refl _ _).setCell (.inl (by simp)) _
  have k2 : Keep [w.heap.size + 1] (w1.setCell ⟨w.heap.size, 0, none⟩ (.slice A q.length c)) ((w1.setCell ⟨w.heap.size, 0, none⟩ (.slice A q.length c)).setCell ⟨w.heap.size + 1, 0, none⟩ (.int .i64 0)) := (Keep.refl _ _).setCell (.inl (by simp)) _
  have b1 := (h.res.set_ 0 (.slice A q.length c)).keep k2 (by simp)
  have b2 := (h.err.keep k1 (by simp)).set_ 0 (.int .i64 0)
  have hown := ownsRow_keep (ownsRow_keep own k1 (fun g hg hm => by
    simp at hm
    subst hm
    exact own_ne_blk own h.res (by decide) hg)) k2 (fun g hg hm => by
    simp at hm
    subst hm
    exact own_ne_blk own h.err (by decide) hg)
  have kk := (h.kp.step k1 (fun i hi => .inr (by simp at hi; omega))).step k2 (fun i hi => .inr (by simp at hi; omega))
  have c1 := b1.cell 0
  have c2 := b2.cell 0
  simp at c1 c2
  generalize ((w1.setCell ⟨w.heap.size, 0, none⟩ (.slice A q.length c)).setCell ⟨w.heap.size + 1, 0, none⟩ (.int .i64 0)) = W2 at *
  rw [hT, hE]
  simp [Leaves, settle, results, Try.results20, go_sem, h2, h3, c1, c2]
  exact ⟨A, c, rfl, hown, kk⟩
/-- the last steps: so many bytes, and a copy of them -/
theorem DeS.copy {w w1 : World} {q : List Nat} (h : DeS w w1) {A : Option Addr} {c : Nat} {w2 : World} (ho : w2.ownsRow w1.heap.size 5 1 (.slice A q.length c) q.length (inB q)) (k : Keep [] w1 w2) :
    DeS w w2 ∧ w2.ownsRow w.heap.size 5 1 (.slice A q.length c) q.length (inB q) ∧ w2.cell? ⟨w.heap.size, 0, none⟩ = some (.slice none 0 0) ∧ w2.frozen? ⟨w.heap.size, 0, none⟩ = false ∧ w2.cell? ⟨w.heap.size + 1, 0, none⟩ = some (.int .i64 0) ∧ w2.frozen? ⟨w.heap.size + 1, 0, none⟩ = false := by
  have h2 := h.keep k
  exact ⟨h2, own_le ho h.kp.size, h2.res.cell 0, h2.res.free 0, h2.err.cell 0, h2.err.free 0⟩
set_option maxRecDepth 20000 in
set_option maxHeartbeats 1000000 in
theorem decode_any (bl : List Nat) (AB : Option Addr) (cB : Nat) (w : World) (hs : BySrc w AB bl) (hc : bl.length ≤ cB) (hA : ∀ a, AB = some a → a.block < w.heap.size) (hl : bl.length ≤ 2000) :
    Calls Try.prog 20 #[.slice AB bl.length cB] w fun e w' => RowBE w (decT bl) (decC bl) e w' := by
  have hmf : ∀ (fn : Fn) (first cap : Array Value) (w : World), (Instr.makeFunc fn first cap).run Try.prog w = .ok (.func fn first cap) w := fun _ _ _ _ => rfl
  have hle : ¬ (bl.length : Int) > 262144 := by omega
  have hleb : decide ((bl.length : Int) > 262144) = false := decide_eq_false hle
  have hlen : ¬ 262144 < bl.length := by omega
  have H4 : Hid (DeS w ((w.alloc (.cells #[.slice none 0 0] 24)).alloc (.cells #[.int .i64 0] 25))) := by
    have k2 : Keep [] w ((w.alloc (.cells #[.slice none 0 0] 24)).alloc (.cells #[.int .i64 0] 25)) := ((Keep.refl [] w).alloc _).alloc _
    have b1 := (Blk.new w 24 #[.slice none 0 0]).alloc (.cells #[.int .i64 0] 25)
    have b2 := Blk.new (w.alloc (.cells #[.slice none 0 0] 24)) 25 #[.int .i64 0]
    simp at b2
    exact Lib.hid ⟨b1, b2, k2⟩
  have Hs := Lib.hid hs
  clear hs hA
  go_enter_defers Try.func20, Try.ntmps20
  go_upto_region 4 with fail
  generalize ((w.alloc (.cells #[.slice none 0 0] 24)).alloc (.cells #[.int .i64 0] 25)) = W4 at *
  have HH := Lib.hid (head_any bl AB cB W4 (Hs.out.keep H4.out.kp (by simp)) hc (by omega))
  have Hhl : Hid (∀ n p r, headP bl = some (n, p, r) → r.length ≤ bl.length) := Lib.hid (fun n p r h => by
    cases bl with
    | nil => simp [headP] at h
    | cons x b1 =>
      unfold headP at h
      simp only at h
      split at h
      · split at h
        · cases h
        · split at h
          · simp at h
            rw [← h.2.2]
            simp
            omega
          · cases h
      · cases h)
  cases hh : headP bl with
  | none =>
    rw [hh] at HH
    have HR := Lib.hid (dec_no (b := bl) (by unfold decP; rw [hh]))
    clear hh
    go_wp2_with (go_at_call 55; refine HH.out.mono ?_; rintro e w' ⟨rfl, hk⟩; have Hk := Lib.hid hk; clear hk)
    refine DeS.dies H4.out Hk.out ?_ ?_ HR.out.1 HR.out.2 <;> rfl
  | some z =>
    obtain ⟨n, p, r⟩ := z
    rw [hh] at HH
    have hrl := Hhl.out n p r hh
    have HP : Hid (decP bl = if p then (if unpE r = 0 then (match bytP (unpT r) with
      | none => none
      | some q => if q.length = n then some q else none) else none) else if r.length = n then some r else none) := Lib.hid (by unfold decP; rw [hh]; rfl)
    clear hh Hhl
    cases p with
    | false =>
      go_upto_region 10 with (go_at_call 55; refine HH.out.mono ?_; rintro e w5 ⟨A5, c5, rfl, hs5, hc5, hA5, hk5⟩; have H5 := Lib.hid (H4.out.keep hk5); have Hs5 := Lib.hid hs5; clear hs5 hA5 hk5)
      by_cases hn : r.length = n
      · have HR := Lib.hid (dec_yes (b := bl) (q := r) (by rw [HP.out]; simp [hn]))
        have HC := Lib.hid (clone_any r A5 c5 w5 Hs5.out (by omega))
        have hnb : ((r.length : Int) == (n : Int)) = true := by simp [hn]
        clear hn HP
        go_wp2_with (first
          | (go_at_call 49; refine (must_yes _).mono ?_; rintro e w' ⟨rfl, rfl⟩)
          | (go_at_call 57; refine HC.out.mono ?_; rintro e w6 ⟨A6, c6, rfl, ho6, hk6⟩; obtain ⟨hd6, hw6, x0, x1, x2, x3⟩ := H5.out.copy ho6 hk6; have H6 := Lib.hid (And.intro hd6 hw6); clear hd6 hw6 ho6 hk6))
        refine DeS.done H6.out.1 H6.out.2 ?_ ?_ HR.out.1 HR.out.2 <;> rfl
      · have HR := Lib.hid (dec_no (b := bl) (by rw [HP.out]; simp [hn]))
        have hnb : ((r.length : Int) == (n : Int)) = false := by simp; omega
        clear hn HP
        go_wp2_with (go_at_call 49; refine (must_no _).mono ?_; rintro e w' ⟨rfl, hk⟩; have Hk := Lib.hid hk; clear hk)
        refine DeS.dies H5.out Hk.out ?_ ?_ HR.out.1 HR.out.2 <;> rfl
    | true =>
      go_upto_region 6 with (go_at_call 55; refine HH.out.mono ?_; rintro e w5 ⟨A5, c5, rfl, hs5, hc5, hA5, hk5⟩; have H5 := Lib.hid (H4.out.keep hk5); have HU := Lib.hid (unpack_any r A5 c5 w5 hs5 hc5 hA5 (by omega)); clear hs5 hA5 hk5)
      go_upto_region 7 with (go_at_call 15; refine HU.out.mono ?_; rintro e w6 ⟨A6, c6, rfl, ho6, hk6⟩; have H6 := Lib.hid (And.intro (H5.out.keep hk6) ho6); clear ho6 hk6)
      clear HU HH
      by_cases hu : unpE r = 0
      · have hub : (unpE r == 0) = true := by simp [hu]
        have hone := unp_one hu
        have htl : (unpT r).length ≤ 20000 := by have := unpT_cnt r; omega
        have HB := Lib.hid (lzbytes_any (unpT r) A6 c6 w6 (tsrc_own H6.out.2 rfl (unpT_bd hu)) htl)
        have HP2 : Hid (decP bl = (match bytP (unpT r) with
          | none => none
          | some q => if q.length = n then some q else none)) := Lib.hid (by rw [HP.out]; simp [hu])
        have HL := Lib.hid (fun q h => bytF_lt (unpT r) [] q (unpT_lit r) (by simp) (by simp) h)
        clear hu HP hone
        generalize unpE r = ue at *
        cases hb : bytP (unpT r) with
        | none =>
          rw [hb] at HB HP2
          have HR := Lib.hid (dec_no (b := bl) HP2.out)
          clear HP2 hb
          go_wp2_with (first
            | (go_at_call 56; refine HB.out.mono ?_; rintro e w7 ⟨i7, E7, rfl, hE7, hk7⟩; have H7 := Lib.hid (H6.out.1.keep hk7); clear hk7)
            | (go_at_call 49; refine (must_yes _).mono ?_; rintro e w' ⟨rfl, rfl⟩)
            | (go_at_call 49; refine (must_no _).mono ?_; rintro e w' ⟨rfl, hk⟩; have Hk := Lib.hid hk; clear hk))
          refine DeS.dies H7.out Hk.out ?_ ?_ HR.out.1 HR.out.2 <;> rfl
        | some q =>
          rw [hb] at HB HP2
          have hq := HL.out q hb
          have Hq := Lib.hid hq.1
          have hql := hq.2
          clear HL hb hq
          go_upto_region 10 with (first
            | (go_at_call 56; refine HB.out.mono ?_; rintro e w7 ⟨A7, c7, rfl, ho7, hk7⟩; have H7 := Lib.hid (And.intro (H6.out.1.keep hk7) (bsrc_own ho7 Hq.out)); clear hk7 ho7)
            | (go_at_call 49; refine (must_yes _).mono ?_; rintro e w' ⟨rfl, rfl⟩))
          by_cases hn : q.length = n
          · have HR := Lib.hid (dec_yes (b := bl) (q := q) (by rw [HP2.out]; simp [hn]))
            have HC := Lib.hid (clone_any q A7 c7 w7 H7.out.2 (by omega))
            have hnb : ((q.length : Int) == (n : Int)) = true := by simp [hn]
            clear hn HP2
            go_wp2_with (first
              | (go_at_call 49; refine (must_yes _).mono ?_; rintro e w' ⟨rfl, rfl⟩)
              | (go_at_call 57; refine HC.out.mono ?_; rintro e w8 ⟨A8, c8, rfl, ho8, hk8⟩; obtain ⟨hd8, hw8, x0, x1, x2, x3⟩ := H7.out.1.copy ho8 hk8; have H8 := Lib.hid (And.intro hd8 hw8); clear hd8 hw8 ho8 hk8))
            refine DeS.done H8.out.1 H8.out.2 ?_ ?_ HR.out.1 HR.out.2 <;> rfl
          · have HR := Lib.hid (dec_no (b := bl) (by rw [HP2.out]; simp [hn]))
            have hnb : ((q.length : Int) == (n : Int)) = false := by simp; omega
            clear hn HP2
            go_wp2_with (go_at_call 49; refine (must_no _).mono ?_; rintro e w' ⟨rfl, hk⟩; have Hk := Lib.hid hk; clear hk)
            refine DeS.dies H7.out.1 Hk.out ?_ ?_ HR.out.1 HR.out.2 <;> rfl
      · have HR := Lib.hid (dec_no (b := bl) (by rw [HP.out]; simp [hu]))
        have hub : (unpE r == 0) = false := by simpa using hu
        generalize unpE r = ue at *
        clear hu HP
        go_wp2_with (go_at_call 49; refine (must_no _).mono ?_; rintro e w' ⟨rfl, hk⟩; have Hk := Lib.hid hk; clear hk)
        refine DeS.dies H6.out.1 Hk.out ?_ ?_ HR.out.1 HR.out.2 <;> rfl
end Go.Proofs.Ytiejjbdmkgdniaa
set_option linter.unusedVariables false
set_option linter.unusedSimpArgs false
namespace Go.Cod
def hdN (b : List Nat) : Nat := match headP b with
  | some z => z.1
  | none => 0
def hdB (b : List Nat) : Bool := match headP b with
  | some z => z.2.1
  | none => false
def hdC (b : List Nat) : Int := match headP b with
  | some _ => 0
  | none => 70
theorem hd_no {b : List Nat} (h : headP b = none) : hdN b = 0 ∧ hdB b = false ∧ hdC b = 70 := by
  unfold hdN hdB hdC
  rw [h]
  exact ⟨rfl, rfl, rfl⟩
theorem hd_yes {b : List Nat} {n : Nat} {p : Bool} {r : List Nat} (h : headP b = some (n, p, r)) : hdN b = n ∧ hdB b = p ∧ hdC b = 0 := by
  unfold hdN hdB hdC
  rw [h]
  exact ⟨rfl, rfl, rfl⟩
end Go.Cod
namespace Go.Proofs.Ytiejjbdmkgdniaa
open Go.RowKit Go.Sal Go.Huf Go.Cod
/-- Head in memory -/
structure HdS (w : World) (n : Nat) (p : Bool) (W : World) : Prop where
  a : Blk W w.heap.size 3 #[.int .i64 (n : Nat)]
  b : Blk W (w.heap.size + 1) 4 #[.bool p]
  c : Blk W (w.heap.size + 1 + 1) 25 #[.int .i64 0]
  kp : Keep [] w W
section
variable {w W W' : World} {n : Nat} {p : Bool}
theorem HdS.keep (h : HdS w n p W) (k : Keep [] W W') : HdS w n p W' := ⟨h.a.keep k (by simp), h.b.keep k (by simp), h.c.keep k (by simp), h.kp.trans k⟩
theorem HdS.seta (h : HdS w n p W) (m : Nat) : HdS w m p (W.setCell ⟨w.heap.size, 0, none⟩ (.int .i64 (m : Nat))) := by
  have k : Keep [w.heap.size] W (W.setCell ⟨w.heap.size, 0, none⟩ (.int .i64 (m : Nat))) := (Keep.refl _ _).setCell (.inl (by simp)) _
  refine ⟨?_, h.b.keep k (by simp), h.c.keep k (by simp; omega), h.kp.step k (fun i hi => .inr (by simp at hi; omega))⟩
  have := h.a.set_ 0 (.int .i64 (m : Nat))
  simpa using this
theorem HdS.setb (h : HdS w n p W) (q : Bool) : HdS w n q (W.setCell ⟨w.heap.size + 1, 0, none⟩ (.bool q)) := by
  have k : Keep [w.heap.size + 1] W (W.setCell ⟨w.heap.size + 1, 0, none⟩ (.bool q)) := (Keep.refl _ _).setCell (.inl (by simp)) _
  refine ⟨h.a.keep k (by simp), ?_, h.c.keep k (by simp), h.kp.step k (fun i hi => .inr (by simp at hi; omega))⟩
  have := h.b.set_ 0 (.bool q)
  simpa using this
theorem HdS.setc (h : HdS w n p W) : HdS w n p (W.setCell ⟨w.heap.size + 1 + 1, 0, none⟩ (.int .i64 0)) := by
  have k : Keep [w.heap.size + 1 + 1] W (W.setCell ⟨w.heap.size + 1 + 1, 0, none⟩ (.int .i64 0)) := (Keep.refl _ _).setCell (.inl (by simp)) _
  refine ⟨h.a.keep k (by simp; omega), h.b.keep k (by simp), ?_, h.kp.step k (fun i hi => .inr (by simp at hi; omega))⟩
  have := h.c.set_ 0 (.int .i64 0)
  simpa using this
theorem HdS.x (h : HdS w n p W) : W.cell? ⟨w.heap.size, 0, none⟩ = some (.int .i64 (n : Nat)) ∧ W.frozen? ⟨w.heap.size, 0, none⟩ = false ∧ W.cell? ⟨w.heap.size + 1, 0, none⟩ = some (.bool p) ∧ W.frozen? ⟨w.heap.size + 1, 0, none⟩ = false ∧ W.cell? ⟨w.heap.size + 1 + 1, 0, none⟩ = some (.int .i64 0) ∧ W.frozen? ⟨w.heap.size + 1 + 1, 0, none⟩ = false :=
  ⟨h.a.cell 0, h.a.free 0, h.b.cell 0, h.b.free 0, h.c.cell 0, h.c.free 0⟩
end
theorem hcatch_panicking (a b c : Nat) (v1 v2 v3 : Value) (w : World) (hA : Blk w a 3 #[v1]) (hB : Blk w b 4 #[v2]) (hC : Blk w c 25 #[v3]) (h1 : b ≠ a) (h2 : c ≠ a) (h3 : c ≠ b) :
    CallsD Try.prog 59 #[.pointer (some ⟨a, 0, none⟩), .pointer (some ⟨b, 0, none⟩), .pointer (some ⟨c, 0, none⟩)] (.panicking PN) w fun e u' w' =>
      e = .returned (.tuple #[]) ∧ u' = .panicking [{ v := .iface 107 (.agg #[]), recovered := true }] ∧ ∃ w1, Keep [] w w1 ∧ w' = ((w1.setCell ⟨a, 0, none⟩ (.int .i64 0)).setCell ⟨b, 0, none⟩ (.bool false)).setCell ⟨c, 0, none⟩ (.int .i64 70) := by
  have HC := Lib.hid caught_yes
  refine callsD_of_wpS Try.func59 rfl fun c₀ cs hu => ?_
  unfold PN at hu
  apply wpS_seq
  apply wpS_region
  simp [wpOpsS, go_sem, recoverD, hu, Try.ntmps59, Exit.thenS]
  refine (HC.out w).mono ?_
  rintro e w1 ⟨rfl, hk⟩
  have hA1 := hA.keep hk (by simp)
  have hB1 := hB.keep hk (by simp)
  have hC1 := hC.keep hk (by simp)
  have k1 : Keep [a] w1 (w1.setCell ⟨a, 0, none⟩ (.int .i64 0)) := (Keep.refl [a] w1).setCell (.inl (by simp)) _
  have hB2 : Blk (w1.setCell ⟨a, 0, none⟩ (.int .i64 0)) b 4 #[v2] := hB1.keep k1 (by simpa using h1)
  have hC2 : Blk (w1.setCell ⟨a, 0, none⟩ (.int .i64 0)) c 25 #[v3] := hC1.keep k1 (by simpa using h2)
  have k2 : Keep [b] (w1.setCell ⟨a, 0, none⟩ (.int .i64 0)) ((w1.setCell ⟨a, 0, none⟩ (.int .i64 0)).setCell ⟨b, 0, none⟩ (.bool false)) := (Keep.refl [b] _).setCell (.inl (by simp)) _
  have hC3 : Blk ((w1.setCell ⟨a, 0, none⟩ (.int .i64 0)).setCell ⟨b, 0, none⟩ (.bool false)) c 25 #[v3] := hC2.keep k2 (by simpa using h3)
  have c0 : w1.cell? ⟨a, 0, none⟩ = some v1 := hA1.cell 0
  have f0 := hA1.free 0
  have c1 : (w1.setCell ⟨a, 0, none⟩ (.int .i64 0)).cell? ⟨b, 0, none⟩ = some v2 := hB2.cell 0
  have f1 := hB2.free 0
  have c2 : ((w1.setCell ⟨a, 0, none⟩ (.int .i64 0)).setCell ⟨b, 0, none⟩ (.bool false)).cell? ⟨c, 0, none⟩ = some v3 := hC3.cell 0
  have f2 := hC3.free 0
  have g1 := hB1.free 0
  have g2 := hC1.free 0
  refine wpS_cond (t := true) (by simp [Act.eval, Array.replicate]) ?_
  simp only [if_true]
  apply wpS_region
  simp [wpOpsS, go_sem, c0, f0, c1, f1, c2, f2, g1, g2, bodyPostS, results, Try.results59]
  exact ⟨w1, hk, rfl⟩
theorem hcatch_idle (a b c : Nat) (w : World) :
    CallsD Try.prog 59 #[.pointer (some ⟨a, 0, none⟩), .pointer (some ⟨b, 0, none⟩), .pointer (some ⟨c, 0, none⟩)] .returning w fun e u' w' => e = .returned (.tuple #[]) ∧ u' = .returning ∧ w' = w := by
  have HC := Lib.hid caught_nil
  refine callsD_of_wpS Try.func59 rfl fun c₀ cs hu => ?_
  apply wpS_seq
  apply wpS_region
  simp [wpOpsS, go_sem, recoverD, hu, Try.ntmps59, Exit.thenS]
  refine (HC.out w).mono ?_
  rintro e w1 ⟨rfl, rfl⟩
  refine wpS_cond (t := false) (by simp [Act.eval, Array.replicate]) ?_
  simp only [Bool.false_eq_true, if_false]
  refine wpS_of_wp (wp_skip ?_)
  cases c₀
  simp_all [bodyPostS, results, Try.results59]
/-- what Head answers -/
def HdE (w : World) (b : List Nat) (e : Ending) (w' : World) : Prop := e = .returned (.tuple #[.int .i64 (hdN b : Nat), .bool (hdB b), .int .i64 (hdC b)]) ∧ Keep [] w w'
abbrev hdD (w : World) : List Deferred := [{ target := .fn (.func 59) #[.pointer (some ⟨w.heap.size, 0, none⟩), .pointer (some ⟨w.heap.size + 1, 0, none⟩), .pointer (some ⟨w.heap.size + 1 + 1, 0, none⟩)], args := #[] }]
theorem HdS.dies {w W W' : World} {bl0 : List Nat} {n : Nat} {p : Bool} (h : HdS w n p W) (hk : Keep [] W W') {T : Array Value} (h2 : T[2]? = some (.pointer (some ⟨w.heap.size, 0, none⟩))) (h3 : T[3]? = some (.pointer (some ⟨w.heap.size + 1, 0, none⟩))) (h4 : T[4]? = some (.pointer (some ⟨w.heap.size + 1 + 1, 0, none⟩)))
    (hT : hdN bl0 = 0 ∧ hdB bl0 = false ∧ hdC bl0 = 70) : bodyPostD Try.prog Try.f22 (fun e w' => HdE w bl0 e w') (.panic PN) { tmps := T, defers := hdD w } W' := by
  have r := h.keep hk
  refine leaves_cons (f := 59) (args := #[.pointer (some ⟨w.heap.size, 0, none⟩), .pointer (some ⟨w.heap.size + 1, 0, none⟩), .pointer (some ⟨w.heap.size + 1 + 1, 0, none⟩)]) (by simp) (by simp [go_sem]) ?_
  refine (hcatch_panicking _ _ _ _ _ _ _ r.a r.b r.c (by omega) (by omega) (by omega)).mono ?_
  rintro e u' w'' ⟨rfl, rfl, w1, k1, rfl⟩
  have r1 := r.keep k1
  have s1 := (r1.seta 0).setb false
  have s2 := s1.c.set_ 0 (.int .i64 70)
  have k2 : Keep [w.heap.size + 1 + 1] ((w1.setCell ⟨w.heap.size, 0, none⟩ (.int .i64 ((0 : Nat) : Int))).setCell ⟨w.heap.size + 1, 0, none⟩ (.bool false)) (((w1.setCell ⟨w.heap.size, 0, none⟩ (.int .i64 ((0 : Nat) : Int))).setCell ⟨w.heap.size + 1, 0, none⟩ (.bool false)).setCell ⟨w.heap.size + 1 + 1, 0, none⟩ (.int .i64 70)) := (Keep.refl _ _).setCell (.inl (by simp)) _
  have c0 := (s1.a.keep k2 (by simp; omega)).cell 0
  have c1 := (s1.b.keep k2 (by simp)).cell 0
  have c2 := s2.cell 0
  have kk := s1.kp.step k2 (fun i hi => .inr (by simp at hi; omega))
  rw [show (((0 : Nat) : Int)) = (0 : Int) from rfl] at c0 c1 c2 kk
  simp at c0 c1 c2
  generalize (((w1.setCell ⟨w.heap.size, 0, none⟩ (.int .i64 0)).setCell ⟨w.heap.size + 1, 0, none⟩ (.bool false)).setCell ⟨w.heap.size + 1 + 1, 0, none⟩ (.int .i64 70)) = W2 at *
  unfold HdE
  rw [hT.1, hT.2.1, hT.2.2]
  simp [Leaves, settle, results, Try.results22, go_sem, h2, h3, h4, c0, c1, c2]
  exact kk
theorem HdS.done {w w1 : World} {bl0 : List Nat} {n : Nat} {p : Bool} (h : HdS w n p w1) {T : Array Value} (h2 : T[2]? = some (.pointer (some ⟨w.heap.size, 0, none⟩))) (h3 : T[3]? = some (.pointer (some ⟨w.heap.size + 1, 0, none⟩))) (h4 : T[4]? = some (.pointer (some ⟨w.heap.size + 1 + 1, 0, none⟩)))
    (hT : hdN bl0 = n ∧ hdB bl0 = p ∧ hdC bl0 = 0) : bodyPostD Try.prog Try.f22 (fun e w' => HdE w bl0 e w') .ret { tmps := T, defers := hdD w } w1 := by
  refine leaves_cons (f := 59) (args := #[.pointer (some ⟨w.heap.size, 0, none⟩), .pointer (some ⟨w.heap.size + 1, 0, none⟩), .pointer (some ⟨w.heap.size + 1 + 1, 0, none⟩)]) (by simp) (by simp [go_sem]) ?_
  refine (hcatch_idle _ _ _ _).mono ?_
  rintro e u' w'' ⟨rfl, rfl, rfl⟩
  obtain ⟨c0, _, c1, _, c2, _⟩ := h.x
  unfold HdE
  rw [hT.1, hT.2.1, hT.2.2]
  simp [Leaves, settle, results, Try.results22, go_sem, h2, h3, h4, c0, c1, c2]
  exact h.kp
set_option maxRecDepth 20000 in
set_option maxHeartbeats 1000000 in
theorem head22_any (bl : List Nat) (AB : Option Addr) (cB : Nat) (w : World) (hs : BySrc w AB bl) (hc : bl.length ≤ cB) (hl : bl.length ≤ 100000) :
    Calls Try.prog 22 #[.slice AB bl.length cB] w fun e w' => HdE w bl e w' := by
  have hmf : ∀ (fn : Fn) (first cap : Array Value) (w : World), (Instr.makeFunc fn first cap).run Try.prog w = .ok (.func fn first cap) w := fun _ _ _ _ => rfl
  have H4 : Hid (HdS w 0 false (((w.alloc (.cells #[.int .i64 0] 3)).alloc (.cells #[.bool false] 4)).alloc (.cells #[.int .i64 0] 25))) := by
    have k2 : Keep [] w (((w.alloc (.cells #[.int .i64 0] 3)).alloc (.cells #[.bool false] 4)).alloc (.cells #[.int .i64 0] 25)) := (((Keep.refl [] w).alloc _).alloc _).alloc _
    have b1 := ((Blk.new w 3 #[.int .i64 0]).alloc (.cells #[.bool false] 4)).alloc (.cells #[.int .i64 0] 25)
    have b2 := (Blk.new (w.alloc (.cells #[.int .i64 0] 3)) 4 #[.bool false]).alloc (.cells #[.int .i64 0] 25)
    have b3 := Blk.new ((w.alloc (.cells #[.int .i64 0] 3)).alloc (.cells #[.bool false] 4)) 25 #[.int .i64 0]
    simp only [World.size_alloc] at b2 b3
    exact Lib.hid ⟨b1, b2, b3, k2⟩
  have Hs := Lib.hid hs
  clear hs
  go_enter_defers Try.func22, Try.ntmps22
  go_upto_region 2 with fail
  generalize (((w.alloc (.cells #[.int .i64 0] 3)).alloc (.cells #[.bool false] 4)).alloc (.cells #[.int .i64 0] 25)) = W4 at *
  have HH := Lib.hid (head_any bl AB cB W4 (Hs.out.keep H4.out.kp (by simp)) hc (by omega))
  cases hh : headP bl with
  | none =>
    rw [hh] at HH
    have HR := Lib.hid (hd_no hh)
    clear hh
    go_wp2_with (go_at_call 55; refine HH.out.mono ?_; rintro e w' ⟨rfl, hk⟩; have Hk := Lib.hid hk; clear hk)
    refine HdS.dies H4.out Hk.out ?_ ?_ ?_ HR.out <;> rfl
  | some z =>
    obtain ⟨n, p, r⟩ := z
    rw [hh] at HH
    have HR := Lib.hid (hd_yes hh)
    clear hh
    go_upto_region 3 with (go_at_call 55; refine HH.out.mono ?_; rintro e w5 ⟨A5, c5, rfl, hs5, hc5, hA5, hk5⟩; have H5 := Lib.hid (H4.out.keep hk5); obtain ⟨c0, f0, c1, f1, c2, f2⟩ := H5.out.x; clear hs5 hA5 hk5)
    have H6 := Lib.hid ((H5.out.seta n).setb p)
    clear c0 f0 c1 f1 c2 f2
    generalize ((w5.setCell ⟨w.heap.size, 0, none⟩ (.int .i64 (n : Nat))).setCell ⟨w.heap.size + 1, 0, none⟩ (.bool p)) = W6 at *
    obtain ⟨c0, f0, c1, f1, c2, f2⟩ := H6.out.x
    have H7 := Lib.hid (((H6.out.seta n).setb p).setc)
    clear H4 H5 H6
    go_region
    all_goals
      go_wp2
      refine HdS.done (H7.out.keep (Keep.refl [] _).drew) ?_ ?_ ?_ HR.out <;> rfl
end Go.Proofs.Ytiejjbdmkgdniaa
