/- The reference's sender: Due. -/
import Derived.Test.YtlkpecalkakpeaaSr4
set_option linter.unusedVariables false
set_option linter.unusedSimpArgs false
namespace Go.Sal
section
variable {α : Type} {ag now bse : Int}
def rdueB (ag now : Int) (x : Snr α) : Bool := !x.done && !(decide (0 ≤ x.tm) && decide (now - x.tm < ag))
def rupd (ag now : Int) (x : Snr α) : Snr α := if rdueB ag now x = true then { x with tm := now } else x
def rdueL (ag now : Int) (d i : Nat) (l : List (Snr α)) : List (Snr α) := l.take d ++ mapK (rupd ag now) i (l.drop d)
def rdueO (ag now bse : Int) : List (Snr α) → Nat → List (Int × α)
  | [], _ => []
  | x :: r, i => if rdueB ag now x = true then (bse + i, x.b) :: rdueO ag now bse r (i + 1) else rdueO ag now bse r (i + 1)
theorem rdueL_len {d i : Nat} {l : List (Snr α)} (hd : d ≤ l.length) : (rdueL ag now d i l).length = l.length := by
  unfold rdueL
  rw [List.length_append, mapK_len, List.length_take, List.length_drop]
  omega
theorem rdueL_zero {d : Nat} {l : List (Snr α)} : rdueL ag now d 0 l = l := by
  unfold rdueL
  rw [mapK_zero, List.take_append_drop]
theorem rdueL_at {d i : Nat} {l : List (Snr α)} (hi : d + i < l.length) (h : d + i < (rdueL ag now d i l).length) : (rdueL ag now d i l)[d + i] = l[d + i] := by
  have e : (rdueL ag now d i l)[d + i]? = some l[d + i] := by
    unfold rdueL
    rw [List.getElem?_append_right (by simp; omega), List.length_take, Nat.min_eq_left (by omega), Nat.add_sub_cancel_left]
    have h1 : i < (mapK (rupd ag now) i (l.drop d)).length := by rw [mapK_len, List.length_drop]; omega
    rw [List.getElem?_eq_getElem h1, mapK_at (by rw [List.length_drop]; omega) h1, List.getElem_drop]
  exact Option.some.inj ((List.getElem?_eq_getElem h).symm.trans e)
theorem rdueL_set {d i : Nat} {l : List (Snr α)} (hi : d + i < l.length) : (rdueL ag now d i l).set (d + i) (rupd ag now l[d + i]) = rdueL ag now d (i + 1) l := by
  unfold rdueL
  have e : i < (l.drop d).length := by rw [List.length_drop]; omega
  rw [List.set_append_right _ _ (by simp; omega), List.length_take, Nat.min_eq_left (by omega), Nat.add_sub_cancel_left]
  rw [← mapK_set e, List.getElem_drop]
theorem rdueL_skip {d i : Nat} {l : List (Snr α)} (hi : d + i < l.length) (h : rupd ag now l[d + i] = l[d + i]) : rdueL ag now d (i + 1) l = rdueL ag now d i l := by
  unfold rdueL
  rw [mapK_skip (by rw [List.length_drop]; omega) (by rw [List.getElem_drop]; exact h)]
theorem rdueO_snoc : ∀ (l : List (Snr α)) (x : Snr α) (i : Nat), rdueO ag now bse (l ++ [x]) i = rdueO ag now bse l i ++ (if rdueB ag now x = true then [(bse + (i + l.length : Nat), x.b)] else [])
  | [], x, i => by simp [rdueO]
  | y :: l, x, i => by
    simp only [List.cons_append, rdueO, List.length_cons]
    rw [rdueO_snoc l x (i + 1)]
    have e : i + 1 + l.length = i + (l.length + 1) := by omega
    rw [e]
    split <;> simp
theorem rdueO_take {d i : Nat} {l : List (Snr α)} (hi : d + i < l.length) : rdueO ag now bse ((l.drop d).take (i + 1)) 0 = rdueO ag now bse ((l.drop d).take i) 0 ++ (if rdueB ag now l[d + i] = true then [(bse + (i : Nat), l[d + i].b)] else []) := by
  have h1 : i < (l.drop d).length := by rw [List.length_drop]; omega
  rw [List.take_succ_eq_append_getElem h1, rdueO_snoc, List.getElem_drop]
  simp only [List.length_take, Nat.zero_add, Nat.min_eq_left (Nat.le_of_lt h1)]
theorem rdueO_len : ∀ (l : List (Snr α)) (i : Nat), (rdueO ag now bse l i).length ≤ l.length
  | [], i => by simp [rdueO]
  | x :: l, i => by
    have := rdueO_len l (i + 1)
    simp only [rdueO]
    split <;> simp <;> omega
end
end Go.Sal
namespace Go.Proofs.Ytlkpecalkakpeaa
open Go.RowKit Go.Sal

theorem rdue_err (base br : Nat) (sz ag now0 now : Int) (AL : Option Addr) (cL : Nat) (l : List (Snr Value)) (w : World) (hR : RS base br sz ag now0 AL cL l w) (h : now < now0 ∨ 1099511627776 < now) :
    Calls Try.prog 25 #[.pointer (some ⟨br, 0, none⟩), .int .i64 now] w fun e w' => e = .returned (.tuple #[.slice none 0 0, .int .i64 190]) ∧ w = w' := by
  have c2 : w.cell? ⟨br, 2, none⟩ = some (.int .i64 now0) := hR.1.cell 2
  clear hR
  by_cases h1 : now < now0
  · go_enter Try.func25, Try.ntmps25
    go_wp2
    go_ret2
    exact ⟨rfl, rfl⟩
  · have h2 : 1099511627776 < now := by omega
    go_enter Try.func25, Try.ntmps25
    go_wp2
    go_ret2
    exact ⟨rfl, rfl⟩
def RDuePost (base br : Nat) (sz ag now : Int) (AL : Option Addr) (cL : Nat) (l : List (Snr Value)) (K : Nat) (w : World) (e : Ending) (w' : World) : Prop :=
  ∃ A' c', e = .returned (.tuple #[.slice A' (rdueO ag now ((rdone l : Int) + 1) ((l.drop (rdone l)).take K) 0).length c', .int .i64 0]) ∧ RS base br sz ag now AL cL (rdueL ag now (rdone l) K l) w' ∧
    w'.ownsRow w.heap.size 33 2 (.slice A' (rdueO ag now ((rdone l : Int) + 1) ((l.drop (rdone l)).take K) 0).length c') (rdueO ag now ((rdone l : Int) + 1) ((l.drop (rdone l)).take K) 0).length (flat (rdueO ag now ((rdone l : Int) + 1) ((l.drop (rdone l)).take K) 0)) ∧
    Keep (br :: (Value.slice AL l.length cL).ownBlock.toList) w w'
def RDI (base br : Nat) (sz ag now : Int) (AL : Option Addr) (cL : Nat) (l : List (Snr Value)) (d : Nat) (w : World) (i : Nat) (A' : Option Addr) (m c' : Nat) (wr : World) : Prop :=
  Blk wr br 70 #[.int .i64 sz, .int .i64 ag, .int .i64 now, .slice AL l.length cL] ∧ wr.ownsRow base 98 3 (.slice AL l.length cL) l.length ((rdueL ag now d i l).flatMap rcells) ∧
    m = (rdueO ag now ((d : Int) + 1) ((l.drop d).take i) 0).length ∧ wr.ownsRow w.heap.size 33 2 (.slice A' m c') m (flat (rdueO ag now ((d : Int) + 1) ((l.drop d).take i) 0)) ∧ Keep (br :: (Value.slice AL l.length cL).ownBlock.toList) w wr

set_option maxRecDepth 20000 in
set_option maxHeartbeats 4000000 in
theorem rdue_any (base br : Nat) (sz ag now0 now : Int) (AL : Option Addr) (cL : Nat) (l : List (Snr Value)) (K : Nat) (w : World) (hR : RS base br sz ag now0 AL cL l w) (hB : base ≤ w.heap.size) (hbr : base ≤ br)
    (hs : 1 ≤ sz ∧ sz ≤ 64) (hag : 1 ≤ ag ∧ ag ≤ 1048576) (hn : 0 ≤ now0 ∧ now0 ≤ now ∧ now ≤ 1099511627776) (hl : l.length ≤ 1000) (hsl : ∀ x ∈ l, IsSl x.b) (htm : ∀ x ∈ l, -1 ≤ x.tm ∧ x.tm ≤ 1099511627776)
    (hK : (K : Int) = min sz ((l.length : Int) - rdone l)) :
    Calls Try.prog 25 #[.pointer (some ⟨br, 0, none⟩), .int .i64 now] w (RDuePost base br sz ag now AL cL l K w) := by
  obtain ⟨hn1, hn2, hn3⟩ := hn
  obtain ⟨hs1, hs2⟩ := hs
  obtain ⟨hag1, hag2⟩ := hag
  have c2 : w.cell? ⟨br, 2, none⟩ = some (.int .i64 now0) := hR.1.cell 2
  have f2 : w.frozen? ⟨br, 2, none⟩ = false := hR.1.free 2
  have hd : decide (now < now0) = false := by simp; omega
  have hd2 : decide (1099511627776 < now) = false := by simp; omega
  have hks : Keep [br] w (w.setCell ⟨br, 2, none⟩ (.int .i64 now)) := (Keep.refl [br] w).setCell (.inl (by simp)) _
  have hnb : (Value.slice AL l.length cL).ownBlock ≠ some br := own_ne_blk hR.2 hR.1 (by decide)
  have hR1 : RS base br sz ag now AL cL l (w.setCell ⟨br, 2, none⟩ (.int .i64 now)) := ⟨hR.1.set_ 2 _, ownsRow_keep hR.2 hks (by intro i hi; simp; rintro rfl; exact hnb hi)⟩
  have hst := rstate_any base br sz ag now AL cL l _ hR1 (by omega)
  have hdl := rdone_le (l := l)
  obtain ⟨d, hdd⟩ : ∃ d, d = rdone l := ⟨_, rfl⟩
  unfold RDuePost
  rw [← hdd] at hst hdl hK ⊢
  have Hst := Lib.hid hst
  have HR1 := Lib.hid hR1
  have Hks := Lib.hid hks
  have Hnb := Lib.hid hnb
  have Hsl := Lib.hid hsl
  have Htm := Lib.hid htm
  have HK := Lib.hid hK
  have hKd : d + K ≤ l.length := by omega
  have hKs : (K : Int) ≤ sz := by omega
  have hlb := hR.1.lt
  clear hR hks hnb hR1 hst hdd hsl htm hK
  go_enter Try.func25, Try.ntmps25
  go_wp2_with (go_at_call 29; refine Hst.out.mono ?_; rintro e w' ⟨rfl, k, rfl⟩)
  generalize hw3 : (World.drewN _ _) = w3
  have H0 : Hid (RDI base br sz ag now AL cL l d w 0 none 0 0 w3) := by
    rw [← hw3]
    refine Lib.hid ⟨HR1.out.1.drewN _, ?_, by simp [rdueO], World.ownsRow_nil _ _ _ _, ((Hks.out.mono (by simp))).drewN _⟩
    rw [rdueL_zero]
    exact HR1.out.2
  clear hw3 c2 f2 hd hd2 Hst HR1 Hks
  go_loopw [8, 9] (fun lo n wr => ∃ (i m c' : Nat) (A' : Option Addr), n = .int .i64 ((d : Int) + 1 + i) ∧ i ≤ K ∧ lo = .slice A' m c' ∧ m ≤ i ∧ Hid (RDI base br sz ag now AL cL l d w i A' m c' wr)) (fun _ n _ => d + 1 + K - (intOf n).toNat)
  case atStart => exact ⟨0, 0, 0, none, by simp, by omega, rfl, by omega, H0⟩
  case round =>
    obtain ⟨i, m, c', A', rfl, hi, rfl, hm, hI⟩ := hrel
    clear H0
    have r0 : wr.cell? ⟨br, 0, none⟩ = some (.int .i64 sz) := hI.out.1.cell 0
    have hwn : IntKind.i64.wrap ((d : Int) + 1 + sz) = (d : Int) + 1 + sz := by rw [IntKind.wrap_i64]; omega
    rcases Nat.lt_or_ge i K with hlt | hge
    · as_aux_lemma =>
        have hdi : d + i < l.length := by omega
        obtain ⟨hT, hown, hmo, hro, hkp⟩ := hI.out
        obtain ⟨g, rfl, hg1, hg2⟩ := own_some hown (by omega)
        have hdi' : d + i < (rdueL ag now d i l).length := by rw [rdueL_len (by omega)]; exact hdi
        have hat := rdueL_at (ag := ag) (now := now) hdi hdi'
        obtain ⟨Ab, nb, cb, hb⟩ := Hsl.out _ (List.getElem_mem hdi)
        obtain ⟨ht1, ht2⟩ := Htm.out _ (List.getElem_mem hdi)
        have y0 := (ownsRow_cell hown (show _ = some l[d + i].b by rw [rf_get rcells_len _ (d + i) 0 hdi' (by omega), hat]; rfl)).1
        have y1 := (ownsRow_cell hown (show _ = some (.bool l[d + i].done) by rw [rf_get rcells_len _ (d + i) 1 hdi' (by omega), hat]; rfl)).1
        have y2 := ownsRow_cell hown (show _ = some (.int .i64 l[d + i].tm) by rw [rf_get rcells_len _ (d + i) 2 hdi' (by omega), hat]; rfl)
        rw [Nat.add_zero, hb] at y0
        obtain ⟨y2, fz⟩ := y2
        have r1 : wr.cell? ⟨br, 1, none⟩ = some (.int .i64 ag) := hT.cell 1
        have r3 : wr.cell? ⟨br, 3, none⟩ = some (.slice (some ⟨g, 0, none⟩) l.length cL) := hT.cell 3
        have hwi : IntKind.i64.wrap ((d : Int) + 1 + i - 1) = ((d + i : Nat) : Int) := by rw [IntKind.wrap_i64]; omega
        have hwi1 : IntKind.i64.wrap ((d : Int) + 1 + i + 1) = (d : Int) + 1 + (i + 1 : Nat) := by rw [IntKind.wrap_i64]; omega
        have hwt : IntKind.i64.wrap (now - l[d + i].tm) = now - l[d + i].tm := by rw [IntKind.wrap_i64]; omega
        have hc1 : decide ((d : Int) + 1 + i ≤ l.length) = true := by simp; omega
        have hc2 : decide ((d : Int) + 1 + i < (d : Int) + 1 + sz) = true := by simp; omega
        have hnbg : br ≠ g := fun e => Hnb.out (by rw [e]; rfl)
        -- what stands where nothing is due
        have HNo : Hid (rdueB ag now l[d + i] = false → ∀ nq, RDI base br sz ag now (some ⟨g, 0, none⟩) cL l d w (i + 1) A' m c' ((wr.alloc (.cells #[.slice Ab nb cb, .bool l[d + i].done, .int .i64 l[d + i].tm] 98)).drewN nq)) := Lib.hid (fun h nq => by
          have hkx : Keep [] wr ((wr.alloc (.cells #[.slice Ab nb cb, .bool l[d + i].done, .int .i64 l[d + i].tm] 98)).drewN nq) := ((Keep.refl [] wr).alloc _).drewN nq
          refine ⟨hT.keep hkx (by simp), ?_, ?_, ?_, hkp.trans (hkx.mono (by simp))⟩
          · rw [rdueL_skip hdi (by unfold rupd; rw [h]; rfl)]
            exact ownsRow_keep hown hkx (by simp)
          · rw [rdueO_take hdi, h]; simpa using hmo
          · rw [rdueO_take hdi, h]; simpa using ownsRow_keep hro hkx (by simp))
        have HYes : Hid (rdueB ag now l[d + i] = true → ∀ nq, ∃ A2 c2 w2, (Builtin.append_ #[22, 22] 22 #[.slice A' m c', .slice (some ⟨wr.heap.size + 1, 0, none⟩) 1 1]).run Try.prog ((((wr.alloc (.cells #[.slice Ab nb cb, .bool l[d + i].done, .int .i64 l[d + i].tm] 98)).drewN nq).setCell ⟨g, (d + i) * 3 + 2, none⟩ (.int .i64 now)).alloc (.cells #[.int .i64 ((d : Int) + 1 + i), .slice Ab nb cb] 33)) = .ok (.slice A2 (m + 1) c2) w2 ∧
            RDI base br sz ag now (some ⟨g, 0, none⟩) cL l d w (i + 1) A2 (m + 1) c2 w2) := Lib.hid (fun h nq => by
          have hkx : Keep [] wr ((wr.alloc (.cells #[.slice Ab nb cb, .bool l[d + i].done, .int .i64 l[d + i].tm] 98)).drewN nq) := ((Keep.refl [] wr).alloc _).drewN nq
          have hownx := ownsRow_keep hown hkx (by simp)
          have hrox := ownsRow_keep hro hkx (by simp)
          have hTx := hT.keep hkx (by simp)
          have hks : Keep [g] ((wr.alloc (.cells #[.slice Ab nb cb, .bool l[d + i].done, .int .i64 l[d + i].tm] 98)).drewN nq) (((wr.alloc (.cells #[.slice Ab nb cb, .bool l[d + i].done, .int .i64 l[d + i].tm] 98)).drewN nq).setCell ⟨g, (d + i) * 3 + 2, none⟩ (.int .i64 now)) := (Keep.refl [g] _).setCell (.inl (by simp)) _
          have hTs := hTx.keep hks (by simpa using hnbg)
          have hng : ∀ j, (Value.slice A' m c').ownBlock = some j → j ∉ [g] := fun j hj => by
            have := own_ne_own hrox hownx (by decide) hj
            simp
            rintro rfl
            exact this rfl
          have hros := ownsRow_keep hrox hks hng
          have h1 := ownsRow_set hownx ((d + i) * 3 + 2) (by omega) (.int .i64 now)
          have s1 : ((rdueL ag now d i l).flatMap rcells).set ((d + i) * 3 + 2) (.int .i64 now) = ((rdueL ag now d i l).set (d + i) (rupd ag now l[d + i])).flatMap rcells :=
            rf_set rcells_len _ (d + i) 2 hdi' (by omega) _ _ (by rw [hat]; unfold rupd; rw [if_pos h]; rfl)
          rw [s1, rdueL_set hdi] at h1
          have hka : Keep [] (((wr.alloc (.cells #[.slice Ab nb cb, .bool l[d + i].done, .int .i64 l[d + i].tm] 98)).drewN nq).setCell ⟨g, (d + i) * 3 + 2, none⟩ (.int .i64 now)) ((((wr.alloc (.cells #[.slice Ab nb cb, .bool l[d + i].done, .int .i64 l[d + i].tm] 98)).drewN nq).setCell ⟨g, (d + i) * 3 + 2, none⟩ (.int .i64 now)).alloc (.cells #[.int .i64 ((d : Int) + 1 + i), .slice Ab nb cb] 33)) := (Keep.refl [] _).alloc _
          have hsz : (((wr.alloc (.cells #[.slice Ab nb cb, .bool l[d + i].done, .int .i64 l[d + i].tm] 98)).drewN nq).setCell ⟨g, (d + i) * 3 + 2, none⟩ (.int .i64 now)).heap.size = wr.heap.size + 1 := by
            rw [World.size_setCell]
            show (wr.alloc _).heap.size = _
            rw [World.size_alloc]
          have hsr := src_new (((wr.alloc (.cells #[.slice Ab nb cb, .bool l[d + i].done, .int .i64 l[d + i].tm] 98)).drewN nq).setCell ⟨g, (d + i) * 3 + 2, none⟩ (.int .i64 now)) 33 2 [.int .i64 ((d : Int) + 1 + i), .slice Ab nb cb] rfl
          rw [hsz] at hsr
          obtain ⟨v', w', hrun, hown', hg, hat2⟩ := run_append_src (P := Try.prog) _ 22 22 33 _ 2 32 w.heap.size Try.underlying22 payinfo rfl (by omega) (.slice A' m c') m _ (ownsRow_keep hros hka (by simp)) _ 1 1 _ hsr (by simp [Value.oneCell']) (by unfold maxLen; omega) (by omega) (by rw [World.size_alloc, hsz]; have := hkp.size; omega)
          obtain ⟨A2, c2, rfl, _⟩ := own_slice hown'
          have hkg := (Keep.refl (Value.slice A' m c').ownBlock.toList _).grown hg (fun k hk => .inl (by simp [hk]))
          have hmo2 : flat (rdueO ag now ((d : Int) + 1) ((l.drop d).take (i + 1)) 0) = flat (rdueO ag now ((d : Int) + 1) ((l.drop d).take i) 0) ++ [.int .i64 ((d : Int) + 1 + i), .slice Ab nb cb] := by
            rw [rdueO_take hdi, if_pos h, hb]
            exact flat_snoc _ _ _
          refine ⟨A2, c2, w', hrun, ?_, ?_, ?_, ?_, ?_⟩
          · refine (hTs.keep hka (by simp)).keep hkg ?_
            have := own_ne_blk hros hTs (by decide)
            simpa using this
          · refine ownsRow_keep (ownsRow_keep h1 hka (by simp)) hkg ?_
            intro j hj hj2
            have := own_ne_own h1 hros (by decide) hj
            exact this (by simpa using hj2)
          · rw [rdueO_take hdi, if_pos h, List.length_append, ← hmo]; rfl
          · rw [hmo2]; exact hown'
          · refine ((hkp.trans (hkx.mono (by simp))).trans ((hks.mono ?_).trans (hka.mono (by simp)))).step hkg ?_
            · intro j hj; simp at hj; subst hj; simp [Value.ownBlock]
            · intro j hj
              right
              exact (hro.lt j (by simpa using hj)).1)
        have hB1 : Hid (l[d + i].done = true → rdueB ag now l[d + i] = false) := Lib.hid (fun h => by unfold rdueB; rw [h]; rfl)
        have hB2 : Hid (l[d + i].done = false → ¬ 0 ≤ l[d + i].tm → rdueB ag now l[d + i] = true) := Lib.hid (fun h h2 => by unfold rdueB; rw [h]; simp [h2])
        have hB3 : Hid (l[d + i].done = false → 0 ≤ l[d + i].tm → now - l[d + i].tm < ag → rdueB ag now l[d + i] = false) := Lib.hid (fun h h2 h3 => by unfold rdueB; rw [h]; simp [h2, h3])
        have hB4 : Hid (l[d + i].done = false → 0 ≤ l[d + i].tm → ¬ now - l[d + i].tm < ag → rdueB ag now l[d + i] = true) := Lib.hid (fun h h2 h3 => by unfold rdueB; rw [h]; simp [h2]; omega)
        clear hI hT hown hmo hro hkp hat hb
        generalize rdueB ag now l[d + i] = bb at HNo HYes hB1 hB2 hB3 hB4
        generalize l[d + i].done = dn at *
        generalize l[d + i].tm = tm at *
        have hgr : g < wr.heap.size := hg1
        have hbrr : br < wr.heap.size := by have := World.block_lt_of_cell? _ _ r0; simpa using this
        have hfin : ∀ (A2 : Option Addr) (c2 m2 : Nat) (W : World), m2 ≤ i + 1 → Hid (RDI base br sz ag now (some ⟨g, 0, none⟩) cL l d w (i + 1) A2 m2 c2 W) → (∃ (i_1 m_1 c'_1 : Nat) (A'_1 : Option Addr), Value.int IntKind.i64 ((d : Int) + 1 + (i + 1 : Nat)) = Value.int IntKind.i64 ((d : Int) + 1 + (i_1 : Nat)) ∧ i_1 ≤ K ∧ Value.slice A2 m2 c2 = Value.slice A'_1 m_1 c'_1 ∧ m_1 ≤ i_1 ∧ Hid (RDI base br sz ag now (some ⟨g, 0, none⟩) cL l d w i_1 A'_1 m_1 c'_1 W)) := fun _ _ _ _ h1 h2 => ⟨i + 1, _, _, _, rfl, by omega, rfl, h1, h2⟩
        have Hfin := Lib.hid hfin
        clear hfin
        cases dn with
        | true =>
          go_wp2
          go_quiet (fail)
          go_wp2
          exact ⟨by simpa using Hfin.out _ _ _ _ (by omega) (Lib.hid (HNo.out (hB1.out (by simp)) nq)), by simp [intOf]; omega⟩
        | false =>
          by_cases ht0 : 0 ≤ tm
          · by_cases hta : now - tm < ag
            · go_wp2
              go_quiet (fail)
              go_wp2
              exact ⟨by simpa using Hfin.out _ _ _ _ (by omega) (Lib.hid (HNo.out (hB3.out (by simp) ht0 hta) nq)), by simp [intOf]; omega⟩
            · go_wp2
              go_quiet (fail)
              obtain ⟨A2, c2, w2, hap, hD⟩ := HYes.out (hB4.out (by simp) ht0 hta) nq
              have HD := Lib.hid hD
              clear hD
              go_wp2_with (at_builtin; refine wpList_append2 (v1 := .slice A' m c') (v2 := .slice (some ⟨wr.heap.size + 1, 0, none⟩) 1 1) rfl (.tmp 81) (.tmp 86) rfl rfl rfl hap ?_)
              exact ⟨by simpa using Hfin.out _ _ _ _ (by omega) HD, by simp [intOf]; omega⟩
          · have e0 : decide (0 ≤ tm) = false := by simpa using ht0
            go_wp2
            go_quiet (fail)
            obtain ⟨A2, c2, w2, hap, hD⟩ := HYes.out (hB2.out (by simp) ht0) nq
            have HD := Lib.hid hD
            clear hD
            go_wp2_with (at_builtin; refine wpList_append2 (v1 := .slice A' m c') (v2 := .slice (some ⟨wr.heap.size + 1, 0, none⟩) 1 1) rfl (.tmp 81) (.tmp 86) rfl rfl rfl hap ?_)
            exact ⟨by simpa using Hfin.out _ _ _ _ (by omega) HD, by simp [intOf]; omega⟩
    · obtain rfl : i = K := by omega
      have hend : ¬ ((d : Int) + 1 + i ≤ l.length) ∨ ¬ ((d : Int) + 1 + i < (d : Int) + 1 + sz) := by have := HK.out; omega
      have HI2 := Lib.hid hI.out
      clear hI Hsl Htm HK
      by_cases hc1 : (d : Int) + 1 + i ≤ l.length
      · have hc2 : ¬ ((d : Int) + 1 + i < (d : Int) + 1 + sz) := by omega
        clear hend
        go_wp2
        go_ret2
        obtain ⟨hT, hown, hmo, hro, hkp⟩ := HI2.out
        subst hmo
        exact ⟨A', c', rfl, ⟨by rw [rdueL_len (by omega)]; exact hT, by rw [rdueL_len (by omega)]; exact hown⟩, hro, hkp⟩
      · clear hend
        go_wp2
        go_ret2
        obtain ⟨hT, hown, hmo, hro, hkp⟩ := HI2.out
        subst hmo
        exact ⟨A', c', rfl, ⟨by rw [rdueL_len (by omega)]; exact hT, by rw [rdueL_len (by omega)]; exact hown⟩, hro, hkp⟩
end Go.Proofs.Ytlkpecalkakpeaa
