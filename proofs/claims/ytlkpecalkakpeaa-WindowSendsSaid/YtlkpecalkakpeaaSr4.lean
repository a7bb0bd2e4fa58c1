/- Void of both senders; a moment that is none. -/
import Derived.Test.YtlkpecalkakpeaaSr2
set_option linter.unusedVariables false
set_option linter.unusedSimpArgs false
namespace Go.Sal
/-- the first k of a row turned -/
def mapK {α : Type} (f : α → α) (k : Nat) (l : List α) : List α := (l.take k).map f ++ l.drop k
section
variable {α : Type} {f : α → α} {k : Nat} {l : List α}
theorem mapK_len : (mapK f k l).length = l.length := by
  simp [mapK]; omega
theorem mapK_zero : mapK f 0 l = l := by simp [mapK]
theorem mapK_all : mapK f l.length l = l.map f := by simp [mapK]
theorem mapK_at (hk : k < l.length) (h : k < (mapK f k l).length) : (mapK f k l)[k] = l[k] := by
  have e : (mapK f k l)[k]? = some l[k] := by
    unfold mapK
    rw [List.getElem?_append_right (by simp; omega)]
    simp [Nat.min_eq_left (Nat.le_of_lt hk), hk]
  exact Option.some.inj ((List.getElem?_eq_getElem h).symm.trans e)
theorem mapK_succ (hk : k < l.length) : mapK f (k + 1) l = (l.take k).map f ++ f l[k] :: l.drop (k + 1) := by
  unfold mapK
  rw [List.take_succ_eq_append_getElem hk, List.map_append]
  simp
theorem mapK_set (hk : k < l.length) : (mapK f k l).set k (f l[k]) = mapK f (k + 1) l := by
  rw [mapK_succ hk]
  unfold mapK
  rw [List.set_append_right _ _ (by simp; omega)]
  simp only [List.length_map, List.length_take, Nat.min_eq_left (Nat.le_of_lt hk), Nat.sub_self]
  rw [List.drop_eq_getElem_cons hk]
  rfl
theorem mapK_skip (hk : k < l.length) (h : f l[k] = l[k]) : mapK f (k + 1) l = mapK f k l := by
  rw [mapK_succ hk, h]
  unfold mapK
  rw [List.drop_eq_getElem_cons hk]
end
def rvoid {α : Type} (z : α) (x : Snr α) : Snr α := if x.done = true then x else { x with b := z }
def svoid {α : Type} (z : α) (x : Snt α) : Snt α := if x.done = true then x else { x with b := z }
end Go.Sal
namespace Go.Proofs.Ytlkpecalkakpeaa
open Go.RowKit Go.Sal

theorem due_err (bs : Nat) (sz ag now0 bse most op now : Int) (lv : Value) (w : World) (hT : SBlk bs sz ag now0 bse most lv op w) (hs : 1 ≤ sz) (h : now < now0 ∨ 1099511627776 < now) :
    Calls Try.prog 20 #[.pointer (some ⟨bs, 0, none⟩), .int .i64 now] w fun e w' => e = .returned (.tuple #[.slice none 0 0, .int .i64 190]) ∧ Keep [] w w' := by
  have c2 : w.cell? ⟨bs, 2, none⟩ = some (.int .i64 now0) := Blk.cell hT 2
  have hbs := Blk.lt hT
  have HT := Lib.hid hT
  clear hT
  by_cases h1 : now < now0
  · go_enter Try.func20, Try.ntmps20
    go_wp2_with (go_at_call 35; refine (smade_any _ _ _ _ _ _ _ _ _ (HT.out.keep (((Keep.refl [] w).alloc _).alloc _) (by simp)) hs).mono ?_; rintro e w' ⟨rfl, rfl⟩)
    go_quiet (fail)
    go_wp2
    go_ret2
    exact ⟨rfl, (((Keep.refl [] w).alloc _).alloc _).drewN _⟩
  · have h2 : 1099511627776 < now := by omega
    go_enter Try.func20, Try.ntmps20
    go_wp2_with (go_at_call 35; refine (smade_any _ _ _ _ _ _ _ _ _ (HT.out.keep (((Keep.refl [] w).alloc _).alloc _) (by simp)) hs).mono ?_; rintro e w' ⟨rfl, rfl⟩)
    go_quiet (fail)
    go_wp2
    go_ret2
    exact ⟨rfl, (((Keep.refl [] w).alloc _).alloc _).drewN _⟩

set_option maxRecDepth 20000 in
set_option maxHeartbeats 2000000 in
/-- the program's Void -/
theorem svoid_any (base bs : Nat) (sz ag now bse most op : Int) (AL : Option Addr) (cL : Nat) (l : List (Snt Value)) (w : World) (hT : SBlk bs sz ag now bse most (.slice AL l.length cL) op w) (hown : w.ownsRow base 91 4 (.slice AL l.length cL) l.length (l.flatMap scells)) (hs : 1 ≤ sz) (hl : l.length ≤ 100000) :
    Calls Try.prog 28 #[.pointer (some ⟨bs, 0, none⟩)] w fun e w' => e = .returned (.int .i64 0) ∧ SBlk bs sz ag now bse most (.slice AL l.length cL) op w' ∧ w'.ownsRow base 91 4 (.slice AL l.length cL) l.length ((l.map (svoid (.slice none 0 0))).flatMap scells) ∧ Keep (Value.slice AL l.length cL).ownBlock.toList w w' := by
  have c5 : w.cell? ⟨bs, 5, none⟩ = some (.slice AL l.length cL) := Blk.cell hT 5
  have HT := Lib.hid hT
  have H0 : Hid (SBlk bs sz ag now bse most (.slice AL l.length cL) op w ∧ w.ownsRow base 91 4 (.slice AL l.length cL) l.length ((mapK (svoid (.slice none 0 0)) 0 l).flatMap scells) ∧ Keep (Value.slice AL l.length cL).ownBlock.toList w w) := Lib.hid ⟨hT, by rw [mapK_zero]; exact hown, Keep.refl _ _⟩
  clear hT hown
  go_enter Try.func28, Try.ntmps28
  go_wp2_with (go_at_call 35; refine (smade_any _ _ _ _ _ _ _ _ _ HT.out hs).mono ?_; rintro e w' ⟨rfl, rfl⟩)
  clear c5
  go_loopw [12] (fun i wr => ∃ k : Nat, i = .int .i64 k ∧ k ≤ l.length ∧ Hid (SBlk bs sz ag now bse most (.slice AL l.length cL) op wr ∧ wr.ownsRow base 91 4 (.slice AL l.length cL) l.length ((mapK (svoid (.slice none 0 0)) k l).flatMap scells) ∧ Keep (Value.slice AL l.length cL).ownBlock.toList w wr)) (fun i _ => l.length - (intOf i).toNat)
  case atStart => exact ⟨0, rfl, by omega, H0⟩
  case round =>
    obtain ⟨k, rfl, hk, hI⟩ := hrel
    rcases Nat.lt_or_ge k l.length with hlt | hge
    · obtain ⟨hT, hown, hkp⟩ := hI.out
      obtain ⟨g, rfl, hg1, hg2⟩ := own_some hown (by omega)
      have hk' : k < (mapK (svoid (Value.slice none 0 0)) k l).length := by rw [mapK_len]; exact hlt
      have hat := mapK_at (f := svoid (Value.slice none 0 0)) hlt hk'
      have y3 := (ownsRow_cell hown (show _ = some (.bool l[k].done) by rw [rf_get scells_len _ k 3 hk' (by omega), hat]; rfl)).1
      have y0 := ownsRow_cell hown (show _ = some l[k].b by rw [rf_get scells_len _ k 0 hk' (by omega), hat]; rfl)
      rw [Nat.add_zero] at y0
      obtain ⟨z0, z1⟩ := y0
      have r5 : wr.cell? ⟨bs, 5, none⟩ = some (.slice (some ⟨g, 0, none⟩) l.length cL) := Blk.cell hT 5
      have hbg : g ≠ bs := fun h => own_ne_blk hown hT (by decide) (by rw [h]; rfl)
      cases hd : l[k].done with
      | true =>
        rw [hd] at y3
        have HN : Hid (SBlk bs sz ag now bse most (.slice (some ⟨g, 0, none⟩) l.length cL) op wr ∧ wr.ownsRow base 91 4 (.slice (some ⟨g, 0, none⟩) l.length cL) l.length ((mapK (svoid (.slice none 0 0)) (k + 1) l).flatMap scells) ∧ Keep (Value.slice (some ⟨g, 0, none⟩) l.length cL).ownBlock.toList w wr) :=
          Lib.hid ⟨hT, by rw [mapK_skip hlt (by unfold svoid; rw [if_pos hd])]; exact hown, hkp⟩
        clear hI hT hown hkp hat hd z0 z1
        go_wp2
        exact ⟨⟨k + 1, by simp, by omega, HN⟩, by simp [intOf]; omega⟩
      | false =>
        rw [hd] at y3
        have HN : Hid (SBlk bs sz ag now bse most (.slice (some ⟨g, 0, none⟩) l.length cL) op (wr.setCell ⟨g, k * 4, none⟩ (.slice none 0 0)) ∧ (wr.setCell ⟨g, k * 4, none⟩ (.slice none 0 0)).ownsRow base 91 4 (.slice (some ⟨g, 0, none⟩) l.length cL) l.length ((mapK (svoid (.slice none 0 0)) (k + 1) l).flatMap scells) ∧ Keep (Value.slice (some ⟨g, 0, none⟩) l.length cL).ownBlock.toList w (wr.setCell ⟨g, k * 4, none⟩ (.slice none 0 0))) := by
          refine Lib.hid ⟨Blk.far hT (by simpa using fun h => hbg h.symm) _, ?_, hkp.setCell (.inl (by simp [Value.ownBlock])) _⟩
          have h1 := ownsRow_set hown (k * 4) (by omega) (.slice none 0 0)
          have s1 : ((mapK (svoid (Value.slice none 0 0)) k l).flatMap scells).set (k * 4) (.slice none 0 0) = ((mapK (svoid (Value.slice none 0 0)) k l).set k (svoid (.slice none 0 0) l[k])).flatMap scells :=
            rf_set scells_len _ k 0 hk' (by omega) _ _ (by rw [hat]; unfold svoid; rw [if_neg (by rw [hd]; simp)]; rfl)
          rw [s1, mapK_set hlt] at h1
          exact h1
        clear hI hT hown hkp hat hd
        go_wp2
        exact ⟨⟨k + 1, by simp, by omega, HN⟩, by simp [intOf]; omega⟩
    · obtain rfl : k = l.length := by omega
      go_wp2
      go_ret
      obtain ⟨hT, hown, hkp⟩ := hI.out
      rw [mapK_all] at hown
      exact ⟨rfl, hT, hown, hkp⟩

set_option maxRecDepth 20000 in
set_option maxHeartbeats 2000000 in
/-- the reference's Void -/
theorem rvoid_any (base br : Nat) (sz ag now : Int) (AL : Option Addr) (cL : Nat) (l : List (Snr Value)) (w : World) (h : RS base br sz ag now AL cL l w) (hone : ∀ u ∈ l.flatMap rcells, u.oneCell' = true) (hB : base ≤ w.heap.size) (hl : l.length ≤ 1000) :
    Calls Try.prog 27 #[.pointer (some ⟨br, 0, none⟩)] w fun e w' => ∃ A' c', e = .returned (.tuple #[]) ∧ RS base br sz ag now A' c' (l.map (rvoid (.slice none 0 0))) w' ∧ Keep [br] w w' := by
  have c3 : w.cell? ⟨br, 3, none⟩ = some (.slice AL l.length cL) := h.1.cell 3
  have hka : Keep [] w (w.alloc (.cells #[] 98)) := (Keep.refl [] w).alloc _
  have hs : Src (w.alloc (.cells #[] 98)) 3 AL l.length (l.flatMap rcells) := (Src.of_own h.2).keep hka (fun a ha => ⟨by subst ha; exact (h.2.lt a.block rfl).2, by simp⟩)
  obtain ⟨v1, w1, hap, hown1, hg1, hat1⟩ := run_append_src (P := Try.prog) (w.alloc (.cells #[] 98)) 68 68 98 _ 3 40 w.heap.size Try.underlying68 snrinfo rfl (by omega) (.slice (some ⟨w.heap.size, 0, none⟩) 0 0) 0 []
    (World.ownsRow_made w #[] 0 (Nat.le_refl _) (by simp [maxLen]) (by simp)) AL l.length cL _ hs hone (by unfold maxLen; omega) (by omega) (by simp)
  rw [Nat.zero_add] at hown1
  obtain ⟨A1, c1, rfl, _⟩ := own_slice hown1
  have hk1 : Keep [] w w1 := hka.grown hg1 (fun k hk => by simp [Value.ownBlock] at hk; right; omega)
  have H0 : Hid (w1.ownsRow w.heap.size 98 3 (.slice A1 l.length c1) l.length ((mapK (rvoid (.slice none 0 0)) 0 l).flatMap rcells) ∧ Keep [] w w1) := Lib.hid ⟨by rw [mapK_zero]; simpa using hown1, hk1⟩
  have H := Lib.hid h
  have c3' : (w.alloc (.cells #[] 98)).cell? ⟨br, 3, none⟩ = some (.slice AL l.length cL) := (hka.cell (p := ⟨br, 3, none⟩) h.1.lt (by simp)).trans c3
  have hb := run_empty_slice (P := Try.prog) 68 98 _ _ _ Try.underlying68 snrinfo
  clear h hone hka hs hown1 hg1 hat1 hk1
  go_enter Try.func27, Try.ntmps27
  go_wp2_with (at_builtin; refine wpList_append2 (v1 := .slice (some ⟨w.heap.size, 0, none⟩) 0 0) (v2 := .slice AL l.length cL) rfl (.tmp 4) (.tmp 8) rfl rfl rfl hap ?_)
  clear hap hb c3 c3'
  go_loopw [3] (fun i wr => ∃ k : Nat, i = .int .i64 k ∧ k ≤ l.length ∧ Hid (wr.ownsRow w.heap.size 98 3 (.slice A1 l.length c1) l.length ((mapK (rvoid (.slice none 0 0)) k l).flatMap rcells) ∧ Keep [] w wr)) (fun i _ => l.length - (intOf i).toNat)
  case atStart => exact ⟨0, rfl, by omega, H0⟩
  case round =>
    obtain ⟨k, rfl, hk, hI⟩ := hrel
    rcases Nat.lt_or_ge k l.length with hlt | hge
    · obtain ⟨hown, hkp⟩ := hI.out
      obtain ⟨g, rfl, hg1, hg2⟩ := own_some hown (by omega)
      have hk' : k < (mapK (rvoid (Value.slice none 0 0)) k l).length := by rw [mapK_len]; exact hlt
      have hat := mapK_at (f := rvoid (Value.slice none 0 0)) hlt hk'
      have y1 := (ownsRow_cell hown (show _ = some (.bool l[k].done) by rw [rf_get rcells_len _ k 1 hk' (by omega), hat]; rfl)).1
      have y0 := ownsRow_cell hown (show _ = some l[k].b by rw [rf_get rcells_len _ k 0 hk' (by omega), hat]; rfl)
      rw [Nat.add_zero] at y0
      obtain ⟨z0, z1⟩ := y0
      cases hd : l[k].done with
      | true =>
        rw [hd] at y1
        have HN : Hid (wr.ownsRow w.heap.size 98 3 (.slice (some ⟨g, 0, none⟩) l.length c1) l.length ((mapK (rvoid (.slice none 0 0)) (k + 1) l).flatMap rcells) ∧ Keep [] w wr) :=
          Lib.hid ⟨by rw [mapK_skip hlt (by unfold rvoid; rw [if_pos hd])]; exact hown, hkp⟩
        clear hI hown hkp hat hd z0 z1
        go_wp2
        exact ⟨⟨k + 1, by simp, by omega, HN⟩, by simp [intOf]; omega⟩
      | false =>
        rw [hd] at y1
        have HN : Hid ((wr.setCell ⟨g, k * 3, none⟩ (.slice none 0 0)).ownsRow w.heap.size 98 3 (.slice (some ⟨g, 0, none⟩) l.length c1) l.length ((mapK (rvoid (.slice none 0 0)) (k + 1) l).flatMap rcells) ∧ Keep [] w (wr.setCell ⟨g, k * 3, none⟩ (.slice none 0 0))) := by
          refine Lib.hid ⟨?_, hkp.setCell (.inr hg2) _⟩
          have h1 := ownsRow_set hown (k * 3) (by omega) (.slice none 0 0)
          have s1 : ((mapK (rvoid (Value.slice none 0 0)) k l).flatMap rcells).set (k * 3) (.slice none 0 0) = ((mapK (rvoid (Value.slice none 0 0)) k l).set k (rvoid (.slice none 0 0) l[k])).flatMap rcells :=
            rf_set rcells_len _ k 0 hk' (by omega) _ _ (by rw [hat]; unfold rvoid; rw [if_neg (by rw [hd]; simp)]; rfl)
          rw [s1, mapK_set hlt] at h1
          exact h1
        clear hI hown hkp hat hd
        go_wp2
        exact ⟨⟨k + 1, by simp, by omega, HN⟩, by simp [intOf]; omega⟩
    · obtain rfl : k = l.length := by omega
      have hI1 := hI.out
      rw [mapK_all] at hI1
      have hTr := H.out.1.keep hI1.2 (by simp)
      have f1 : wr.cell? ⟨br, 3, none⟩ = some (.slice AL l.length cL) := hTr.cell 3
      have f2 : wr.frozen? ⟨br, 3, none⟩ = false := hTr.free 3
      have HI1 := Lib.hid hI1
      have HTr := Lib.hid hTr
      clear hI hI1 hTr
      go_wp2
      (try simp only [Exit.inBlock, Exit.then]); refine bodyPost_end (results_none rfl _ _ _) rfl ?_
      obtain ⟨hown, hkp⟩ := HI1.out
      have hks : Keep [br] wr (wr.setCell ⟨br, 3, none⟩ (.slice A1 l.length c1)) := (Keep.refl [br] wr).setCell (.inl (by simp)) _
      have hne := own_ne_blk hown HTr.out (by decide)
      refine ⟨A1, c1, rfl, ⟨?_, ?_⟩, (hkp.mono (by simp)).trans hks⟩
      · rw [List.length_map]
        exact HTr.out.set_ 3 _
      · rw [List.length_map]
        exact own_le (ownsRow_keep hown hks (by intro i hi; simp; rintro rfl; exact hne hi)) hB
end Go.Proofs.Ytlkpecalkakpeaa
