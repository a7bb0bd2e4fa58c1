/- The reference's sender: Ack. -/
import Derived.Test.YtlkpecalkakpeaaSr5
set_option linter.unusedVariables false
set_option linter.unusedSimpArgs false
namespace Go.Sal
section
variable {α β : Type} {R : α → β → Prop} {all bse : Int} {M k : Nat} {l : List (Snr α)}
def rackU (all : Int) (M : Nat) (n : Int) (x : Snr α) : Snr α := if hitB all M n = true then { x with done := true } else x
def rackR (all : Int) (M : Nat) : List (Snr α) → Int → List (Snr α)
  | [], _ => []
  | x :: r, n => rackU all M n x :: rackR all M r (n + 1)
def rackL (all : Int) (M : Nat) (bse : Int) (k : Nat) (l : List (Snr α)) : List (Snr α) := rackR all M (l.take k) bse ++ l.drop k
def rackF (all : Int) (M : Nat) : List (Snr α) → Int → Nat
  | [], _ => 0
  | x :: r, n => (if hitB all M n = true ∧ x.done = false then 1 else 0) + rackF all M r (n + 1)
theorem rackR_len : ∀ (l : List (Snr α)) (n : Int), (rackR all M l n).length = l.length
  | [], _ => rfl
  | x :: l, n => by simp [rackR, rackR_len l (n + 1)]
theorem rackR_snoc : ∀ (l : List (Snr α)) (x : Snr α) (n : Int), rackR all M (l ++ [x]) n = rackR all M l n ++ [rackU all M (n + l.length) x]
  | [], x, n => by simp [rackR]
  | y :: l, x, n => by
    simp only [List.cons_append, rackR, rackR_snoc l x (n + 1), List.length_cons]
    have e : n + 1 + (l.length : Int) = n + ((l.length + 1 : Nat) : Int) := by omega
    rw [e]
theorem rackF_snoc : ∀ (l : List (Snr α)) (x : Snr α) (n : Int), rackF all M (l ++ [x]) n = rackF all M l n + (if hitB all M (n + l.length) = true ∧ x.done = false then 1 else 0)
  | [], x, n => by simp [rackF]
  | y :: l, x, n => by
    simp only [List.cons_append, rackF, rackF_snoc l x (n + 1), List.length_cons]
    have e : n + 1 + (l.length : Int) = n + ((l.length + 1 : Nat) : Int) := by omega
    rw [e]
    omega
theorem rackF_le : ∀ (l : List (Snr α)) (n : Int), rackF all M l n ≤ l.length
  | [], _ => Nat.le_refl _
  | x :: l, n => by
    have := rackF_le l (n + 1)
    simp only [rackF, List.length_cons]
    split <;> omega
variable {bse : Int} {k : Nat} {l : List (Snr α)}
theorem rackL_len : (rackL all M bse k l).length = l.length := by
  unfold rackL; rw [List.length_append, rackR_len]; simp; omega
theorem rackL_zero : rackL all M bse 0 l = l := by simp [rackL, rackR]
theorem rackL_all : rackL all M bse l.length l = rackR all M l bse := by simp [rackL]
theorem rackL_at (hk : k < l.length) (h : k < (rackL all M bse k l).length) : (rackL all M bse k l)[k] = l[k] := by
  apply Option.some.inj
  rw [← List.getElem?_eq_getElem h, ← List.getElem?_eq_getElem hk]
  unfold rackL
  rw [List.getElem?_append_right (by rw [rackR_len]; simp; omega), rackR_len]
  simp
  congr 1
  omega
theorem rackL_set (hk : k < l.length) : (rackL all M bse k l).set k (rackU all M (bse + k) l[k]) = rackL all M bse (k + 1) l := by
  unfold rackL
  rw [List.set_append_right _ _ (by rw [rackR_len]; simp; omega)]
  have e : k - (rackR all M (List.take k l) bse).length = 0 := by rw [rackR_len]; simp; omega
  have e2 : (List.take k l).length = k := by simp; omega
  rw [e, List.drop_eq_getElem_cons hk, List.set_cons_zero, List.take_succ_eq_append_getElem hk, rackR_snoc, List.append_assoc, e2]
  rfl
theorem rackL_skip (hk : k < l.length) (h : rackU all M (bse + k) l[k] = l[k]) : rackL all M bse (k + 1) l = rackL all M bse k l := by
  rw [← rackL_set hk, h]
  apply List.ext_getElem (by simp)
  intro i h1 h2
  rw [List.getElem_set]
  split
  · rename_i hi
    subst hi
    rw [rackL_at hk h2]
  · rfl
theorem rackF_take {n : Int} (hk : k < l.length) : rackF all M (l.take (k + 1)) n = rackF all M (l.take k) n + (if hitB all M (n + k) = true ∧ l[k].done = false then 1 else 0) := by
  have e2 : (List.take k l).length = k := by simp; omega
  rw [List.take_succ_eq_append_getElem hk, rackF_snoc, e2]
end
theorem hitB_bits {all : Int} {M : Nat} {i : Nat} (hM : M < 18446744073709551616) : hitB all M ((i : Int) + 1) = (decide ((i : Int) < all) || (bitsF 64 0 M).any fun k => decide ((i : Int) + 1 = all + 2 + k)) := by
  rw [Bool.eq_iff_iff]
  simp only [hitB, Bool.or_eq_true, Bool.and_eq_true, decide_eq_true_eq, List.any_eq_true]
  constructor
  · rintro (h | ⟨⟨h1, h2⟩, h3⟩)
    · left; omega
    · right
      exact ⟨((i : Int) + 1 - all - 2).toNat, (mem_bitsF 64 0 M _ (by simpa using hM)).2 ⟨Nat.zero_le _, by simpa using h3⟩, by omega⟩
  · rintro (h | ⟨k, hk, h⟩)
    · left; omega
    · right
      obtain ⟨_, h4⟩ := (mem_bitsF 64 0 M _ (by simpa using hM)).1 hk
      have hk64 : k < 64 := by
        apply Classical.byContradiction
        intro hc
        rw [Nat.testBit_lt_two_pow (Nat.lt_of_lt_of_le hM (show 18446744073709551616 ≤ 2 ^ (k - 0) from by
          rw [show 18446744073709551616 = 2 ^ 64 by rfl]
          exact Nat.pow_le_pow_right (by omega) (by omega)))] at h4
        cases h4
      refine ⟨⟨by omega, by omega⟩, ?_⟩
      rw [show ((i : Int) + 1 - all - 2).toNat = k - 0 by omega]
      exact h4
end Go.Sal
namespace Go.Proofs.Ytlkpecalkakpeaa
open Go.RowKit Go.Sal
theorem getD_at {l : List Nat} {i : Nat} (h : i < l.length) : l.getD i 0 = l[i] := by simp [List.getD, h]
theorem named_bits {sn : Nat} {all : Int} {M : Nat} (hM : M < 18446744073709551616) : Named sn all M ↔ 0 ≤ all ∧ all ≤ sn ∧ (0 < (bitsF 64 0 M).length → (((bitsF 64 0 M).getD ((bitsF 64 0 M).length - 1) 0 : Nat) : Int) ≤ sn - 2 - all) := by
  obtain ⟨hs, _⟩ := bitsF_sorted 64 0 M
  unfold Named
  constructor
  · rintro ⟨h1, h2, h3⟩
    refine ⟨h1, h2, fun h => ?_⟩
    rw [getD_at (by omega)]
    have hm : (bitsF 64 0 M)[(bitsF 64 0 M).length - 1] ∈ bitsF 64 0 M := List.getElem_mem (by omega)
    obtain ⟨_, h4⟩ := (mem_bitsF 64 0 M _ (by simpa using hM)).1 hm
    generalize (bitsF 64 0 M)[(bitsF 64 0 M).length - 1] = k at *
    have hk64 : k < 64 := by
      apply Classical.byContradiction
      intro hc
      rw [Nat.testBit_lt_two_pow (Nat.lt_of_lt_of_le hM (show 18446744073709551616 ≤ 2 ^ (k - 0) from by
        rw [show 18446744073709551616 = 2 ^ 64 by rfl]
        exact Nat.pow_le_pow_right (by omega) (by omega)))] at h4
      cases h4
    have := h3 k hk64 (by simpa using h4)
    omega
  · rintro ⟨h1, h2, h3⟩
    refine ⟨h1, h2, fun k hk hb => ?_⟩
    have hm : k ∈ bitsF 64 0 M := (mem_bitsF 64 0 M _ (by simpa using hM)).2 ⟨Nat.zero_le _, by simpa using hb⟩
    obtain ⟨j, hj, rfl⟩ := List.mem_iff_getElem.1 hm
    have h4 := h3 (by omega)
    rw [getD_at (by omega)] at h4
    have h5 : (bitsF 64 0 M)[j] ≤ (bitsF 64 0 M)[(bitsF 64 0 M).length - 1] := by
      rcases Nat.lt_or_ge j ((bitsF 64 0 M).length - 1) with h6 | h6
      · exact Nat.le_of_lt (List.pairwise_iff_getElem.1 hs j _ hj (by omega) h6)
      · have : j = (bitsF 64 0 M).length - 1 := by omega
        subst this
        exact Nat.le_refl _
    omega
def RAckPost (base br : Nat) (sz ag now : Int) (AL : Option Addr) (cL : Nat) (l : List (Snr Value)) (all : Int) (M : Nat) (w : World) (e : Ending) (w' : World) : Prop :=
  (¬ Named (sentN l l.length : Nat) all M ∧ e = .returned (.tuple #[.int .i64 0, .int .i64 191]) ∧ Keep [] w w') ∨
  (Named (sentN l l.length : Nat) all M ∧ e = .returned (.tuple #[.int .i64 (rackF all M l 1 : Nat), .int .i64 0]) ∧ RS base br sz ag now AL cL (rackR all M l 1) w' ∧ Keep (Value.slice AL l.length cL).ownBlock.toList w w')
def RAI (base br : Nat) (sz ag now : Int) (AL : Option Addr) (cL : Nat) (l : List (Snr Value)) (all : Int) (M : Nat) (w : World) (k : Nat) (wr : World) : Prop :=
  Blk wr br 70 #[.int .i64 sz, .int .i64 ag, .int .i64 now, .slice AL l.length cL] ∧ wr.ownsRow base 98 3 (.slice AL l.length cL) l.length ((rackL all M 1 k l).flatMap rcells) ∧ Keep (Value.slice AL l.length cL).ownBlock.toList w wr

set_option maxRecDepth 20000 in
set_option maxHeartbeats 8000000 in
theorem rack_any (base br : Nat) (sz ag now : Int) (AL : Option Addr) (cL : Nat) (l : List (Snr Value)) (all : Int) (M : Nat) (w : World) (hR : RS base br sz ag now AL cL l w) (hM : M < 18446744073709551616) (hB : base ≤ w.heap.size) (hl : l.length ≤ 1000)
    (hall : -9223372036854775808 ≤ all ∧ all ≤ 9223372036854775807) :
    Calls Try.prog 26 #[.pointer (some ⟨br, 0, none⟩), .int .i64 all, .int .u64 (M : Int)] w (RAckPost base br sz ag now AL cL l all M w) := by
  have hbits := rbits_any M w hM
  have hnb := named_bits (sn := sentN l l.length) (all := all) hM
  have hlen := bitsF_len 64 0 M
  have hhit := fun i : Nat => hitB_bits (all := all) (M := M) (i := i) hM
  have h64 : ∀ j, j < (bitsF 64 0 M).length → (bitsF 64 0 M).getD j 0 < 64 := fun j h => by
    rw [getD_at h]
    obtain ⟨_, h4⟩ := (mem_bitsF 64 0 M _ (by simpa using hM)).1 (List.getElem_mem h)
    apply Classical.byContradiction
    intro hc
    rw [Nat.testBit_lt_two_pow (Nat.lt_of_lt_of_le hM (show 18446744073709551616 ≤ 2 ^ ((bitsF 64 0 M)[j] - 0) from by
      rw [show 18446744073709551616 = 2 ^ 64 by rfl]
      exact Nat.pow_le_pow_right (by omega) (by omega)))] at h4
    cases h4
  unfold RAckPost
  have hsn := sentN_le l l.length
  obtain ⟨Lb, hLb⟩ : ∃ Lb, Lb = bitsF 64 0 M := ⟨_, rfl⟩
  rw [← hLb] at hbits hnb hlen h64
  simp only [← hLb] at hhit
  have Hbits := Lib.hid hbits
  have Hhit := Lib.hid hhit
  have H64 := Lib.hid h64
  have Hnb := Lib.hid hnb
  have H := Lib.hid hR
  have hlb := hR.1.lt
  have Hdr : Hid (∀ W, Keep [] w W → RS base br sz ag now AL cL l W) := Lib.hid (fun W k => ⟨hR.1.keep k (by simp), ownsRow_keep hR.2 k (by simp)⟩)
  have HM := Lib.hid hM
  clear hbits hhit h64 hnb hR hM hLb
  obtain ⟨sn, hsnd⟩ : ∃ sn : Nat, sn = sentN l l.length := ⟨_, rfl⟩
  rw [← hsnd] at Hnb hsn ⊢
  have hsent : Hid (∀ W, Keep [] w W → Calls Try.prog 41 #[.pointer (some ⟨br, 0, none⟩)] W fun e w' => e = .returned (.int .i64 (sn : Int)) ∧ w' = W) := Lib.hid (fun W k => by
    rw [hsnd]
    exact (rsent_any base br sz ag now AL cL l W (Hdr.out W k) (by omega)).mono (fun _ _ h => ⟨h.1, h.2.symm⟩))
  clear hsnd
  go_enter Try.func26, Try.ntmps26
  go_wp2_with (go_at_call 40; refine Hbits.out.mono ?_; rintro e w1 ⟨AB, cB, rfl, hownB, hk1⟩)
  have HownB := Lib.hid hownB
  have Hk1 := Lib.hid hk1
  clear hownB hk1
  by_cases h1 : all < 0
  · have e1 : decide (all < 0) = true := by simpa using h1
    have hno : Hid (¬ Named sn all M) := Lib.hid (fun h => by have := (Hnb.out.1 h).1; omega)
    go_quiet ((go_at_call 41; exact Calls.quiet_of_same (hsent.out _ (Hk1.out.drewN _))))
    go_wp2
    go_ret2
    exact .inl ⟨hno.out, rfl, Hk1.out.drewN _⟩
  have e1 : decide (all < 0) = false := by simpa using h1
  by_cases h2 : (sn : Int) < all
  · have e2 : decide ((sn : Int) < all) = true := by simpa using h2
    have hno : Hid (¬ Named sn all M) := Lib.hid (fun h => by have := (Hnb.out.1 h).2.1; omega)
    go_quiet ((go_at_call 41; exact Calls.quiet_of_same (hsent.out _ (Hk1.out.drewN _))))
    go_wp2
    go_ret2
    exact .inl ⟨hno.out, rfl, Hk1.out.drewN _⟩
  have e2 : decide ((sn : Int) < all) = false := by simpa using h2
  by_cases h3 : 0 < Lb.length
  · have hown := HownB.out
    obtain ⟨gB, rfl, hgB1, hgB2⟩ := own_some hown h3
    have hints : ∀ j, j < Lb.length → w1.cell? ⟨gB, j, none⟩ = some (.int .i64 (Lb.getD j 0 : Nat)) := fun j hj => by
      have h4 := (ownsRow_cell hown (show (ints Lb)[j]? = some (.int .i64 (Lb.getD j 0 : Nat)) by simp [ints, hj, getD_at hj])).1
      exact h4
    have q := hints (Lb.length - 1) (by omega)
    have e3 : decide (0 < (Lb.length : Int)) = true := by simp; omega
    have hwl : IntKind.i64.wrap ((Lb.length : Int) - 1) = ((Lb.length - 1 : Nat) : Int) := by rw [IntKind.wrap_i64]; omega
    have hws : IntKind.i64.wrap ((sn : Int) - 2) = (sn : Int) - 2 := by rw [IntKind.wrap_i64]; omega
    have hws2 : IntKind.i64.wrap ((sn : Int) - 2 - all) = (sn : Int) - 2 - all := by rw [IntKind.wrap_i64]; omega
    have Hints := Lib.hid hints
    obtain ⟨lst, hlst⟩ : ∃ lst, lst = Lb.getD (Lb.length - 1) 0 := ⟨_, rfl⟩
    rw [← hlst] at q
    have hl64 : lst < 64 := by rw [hlst]; exact H64.out _ (by omega)
    have Hlst := Lib.hid hlst
    have Hlen := Lib.hid (show Lb.length ≤ 64 from hlen)
    obtain ⟨pm, hpm⟩ : ∃ pm, pm = Lb.length - 1 := ⟨_, rfl⟩
    have hpn : pm < Lb.length := by omega
    rw [← hpm] at hwl q
    clear hown hints hlst
    by_cases h4 : (sn : Int) - 2 - all < lst
    · have e4 : decide ((sn : Int) - 2 - all < (lst : Int)) = true := by simpa using h4
      have hno : Hid (¬ Named sn all M) := Lib.hid (fun h => by have := (Hnb.out.1 h).2.2 h3; rw [← Hlst.out] at this; omega)
      clear hpm
      go_quiet ((go_at_call 41; exact Calls.quiet_of_same (hsent.out _ (Hk1.out.drewN _))))
      go_wp2
      go_ret2
      exact .inl ⟨hno.out, rfl, Hk1.out.drewN _⟩
    · have e4 : decide ((sn : Int) - 2 - all < (lst : Int)) = false := by simpa using h4
      have hyes : Hid (Named sn all M) := Lib.hid (Hnb.out.2 ⟨by omega, by omega, fun h => by rw [← Hlst.out]; omega⟩)
      clear hpm
      go_quiet ((go_at_call 41; exact Calls.quiet_of_same (hsent.out _ (Hk1.out.drewN _))))
      clear q e1 e2 e3 e4 hwl hws hws2
      go_wp2_with fail
      generalize hw2 : (World.drewN _ _) = w2
      have hk2 : Keep [] w w2 := by rw [← hw2]; exact Hk1.out.drewN _
      have hownB2 : w2.ownsRow w.heap.size 3 1 (.slice (some ⟨gB, 0, none⟩) Lb.length cB) Lb.length (ints Lb) := by rw [← hw2]; exact HownB.out
      have hR2 := Hdr.out w2 hk2
      have HownB2 := Lib.hid hownB2
      have HR2 := Lib.hid hR2
      have Hk2 := Lib.hid hk2
      have H0 : Hid (RAI base br sz ag now AL cL l all M w2 0 w2) := Lib.hid ⟨hR2.1, by rw [rackL_zero]; exact hR2.2, Keep.refl _ _⟩
      clear hw2 hk2 hownB2 hR2
      go_loopw [9, 10] (fun n i wr => ∃ k f : Nat, i = .int .i64 k ∧ k ≤ l.length ∧ n = .int .i64 f ∧ f ≤ k ∧ Hid (f = rackF all M (l.take k) 1) ∧ Hid (RAI base br sz ag now AL cL l all M w2 k wr)) (fun _ i _ => l.length - (intOf i).toNat)
      case atStart => exact ⟨0, 0, rfl, by omega, rfl, by omega, Lib.hid (by simp [rackF]), H0⟩
      case round =>
        obtain ⟨k, f, rfl, hk, rfl, hf, hff, hI⟩ := hrel
        clear H0
        rcases Nat.lt_or_ge k l.length with hkl | hkl
        · as_aux_lemma =>
            obtain ⟨hT, hown, hkp⟩ := hI.out
            have r3 : wr.cell? ⟨br, 3, none⟩ = some (.slice AL l.length cL) := hT.cell 3
            have hownBr := ownsRow_keep HownB2.out hkp (by
              intro i hi
              have := own_ne_own HownB2.out HR2.out.2 (by decide) hi
              simpa using this)
            have HB2 : Hid (∀ j, j < Lb.length → ∃ g1, (some ⟨gB, 0, none⟩) = (some ⟨g1, 0, none⟩ : Option Addr) ∧ wr.cell? ⟨g1, j, none⟩ = some (.int .i64 (Lb.getD j 0 : Nat))) := Lib.hid (fun j hj => by
              have hx := hownBr
              obtain ⟨g1, e1, _⟩ := own_some hx (by omega)
              rw [e1] at hx
              exact ⟨g1, e1, (ownsRow_cell hx (show (ints Lb)[j]? = some (.int .i64 (Lb.getD j 0 : Nat)) by simp [ints, hj, getD_at hj])).1⟩)
            obtain ⟨g, rfl, hg1, hg2⟩ := own_some hown (by omega)
            have hk' : k < (rackL all M 1 k l).length := by rw [rackL_len]; exact hkl
            have hat := rackL_at (all := all) (M := M) (bse := 1) hkl hk'
            have y1 := ownsRow_cell hown (show _ = some (.bool l[k].done) by rw [rf_get rcells_len _ k 1 hk' (by omega), hat]; rfl)
            obtain ⟨y1, fz⟩ := y1
            have hhk := Hhit.out k
            have h1k : (1 : Int) + k = (k : Int) + 1 := by omega
            have HSet : Hid (hitB all M ((k : Int) + 1) = true → RAI base br sz ag now (some ⟨g, 0, none⟩) cL l all M w2 (k + 1) (wr.setCell ⟨g, k * 3 + 1, none⟩ (.bool true))) := Lib.hid (fun h => by
              refine ⟨Blk.far hT (by simpa using fun e => own_ne_blk hown hT (by decide) (by rw [e]; rfl)) _, ?_, hkp.setCell (.inl (by simp [Value.ownBlock])) _⟩
              have h1 := ownsRow_set hown (k * 3 + 1) (by omega) (.bool true)
              have s1 : ((rackL all M 1 k l).flatMap rcells).set (k * 3 + 1) (.bool true) = ((rackL all M 1 k l).set k (rackU all M (1 + k) l[k])).flatMap rcells :=
                rf_set rcells_len _ k 1 hk' (by omega) _ _ (by rw [hat, h1k]; unfold rackU; rw [if_pos h]; rfl)
              rw [s1, rackL_set hkl] at h1
              exact h1)
            have HSkip : Hid (hitB all M ((k : Int) + 1) = false ∨ l[k].done = true → RAI base br sz ag now (some ⟨g, 0, none⟩) cL l all M w2 (k + 1) wr) := Lib.hid (fun h => by
              refine ⟨hT, ?_, hkp⟩
              rw [rackL_skip hkl (by
                rw [h1k]
                unfold rackU
                rcases h with h | h
                · rw [h]; rfl
                · split
                  · cases hx : l[k] with | mk a b c => rw [hx] at h; dsimp only at h; rw [h]
                  · rfl)]
              exact hown)
            have HF1 : Hid (hitB all M ((k : Int) + 1) = true → l[k].done = false → f + 1 = rackF all M (l.take (k + 1)) 1) := Lib.hid (fun h h2 => by rw [rackF_take hkl, h1k, ← hff.out, if_pos ⟨h, h2⟩])
            have HF0 : Hid (hitB all M ((k : Int) + 1) = false ∨ l[k].done = true → f = rackF all M (l.take (k + 1)) 1) := Lib.hid (fun h => by
              rw [rackF_take hkl, h1k, ← hff.out, if_neg (by
                rintro ⟨h1, h2⟩
                rcases h with h | h
                · rw [h] at h1; cases h1
                · rw [h] at h2; cases h2)]
              rfl)
            have Hhk := Lib.hid hhk
            generalize hdn : l[k].done = dn at *
            have hwk : IntKind.i64.wrap ((k : Int) + 1) = (k : Int) + 1 := by rw [IntKind.wrap_i64]; omega
            have hwf : IntKind.i64.wrap ((f : Int) + 1) = (f : Int) + 1 := by rw [IntKind.wrap_i64]; omega
            have hwa : IntKind.i64.wrap (all + 2) = all + 2 := by rw [IntKind.wrap_i64]; omega
            clear hI hT hown hkp hownBr hat hhk hdn h1k
            go_wp2_with fail
            go_loop [11, 12] (fun ok kk => ∃ (j : Nat) (b : Bool), ok = .bool b ∧ kk = .int .i64 j ∧ j ≤ Lb.length ∧ Hid (b = (decide ((k : Int) < all) || (Lb.take j).any fun x => decide ((k : Int) + 1 = all + 2 + x)))) (fun _ kk => Lb.length - (intOf kk).toNat)
            case atStart => exact ⟨0, _, rfl, rfl, by omega, Lib.hid (by simp)⟩
            case round =>
              obtain ⟨j, b, rfl, rfl, hj, hb⟩ := hrel
              rcases Nat.lt_or_ge j Lb.length with hjl | hjl
              · obtain ⟨g1, hAB, z⟩ := HB2.out j hjl
                obtain rfl : gB = g1 := by injection hAB with h; injection h
                have hx64 := H64.out j hjl
                have htk : (Lb.take (j + 1)).any (fun x => decide ((k : Int) + 1 = all + 2 + x)) = ((Lb.take j).any (fun x => decide ((k : Int) + 1 = all + 2 + x)) || decide ((k : Int) + 1 = all + 2 + (Lb.getD j 0 : Nat))) := by
                  rw [List.take_succ_eq_append_getElem hjl, List.any_append, getD_at hjl]
                  simp
                generalize Lb.getD j 0 = x at *
                have hwj : IntKind.i64.wrap ((j : Int) + 1) = (j : Int) + 1 := by rw [IntKind.wrap_i64]; omega
                have hwx : IntKind.i64.wrap (all + 2 + (x : Int)) = all + 2 + x := by rw [IntKind.wrap_i64]; omega
                have Htk := Lib.hid htk
                clear htk
                cases b with
                | true =>
                  clear z
                  have hnext : Hid (true = (decide ((k : Int) < all) || (Lb.take (j + 1)).any fun x => decide ((k : Int) + 1 = all + 2 + x))) := Lib.hid (by rw [Htk.out, ← Bool.or_assoc, ← hb.out]; rfl)
                  go_wp2
                  exact ⟨⟨j + 1, true, rfl, by simp, by omega, hnext⟩, by simp [intOf]; omega⟩
                | false =>
                  have hnext : Hid (decide ((k : Int) + 1 = all + 2 + x) = (decide ((k : Int) < all) || (Lb.take (j + 1)).any fun x => decide ((k : Int) + 1 = all + 2 + x))) := Lib.hid (by rw [Htk.out, ← Bool.or_assoc, ← hb.out]; rfl)
                  by_cases he : (k : Int) + 1 = all + 2 + x
                  · have he1 : ((k : Int) + 1 == all + 2 + x) = true := by simpa using he
                    have hnext2 : Hid (true = (decide ((k : Int) < all) || (Lb.take (j + 1)).any fun x => decide ((k : Int) + 1 = all + 2 + x))) := Lib.hid (by rw [← hnext.out]; simp [he])
                    clear he
                    go_wp2
                    exact ⟨⟨j + 1, true, rfl, by simp, by omega, hnext2⟩, by simp [intOf]; omega⟩
                  · have he1 : ((k : Int) + 1 == all + 2 + x) = false := by simpa using he
                    have hnext2 : Hid (false = (decide ((k : Int) < all) || (Lb.take (j + 1)).any fun x => decide ((k : Int) + 1 = all + 2 + x))) := Lib.hid (by rw [← hnext.out]; simp [he])
                    clear he
                    go_wp2
                    exact ⟨⟨j + 1, false, rfl, by simp, by omega, hnext2⟩, by simp [intOf]; omega⟩
              · obtain rfl : j = Lb.length := by omega
                have hb2 : b = hitB all M ((k : Int) + 1) := by rw [Hhk.out, hb.out, List.take_length]
                have Hb2 := Lib.hid hb2
                clear hb2 hb
                cases b with
                | false =>
                  clear y1 fz r3
                  have e1 := HSkip.out (.inl Hb2.out.symm)
                  have e2 := HF0.out (.inl Hb2.out.symm)
                  have E1 := Lib.hid e1
                  have E2 := Lib.hid e2
                  clear e1 e2
                  go_wp2
                  exact ⟨⟨k + 1, f, by simp, by omega, rfl, by omega, E2, E1⟩, by simp [intOf]; omega⟩
                | true =>
                  cases dn with
                  | true =>
                    have E1 := Lib.hid (HSkip.out (.inr rfl))
                    have E2 := Lib.hid (HF0.out (.inr rfl))
                    go_wp2
                    exact ⟨⟨k + 1, f, by simp, by omega, rfl, by omega, E2, E1⟩, by simp [intOf]; omega⟩
                  | false =>
                    have E1 := Lib.hid (HSet.out Hb2.out.symm)
                    have E2 := Lib.hid (HF1.out Hb2.out.symm rfl)
                    go_wp2
                    exact ⟨⟨k + 1, f + 1, by simp, by omega, by simp, by omega, E2, E1⟩, by simp [intOf]; omega⟩
        · obtain rfl : k = l.length := by omega
          have r3 : wr.cell? ⟨br, 3, none⟩ = some (.slice AL l.length cL) := hI.out.1.cell 3
          have HI2 := Lib.hid hI.out
          have Hf := Lib.hid hff.out
          clear hI hff
          go_wp2
          go_ret2
          obtain ⟨hT, hown, hkp⟩ := HI2.out
          have hf2 := Hf.out
          rw [List.take_length] at hf2
          rw [rackL_all] at hown
          refine .inr ⟨hyes.out, by rw [← hf2]; rfl, ⟨by rw [rackR_len]; exact hT, by rw [rackR_len]; exact hown⟩, (Hk2.out.mono (by simp)).trans hkp⟩
  · have e3 : decide (0 < (Lb.length : Int)) = false := by simpa using h3
    have hyes : Hid (Named sn all M) := Lib.hid (Hnb.out.2 ⟨by omega, by omega, fun h => absurd h h3⟩)
    have Hints : Hid (∀ j, j < Lb.length → w1.cell? ⟨0, j, none⟩ = some (.int .i64 (Lb.getD j 0 : Nat))) := Lib.hid (fun j hj => by omega)
    go_quiet ((go_at_call 41; exact Calls.quiet_of_same (hsent.out _ (Hk1.out.drewN _))))
    clear e1 e2 e3
    go_wp2_with fail
    generalize hw2 : (World.drewN _ _) = w2
    have hk2 : Keep [] w w2 := by rw [← hw2]; exact Hk1.out.drewN _
    have hownB2 : w2.ownsRow w.heap.size 3 1 (.slice AB Lb.length cB) Lb.length (ints Lb) := by rw [← hw2]; exact HownB.out
    have hR2 := Hdr.out w2 hk2
    have HownB2 := Lib.hid hownB2
    have HR2 := Lib.hid hR2
    have Hk2 := Lib.hid hk2
    have H0 : Hid (RAI base br sz ag now AL cL l all M w2 0 w2) := Lib.hid ⟨hR2.1, by rw [rackL_zero]; exact hR2.2, Keep.refl _ _⟩
    clear hw2 hk2 hownB2 hR2
    go_loopw [9, 10] (fun n i wr => ∃ k f : Nat, i = .int .i64 k ∧ k ≤ l.length ∧ n = .int .i64 f ∧ f ≤ k ∧ Hid (f = rackF all M (l.take k) 1) ∧ Hid (RAI base br sz ag now AL cL l all M w2 k wr)) (fun _ i _ => l.length - (intOf i).toNat)
    case atStart => exact ⟨0, 0, rfl, by omega, rfl, by omega, Lib.hid (by simp [rackF]), H0⟩
    case round =>
      obtain ⟨k, f, rfl, hk, rfl, hf, hff, hI⟩ := hrel
      clear H0
      rcases Nat.lt_or_ge k l.length with hkl | hkl
      · as_aux_lemma =>
          obtain ⟨hT, hown, hkp⟩ := hI.out
          have r3 : wr.cell? ⟨br, 3, none⟩ = some (.slice AL l.length cL) := hT.cell 3
          have hownBr := ownsRow_keep HownB2.out hkp (by
            intro i hi
            have := own_ne_own HownB2.out HR2.out.2 (by decide) hi
            simpa using this)
          have HB2 : Hid (∀ j, j < Lb.length → ∃ g1, AB = (some ⟨g1, 0, none⟩ : Option Addr) ∧ wr.cell? ⟨g1, j, none⟩ = some (.int .i64 (Lb.getD j 0 : Nat))) := Lib.hid (fun j hj => by
            have hx := hownBr
            obtain ⟨g1, e1, _⟩ := own_some hx (by omega)
            rw [e1] at hx
            exact ⟨g1, e1, (ownsRow_cell hx (show (ints Lb)[j]? = some (.int .i64 (Lb.getD j 0 : Nat)) by simp [ints, hj, getD_at hj])).1⟩)
          obtain ⟨g, rfl, hg1, hg2⟩ := own_some hown (by omega)
          have hk' : k < (rackL all M 1 k l).length := by rw [rackL_len]; exact hkl
          have hat := rackL_at (all := all) (M := M) (bse := 1) hkl hk'
          have y1 := ownsRow_cell hown (show _ = some (.bool l[k].done) by rw [rf_get rcells_len _ k 1 hk' (by omega), hat]; rfl)
          obtain ⟨y1, fz⟩ := y1
          have hhk := Hhit.out k
          have h1k : (1 : Int) + k = (k : Int) + 1 := by omega
          have HSet : Hid (hitB all M ((k : Int) + 1) = true → RAI base br sz ag now (some ⟨g, 0, none⟩) cL l all M w2 (k + 1) (wr.setCell ⟨g, k * 3 + 1, none⟩ (.bool true))) := Lib.hid (fun h => by
            refine ⟨Blk.far hT (by simpa using fun e => own_ne_blk hown hT (by decide) (by rw [e]; rfl)) _, ?_, hkp.setCell (.inl (by simp [Value.ownBlock])) _⟩
            have h1 := ownsRow_set hown (k * 3 + 1) (by omega) (.bool true)
            have s1 : ((rackL all M 1 k l).flatMap rcells).set (k * 3 + 1) (.bool true) = ((rackL all M 1 k l).set k (rackU all M (1 + k) l[k])).flatMap rcells :=
              rf_set rcells_len _ k 1 hk' (by omega) _ _ (by rw [hat, h1k]; unfold rackU; rw [if_pos h]; rfl)
            rw [s1, rackL_set hkl] at h1
            exact h1)
          have HSkip : Hid (hitB all M ((k : Int) + 1) = false ∨ l[k].done = true → RAI base br sz ag now (some ⟨g, 0, none⟩) cL l all M w2 (k + 1) wr) := Lib.hid (fun h => by
            refine ⟨hT, ?_, hkp⟩
            rw [rackL_skip hkl (by
              rw [h1k]
              unfold rackU
              rcases h with h | h
              · rw [h]; rfl
              · split
                · cases hx : l[k] with | mk a b c => rw [hx] at h; dsimp only at h; rw [h]
                · rfl)]
            exact hown)
          have HF1 : Hid (hitB all M ((k : Int) + 1) = true → l[k].done = false → f + 1 = rackF all M (l.take (k + 1)) 1) := Lib.hid (fun h h2 => by rw [rackF_take hkl, h1k, ← hff.out, if_pos ⟨h, h2⟩])
          have HF0 : Hid (hitB all M ((k : Int) + 1) = false ∨ l[k].done = true → f = rackF all M (l.take (k + 1)) 1) := Lib.hid (fun h => by
            rw [rackF_take hkl, h1k, ← hff.out, if_neg (by
              rintro ⟨h1, h2⟩
              rcases h with h | h
              · rw [h] at h1; cases h1
              · rw [h] at h2; cases h2)]
            rfl)
          have Hhk := Lib.hid hhk
          generalize hdn : l[k].done = dn at *
          have hwk : IntKind.i64.wrap ((k : Int) + 1) = (k : Int) + 1 := by rw [IntKind.wrap_i64]; omega
          have hwf : IntKind.i64.wrap ((f : Int) + 1) = (f : Int) + 1 := by rw [IntKind.wrap_i64]; omega
          have hwa : IntKind.i64.wrap (all + 2) = all + 2 := by rw [IntKind.wrap_i64]; omega
          clear hI hT hown hkp hownBr hat hhk hdn h1k
          go_wp2_with fail
          go_loop [11, 12] (fun ok kk => ∃ (j : Nat) (b : Bool), ok = .bool b ∧ kk = .int .i64 j ∧ j ≤ Lb.length ∧ Hid (b = (decide ((k : Int) < all) || (Lb.take j).any fun x => decide ((k : Int) + 1 = all + 2 + x)))) (fun _ kk => Lb.length - (intOf kk).toNat)
          case atStart => exact ⟨0, _, rfl, rfl, by omega, Lib.hid (by simp)⟩
          case round =>
            obtain ⟨j, b, rfl, rfl, hj, hb⟩ := hrel
            rcases Nat.lt_or_ge j Lb.length with hjl | hjl
            · obtain ⟨g1, hAB, z⟩ := HB2.out j hjl
              subst hAB
              have hx64 := H64.out j hjl
              have htk : (Lb.take (j + 1)).any (fun x => decide ((k : Int) + 1 = all + 2 + x)) = ((Lb.take j).any (fun x => decide ((k : Int) + 1 = all + 2 + x)) || decide ((k : Int) + 1 = all + 2 + (Lb.getD j 0 : Nat))) := by
                rw [List.take_succ_eq_append_getElem hjl, List.any_append, getD_at hjl]
                simp
              generalize Lb.getD j 0 = x at *
              have hwj : IntKind.i64.wrap ((j : Int) + 1) = (j : Int) + 1 := by rw [IntKind.wrap_i64]; omega
              have hwx : IntKind.i64.wrap (all + 2 + (x : Int)) = all + 2 + x := by rw [IntKind.wrap_i64]; omega
              have Htk := Lib.hid htk
              clear htk
              cases b with
              | true =>
                clear z
                have hnext : Hid (true = (decide ((k : Int) < all) || (Lb.take (j + 1)).any fun x => decide ((k : Int) + 1 = all + 2 + x))) := Lib.hid (by rw [Htk.out, ← Bool.or_assoc, ← hb.out]; rfl)
                go_wp2
                exact ⟨⟨j + 1, true, rfl, by simp, by omega, hnext⟩, by simp [intOf]; omega⟩
              | false =>
                have hnext : Hid (decide ((k : Int) + 1 = all + 2 + x) = (decide ((k : Int) < all) || (Lb.take (j + 1)).any fun x => decide ((k : Int) + 1 = all + 2 + x))) := Lib.hid (by rw [Htk.out, ← Bool.or_assoc, ← hb.out]; rfl)
                by_cases he : (k : Int) + 1 = all + 2 + x
                · have he1 : ((k : Int) + 1 == all + 2 + x) = true := by simpa using he
                  have hnext2 : Hid (true = (decide ((k : Int) < all) || (Lb.take (j + 1)).any fun x => decide ((k : Int) + 1 = all + 2 + x))) := Lib.hid (by rw [← hnext.out]; simp [he])
                  clear he
                  go_wp2
                  exact ⟨⟨j + 1, true, rfl, by simp, by omega, hnext2⟩, by simp [intOf]; omega⟩
                · have he1 : ((k : Int) + 1 == all + 2 + x) = false := by simpa using he
                  have hnext2 : Hid (false = (decide ((k : Int) < all) || (Lb.take (j + 1)).any fun x => decide ((k : Int) + 1 = all + 2 + x))) := Lib.hid (by rw [← hnext.out]; simp [he])
                  clear he
                  go_wp2
                  exact ⟨⟨j + 1, false, rfl, by simp, by omega, hnext2⟩, by simp [intOf]; omega⟩
            · obtain rfl : j = Lb.length := by omega
              have hb2 : b = hitB all M ((k : Int) + 1) := by rw [Hhk.out, hb.out, List.take_length]
              have Hb2 := Lib.hid hb2
              clear hb2 hb
              cases b with
              | false =>
                clear y1 fz r3
                have e1 := HSkip.out (.inl Hb2.out.symm)
                have e2 := HF0.out (.inl Hb2.out.symm)
                have E1 := Lib.hid e1
                have E2 := Lib.hid e2
                clear e1 e2
                go_wp2
                exact ⟨⟨k + 1, f, by simp, by omega, rfl, by omega, E2, E1⟩, by simp [intOf]; omega⟩
              | true =>
                cases dn with
                | true =>
                  have E1 := Lib.hid (HSkip.out (.inr rfl))
                  have E2 := Lib.hid (HF0.out (.inr rfl))
                  go_wp2
                  exact ⟨⟨k + 1, f, by simp, by omega, rfl, by omega, E2, E1⟩, by simp [intOf]; omega⟩
                | false =>
                  have E1 := Lib.hid (HSet.out Hb2.out.symm)
                  have E2 := Lib.hid (HF1.out Hb2.out.symm rfl)
                  go_wp2
                  exact ⟨⟨k + 1, f + 1, by simp, by omega, by simp, by omega, E2, E1⟩, by simp [intOf]; omega⟩
      · obtain rfl : k = l.length := by omega
        have r3 : wr.cell? ⟨br, 3, none⟩ = some (.slice AL l.length cL) := hI.out.1.cell 3
        have HI2 := Lib.hid hI.out
        have Hf := Lib.hid hff.out
        clear hI hff
        go_wp2
        go_ret2
        obtain ⟨hT, hown, hkp⟩ := HI2.out
        have hf2 := Hf.out
        rw [List.take_length] at hf2
        rw [rackL_all] at hown
        refine .inr ⟨hyes.out, by rw [← hf2]; rfl, ⟨by rw [rackR_len]; exact hT, by rw [rackR_len]; exact hown⟩, (Hk2.out.mono (by simp)).trans hkp⟩
end Go.Proofs.Ytlkpecalkakpeaa
