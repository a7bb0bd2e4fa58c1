/- The tree of counts, grown: its depths' room is full, its cost is the sum of what was made one, and no lengths cost less. -/
import Derived.Test.YtknjjodkpknglaaHfH
set_option linter.unusedVariables false
set_option linter.unusedSimpArgs false
namespace Go.Huf
theorem step_facts {l : List (Int × Int)} {free : List Nat} {h : Nat → Nat} {p tot : Int} (hI : TI l free h p tot) (hf : 1 < free.length) :
    ∃ a b f2, free.Perm (a :: b :: f2) ∧ (treeStep (l, free)).2 = f2 ++ [l.length] ∧ (treeStep (l, free)).1.length = l.length + 1 ∧ a < l.length ∧ b < l.length ∧ a ≠ b ∧
      (∀ v ∈ f2, v < l.length ∧ wt l b ≤ wt l v) ∧ wt l a ≤ wt l b ∧ (∀ i, i < l.length → wt (treeStep (l, free)).1 i = wt l i) ∧ wt (treeStep (l, free)).1 l.length = wt l a + wt l b ∧
      (∀ i, i < l.length → up1 (treeStep (l, free)).1 i = if i = b then (l.length : Int) else if i = a then (l.length : Int) else up1 l i) ∧ up1 l a = -1 ∧ up1 l b = -1 := by
  obtain ⟨k1, hk1⟩ : ∃ k1, k1 = leastK l free := ⟨_, rfl⟩
  obtain ⟨a, ha⟩ : ∃ a, a = free.getD k1 0 := ⟨_, rfl⟩
  obtain ⟨f1, hf1⟩ : ∃ f1, f1 = free.eraseIdx k1 := ⟨_, rfl⟩
  obtain ⟨k2, hk2⟩ : ∃ k2, k2 = leastK l f1 := ⟨_, rfl⟩
  obtain ⟨b, hb⟩ : ∃ b, b = f1.getD k2 0 := ⟨_, rfl⟩
  obtain ⟨f2, hf2⟩ : ∃ f2, f2 = f1.eraseIdx k2 := ⟨_, rfl⟩
  have hst : treeStep (l, free) = (link (link (l ++ [(wt l a + wt l b, -1)]) a l.length) b l.length, f2 ++ [l.length]) := by
    unfold treeStep
    simp only [← hk1, ← ha, ← hf1, ← hk2, ← hb, ← hf2]
  have h1 : k1 < free.length := by rw [hk1]; exact leastK_lt (by omega)
  have hl1 : f1.length = free.length - 1 := by rw [hf1, List.length_eraseIdx, if_pos h1]
  have h2 : k2 < f1.length := by rw [hk2]; exact leastK_lt (by omega)
  have p1 : free.Perm (a :: f1) := by rw [ha, hf1]; exact erase_perm h1
  have p2 : f1.Perm (b :: f2) := by rw [hb, hf2]; exact erase_perm h2
  have hp : free.Perm (a :: b :: f2) := p1.trans (p2.cons a)
  have hnd : (a :: b :: f2).Nodup := hp.nodup_iff.1 (hI.nod.imp (fun h => by omega))
  have hn1 := List.nodup_cons.1 hnd
  have hn2 := List.nodup_cons.1 hn1.2
  have hba : a ≠ b := fun e => hn1.1 (by simp [e])
  have am : a ∈ free := hp.mem_iff.2 (by simp)
  have bm : b ∈ free := hp.mem_iff.2 (by simp)
  obtain ⟨al, au⟩ := hI.frl a am
  obtain ⟨bl, bu⟩ := hI.frl b bm
  have hleast : ∀ v ∈ free, wt l a ≤ wt l v := fun v hv => by
    rw [List.mem_iff_getElem] at hv
    obtain ⟨j, hj, e⟩ := hv
    have := leastK_le (l := l) (free := free) hj
    rw [← hk1, ← ha] at this
    rw [show free.getD j 0 = v by rw [← e]; simp [List.getD, hj]] at this
    exact this
  have hleast2 : ∀ v ∈ f1, wt l b ≤ wt l v := fun v hv => by
    rw [List.mem_iff_getElem] at hv
    obtain ⟨j, hj, e⟩ := hv
    have := leastK_le (l := l) (free := f1) hj
    rw [← hk2, ← hb] at this
    rw [show f1.getD j 0 = v by rw [← e]; simp [List.getD, hj]] at this
    exact this
  refine ⟨a, b, f2, hp, by rw [hst], by rw [treeStep_len], al, bl, hba, fun v hv => ?_, hleast b bm, fun i hi => ?_, ?_, fun i hi => ?_, au, bu⟩
  · exact ⟨(hI.frl v (hp.mem_iff.2 (by simp [hv]))).1, hleast2 v (p2.mem_iff.2 (by simp [hv]))⟩
  · rw [hst]; dsimp only; rw [link_wt, link_wt, wt_app hi]
  · rw [hst]; dsimp only; rw [link_wt, link_wt, wt_last]
  · rw [hst]; dsimp only
    rw [link_up _ (by rw [link_len, List.length_append]; simp; omega), link_up _ (by rw [List.length_append]; simp; omega), up_app hi]
/-- the sum of what is made one -/
def Hc : Nat → List (Int × Int) × List Nat → Int
  | 0, _ => 0
  | n + 1, s => if 1 < s.2.length then wt (treeStep s).1 s.1.length + Hc n (treeStep s) else 0
/-- no lengths cost less -/
theorem best_run {tot : Int} (K : Nat) : ∀ (n : Nat) (l : List (Int × Int)) (free : List Nat) (h : Nat → Nat) (p : Int) (lam : Nat → Nat), TI l free h p tot →
    (∀ v ∈ free, lam v ≤ K) → krf K lam free ≤ pk K 0 → Hc n (l, free) ≤ cst (wt l) lam free
  | 0, l, free, h, p, lam, hI, hK, hkr => by
    rw [Hc]
    refine Sm_nonneg (fun v hv => Int.mul_nonneg ?_ (by omega))
    have := hI.low v hv
    have := hI.pos
    omega
  | n + 1, l, free, h, p, lam, hI, hK, hkr => by
    have hw0 : ∀ v ∈ free, 0 ≤ wt l v := fun v hv => by
      have := hI.low v hv
      have := hI.pos
      omega
    rw [Hc]
    split
    · rename_i hf
      obtain ⟨a, b, f2, hp, hs2, hlen, hal, hbl, hab, hf2, hwab, hwl, hwn, hul, _, _⟩ := step_facts hI hf
      obtain ⟨h', p', hI'⟩ := hI.step hf
      obtain ⟨lam', e1, e2, e3, e4, e5⟩ := best_step (w := wt l) (lam := lam) hp (hI.nod.imp (fun h => by omega)) hw0 hwab (fun v hv => (hf2 v hv).2) hK hkr
      have hbm : b ∈ free := hp.mem_iff.2 (by simp)
      have ham : a ∈ free := hp.mem_iff.2 (by simp)
      obtain ⟨mu, hmu⟩ : ∃ mu : Nat → Nat, mu = fun v => if v = l.length then lam' a - 1 else lam' v := ⟨_, rfl⟩
      have hmn : mu l.length = lam' a - 1 := by rw [hmu]; simp
      have hmv : ∀ v ∈ f2, mu v = lam' v := fun v hv => by
        rw [hmu]
        dsimp only
        rw [if_neg (by have := (hf2 v hv).1; omega)]
      obtain ⟨l', f', hs'⟩ : ∃ l' f', treeStep (l, free) = (l', f') := ⟨_, _, rfl⟩
      rw [hs'] at hs2 hlen hwl hwn hI' ⊢
      dsimp only at hs2 hlen hwl hwn hI' ⊢
      subst hs2
      have hkr' : krf K mu (f2 ++ [l.length]) ≤ pk K 0 := by
        have h1 : krf K lam' free = pk K (lam' a) + (pk K (lam' b) + krf K lam' f2) := by unfold krf; rw [Sm_perm hp, Sm_cons, Sm_cons]
        have h2 : krf K mu (f2 ++ [l.length]) = krf K lam' f2 + pk K (lam' a - 1) := by
          unfold krf
          rw [Sm_snoc, hmn, Sm_congr (F := fun v => pk K (mu v)) (G := fun v => pk K (lam' v)) (fun v hv => by rw [hmv v hv])]
        have h3 := pk_two (K := K) e2 (e3 a ham)
        rw [← e1] at h1
        omega
      have hK' : ∀ v ∈ f2 ++ [l.length], mu v ≤ K := fun v hv => by
        rcases List.mem_append.1 hv with hv | hv
        · rw [hmv v hv]; exact e3 v (hp.mem_iff.2 (by simp [hv]))
        · simp at hv
          rw [hv, hmn]
          have := e3 a ham
          omega
      have ih := best_run K n l' (f2 ++ [l.length]) h' p' mu hI' hK' hkr'
      have hc1 : cst (wt l') mu (f2 ++ [l.length]) = cst (wt l) lam' f2 + (wt l a + wt l b) * ((lam' a - 1 : Nat) : Int) := by
        unfold cst
        rw [Sm_snoc, hmn, hwn, Sm_congr (F := fun v => wt l' v * (mu v : Int)) (G := fun v => wt l v * (lam' v : Int)) (fun v hv => by rw [hmv v hv, hwl v (hf2 v hv).1])]
      have hc2 : cst (wt l) lam' free = wt l a * (lam' a : Int) + (wt l b * (lam' b : Int) + cst (wt l) lam' f2) := by unfold cst; rw [Sm_perm hp, Sm_cons, Sm_cons]
      rw [← e1] at hc2
      have hx : (wt l a + wt l b) * ((lam' a - 1 : Nat) : Int) = wt l a * (lam' a : Int) + wt l b * (lam' a : Int) - (wt l a + wt l b) := by
        obtain ⟨m, hm⟩ : ∃ m, lam' a = m + 1 := ⟨lam' a - 1, by omega⟩
        rw [hm, Nat.add_sub_cancel, Int.natCast_add, Int.mul_add, Int.mul_add, Int.add_mul]
        simp
        omega
      rw [hwn]
      omega
    · refine Sm_nonneg (fun v hv => Int.mul_nonneg (hw0 v hv) (by omega))
/-- in how many nodes the one at i stands -/
def Dp (L : List (Int × Int)) (i : Nat) : Nat := upN L L.length (up1 L i)
/-- in the end nobody stands but in a later one -/
def Ups (L : List (Int × Int)) : Prop := ∀ i, i < L.length → up1 L i = -1 ∨ ∃ t : Nat, up1 L i = t ∧ i < t ∧ t < L.length
theorem upN_fuel {L : List (Int × Int)} (hU : Ups L) : ∀ (f g i : Nat), i < L.length → L.length - 1 - i ≤ f → L.length - 1 - i ≤ g → upN L f (up1 L i) = upN L g (up1 L i)
  | 0, 0, i, hi, h1, h2 => rfl
  | 0, g + 1, i, hi, h1, h2 => by
    rcases hU i hi with h | ⟨t, h, h3, h4⟩
    · rw [h, upN, upN, if_pos (by omega)]
    · omega
  | f + 1, 0, i, hi, h1, h2 => by
    rcases hU i hi with h | ⟨t, h, h3, h4⟩
    · rw [h, upN, upN, if_pos (by omega)]
    · omega
  | f + 1, g + 1, i, hi, h1, h2 => by
    rcases hU i hi with h | ⟨t, h, h3, h4⟩
    · rw [h, upN, upN, if_pos (by omega), if_pos (by omega)]
    · rw [h, upN, upN, if_neg (by omega), if_neg (by omega), Int.toNat_natCast, upN_fuel hU f g t h4 (by omega) (by omega)]
theorem Dp_none {L : List (Int × Int)} {i : Nat} (h : up1 L i = -1) : Dp L i = 0 := by
  unfold Dp
  rw [h]
  cases L.length with
  | zero => rfl
  | succ n => rw [upN, if_pos (by omega)]
theorem Dp_up {L : List (Int × Int)} (hU : Ups L) {i t : Nat} (hi : i < L.length) (h : up1 L i = t) : Dp L i = Dp L t + 1 := by
  have ht : i < t ∧ t < L.length := by
    rcases hU i hi with h1 | ⟨t', h1, h2, h3⟩
    · omega
    · have : t' = t := by omega
      subst this
      exact ⟨h2, h3⟩
  unfold Dp
  obtain ⟨f, hf⟩ : ∃ f, L.length = f + 1 := ⟨L.length - 1, by omega⟩
  conv => lhs; rw [h, hf, upN, if_neg (by omega), Int.toNat_natCast]
  rw [upN_fuel hU f L.length t ht.2 (by omega) (by omega)]
theorem TI.to_ups {l : List (Int × Int)} {free : List Nat} {h : Nat → Nat} {p tot : Int} (hI : TI l free h p tot) : Ups l := fun i hi => by
  rcases hI.ups i hi with ⟨h1, _⟩ | ⟨t, h1, h2, h3, _⟩
  · exact .inl h1
  · exact .inr ⟨t, h1, h2, h3⟩
/-- who stands in one stays there -/
theorem up_stays {tot : Int} : ∀ (n : Nat) (l : List (Int × Int)) (free : List Nat) (h : Nat → Nat) (p : Int), TI l free h p tot → ∀ i, i < l.length → 0 ≤ up1 l i → up1 (treeF n (l, free)).1 i = up1 l i
  | 0, _, _, _, _, _, _, _, _ => rfl
  | n + 1, l, free, h, p, hI, i, hi, hu => by
    rw [treeF]
    split
    · rename_i hf
      obtain ⟨a, b, f2, hp, hs2, hlen, hal, hbl, hab, hf2, hwab, hwl, hwn, hul, hua, hub⟩ := step_facts hI hf
      obtain ⟨h', p', hI'⟩ := hI.step hf
      have hi' : up1 (treeStep (l, free)).1 i = up1 l i := by
        rw [hul i hi, if_neg (fun e => by rw [e] at hu; omega), if_neg (fun e => by rw [e] at hu; omega)]
      rw [up_stays n _ _ h' p' hI' i (by rw [hlen]; omega) (by rw [hi']; exact hu), hi']
    · rfl
/-- what the depths of those that stand in none cost in the end, and their room -/
theorem cost_run {tot : Int} (K : Nat) : ∀ (n : Nat) (l : List (Int × Int)) (free : List Nat) (h : Nat → Nat) (p : Int), TI l free h p tot → free.length ≤ n + 1 → 0 < free.length →
    cst (wt l) (Dp (treeF n (l, free)).1) free = Hc n (l, free) ∧ ((∀ v ∈ free, Dp (treeF n (l, free)).1 v ≤ K) → krf K (Dp (treeF n (l, free)).1) free = pk K 0)
  | n, l, free, h, p, hI, hn, h0 => by
    have hone : ¬ 1 < free.length → treeF n (l, free) = (l, free) → Hc n (l, free) = 0 → cst (wt l) (Dp (treeF n (l, free)).1) free = Hc n (l, free) ∧ ((∀ v ∈ free, Dp (treeF n (l, free)).1 v ≤ K) → krf K (Dp (treeF n (l, free)).1) free = pk K 0) := fun h1 h2 h3 => by
      rw [h2, h3]
      obtain ⟨x, rfl⟩ := List.length_eq_one_iff.1 (show free.length = 1 by omega)
      have := Dp_none (hI.frl x (by simp)).2
      constructor
      · unfold cst; simp [Sm, this]
      · intro _; unfold krf; simp [Sm, this]
    cases n with
    | zero => exact hone (by omega) rfl rfl
    | succ n =>
      by_cases hf : 1 < free.length
      · obtain ⟨a, b, f2, hp, hs2, hlen, hal, hbl, hab, hf2, hwab, hwl, hwn, hul, hua, hub⟩ := step_facts hI hf
        obtain ⟨h', p', hI'⟩ := hI.step hf
        have hfl := treeStep_free (s := (l, free)) hf
        have hrun := TI.run (h := h') (p := p') n _ _ h' p' hI'
        have e0 : treeF (n + 1) (l, free) = treeF n (treeStep (l, free)) := by rw [treeF]; rw [if_pos hf]
        have ih := cost_run K n (treeStep (l, free)).1 (treeStep (l, free)).2 h' p' hI' (by dsimp only at hfl; omega) (by dsimp only at hfl; omega)
        have hge := treeF_ge n (treeStep (l, free))
        have hsa := up_stays n _ _ h' p' hI' a (by rw [hlen]; omega) (by rw [hul a hal]; split <;> simp <;> omega)
        have hsb := up_stays n _ _ h' p' hI' b (by rw [hlen]; omega) (by rw [hul b hbl, if_pos rfl]; omega)
        rw [hul a hal, if_neg hab, if_pos rfl] at hsa
        rw [hul b hbl, if_pos rfl] at hsb
        rw [hs2] at ih
        have hHc : Hc (n + 1) (l, free) = wt (treeStep (l, free)).1 l.length + Hc n (treeStep (l, free)) := by rw [Hc]; rw [if_pos hf]
        have hHs : Hc n ((treeStep (l, free)).1, f2 ++ [l.length]) = Hc n (treeStep (l, free)) := by rw [← hs2]
        have hTs : treeF n ((treeStep (l, free)).1, f2 ++ [l.length]) = treeF n (treeStep (l, free)) := by rw [← hs2]
        rw [hHs, hTs] at ih
        rw [e0, hHc, hwn]
        have hTs2 : treeF n ((treeStep (l, free)).1, (treeStep (l, free)).2) = treeF n (treeStep (l, free)) := rfl
        rw [hTs2] at hsa hsb hrun
        obtain ⟨h'', p'', hI''⟩ := hrun
        generalize (treeF n (treeStep (l, free))).1 = L at *
        have hU := hI''.to_ups
        have hda := Dp_up hU (by omega) hsa
        have hdb := Dp_up hU (by omega) hsb
        obtain ⟨ih1, ih2⟩ := ih
        constructor
        · have h1 : cst (wt (treeStep (l, free)).1) (Dp L) (f2 ++ [l.length]) = cst (wt l) (Dp L) f2 + (wt l a + wt l b) * (Dp L l.length : Int) := by
            unfold cst
            rw [Sm_snoc, hwn, Sm_congr (F := fun v => wt (treeStep (l, free)).1 v * (Dp L v : Int)) (G := fun v => wt l v * (Dp L v : Int)) (fun v hv => by rw [hwl v (hf2 v hv).1])]
          have h2 : cst (wt l) (Dp L) free = wt l a * (Dp L a : Int) + (wt l b * (Dp L b : Int) + cst (wt l) (Dp L) f2) := by unfold cst; rw [Sm_perm hp, Sm_cons, Sm_cons]
          rw [hda, hdb, Int.natCast_add, Int.mul_add, Int.mul_add] at h2
          rw [Int.add_mul] at h1
          simp only [Int.natCast_one, Int.mul_one] at h2
          omega
        · intro hK
          have hKa := hK a (hp.mem_iff.2 (by simp))
          have ih2' := ih2 (fun v hv => by
            rcases List.mem_append.1 hv with hv | hv
            · exact hK v (hp.mem_iff.2 (by simp [hv]))
            · simp at hv
              rw [hv]
              omega)
          have h1 : krf K (Dp L) (f2 ++ [l.length]) = krf K (Dp L) f2 + pk K (Dp L l.length) := by unfold krf; rw [Sm_snoc]
          have h2 : krf K (Dp L) free = pk K (Dp L a) + (pk K (Dp L b) + krf K (Dp L) f2) := by unfold krf; rw [Sm_perm hp, Sm_cons, Sm_cons]
          have h3 := pk_two (K := K) (m := Dp L a) (by omega) hKa
          rw [hda, Nat.add_sub_cancel] at h3
          rw [hda, hdb] at h2
          omega
      · exact hone hf (by rw [treeF]; rw [if_neg hf]) (by rw [Hc]; rw [if_neg hf])
end Go.Huf
