/- The reference's Pack, walked. -/
import Derived.Test.YtdnaahbhfjclpaaGreatDoorHfH
import Derived.Test.YtdnaahbhfjclpaaGreatDoorHfK
import Derived.Test.YtdnaahbhfjclpaaGreatDoorR3
import Derived.Test.YtdnaahbhfjclpaaGreatDoorCp3
import Derived.Test.YtdnaahbhfjclpaaGreatDoorShelf
import Derived.Test.YtdnaahbhfjclpaaGreatDoorK3
import Derived.Test.YtdnaahbhfjclpaaGreatDoorWc
set_option linter.unusedVariables false
set_option linter.unusedSimpArgs false
namespace Go.Huf
theorem step_facts {l : List (Int × Int)} {free : List Nat} {h : Nat → Nat} {p tot : Int} (hI : TI l free h p tot) (hf : 1 < free.length) :
    ∃ a b f2, free.Perm (a :: b :: f2) ∧ (treeStep (l, free)).2 = f2 ++ [l.length] ∧ (treeStep (l, free)).1.length = l.length + 1 ∧ a < l.length ∧ b < l.length ∧ a ≠ b ∧
      (∀ v ∈ f2, v < l.length ∧ wt l b ≤ wt l v) ∧ wt l a ≤ wt l b ∧ (∀ i, i < l.length → wt (treeStep (l, free)).1 i = wt l i) ∧ wt (treeStep (l, free)).1 l.length = wt l a + wt l b ∧
      (∀ i, i < l.length → up1 (treeStep (l, free)).1 i = if i = b then (l.length : Int) else if i = a then (l.length : Int) else up1 l i) ∧ up1 l a = -1 ∧ up1 l b = -1 := by
  obtain ⟨k1, hk1⟩ : ∃ k1, k1 = leastK l free := ⟨_, rfl⟩
  obtain ⟨a, ha⟩ : ∃ a, a = free.getD k1 0 := ⟨_, rfl⟩
  obtain ⟨f1, hf1⟩ : ∃ f1, f1 = free.eraseIdx k1 := ⟨_, rfl⟩
  obtain ⟨k2, hk2⟩ : ∃ k2, k2 = leastK l f1 := ⟨_, rfl⟩
  obtain ⟨b, hb⟩ : ∃ b, b = f1.getD k2 0 := ⟨_, rfl⟩
  obtain ⟨f2, hf2⟩ : ∃ f2, f2 = f1.eraseIdx k2 := ⟨_, rfl⟩
  have hst : treeStep (l, free) = (link (link (l ++ [(wt l a + wt l b, -1)]) a l.length) b l.length, f2 ++ [l.length]) := by
    unfold treeStep
    simp only [← hk1, ← ha, ← hf1, ← hk2, ← hb, ← hf2]
  have h1 : k1 < free.length := by rw [hk1]; exact leastK_lt (by omega)
  have hl1 : f1.length = free.length - 1 := by rw [hf1, List.length_eraseIdx, if_pos h1]
  have h2 : k2 < f1.length := by rw [hk2]; exact leastK_lt (by omega)
  have p1 : free.Perm (a :: f1) := by rw [ha, hf1]; exact erase_perm h1
  have p2 : f1.Perm (b :: f2) := by rw [hb, hf2]; exact erase_perm h2
  have hp : free.Perm (a :: b :: f2) := p1.trans (p2.cons a)
  have hnd : (a :: b :: f2).Nodup := hp.nodup_iff.1 (hI.nod.imp (fun h => by omega))
  have hn1 := List.nodup_cons.1 hnd
  have hn2 := List.nodup_cons.1 hn1.2
  have hba : a ≠ b := fun e => hn1.1 (by simp [e])
  have am : a ∈ free := hp.mem_iff.2 (by simp)
  have bm : b ∈ free := hp.mem_iff.2 (by simp)
  obtain ⟨al, au⟩ := hI.frl a am
  obtain ⟨bl, bu⟩ := hI.frl b bm
  have hleast : ∀ v ∈ free, wt l a ≤ wt l v := fun v hv => by
    rw [List.mem_iff_getElem] at hv
    obtain ⟨j, hj, e⟩ := hv
    have := leastK_le (l := l) (free := free) hj
    rw [← hk1, ← ha] at this
    rw [show free.getD j 0 = v by rw [← e]; simp [List.getD, hj]] at this
    exact this
  have hleast2 : ∀ v ∈ f1, wt l b ≤ wt l v := fun v hv => by
    rw [List.mem_iff_getElem] at hv
    obtain ⟨j, hj, e⟩ := hv
    have := leastK_le (l := l) (free := f1) hj
    rw [← hk2, ← hb] at this
    rw [show f1.getD j 0 = v by rw [← e]; simp [List.getD, hj]] at this
    exact this
  refine ⟨a, b, f2, hp, by rw [hst], by rw [treeStep_len], al, bl, hba, fun v hv => ?_, hleast b bm, fun i hi => ?_, ?_, fun i hi => ?_, au, bu⟩
  · exact ⟨(hI.frl v (hp.mem_iff.2 (by simp [hv]))).1, hleast2 v (p2.mem_iff.2 (by simp [hv]))⟩
  · rw [hst]; dsimp only; rw [link_wt, link_wt, wt_app hi]
  · rw [hst]; dsimp only; rw [link_wt, link_wt, wt_last]
  · rw [hst]; dsimp only
    rw [link_up _ (by rw [link_len, List.length_append]; simp; omega), link_up _ (by rw [List.length_append]; simp; omega), up_app hi]
def Hc : Nat → List (Int × Int) × List Nat → Int
  | 0, _ => 0
  | n + 1, s => if 1 < s.2.length then wt (treeStep s).1 s.1.length + Hc n (treeStep s) else 0
def Dp (L : List (Int × Int)) (i : Nat) : Nat := upN L L.length (up1 L i)
def Ups (L : List (Int × Int)) : Prop := ∀ i, i < L.length → up1 L i = -1 ∨ ∃ t : Nat, up1 L i = t ∧ i < t ∧ t < L.length
theorem upN_fuel {L : List (Int × Int)} (hU : Ups L) : ∀ (f g i : Nat), i < L.length → L.length - 1 - i ≤ f → L.length - 1 - i ≤ g → upN L f (up1 L i) = upN L g (up1 L i)
  | 0, 0, i, hi, h1, h2 => rfl
  | 0, g + 1, i, hi, h1, h2 => by
    rcases hU i hi with h | ⟨t, h, h3, h4⟩
    · rw [h, upN, upN, if_pos (by omega)]
    · omega
  | f + 1, 0, i, hi, h1, h2 => by
    rcases hU i hi with h | ⟨t, h, h3, h4⟩
    · rw [h, upN, upN, if_pos (by omega)]
    · omega
  | f + 1, g + 1, i, hi, h1, h2 => by
    rcases hU i hi with h | ⟨t, h, h3, h4⟩
    · rw [h, upN, upN, if_pos (by omega), if_pos (by omega)]
    · rw [h, upN, upN, if_neg (by omega), if_neg (by omega), Int.toNat_natCast, upN_fuel hU f g t h4 (by omega) (by omega)]
theorem Dp_none {L : List (Int × Int)} {i : Nat} (h : up1 L i = -1) : Dp L i = 0 := by
  unfold Dp
  rw [h]
  cases L.length with
  | zero => rfl
  | succ n => rw [upN, if_pos (by omega)]
theorem Dp_up {L : List (Int × Int)} (hU : Ups L) {i t : Nat} (hi : i < L.length) (h : up1 L i = t) : Dp L i = Dp L t + 1 := by
  have ht : i < t ∧ t < L.length := by
    rcases hU i hi with h1 | ⟨t', h1, h2, h3⟩
    · omega
    · have : t' = t := by omega
      subst this
      exact ⟨h2, h3⟩
  unfold Dp
  obtain ⟨f, hf⟩ : ∃ f, L.length = f + 1 := ⟨L.length - 1, by omega⟩
  conv => lhs; rw [h, hf, upN, if_neg (by omega), Int.toNat_natCast]
  rw [upN_fuel hU f L.length t ht.2 (by omega) (by omega)]
theorem TI.to_ups {l : List (Int × Int)} {free : List Nat} {h : Nat → Nat} {p tot : Int} (hI : TI l free h p tot) : Ups l := fun i hi => by
  rcases hI.ups i hi with ⟨h1, _⟩ | ⟨t, h1, h2, h3, _⟩
  · exact .inl h1
  · exact .inr ⟨t, h1, h2, h3⟩
theorem up_stays {tot : Int} : ∀ (n : Nat) (l : List (Int × Int)) (free : List Nat) (h : Nat → Nat) (p : Int), TI l free h p tot → ∀ i, i < l.length → 0 ≤ up1 l i → up1 (treeF n (l, free)).1 i = up1 l i
  | 0, _, _, _, _, _, _, _, _ => rfl
  | n + 1, l, free, h, p, hI, i, hi, hu => by
    rw [treeF]
    split
    · rename_i hf
      obtain ⟨a, b, f2, hp, hs2, hlen, hal, hbl, hab, hf2, hwab, hwl, hwn, hul, hua, hub⟩ := step_facts hI hf
      obtain ⟨h', p', hI'⟩ := hI.step hf
      have hi' : up1 (treeStep (l, free)).1 i = up1 l i := by
        rw [hul i hi, if_neg (fun e => by rw [e] at hu; omega), if_neg (fun e => by rw [e] at hu; omega)]
      rw [up_stays n _ _ h' p' hI' i (by rw [hlen]; omega) (by rw [hi']; exact hu), hi']
    · rfl
theorem cost_run {tot : Int} (K : Nat) : ∀ (n : Nat) (l : List (Int × Int)) (free : List Nat) (h : Nat → Nat) (p : Int), TI l free h p tot → free.length ≤ n + 1 → 0 < free.length →
    cst (wt l) (Dp (treeF n (l, free)).1) free = Hc n (l, free) ∧ ((∀ v ∈ free, Dp (treeF n (l, free)).1 v ≤ K) → krf K (Dp (treeF n (l, free)).1) free = pk K 0)
  | n, l, free, h, p, hI, hn, h0 => by
    have hone : ¬ 1 < free.length → treeF n (l, free) = (l, free) → Hc n (l, free) = 0 → cst (wt l) (Dp (treeF n (l, free)).1) free = Hc n (l, free) ∧ ((∀ v ∈ free, Dp (treeF n (l, free)).1 v ≤ K) → krf K (Dp (treeF n (l, free)).1) free = pk K 0) := fun h1 h2 h3 => by
      rw [h2, h3]
      obtain ⟨x, rfl⟩ := List.length_eq_one_iff.1 (show free.length = 1 by omega)
      have := Dp_none (hI.frl x (by simp)).2
      constructor
      · unfold cst; simp [Sm, this]
      · intro _; unfold krf; simp [Sm, this]
    cases n with
    | zero => exact hone (by omega) rfl rfl
    | succ n =>
      by_cases hf : 1 < free.length
      · obtain ⟨a, b, f2, hp, hs2, hlen, hal, hbl, hab, hf2, hwab, hwl, hwn, hul, hua, hub⟩ := step_facts hI hf
        obtain ⟨h', p', hI'⟩ := hI.step hf
        have hfl := treeStep_free (s := (l, free)) hf
        have hrun := TI.run (h := h') (p := p') n _ _ h' p' hI'
        have e0 : treeF (n + 1) (l, free) = treeF n (treeStep (l, free)) := by rw [treeF]; rw [if_pos hf]
        have ih := cost_run K n (treeStep (l, free)).1 (treeStep (l, free)).2 h' p' hI' (by dsimp only at hfl; omega) (by dsimp only at hfl; omega)
        have hge := treeF_ge n (treeStep (l, free))
        have hsa := up_stays n _ _ h' p' hI' a (by rw [hlen]; omega) (by rw [hul a hal]; split <;> simp <;> omega)
        have hsb := up_stays n _ _ h' p' hI' b (by rw [hlen]; omega) (by rw [hul b hbl, if_pos rfl]; omega)
        rw [hul a hal, if_neg hab, if_pos rfl] at hsa
        rw [hul b hbl, if_pos rfl] at hsb
        rw [hs2] at ih
        have hHc : Hc (n + 1) (l, free) = wt (treeStep (l, free)).1 l.length + Hc n (treeStep (l, free)) := by rw [Hc]; rw [if_pos hf]
        have hHs : Hc n ((treeStep (l, free)).1, f2 ++ [l.length]) = Hc n (treeStep (l, free)) := by rw [← hs2]
        have hTs : treeF n ((treeStep (l, free)).1, f2 ++ [l.length]) = treeF n (treeStep (l, free)) := by rw [← hs2]
        rw [hHs, hTs] at ih
        rw [e0, hHc, hwn]
        have hTs2 : treeF n ((treeStep (l, free)).1, (treeStep (l, free)).2) = treeF n (treeStep (l, free)) := rfl
        rw [hTs2] at hsa hsb hrun
        obtain ⟨h'', p'', hI''⟩ := hrun
        generalize (treeF n (treeStep (l, free))).1 = L at *
        have hU := hI''.to_ups
        have hda := Dp_up hU (by omega) hsa
        have hdb := Dp_up hU (by omega) hsb
        obtain ⟨ih1, ih2⟩ := ih
        constructor
        · have h1 : cst (wt (treeStep (l, free)).1) (Dp L) (f2 ++ [l.length]) = cst (wt l) (Dp L) f2 + (wt l a + wt l b) * (Dp L l.length : Int) := by
            unfold cst
            rw [Sm_snoc, hwn, Sm_congr (F := fun v => wt (treeStep (l, free)).1 v * (Dp L v : Int)) (G := fun v => wt l v * (Dp L v : Int)) (fun v hv => by rw [hwl v (hf2 v hv).1])]
          have h2 : cst (wt l) (Dp L) free = wt l a * (Dp L a : Int) + (wt l b * (Dp L b : Int) + cst (wt l) (Dp L) f2) := by unfold cst; rw [Sm_perm hp, Sm_cons, Sm_cons]
          rw [hda, hdb, Int.natCast_add, Int.mul_add, Int.mul_add] at h2
          rw [Int.add_mul] at h1
          simp only [Int.natCast_one, Int.mul_one] at h2
          omega
        · intro hK
          have hKa := hK a (hp.mem_iff.2 (by simp))
          have ih2' := ih2 (fun v hv => by
            rcases List.mem_append.1 hv with hv | hv
            · exact hK v (hp.mem_iff.2 (by simp [hv]))
            · simp at hv
              rw [hv]
              omega)
          have h1 : krf K (Dp L) (f2 ++ [l.length]) = krf K (Dp L) f2 + pk K (Dp L l.length) := by unfold krf; rw [Sm_snoc]
          have h2 : krf K (Dp L) free = pk K (Dp L a) + (pk K (Dp L b) + krf K (Dp L) f2) := by unfold krf; rw [Sm_perm hp, Sm_cons, Sm_cons]
          have h3 := pk_two (K := K) (m := Dp L a) (by omega) hKa
          rw [hda, Nat.add_sub_cancel] at h3
          rw [hda, hdb] at h2
          omega
      · exact hone hf (by rw [treeF]; rw [if_neg hf]) (by rw [Hc]; rw [if_neg hf])
end Go.Huf

namespace Go.Huf
theorem range_succ_sm (F : Nat → Int) (k : Nat) : Sm F (List.range (k + 1)) = Sm F (List.range k) + F k := by rw [List.range_succ, Sm_snoc]
theorem sumR_sm (f : Nat → Nat) : ∀ m, ((sumR f m : Nat) : Int) = Sm (fun j => (f j : Int)) (List.range m)
  | 0 => rfl
  | m + 1 => by rw [range_succ_sm, sumR, Int.natCast_add, sumR_sm f m]
theorem countP_sm (p : Int → Bool) : ∀ (ls : List Int), (ls.countP p : Int) = Sm (fun j => if p (ls.getD j 0) then 1 else 0) (List.range ls.length) := by
  intro ls
  have key : ∀ m, m ≤ ls.length → ((ls.take m).countP p : Int) = Sm (fun j => if p (ls.getD j 0) then 1 else 0) (List.range m) := by
    intro m
    induction m with
    | zero => intro _; simp [Sm]
    | succ m ih =>
      intro h
      rw [List.take_succ_eq_append_getElem (by omega), List.countP_append, range_succ_sm, ← ih (by omega)]
      have : ls.getD m 0 = ls[m] := by simp [List.getD, show m < ls.length by omega]
      rw [this]
      cases hp : p ls[m] <;> simp [hp]
  have := key ls.length (Nat.le_refl _)
  rwa [List.take_length] at this
theorem leaf_syms (cs : List Int) : ∀ k, k ≤ cs.length → leaf cs k = (symsK cs k).length
  | 0, _ => by simp [leaf, nodes0, symsK]
  | k + 1, h => by
    have e : cs.getD k 0 = cs[k] := by simp [List.getD, show k < cs.length by omega]
    rw [nodes0_succ (by omega), leaf_syms cs k (by omega), symsK_succ, e]
    split <;> simp
theorem syms_split (cs : List Int) (j : Nat) : ∀ k, ∃ r, symsK cs (j + k) = symsK cs j ++ r
  | 0 => ⟨[], by simp⟩
  | k + 1 => by
    obtain ⟨r, hr⟩ := syms_split cs j k
    refine ⟨r ++ (if 0 < cs.getD (j + k) 0 then [j + k] else []), ?_⟩
    rw [show j + (k + 1) = (j + k) + 1 by omega, symsK_succ, hr, List.append_assoc]
theorem sym_leaf {cs : List Int} {j : Nat} (hj : j < cs.length) (hp : 0 < cs.getD j 0) : (symsK cs cs.length).getD (leaf cs j) 0 = j := by
  obtain ⟨r, hr⟩ := syms_split cs (j + 1) (cs.length - (j + 1))
  rw [show j + 1 + (cs.length - (j + 1)) = cs.length by omega] at hr
  rw [hr, symsK_succ, if_pos hp, leaf_syms cs j (by omega)]
  simp [List.getD]
theorem leaf_all (cs : List Int) : leaf cs cs.length = (nodes0 cs).length := by unfold leaf; rw [List.take_length]
theorem sm_leaf (cs : List Int) (G : Nat → Int) : ∀ k, k ≤ cs.length → Sm (fun j => if 0 < cs.getD j 0 then G (leaf cs j) else 0) (List.range k) = Sm G (List.range (leaf cs k))
  | 0, _ => by simp [leaf, nodes0, Sm]
  | k + 1, h => by
    have e : cs.getD k 0 = cs[k] := by simp [List.getD, show k < cs.length by omega]
    rw [range_succ_sm, sm_leaf cs G k (by omega), nodes0_succ (by omega), e]
    split
    · rw [range_succ_sm]
    · simp
section
variable {cs : List Int}
theorem upN_le' (l : List (Int × Int)) : ∀ (f : Nat) (k : Int), upN l f k ≤ f
  | 0, _ => Nat.le_refl _
  | f + 1, k => by
    rw [upN]
    have := upN_le' l f (up1 l k.toNat)
    split <;> omega
theorem tree_run (h : ∀ n ∈ cs, 0 ≤ n) (K : Nat) (h0 : 0 < (nodes0 cs).length) :
    cst (wt (nodes0 cs)) (Dp (tree cs)) (List.range (nodes0 cs).length) = Hc (nodes0 cs).length (nodes0 cs, List.range (nodes0 cs).length) ∧
      ((∀ v ∈ List.range (nodes0 cs).length, Dp (tree cs) v ≤ K) → krf K (Dp (tree cs)) (List.range (nodes0 cs).length) = pk K 0) :=
  cost_run K (nodes0 cs).length _ _ _ _ (TI.start h) (by simp) (by simpa using h0)
theorem Dp_pos (h : ∀ n ∈ cs, 0 ≤ n) (h2 : 2 ≤ (nodes0 cs).length) {i : Nat} (hi : i < (nodes0 cs).length) : 1 ≤ Dp (tree cs) i := by
  apply Classical.byContradiction
  intro hc
  have hz : Dp (tree cs) i = 0 := by omega
  have hk := (tree_run h (tree cs).length (by omega)).2 (fun v hv => upN_le' _ _ _)
  obtain ⟨j, hj, hne⟩ : ∃ j, j < (nodes0 cs).length ∧ i ≠ j := by
    rcases Nat.eq_zero_or_pos i with h0 | h0
    · exact ⟨1, by omega, by omega⟩
    · exact ⟨0, by omega, by omega⟩
  obtain ⟨r, hr, _, _⟩ := two_out (free := List.range (nodes0 cs).length) List.nodup_range (List.mem_range.2 hi) (List.mem_range.2 hj) hne
  unfold krf at hk
  rw [Sm_perm hr, Sm_cons, Sm_cons, hz] at hk
  have h1 := pk_pos (tree cs).length (Dp (tree cs) j)
  have h3 : 0 ≤ Sm (fun v => pk (tree cs).length (Dp (tree cs) v)) r := Sm_nonneg (fun v hv => by have := pk_pos (tree cs).length (Dp (tree cs) v); omega)
  omega
theorem Dp_one (h1 : (nodes0 cs).length = 1) {i : Nat} (hi : i < 1) : Dp (tree cs) i = 0 := by
  have e : tree cs = nodes0 cs := by
    unfold tree
    rw [h1, treeF]
    rw [if_neg (by simp)]
  rw [e]
  exact Dp_none (nodes0_wt (by omega)).2
theorem dAt_pos {j : Nat} (hp : 0 < cs.getD j 0) : dAt cs j = max (Dp (tree cs) (leaf cs j)) 1 := by
  unfold dAt Dp
  rw [if_neg (by omega)]
theorem leaf_lt' {j : Nat} (hj : j < cs.length) (hp : 0 < cs.getD j 0) : leaf cs j < (nodes0 cs).length := by
  have e : cs.getD j 0 = cs[j] := by simp [List.getD, hj]
  rw [e] at hp
  have h1 := nodes0_succ hj
  rw [if_pos hp] at h1
  have := leaf_le cs (j + 1)
  omega
theorem cs_nn (h : ∀ n ∈ cs, 0 ≤ n) (j : Nat) : 0 ≤ cs.getD j 0 := by
  rcases Nat.lt_or_ge j cs.length with hj | hj
  · rw [show cs.getD j 0 = cs[j] by simp [List.getD, hj]]; exact h _ (List.getElem_mem hj)
  · simp [List.getD, hj]
theorem ln_depths (j : Nat) : ln (toI (depths cs)) j = if j < cs.length then (dAt cs j : Int) else 0 := by
  unfold ln toI depths
  by_cases hj : j < cs.length
  · simp [List.getD, hj]
  · simp [List.getD, hj]
theorem depths_len : (toI (depths cs)).length = cs.length := by simp [toI, depths]
theorem ln_depths_pos (h : ∀ n ∈ cs, 0 ≤ n) {j : Nat} (hj : j < cs.length) : (0 < ln (toI (depths cs)) j ↔ 0 < cs.getD j 0) ∧ (ln (toI (depths cs)) j = 0 ↔ cs.getD j 0 = 0) := by
  rw [ln_depths, if_pos hj]
  have := cs_nn h j
  by_cases hp : 0 < cs.getD j 0
  · rw [dAt_pos hp]
    omega
  · unfold dAt
    rw [if_pos (by omega)]
    omega
theorem depths_ok (h : ∀ n ∈ cs, 0 ≤ n) (hl : cs.length ≤ 512) (hd : ∀ j, j < cs.length → dAt cs j ≤ 15) : okL (toI (depths cs)) := by
  have hg : good (toI (depths cs)) := fun n hn => by
    obtain ⟨j, hj, rfl⟩ := List.mem_iff_getElem.1 hn
    rw [← ln_eq hj, ln_depths]
    rw [depths_len] at hj
    rw [if_pos hj]
    have := hd j hj
    omega
  refine ⟨by rw [depths_len]; exact hl, hg, ?_⟩
  rcases Nat.lt_or_ge (nodes0 cs).length 2 with h2 | h2
  · -- one symbol, or none
    have hs : (some_ (toI (depths cs)) : Int) = (nodes0 cs).length := by
      unfold some_
      rw [countP_sm, depths_len, ← leaf_all]
      have := sm_leaf cs (fun _ => 1) cs.length (Nat.le_refl _)
      rw [show Sm (fun _ => (1 : Int)) (List.range (leaf cs cs.length)) = (leaf cs cs.length : Int) from by
        generalize leaf cs cs.length = m
        induction m with
        | zero => rfl
        | succ m ih => rw [range_succ_sm, ih]; omega] at this
      rw [← this]
      refine Sm_congr (fun j hj => ?_)
      have hj' : j < cs.length := by simpa using hj
      have := (ln_depths_pos h hj').1
      unfold ln at this
      simp only [decide_eq_true_eq, this]
    rcases Nat.lt_or_ge (nodes0 cs).length 1 with h1 | h1
    · left; omega
    · right; left
      refine ⟨by omega, ?_⟩
      have hc : (cnt (toI (depths cs)) 1 : Int) = (some_ (toI (depths cs)) : Int) := by
        unfold cnt some_
        rw [countP_sm, countP_sm]
        refine Sm_congr (fun j hj => ?_)
        have hj' : j < cs.length := by simpa [depths_len] using hj
        have h3 := ln_depths (cs := cs) j
        rw [if_pos hj'] at h3
        unfold ln at h3
        rw [h3]
        by_cases hp : 0 < cs.getD j 0
        · have := leaf_lt' hj' hp
          rw [dAt_pos hp, Dp_one (by omega) (by omega)]
          rfl
        · have := cs_nn h j
          have hz : dAt cs j = 0 := by unfold dAt; rw [if_pos (by omega)]
          rw [hz]
          rfl
      omega
  · right; right
    rw [room_sum, sumR_sm, depths_len]
    have hk := (tree_run h 15 (by omega)).2 (fun v hv => by
      have hv' : v < (nodes0 cs).length := by simpa using hv
      -- v is some symbol's leaf
      obtain ⟨j, hj, hp, rfl⟩ : ∃ j, j < cs.length ∧ 0 < cs.getD j 0 ∧ leaf cs j = v := by
        have hls := leaf_syms cs cs.length (Nat.le_refl _)
        rw [leaf_all] at hls
        have hvl : v < (symsK cs cs.length).length := by omega
        obtain ⟨h1, h3⟩ := symsK_mem.1 (List.getElem_mem hvl)
        refine ⟨_, h1, h3, ?_⟩
        have h4 := sym_leaf h1 h3
        have hnd : (symsK cs cs.length).Nodup := (symsK_inc cs cs.length).imp (fun h => by omega)
        have hll : leaf cs (symsK cs cs.length)[v] < (symsK cs cs.length).length := by rw [← hls]; exact leaf_lt' h1 h3
        rw [show (symsK cs cs.length).getD (leaf cs (symsK cs cs.length)[v]) 0 = (symsK cs cs.length)[leaf cs (symsK cs cs.length)[v]] by simp [List.getD, hll]] at h4
        exact (List.getElem_inj hnd).1 h4
      have := hd j hj
      rw [dAt_pos hp] at this
      omega)
    have e : Sm (fun j => (pj (toI (depths cs)) j : Int)) (List.range cs.length) = krf 15 (Dp (tree cs)) (List.range (nodes0 cs).length) := by
      unfold krf
      rw [← leaf_all, ← sm_leaf cs _ cs.length (Nat.le_refl _)]
      refine Sm_congr (fun j hj => ?_)
      have hj' : j < cs.length := by simpa using hj
      have h3 := ln_depths_pos h hj'
      unfold pj
      by_cases hp : 0 < cs.getD j 0
      · rw [if_pos (h3.1.2 hp), if_pos hp, ln_depths, if_pos hj', dAt_pos hp]
        have := Dp_pos h h2 (leaf_lt' hj' hp)
        rw [Nat.max_eq_left this]
        simp [pk, p2]
      · rw [if_neg (fun hc => hp (h3.1.1 hc)), if_neg hp]
        rfl
    rw [e, hk]
    rfl
end
theorem lens_spec : ∀ (f : Nat) (cs : List Int), okC cs → cs.sum.toNat ≤ f → ∃ cs', okC cs' ∧ cs'.length = cs.length ∧ (∀ j, j < cs.length → (cs'.getD j 0 = 0 ↔ cs.getD j 0 = 0)) ∧ dMost cs' cs'.length ≤ 15 ∧ lensF f cs = depths cs'
  | 0, cs, h, hf => by
    refine ⟨cs, h, rfl, fun j _ => Iff.rfl, ?_, rfl⟩
    have hf15 : fib 15 = 1597 := by decide
    have h0 := (sum_half cs (fun n hn => (h.2 n hn).1)).1
    exact dMost_le cs 15 (dAt_small (fun n hn => (h.2 n hn).1) (by omega)) cs.length (Nat.le_refl _)
  | f + 1, cs, h, hf => by
    rw [lensF]
    split
    · rename_i hd
      exact ⟨cs, h, rfl, fun j _ => Iff.rfl, hd, rfl⟩
    · rename_i hd
      have hlt := deep_half (fun n hn => (h.2 n hn).1) h.1 (by omega)
      have h0 := (sum_half cs (fun n hn => (h.2 n hn).1)).1
      have h1 := (sum_half (cs.map half) (fun n hn => ((okC_half h).2 n hn).1)).1
      obtain ⟨cs', k1, k2, k3, k4, k5⟩ := lens_spec f (cs.map half) (okC_half h) (by omega)
      refine ⟨cs', k1, by rw [k2, List.length_map], fun j hj => ?_, k4, k5⟩
      rw [k3 j (by rw [List.length_map]; exact hj)]
      have e1 : (cs.map half).getD j 0 = half cs[j] := by simp [List.getD, hj]
      have e2 : cs.getD j 0 = cs[j] := by simp [List.getD, hj]
      rw [e1, e2]
      exact (half_le (h.2 _ (List.getElem_mem hj)).1).2.2.2
theorem dMost_at {cs : List Int} (h : dMost cs cs.length ≤ 15) : ∀ j, j < cs.length → dAt cs j ≤ 15 := fun j hj => by
  have := dMost_ge cs cs.length j hj
  omega
theorem lens_ok {cs : List Int} (h : okC cs) : okL (toI (lens cs)) ∧ (toI (lens cs)).length = cs.length ∧ ∀ j, j < cs.length → ((toI (lens cs)).getD j 0 = 0 ↔ cs.getD j 0 = 0) := by
  obtain ⟨cs', k1, k2, k3, k4, k5⟩ := lens_spec cs.sum.toNat cs h (Nat.le_refl _)
  unfold lens
  rw [k5]
  refine ⟨depths_ok (fun n hn => (k1.2 n hn).1) k1.1 (dMost_at k4), by rw [depths_len, k2], fun j hj => ?_⟩
  rw [← k3 j hj]
  exact (ln_depths_pos (fun n hn => (k1.2 n hn).1) (by omega)).2
end Go.Huf

namespace Go.Cod
open Go.Huf
theorem okC_cntA {l : List Tk} (h : l.length ≤ 100000) : okC (cntA l) := ⟨by rw [cntA_len]; omega, fun n hn => by have := cntA_bd l n hn; omega⟩
theorem okC_cntD {l : List Tk} (h : l.length ≤ 100000) : okC (cntD l) := ⟨by rw [cntD_len]; omega, fun n hn => by have := cntD_bd l n hn; omega⟩
theorem lenA_ok {l : List Tk} (h : l.length ≤ 100000) : okL (lenA l) ∧ (lenA l).length = 511 ∧ ∀ j, j < 511 → ((lenA l).getD j 0 = 0 ↔ (cntA l).getD j 0 = 0) := by
  have := lens_ok (okC_cntA h)
  rw [cntA_len] at this
  exact this
theorem lenD_ok {l : List Tk} (h : l.length ≤ 100000) : okL (lenD l) ∧ (lenD l).length = 13 ∧ ∀ j, j < 13 → ((lenD l).getD j 0 = 0 ↔ (cntD l).getD j 0 = 0) := by
  have := lens_ok (okC_cntD h)
  rw [cntD_len] at this
  exact this
theorem good_255 {ls : List Int} (h : okL ls) : ∀ n ∈ ls, 0 ≤ n ∧ n ≤ 255 := fun n hn => by have := h.2.1 n hn; omega
end Go.Cod
namespace Go.Proofs.YtdnaahbhfjclpaaGreatDoor
open Go.RowKit Go.Sal Go.Huf Go.Cod
theorem own_src {w : World} {base e size n c : Nat} {A : Option Addr} {xs : List Value} (h : w.ownsRow base e size (.slice A n c) n xs) : Src w size A n xs := by
  refine ⟨h.1, fun h0 => ?_⟩
  obtain ⟨g, rfl, _, _⟩ := own_some h h0
  exact ⟨_, rfl, h.cells (g := g) rfl⟩
theorem bools_append {base b0 n m c c2 : Nat} {A A2 : Option Addr} {f l2 : List Bool} {w : World} (h : w.ownsRow base 4 1 (.slice A n c) n (inL f)) (h2 : w.ownsRow b0 4 1 (.slice A2 m c2) m (inL l2)) (hn2 : n + m ≤ 10000000) (hB : base ≤ w.heap.size) :
    ∃ A' c' w', (Builtin.append_ #[176, 176] 176 #[.slice A n c, .slice A2 m c2]).run Tryz.prog w = .ok (.slice A' (n + m) c') w' ∧
      w'.ownsRow base 4 1 (.slice A' (n + m) c') (n + m) (inL (f ++ l2)) ∧ Keep (Value.slice A n c).ownBlock.toList w w' := by
  obtain ⟨v', w', hrun, hown, hg, hat⟩ := run_append_src (P := Tryz.prog) w 176 176 4 (.bool false) 1 1 base Tryz.underlying176 boolinfo rfl (by omega) (.slice A n c) n (inL f) h
    A2 m c2 (inL l2) (own_src h2) (inL_one l2) (by unfold maxLen; omega) (by omega) hB
  obtain ⟨A', c', rfl, _⟩ := own_slice hown
  exact ⟨A', c', w', hrun, by simpa [inL] using hown, (Keep.refl _ w).grown hg (fun k hk => .inl (by simp [hk]))⟩
structure LC (w : World) (ls : List Int) (A : Option Addr) (c : Nat) (AC : Option Addr) (cC : Nat) (wr : World) : Prop where
  len : wr.ownsRow w.heap.size 3 1 (.slice A ls.length c) ls.length (inI ls)
  cod : wr.ownsRow w.heap.size 168 1 (.slice AC ls.length cC) ls.length (inU (codesL ls))
theorem LC.keep {w wr w1 : World} {ls : List Int} {A AC : Option Addr} {c cC : Nat} (h : LC w ls A c AC cC wr) {F : List Nat} (k : Keep F wr w1) (h1 : ∀ g, (Value.slice A ls.length c).ownBlock = some g → g ∉ F) (h2 : ∀ g, (Value.slice AC ls.length cC).ownBlock = some g → g ∉ F) : LC w ls A c AC cC w1 :=
  ⟨ownsRow_keep h.len k h1, ownsRow_keep h.cod k h2⟩
theorem LC.at_ {w wr : World} {ls : List Int} {A AC : Option Addr} {c cC : Nat} (h : LC w ls A c AC cC wr) {s : Nat} (hs : s < ls.length) : ∃ g gc, A = some ⟨g, 0, none⟩ ∧ AC = some ⟨gc, 0, none⟩ ∧ g < wr.heap.size ∧ gc < wr.heap.size ∧ w.heap.size ≤ g ∧ w.heap.size ≤ gc ∧
    wr.cell? ⟨g, s, none⟩ = some (.int .i64 ls[s]) ∧ wr.cell? ⟨gc, s, none⟩ = some (.int .u16 (codeV ls s : Nat)) := by
  obtain ⟨g, rfl, h1, h2⟩ := own_some h.len (by omega)
  obtain ⟨gc, rfl, h3, h4⟩ := own_some h.cod (by omega)
  refine ⟨g, gc, rfl, rfl, h1, h3, h2, h4, (inI_cell h.len hs).1, ?_⟩
  rw [(inU_cell h.cod (i := s) (by rw [codesL_len]; omega)).1]
  simp [codesL]
theorem LC.cells {w wr : World} {ls : List Int} {g gc c cC : Nat} (h : LC w ls (some ⟨g, 0, none⟩) c (some ⟨gc, 0, none⟩) cC wr) {s : Nat} (hs : s < ls.length) : g < wr.heap.size ∧ gc < wr.heap.size ∧
    wr.cell? ⟨g, s, none⟩ = some (.int .i64 ls[s]) ∧ wr.cell? ⟨gc, s, none⟩ = some (.int .u16 (codeV ls s : Nat)) := by
  obtain ⟨g', gc', e1, e2, h1, h2, _, _, h3, h4⟩ := h.at_ hs
  injection e1 with e1
  injection e1 with e1
  injection e2 with e2
  injection e2 with e2
  subst e1; subst e2
  exact ⟨h1, h2, h3, h4⟩
structure RPI (w : World) (la lb : List Int) (hd : List Nat) (AA : Option Addr) (cA : Nat) (AC : Option Addr) (cC : Nat) (AD : Option Addr) (cD : Nat) (AE : Option Addr) (cE : Nat) (AO : Option Addr) (cO : Nat) (bs : List Bool) (A : Option Addr) (c : Nat) (wr : World) : Prop where
  own : wr.ownsRow w.heap.size 4 1 (.slice A bs.length c) bs.length (inL bs)
  a : LC w la AA cA AC cC wr
  b : LC w lb AD cD AE cE wr
  hdr : wr.ownsRow w.heap.size 5 1 (.slice AO hd.length cO) hd.length (inB hd)
  kp : Keep [] w wr
section
variable {w wr w1 : World} {la lb : List Int} {hd : List Nat} {AA AC AD AE AO A : Option Addr} {cA cC cD cE cO c : Nat} {bs : List Bool}
theorem RPI.keep (h : RPI w la lb hd AA cA AC cC AD cD AE cE AO cO bs A c wr) (k : Keep [] wr w1) : RPI w la lb hd AA cA AC cC AD cD AE cE AO cO bs A c w1 :=
  ⟨ownsRow_keep h.own k (by simp), h.a.keep k (by simp) (by simp), h.b.keep k (by simp) (by simp), ownsRow_keep h.hdr k (by simp), h.kp.trans k⟩
theorem RPI.bits (h : RPI w la lb hd AA cA AC cC AD cD AE cE AO cO bs A c wr) {cv L : Nat} (hc : cv < 65536) (hL : L ≤ 15) (hl : bs.length ≤ 5000000) (w0 : World) (hw0 : Keep [] wr w0) :
    Calls Tryz.prog 118 #[.int .u16 (cv : Nat), .int .i64 (L : Nat)] w0 fun e w' => ∃ AO', e = .returned (.slice AO' L L) ∧ Keep [] wr w' ∧ ∃ A' c' w'', (Builtin.append_ #[176, 176] 176 #[.slice A bs.length c, .slice AO' L L]).run Tryz.prog w' = .ok (.slice A' (bs.length + L) c') w'' ∧
      RPI w la lb hd AA cA AC cC AD cD AE cE AO cO (bs ++ bitsK cv L) A' c' w'' := by
  refine (rbits_any cv L w0 hc (by omega)).mono ?_
  rintro e w' ⟨AO', rfl, hown, hk⟩
  have hk' : Keep [] wr w' := hw0.trans hk
  have h' := h.keep hk'
  obtain ⟨A', c', w'', hrun, hown2, hk2⟩ := bools_append h'.own hown (by omega) h'.kp.size
  have hll : bs.length + L = (bs ++ bitsK cv L).length := by rw [List.length_append, bitsK_len]
  refine ⟨AO', rfl, hk', A', c', w'', hrun, ?_, ?_, ?_, ?_, h'.kp.step hk2 (fun j hj => .inr (own_far h'.own j hj))⟩
  · rw [← hll]; exact hown2
  · exact h'.a.keep hk2 (fun i hi hm => own_ne_own h'.a.len h'.own (by decide) hi (by simpa using hm)) (fun i hi hm => own_ne_own h'.a.cod h'.own (by decide) hi (by simpa using hm))
  · exact h'.b.keep hk2 (fun i hi hm => own_ne_own h'.b.len h'.own (by decide) hi (by simpa using hm)) (fun i hi hm => own_ne_own h'.b.cod h'.own (by decide) hi (by simpa using hm))
  · exact ownsRow_keep h'.hdr hk2 (fun i hi hm => own_ne_own h'.hdr h'.own (by decide) hi (by simpa using hm))
end
theorem isrc_own {w : World} {base n c : Nat} {A : Option Addr} {l : List Int} (h : w.ownsRow base 3 1 (.slice A n c) n (inI l)) : ISrc w A l := ISrc.of_own h
theorem lenA_any {w w2 w0 : World} {l : List Tk} {ga gb : Nat} (h : TCI w l l.length ga gb w2) (hl : l.length ≤ 100000) (k : Keep [] w2 w0) :
    Calls Tryz.prog 104 #[.slice (some ⟨ga, 0, none⟩) 511 511] w0 fun e w' => ∃ A c, e = .returned (.tuple #[.slice A (lenA l).length c, .int .i64 0]) ∧ w'.ownsRow w0.heap.size 3 1 (.slice A (lenA l).length c) (lenA l).length (inI (lenA l)) ∧ Keep [] w0 w' := by
  have h1 := ownsRow_keep h.1 k (by simp)
  rw [List.take_length] at h1
  have := lengths_ok (cntA l) (some ⟨ga, 0, none⟩) 511 w0 (isrc_own h1) (okC_cntA hl)
  rw [cntA_len] at this
  refine this.mono ?_
  rintro e w' ⟨AO, cO, rfl, hown, hk⟩
  have hl := own_n hown
  rw [hl] at hown ⊢
  exact ⟨AO, cO, rfl, hown, hk⟩
theorem lenD_any {w w2 w0 : World} {l : List Tk} {ga gb : Nat} (h : TCI w l l.length ga gb w2) (hl : l.length ≤ 100000) (k : Keep [] w2 w0) :
    Calls Tryz.prog 104 #[.slice (some ⟨gb, 0, none⟩) 13 13] w0 fun e w' => ∃ A c, e = .returned (.tuple #[.slice A (lenD l).length c, .int .i64 0]) ∧ w'.ownsRow w0.heap.size 3 1 (.slice A (lenD l).length c) (lenD l).length (inI (lenD l)) ∧ Keep [] w0 w' := by
  have h1 := ownsRow_keep h.2.1 k (by simp)
  rw [List.take_length] at h1
  have := lengths_ok (cntD l) (some ⟨gb, 0, none⟩) 13 w0 (isrc_own h1) (okC_cntD hl)
  rw [cntD_len] at this
  refine this.mono ?_
  rintro e w' ⟨AO, cO, rfl, hown, hk⟩
  have hl := own_n hown
  rw [hl] at hown ⊢
  exact ⟨AO, cO, rfl, hown, hk⟩
end Go.Proofs.YtdnaahbhfjclpaaGreatDoor

namespace Go.Cod
open Go.Huf
theorem ln_get {ls : List Int} {s : Nat} (h : s < ls.length) (hg : good ls) : ∃ L : Nat, ls[s] = (L : Int) ∧ L ≤ 15 ∧ (ln ls s).toNat = L := by
  have h1 := ln_good hg s
  rw [ln_eq h] at h1
  refine ⟨ls[s].toNat, by omega, by omega, by rw [ln_eq h]⟩
theorem symBits_len {ls : List Int} (hg : good ls) (s : Int) : (symBits ls s).length ≤ 15 := by
  have h1 := ln_good hg s.toNat
  unfold symBits
  rw [bitsK_len]
  omega
theorem tokBits_len {la lb : List Int} (ha : good la) (hb : good lb) {t : Tk} (ht : okT t = true) : (tokBits la lb t).length ≤ 42 := by
  unfold tokBits
  have h1 := symBits_len ha (symT t)
  rw [List.length_append]
  split
  · rename_i hd
    have h2 := symBits_len hb (dsT t)
    have h3 := (dsT_lt ht hd).2
    rw [List.length_append, bitsK_len]
    omega
  · simp; omega
theorem tokB_len {la lb : List Int} (ha : good la) (hb : good lb) : ∀ {l : List Tk}, l.all okT = true → (tokB la lb l).length ≤ 42 * l.length
  | [], _ => by simp [tokB]
  | t :: l, h => by
    simp only [List.all_cons, Bool.and_eq_true] at h
    have h1 := tokBits_len ha hb h.1
    have h2 := tokB_len ha hb h.2
    simp only [tokB, List.flatMap_cons, List.length_append, List.length_cons] at h2 ⊢
    omega
theorem runF_len : ∀ (f : Nat) (l : List Int), (runF f l).length ≤ 11 * l.length
  | 0, _ => by simp [runF]
  | f + 1, [] => by simp [runF]
  | f + 1, x :: l => by
    rw [runF]
    have h1 := varP_len (runK x l + 1)
    have h2 := runF_len f (l.drop (runK x l))
    rw [List.length_drop] at h2
    simp only [List.length_cons, List.length_append]
    omega
theorem runsP_len (l : List Int) : (runsP l).length ≤ 11 * l.length := runF_len _ l
theorem pack_len_le (l : List Bool) : (pack l).length ≤ l.length := by rw [pack_len]; omega
end Go.Cod
namespace Go.Proofs.YtdnaahbhfjclpaaGreatDoor
open Go.RowKit Go.Sal Go.Huf Go.Cod
theorem bytes_app' {base n c m d : Nat} {A B : Option Addr} {f g : List Nat} {w : World} (h : w.ownsRow base 5 1 (.slice A n c) n (inB f)) (hs : Src w 1 B m (inB g)) (hn2 : n ≤ 10000000) (hm : m ≤ 10000000) (hB : base ≤ w.heap.size) :
    ∃ A' c' w' k, k = n + m ∧ (Builtin.append_ #[22, 22] 22 #[.slice A n c, .slice B m d]).run Tryz.prog w = .ok (.slice A' k c') w' ∧
      w'.ownsRow base 5 1 (.slice A' k c') k (inB (f ++ g)) ∧ Keep (Value.slice A n c).ownBlock.toList w w' := by
  obtain ⟨A', c', w', h1, h2, h3⟩ := bytes_app (d := d) h hs hn2 hm hB
  exact ⟨A', c', w', _, rfl, h1, h2, h3⟩
theorem own_b {w : World} {base n : Nat} {v : Value} {l : List Nat} (h : w.ownsRow base 5 1 v n (inB l)) : n = l.length := by
  have := h.1
  rw [inB_len] at this
  omega
theorem TSrc.tok {w : World} {A : Option Addr} {l : List Tk} (h : TSrc w A l) {k : Nat} (hk : k < l.length) : ∃ g o, A = some ⟨g, o, none⟩ ∧ ∀ W, Keep [] w W →
    W.cell? ⟨g, o + k * 3, none⟩ = some (.int .i64 l[k].1) ∧ W.cell? ⟨g, o + k * 3 + 1, none⟩ = some (.int .i64 l[k].2.1) ∧ W.cell? ⟨g, o + k * 3 + 2, none⟩ = some (.int .u8 (l[k].2.2 : Nat)) := by
  obtain ⟨g, o, rfl, hg, h1, h2, h3⟩ := h.1 k hk
  exact ⟨g, o, rfl, fun W hW => ⟨(hW.cell (p := ⟨g, o + k * 3, none⟩) hg (by simp)).trans h1, (hW.cell (p := ⟨g, o + k * 3 + 1, none⟩) hg (by simp)).trans h2, (hW.cell (p := ⟨g, o + k * 3 + 2, none⟩) hg (by simp)).trans h3⟩⟩
structure HD1 (w : World) (la lb : List Int) (hd : List Nat) (AA : Option Addr) (cA : Nat) (AD : Option Addr) (cD : Nat) (AO : Option Addr) (n cO : Nat) (wr : World) : Prop where
  a : wr.ownsRow w.heap.size 3 1 (.slice AA la.length cA) la.length (inI la)
  b : wr.ownsRow w.heap.size 3 1 (.slice AD lb.length cD) lb.length (inI lb)
  hdr : wr.ownsRow w.heap.size 5 1 (.slice AO n cO) n (inB hd)
  len : n = hd.length
  kp : Keep [] w wr
theorem HD1.start {w wr : World} {la lb : List Int} {AA AD : Option Addr} {cA cD : Nat} (a : wr.ownsRow w.heap.size 3 1 (.slice AA la.length cA) la.length (inI la)) (b : wr.ownsRow w.heap.size 3 1 (.slice AD lb.length cD) lb.length (inI lb)) (kp : Keep [] w wr)
    {w5 : World} {A5 : Option Addr} {c5 : Nat} {ra : List Nat} (h5 : w5.ownsRow wr.heap.size 5 1 (.slice A5 ra.length c5) ra.length (inB ra)) (k5 : Keep [] wr w5) : HD1 w la lb ra AA cA AD cD A5 ra.length c5 w5 :=
  ⟨ownsRow_keep a k5 (by simp), ownsRow_keep b k5 (by simp), own_le h5 kp.size, rfl, kp.trans k5⟩
theorem HD1.app {w wr w6 : World} {la lb : List Int} {hd r : List Nat} {AA AD AO A6 : Option Addr} {cA cD cO n c6 : Nat} (h : HD1 w la lb hd AA cA AD cD AO n cO wr)
    (h6 : w6.ownsRow wr.heap.size 5 1 (.slice A6 r.length c6) r.length (inB r)) (k6 : Keep [] wr w6) (hn : n ≤ 1000000) (hr : r.length ≤ 1000000) :
    ∃ A' c' w' k, (Builtin.append_ #[22, 22] 22 #[.slice AO n cO, .slice A6 r.length c6]).run Tryz.prog w6 = .ok (.slice A' k c') w' ∧ k = n + r.length ∧ HD1 w la lb (hd ++ r) AA cA AD cD A' k c' w' := by
  have hh := ownsRow_keep h.hdr k6 (by simp)
  have ha := ownsRow_keep h.a k6 (by simp)
  have hb := ownsRow_keep h.b k6 (by simp)
  obtain ⟨A', c', w', k, hk, hap, hown, hkp⟩ := bytes_app' (d := c6) hh (Src.of_own h6) (by omega) (by omega) (h.kp.trans k6).size
  exact ⟨A', c', w', k, hap, hk, ownsRow_keep ha hkp (fun i hi hm => own_ne_own ha hh (by decide) hi (by simpa using hm)), ownsRow_keep hb hkp (fun i hi hm => own_ne_own hb hh (by decide) hi (by simpa using hm)), hown,
    by rw [hk, List.length_append, h.len], (h.kp.trans k6).step hkp (fun j hj => .inr (own_far hh j hj))⟩
theorem RPI.start {w w9 w10 w11 : World} {la lb : List Int} {hd : List Nat} {AA AC AD AE AO : Option Addr} {cA cC cD cE cO n : Nat} (h : HD1 w la lb hd AA cA AD cD AO n cO w9)
    (h10 : w10.ownsRow w9.heap.size 168 1 (.slice AC la.length cC) la.length (inU (codesL la))) (k10 : Keep [] w9 w10) (h11 : w11.ownsRow w10.heap.size 168 1 (.slice AE lb.length cE) lb.length (inU (codesL lb))) (k11 : Keep [] w10 w11) :
    RPI w la lb hd AA cA AC cC AD cD AE cE AO cO [] none 0 w11 := by
  have k := k10.trans k11
  refine ⟨World.ownsRow_nil _ _ _ _, ⟨ownsRow_keep h.a k (by simp), own_le (ownsRow_keep h10 k11 (by simp)) h.kp.size⟩, ⟨ownsRow_keep h.b k (by simp), own_le h11 (h.kp.trans k10).size⟩, ?_, h.kp.trans k⟩
  have := ownsRow_keep h.hdr k (by simp)
  rw [h.len] at this
  exact this
end Go.Proofs.YtdnaahbhfjclpaaGreatDoor

