/- The tree of counts, on lists alone: the least two made one, again and again; how deep it is. -/
import Derived.WalkKit
set_option linter.unusedVariables false
set_option linter.unusedSimpArgs false
namespace Go.Huf
/-- a node: its weight, and the node in which it stands (below 0: in none) -/
def wt (l : List (Int × Int)) (i : Nat) : Int := (l.getD i (0, -1)).1
def up1 (l : List (Int × Int)) (i : Nat) : Int := (l.getD i (0, -1)).2
/-- the place of the first of least weight among the first j of free -/
def scanK (l : List (Int × Int)) (free : List Nat) : Nat → Nat
  | 0 => 0
  | j + 1 => if wt l (free.getD j 0) < wt l (free.getD (scanK l free j) 0) then j else scanK l free j
def leastK (l : List (Int × Int)) (free : List Nat) : Nat := scanK l free free.length
theorem scanK_lt (l : List (Int × Int)) (free : List Nat) : ∀ j, 0 < j → scanK l free j < j
  | 0, h => by omega
  | 1, _ => by simp [scanK]
  | j + 2, _ => by
    have ih := scanK_lt l free (j + 1) (by omega)
    rw [scanK]
    split <;> omega
theorem scanK_le (l : List (Int × Int)) (free : List Nat) : ∀ j i, i < j → wt l (free.getD (scanK l free j) 0) ≤ wt l (free.getD i 0)
  | 0, i, h => by omega
  | j + 1, i, h => by
    rw [scanK]
    rcases Nat.lt_succ_iff_lt_or_eq.1 h with h1 | rfl
    · have ih := scanK_le l free j i h1
      split <;> omega
    · split <;> omega
/-- and it is the first such -/
theorem scanK_first (l : List (Int × Int)) (free : List Nat) : ∀ j i, i < scanK l free j → wt l (free.getD (scanK l free j) 0) < wt l (free.getD i 0)
  | 0, i, h => by simp [scanK] at h
  | j + 1, i, h => by
    rw [scanK] at h ⊢
    split
    · rename_i h1
      rw [if_pos h1] at h
      have := scanK_le l free j i h
      omega
    · rename_i h1
      rw [if_neg h1] at h
      exact scanK_first l free j i h
theorem leastK_lt {l : List (Int × Int)} {free : List Nat} (h : 0 < free.length) : leastK l free < free.length := scanK_lt l free _ h
theorem leastK_le {l : List (Int × Int)} {free : List Nat} {i : Nat} (h : i < free.length) : wt l (free.getD (leastK l free) 0) ≤ wt l (free.getD i 0) := scanK_le l free _ i h
/-- the node i now stands in node t -/
def link (l : List (Int × Int)) (i : Nat) (t : Int) : List (Int × Int) := l.set i (wt l i, t)
theorem link_len {l : List (Int × Int)} {i : Nat} {t : Int} : (link l i t).length = l.length := by simp [link]
theorem link_wt {l : List (Int × Int)} {i : Nat} {t : Int} (j : Nat) : wt (link l i t) j = wt l j := by
  unfold link
  by_cases hij : i = j
  · subst hij
    unfold wt
    rcases Nat.lt_or_ge i l.length with h | h
    · simp [List.getD, h]
    · simp [List.getD, h]
  · unfold wt
    simp [List.getD, List.getElem?_set_ne hij]
theorem link_up {l : List (Int × Int)} {i : Nat} {t : Int} (j : Nat) (h : i < l.length) : up1 (link l i t) j = if j = i then t else up1 l j := by
  unfold link up1
  by_cases hij : i = j
  · subst hij
    simp [List.getD, h]
  · rw [if_neg (fun e => hij e.symm)]
    simp [List.getD, List.getElem?_set_ne hij]
def treeStep (s : List (Int × Int) × List Nat) : List (Int × Int) × List Nat :=
  let k1 := leastK s.1 s.2
  let a := s.2.getD k1 0
  let f1 := s.2.eraseIdx k1
  let k2 := leastK s.1 f1
  let b := f1.getD k2 0
  let f2 := f1.eraseIdx k2
  (link (link (s.1 ++ [(wt s.1 a + wt s.1 b, -1)]) a s.1.length) b s.1.length, f2 ++ [s.1.length])
def treeF : Nat → List (Int × Int) × List Nat → List (Int × Int) × List Nat
  | 0, s => s
  | n + 1, s => if 1 < s.2.length then treeF n (treeStep s) else s
def nodes0 (cs : List Int) : List (Int × Int) := (cs.filter (fun n => decide (0 < n))).map (fun n => (n, -1))
def tree (cs : List Int) : List (Int × Int) := (treeF (nodes0 cs).length (nodes0 cs, List.range (nodes0 cs).length)).1
theorem treeStep_free {s : List (Int × Int) × List Nat} (h : 1 < s.2.length) : (treeStep s).2.length + 1 = s.2.length := by
  have h1 := leastK_lt (l := s.1) (free := s.2) (by omega)
  have h2 : (s.2.eraseIdx (leastK s.1 s.2)).length = s.2.length - 1 := by rw [List.length_eraseIdx]; simp [h1]
  have h3 := leastK_lt (l := s.1) (free := s.2.eraseIdx (leastK s.1 s.2)) (by omega)
  unfold treeStep
  simp only [List.length_append, List.length_singleton]
  rw [List.length_eraseIdx, if_pos h3, h2]
  omega
theorem treeStep_len (s : List (Int × Int) × List Nat) : (treeStep s).1.length = s.1.length + 1 := by
  unfold treeStep
  simp only [link_len, List.length_append, List.length_singleton]
theorem treeF_done : ∀ (n : Nat) (s : List (Int × Int) × List Nat), s.2.length ≤ n + 1 → (treeF n s).2.length ≤ 1
  | 0, s, h => h
  | n + 1, s, h => by
    rw [treeF]
    split
    · rename_i h1
      have := treeStep_free h1
      exact treeF_done n _ (by omega)
    · omega

/-! ### how deep: weights grow at least as Fibonacci's numbers -/
def fib : Nat → Int
  | 0 => 1
  | 1 => 2
  | n + 2 => fib (n + 1) + fib n
theorem fib_pos : ∀ n, 1 ≤ fib n
  | 0 => by simp [fib]
  | 1 => by simp [fib]
  | n + 2 => by have := fib_pos (n + 1); have := fib_pos n; rw [fib]; omega
theorem fib_mono1 : ∀ n, fib n ≤ fib (n + 1)
  | 0 => by simp [fib]
  | n + 1 => by have := fib_pos n; rw [fib]; omega
theorem fib_mono {m n : Nat} (h : m ≤ n) : fib m ≤ fib n := by
  induction h with
  | refl => exact Int.le_refl _
  | step _ ih => exact Int.le_trans ih (fib_mono1 _)
theorem fib_succ (h : Nat) : fib (h + 1) ≤ fib h + fib (h - 1) := by
  cases h with
  | zero => simp [fib]
  | succ n => rw [fib]; simp
/-- what holds while the tree grows: h says how high a node stands, p is the weight taken last -/
structure TI (l : List (Int × Int)) (free : List Nat) (h : Nat → Nat) (p tot : Int) : Prop where
  frl : ∀ v ∈ free, v < l.length ∧ up1 l v = -1
  nod : free.Pairwise (· < ·)
  ups : ∀ i, i < l.length → up1 l i = -1 ∧ i ∈ free ∨ ∃ t : Nat, up1 l i = t ∧ i < t ∧ t < l.length ∧ h i < h t
  wts : ∀ i, i < l.length → fib (h i) ≤ wt l i
  low : ∀ v ∈ free, p ≤ wt l v ∧ (h v = 0 ∨ ∃ c : Int, c ≤ p ∧ fib (h v - 1) ≤ c)
  tots : (free.map (wt l)).sum = tot
  pos : 0 ≤ p
theorem sum_erase {l : List (Int × Int)} : ∀ (f : List Nat) (k : Nat), k < f.length → (f.map (wt l)).sum = wt l (f.getD k 0) + ((f.eraseIdx k).map (wt l)).sum
  | [], k, h => by simp at h
  | x :: f, 0, _ => by simp
  | x :: f, k + 1, h => by
    have ih := sum_erase (l := l) f k (by simpa using h)
    simp only [List.map_cons, List.sum_cons, List.eraseIdx_cons_succ, List.getD_cons_succ]
    rw [ih]
    omega
theorem mem_eraseIdx_ne {f : List Nat} (hn : f.Pairwise (· < ·)) {k v : Nat} (hk : k < f.length) (hv : v ∈ f.eraseIdx k) : v ∈ f ∧ v ≠ f.getD k 0 := by
  have h1 : v ∈ f := (List.eraseIdx_sublist f k).mem hv
  refine ⟨h1, ?_⟩
  rw [List.mem_iff_getElem] at hv
  obtain ⟨j, hj, rfl⟩ := hv
  rw [List.length_eraseIdx, if_pos hk] at hj
  rw [List.getElem_eraseIdx]
  have hg : f.getD k 0 = f[k] := by simp [List.getD, hk]
  rw [hg]
  have hp := List.pairwise_iff_getElem.1 hn
  split
  · rename_i h2
    have := hp j k (by omega) hk h2
    omega
  · have := hp k (j + 1) hk (by omega) (by omega)
    omega
theorem mem_of_ne {f : List Nat} {k v : Nat} (hk : k < f.length) (hv : v ∈ f) (hne : v ≠ f.getD k 0) : v ∈ f.eraseIdx k := by
  rw [List.mem_iff_getElem] at hv
  obtain ⟨j, hj, rfl⟩ := hv
  have hg : f.getD k 0 = f[k] := by simp [List.getD, hk]
  rw [hg] at hne
  have hl : (f.eraseIdx k).length = f.length - 1 := by rw [List.length_eraseIdx, if_pos hk]
  rcases Nat.lt_trichotomy j k with h | h | h
  · exact List.mem_iff_getElem.2 ⟨j, by omega, by rw [List.getElem_eraseIdx, dif_pos h]⟩
  · subst h; exact absurd rfl hne
  · refine List.mem_iff_getElem.2 ⟨j - 1, by omega, ?_⟩
    rw [List.getElem_eraseIdx, dif_neg (by omega)]
    congr 1
    omega
theorem getD_mem {f : List Nat} {k : Nat} (h : k < f.length) : f.getD k 0 ∈ f := by
  have : f.getD k 0 = f[k] := by simp [List.getD, h]
  rw [this]; exact List.getElem_mem h
theorem wt_app {l : List (Int × Int)} {x : Int × Int} {i : Nat} (h : i < l.length) : wt (l ++ [x]) i = wt l i := by
  unfold wt; simp [List.getD, List.getElem?_append_left h]
theorem wt_last {l : List (Int × Int)} {x : Int × Int} : wt (l ++ [x]) l.length = x.1 := by
  unfold wt; simp [List.getD]
theorem up_app {l : List (Int × Int)} {x : Int × Int} {i : Nat} (h : i < l.length) : up1 (l ++ [x]) i = up1 l i := by
  unfold up1; simp [List.getD, List.getElem?_append_left h]
theorem up_last {l : List (Int × Int)} {x : Int × Int} : up1 (l ++ [x]) l.length = x.2 := by
  unfold up1; simp [List.getD]
theorem TI.step {l : List (Int × Int)} {free : List Nat} {h : Nat → Nat} {p tot : Int} (hI : TI l free h p tot) (hf : 1 < free.length) :
    ∃ h' p', TI (treeStep (l, free)).1 (treeStep (l, free)).2 h' p' tot := by
  obtain ⟨k1, hk1⟩ : ∃ k1, k1 = leastK l free := ⟨_, rfl⟩
  obtain ⟨a, ha⟩ : ∃ a, a = free.getD k1 0 := ⟨_, rfl⟩
  obtain ⟨f1, hf1⟩ : ∃ f1, f1 = free.eraseIdx k1 := ⟨_, rfl⟩
  obtain ⟨k2, hk2⟩ : ∃ k2, k2 = leastK l f1 := ⟨_, rfl⟩
  obtain ⟨b, hb⟩ : ∃ b, b = f1.getD k2 0 := ⟨_, rfl⟩
  obtain ⟨f2, hf2⟩ : ∃ f2, f2 = f1.eraseIdx k2 := ⟨_, rfl⟩
  have hst : treeStep (l, free) = (link (link (l ++ [(wt l a + wt l b, -1)]) a l.length) b l.length, f2 ++ [l.length]) := by
    unfold treeStep
    simp only [← hk1, ← ha, ← hf1, ← hk2, ← hb, ← hf2]
  have h1 : k1 < free.length := by rw [hk1]; exact leastK_lt (by omega)
  have hl1 : f1.length = free.length - 1 := by rw [hf1, List.length_eraseIdx, if_pos h1]
  have h2 : k2 < f1.length := by rw [hk2]; exact leastK_lt (by omega)
  have hn1 : f1.Pairwise (· < ·) := by rw [hf1]; exact hI.nod.sublist (List.eraseIdx_sublist _ _)
  have hn2 : f2.Pairwise (· < ·) := by rw [hf2]; exact hn1.sublist (List.eraseIdx_sublist _ _)
  have am : a ∈ free := by rw [ha]; exact getD_mem h1
  have bm1 : b ∈ f1 := by rw [hb]; exact getD_mem h2
  obtain ⟨bm, hba⟩ : b ∈ free ∧ b ≠ a := by rw [ha]; rw [hf1] at bm1; exact mem_eraseIdx_ne hI.nod h1 bm1
  obtain ⟨al, au⟩ := hI.frl a am
  obtain ⟨bl, bu⟩ := hI.frl b bm
  have hab : wt l a ≤ wt l b := by
    have hbm := bm
    rw [List.mem_iff_getElem] at hbm
    obtain ⟨j, hj, e⟩ := hbm
    have := leastK_le (l := l) (free := free) hj
    rw [← hk1, ← ha] at this
    rw [show free.getD j 0 = b by rw [← e]; simp [List.getD, hj]] at this
    exact this
  have hf2m : ∀ v ∈ f2, v ∈ free ∧ v ≠ a ∧ v ≠ b ∧ wt l b ≤ wt l v := fun v hv => by
    rw [hf2] at hv
    obtain ⟨x1, x2⟩ := mem_eraseIdx_ne hn1 h2 hv
    have x1' := x1
    rw [hf1] at x1'
    obtain ⟨x3, x4⟩ := mem_eraseIdx_ne hI.nod h1 x1'
    refine ⟨x3, by rw [ha]; exact x4, by rw [hb]; exact x2, ?_⟩
    rw [List.mem_iff_getElem] at x1
    obtain ⟨j, hj, e⟩ := x1
    have := leastK_le (l := l) (free := f1) hj
    rw [← hk2, ← hb] at this
    rw [show f1.getD j 0 = v by rw [← e]; simp [List.getD, hj]] at this
    exact this
  have hwl : ∀ i, i < l.length → wt (link (link (l ++ [(wt l a + wt l b, -1)]) a l.length) b l.length) i = wt l i := fun i hi => by
    rw [link_wt, link_wt, wt_app hi]
  have hwn : wt (link (link (l ++ [(wt l a + wt l b, -1)]) a l.length) b l.length) l.length = wt l a + wt l b := by
    rw [link_wt, link_wt, wt_last]
  have hul : ∀ i, i < l.length → up1 (link (link (l ++ [(wt l a + wt l b, -1)]) a l.length) b l.length) i = if i = b then (l.length : Int) else if i = a then (l.length : Int) else up1 l i := fun i hi => by
    rw [link_up _ (by rw [link_len, List.length_append]; simp; omega), link_up _ (by rw [List.length_append]; simp; omega), up_app hi]
  have hun : up1 (link (link (l ++ [(wt l a + wt l b, -1)]) a l.length) b l.length) l.length = -1 := by
    rw [link_up _ (by rw [link_len, List.length_append]; simp; omega), if_neg (by omega), link_up _ (by rw [List.length_append]; simp; omega), if_neg (by omega), up_last]
  obtain ⟨la, lda⟩ := hI.low a am
  obtain ⟨lb, ldb⟩ := hI.low b bm
  have wa := hI.wts a al
  have wb := hI.wts b bl
  have hp := hI.pos
  refine ⟨fun i => if i = l.length then max (h a) (h b) + 1 else h i, wt l b, ?_⟩
  rw [hst]
  have hlen : (link (link (l ++ [(wt l a + wt l b, -1)]) a l.length) b l.length).length = l.length + 1 := by
    rw [link_len, link_len, List.length_append, List.length_singleton]
  refine ⟨?_, ?_, ?_, ?_, ?_, ?_, by omega⟩
  · intro v hv
    rw [hlen]
    rcases List.mem_append.1 hv with hv | hv
    · obtain ⟨x1, x2, x3, x4⟩ := hf2m v hv
      obtain ⟨y1, y2⟩ := hI.frl v x1
      dsimp only
      rw [hul v y1, if_neg x3, if_neg x2]
      exact ⟨by omega, y2⟩
    · simp at hv
      subst hv
      exact ⟨by omega, hun⟩
  · rw [List.pairwise_append]
    refine ⟨hn2, by simp, fun x hx y hy => ?_⟩
    simp at hy
    subst hy
    exact (hI.frl x (hf2m x hx).1).1
  · intro i hi
    dsimp only at hi ⊢
    rw [hlen] at hi ⊢
    rcases Nat.lt_succ_iff_lt_or_eq.1 hi with h3 | rfl
    · rw [hul i h3, if_neg (show i ≠ l.length by omega)]
      by_cases hib : i = b
      · right
        subst hib
        rw [if_pos rfl]
        exact ⟨l.length, rfl, h3, by omega, by rw [if_pos rfl]; omega⟩
      · rw [if_neg hib]
        by_cases hia : i = a
        · right
          subst hia
          rw [if_pos rfl]
          exact ⟨l.length, rfl, h3, by omega, by rw [if_pos rfl]; omega⟩
        · rw [if_neg hia]
          rcases hI.ups i h3 with ⟨h4, h5⟩ | ⟨t, h4, h5, h6, h7⟩
          · left
            refine ⟨h4, List.mem_append_left _ ?_⟩
            rw [hf2]
            refine mem_of_ne h2 ?_ (by rw [← hb]; exact hib)
            rw [hf1]
            exact mem_of_ne h1 h5 (by rw [← ha]; exact hia)
          · right
            exact ⟨t, h4, h5, by omega, by rw [if_neg (by omega)]; exact h7⟩
    · left
      exact ⟨hun, by simp⟩
  · intro i hi
    dsimp only at hi ⊢
    rw [hlen] at hi
    rcases Nat.lt_succ_iff_lt_or_eq.1 hi with h3 | rfl
    · rw [hwl i h3, if_neg (by omega)]
      exact hI.wts i h3
    · rw [hwn, if_pos rfl]
      rcases Nat.le_total (h a) (h b) with h4 | h4
      · rw [Nat.max_eq_right h4]
        have h5 : fib (h b - 1) ≤ wt l a := by
          rcases ldb with h6 | ⟨c, h6, h7⟩
          · rw [h6] at h4 ⊢
            have h8 : h a = 0 := by omega
            rw [h8] at wa
            exact wa
          · omega
        have := fib_succ (h b)
        omega
      · rw [Nat.max_eq_left h4]
        have h5 : fib (h a - 1) ≤ fib (h a) := fib_mono (by omega)
        have := fib_succ (h a)
        omega
  · intro v hv
    dsimp only
    rcases List.mem_append.1 hv with hv | hv
    · obtain ⟨x1, x2, x3, x4⟩ := hf2m v hv
      obtain ⟨y1, y2⟩ := hI.frl v x1
      rw [hwl v y1, if_neg (by omega)]
      refine ⟨x4, ?_⟩
      rcases (hI.low v x1).2 with h3 | ⟨c, h3, h4⟩
      · exact .inl h3
      · exact .inr ⟨c, by omega, h4⟩
    · simp at hv
      subst hv
      rw [hwn, if_pos rfl]
      have := fib_pos (h a)
      refine ⟨by omega, .inr ?_⟩
      simp only [Nat.add_sub_cancel]
      rcases Nat.le_total (h a) (h b) with h4 | h4
      · exact ⟨wt l b, Int.le_refl _, by rw [Nat.max_eq_right h4]; exact wb⟩
      · exact ⟨wt l a, hab, by rw [Nat.max_eq_left h4]; exact wa⟩
  · dsimp only
    rw [List.map_append, List.sum_append]
    have e1 : f2.map (wt (link (link (l ++ [(wt l a + wt l b, -1)]) a l.length) b l.length)) = f2.map (wt l) := by
      refine List.map_congr_left (fun v hv => hwl v (hI.frl v (hf2m v hv).1).1)
    rw [e1]
    have t1 := sum_erase (l := l) free k1 h1
    have t2 := sum_erase (l := l) f1 k2 h2
    rw [← ha, ← hf1] at t1
    rw [← hb, ← hf2] at t2
    have t3 := hI.tots
    simp [hwn]
    omega
theorem TI.run {h : Nat → Nat} {p tot : Int} : ∀ (n : Nat) (l : List (Int × Int)) (free : List Nat) (h : Nat → Nat) (p : Int), TI l free h p tot → ∃ h' p', TI (treeF n (l, free)).1 (treeF n (l, free)).2 h' p' tot
  | 0, l, free, h, p, hI => ⟨h, p, hI⟩
  | n + 1, l, free, h, p, hI => by
    rw [treeF]
    split
    · rename_i h1
      obtain ⟨h', p', hI'⟩ := hI.step h1
      exact TI.run (h := h) (p := p) n _ _ h' p' hI'
    · exact ⟨h, p, hI⟩
/-- in how many nodes the one at k stands, itself counted; fuel -/
def upN (l : List (Int × Int)) : Nat → Int → Nat
  | 0, _ => 0
  | f + 1, k => if k < 0 then 0 else upN l f (up1 l k.toNat) + 1
/-- whoever stands in none has weight at most the sum -/
theorem wt_le_sum {l : List (Int × Int)} : ∀ (f : List Nat), (∀ v ∈ f, 0 ≤ wt l v) → ∀ v ∈ f, wt l v ≤ (f.map (wt l)).sum
  | [], _, v, hv => by simp at hv
  | x :: f, h, v, hv => by
    have hs : ∀ (g : List Nat), (∀ v ∈ g, 0 ≤ wt l v) → 0 ≤ (g.map (wt l)).sum := fun g hg => by
      induction g with
      | nil => simp
      | cons y g ih => simp only [List.map_cons, List.sum_cons]; have := hg y (by simp); have := ih (fun v hv => hg v (by simp [hv])); omega
    simp only [List.map_cons, List.sum_cons]
    rcases List.mem_cons.1 hv with rfl | hv
    · have := hs f (fun v hv => h v (by simp [hv])); omega
    · have := wt_le_sum f (fun v hv => h v (by simp [hv])) v hv
      have := h x (by simp)
      omega
theorem TI.low_tot {l : List (Int × Int)} {free : List Nat} {h : Nat → Nat} {p tot : Int} (hI : TI l free h p tot) : ∀ (d i : Nat), l.length - i ≤ d → i < l.length → fib (h i) ≤ tot
  | 0, i, hd, hi => by omega
  | d + 1, i, hd, hi => by
    rcases hI.ups i hi with ⟨h1, h2⟩ | ⟨t, h1, h2, h3, h4⟩
    · have w1 := hI.wts i hi
      have w2 := wt_le_sum (l := l) free (fun v hv => by have := hI.wts v (hI.frl v hv).1; have := fib_pos (h v); omega) i h2
      rw [hI.tots] at w2
      omega
    · have ih := TI.low_tot hI d t (by omega) h3
      exact Int.le_trans (fib_mono (by omega)) ih
theorem TI.deep {l : List (Int × Int)} {free : List Nat} {h : Nat → Nat} {p tot : Int} (hI : TI l free h p tot) : ∀ (f i : Nat), i < l.length → fib (upN l f (up1 l i) + h i) ≤ tot
  | 0, i, hi => by
    rw [upN, Nat.zero_add]
    exact hI.low_tot _ i (Nat.le_refl _) hi
  | f + 1, i, hi => by
    rcases hI.ups i hi with ⟨h1, h2⟩ | ⟨t, h1, h2, h3, h4⟩
    · rw [h1, upN, if_pos (by omega), Nat.zero_add]
      exact hI.low_tot _ i (Nat.le_refl _) hi
    · rw [h1, upN, if_neg (by omega), Int.toNat_natCast]
      have ih := TI.deep hI f t h3
      exact Int.le_trans (fib_mono (by omega)) ih
theorem nodes0_wt {cs : List Int} {i : Nat} (h : i < (nodes0 cs).length) : 0 < wt (nodes0 cs) i ∧ up1 (nodes0 cs) i = -1 := by
  have h1 : (nodes0 cs)[i] ∈ nodes0 cs := List.getElem_mem h
  unfold wt up1
  have e : (nodes0 cs).getD i (0, -1) = (nodes0 cs)[i] := by simp [List.getD, h]
  rw [e]
  obtain ⟨n, hn, e2⟩ := List.mem_map.1 h1
  rw [← e2]
  have := (List.mem_filter.1 hn).2
  exact ⟨by simpa using this, rfl⟩
theorem nodes0_sum : ∀ (cs : List Int), (∀ n ∈ cs, 0 ≤ n) → ((nodes0 cs).map (·.1)).sum = cs.sum
  | [], _ => rfl
  | n :: cs, h => by
    have ih := nodes0_sum cs (fun m hm => h m (by simp [hm]))
    have h0 := h n (by simp)
    unfold nodes0 at *
    rw [List.filter_cons]
    split
    · simp only [List.map_cons, List.sum_cons]; rw [ih]
    · rename_i h1
      simp at h1
      simp only [List.sum_cons]
      rw [ih]
      omega
theorem range_wt (l : List (Int × Int)) : (List.range l.length).map (wt l) = l.map (·.1) := by
  apply List.ext_getElem
  · simp
  · intro i h1 h2
    simp at h1
    simp [wt, List.getD, h1]
theorem TI.start {cs : List Int} (h : ∀ n ∈ cs, 0 ≤ n) : TI (nodes0 cs) (List.range (nodes0 cs).length) (fun _ => 0) 0 cs.sum := by
  refine ⟨fun v hv => ?_, List.pairwise_lt_range, fun i hi => .inl ⟨(nodes0_wt hi).2, by simpa using hi⟩, fun i hi => ?_, fun v hv => ?_, ?_, Int.le_refl _⟩
  · have hv' : v < (nodes0 cs).length := by simpa using hv
    exact ⟨hv', (nodes0_wt hv').2⟩
  · have := (nodes0_wt hi).1
    show (1 : Int) ≤ _
    omega
  · have hv' : v < (nodes0 cs).length := by simpa using hv
    have := (nodes0_wt hv').1
    exact ⟨by omega, .inl rfl⟩
  · rw [range_wt]; exact nodes0_sum cs h
/-- a tree of small counts is not deep -/
theorem tree_deep {cs : List Int} (h : ∀ n ∈ cs, 0 ≤ n) (hs : cs.sum < fib 15) (f i : Nat) (hi : i < (tree cs).length) : upN (tree cs) f (up1 (tree cs) i) < 15 := by
  obtain ⟨h', p', hI⟩ := TI.run (h := fun _ => 0) (p := 0) (nodes0 cs).length (nodes0 cs) (List.range (nodes0 cs).length) _ _ (TI.start h)
  have hd := hI.deep f i hi
  apply Classical.byContradiction
  intro hc
  have := fib_mono (m := 15) (n := upN (tree cs) f (up1 (tree cs) i) + h' i) (by omega)
  have hh : fib (upN (tree cs) f (up1 (tree cs) i) + h' i) ≤ cs.sum := hd
  omega
end Go.Huf
set_option linter.unusedVariables false
set_option linter.unusedSimpArgs false
namespace Go.Huf
theorem treeF_ge : ∀ (n : Nat) (s : List (Int × Int) × List Nat), s.1.length ≤ (treeF n s).1.length
  | 0, s => Nat.le_refl _
  | n + 1, s => by
    rw [treeF]
    split
    · have := treeF_ge n (treeStep s)
      rw [treeStep_len] at this
      omega
    · exact Nat.le_refl _
theorem tree_ge (cs : List Int) : (nodes0 cs).length ≤ (tree cs).length := treeF_ge (nodes0 cs).length (nodes0 cs, List.range (nodes0 cs).length)
theorem treeF_sz : ∀ (n : Nat) (s : List (Int × Int) × List Nat), (treeF n s).1.length ≤ s.1.length + n
  | 0, s => Nat.le_refl _
  | n + 1, s => by
    rw [treeF]
    split
    · have := treeF_sz n (treeStep s)
      rw [treeStep_len] at this
      omega
    · omega
theorem nodes0_le (cs : List Int) : (nodes0 cs).length ≤ cs.length := by
  unfold nodes0
  rw [List.length_map]
  exact List.length_filter_le _ _
theorem tree_sz (cs : List Int) : (tree cs).length ≤ 2 * cs.length := by
  have := treeF_sz (nodes0 cs).length (nodes0 cs, List.range (nodes0 cs).length)
  have := nodes0_le cs
  unfold tree
  dsimp only at *
  omega
theorem tree_ups {cs : List Int} (h : ∀ n ∈ cs, 0 ≤ n) (i : Nat) (hi : i < (tree cs).length) : up1 (tree cs) i = -1 ∨ ∃ t : Nat, up1 (tree cs) i = t ∧ i < t ∧ t < (tree cs).length := by
  obtain ⟨h', p', hI⟩ := TI.run (h := fun _ => 0) (p := 0) (nodes0 cs).length (nodes0 cs) (List.range (nodes0 cs).length) _ _ (TI.start h)
  rcases hI.ups i hi with ⟨h1, _⟩ | ⟨t, h1, h2, h3, _⟩
  · exact .inl h1
  · exact .inr ⟨t, h1, h2, h3⟩
/-- the place among the nodes of symbol i -/
def leaf (cs : List Int) (i : Nat) : Nat := (nodes0 (cs.take i)).length
/-- in how many nodes symbol i stands -/
def dAt (cs : List Int) (i : Nat) : Nat := if cs.getD i 0 = 0 then 0 else max (upN (tree cs) (tree cs).length (up1 (tree cs) (leaf cs i))) 1
def dMost (cs : List Int) : Nat → Nat
  | 0 => 0
  | i + 1 => max (dMost cs i) (dAt cs i)
def depths (cs : List Int) : List Nat := (List.range cs.length).map (dAt cs)
theorem dMost_ge (cs : List Int) : ∀ k i, i < k → dAt cs i ≤ dMost cs k
  | 0, i, h => by omega
  | k + 1, i, h => by
    rw [dMost]
    rcases Nat.lt_succ_iff_lt_or_eq.1 h with h1 | rfl
    · have := dMost_ge cs k i h1; omega
    · omega
theorem dMost_le (cs : List Int) (b : Nat) (h : ∀ i, i < cs.length → dAt cs i ≤ b) : ∀ k, k ≤ cs.length → dMost cs k ≤ b
  | 0, _ => Nat.zero_le _
  | k + 1, hk => by
    rw [dMost]
    have := dMost_le cs b h k (by omega)
    have := h k (by omega)
    omega
theorem nodes0_succ {cs : List Int} {i : Nat} (h : i < cs.length) : leaf cs (i + 1) = leaf cs i + (if 0 < cs[i] then 1 else 0) := by
  unfold leaf
  rw [List.take_succ_eq_append_getElem h]
  unfold nodes0
  rw [List.filter_append, List.map_append, List.length_append]
  congr 1
  by_cases hp : 0 < cs[i] <;> simp [hp]
theorem leaf_le (cs : List Int) (i : Nat) : leaf cs i ≤ (nodes0 cs).length := by
  unfold leaf nodes0
  rw [List.length_map, List.length_map]
  exact (List.Sublist.filter _ (List.take_sublist i cs)).length_le
theorem leaf_lt {cs : List Int} {i : Nat} (h : i < cs.length) (hp : 0 < cs[i]) : leaf cs i < (tree cs).length := by
  have h1 := nodes0_succ h
  rw [if_pos hp] at h1
  have := leaf_le cs (i + 1)
  have := tree_ge cs
  omega
theorem dAt_small {cs : List Int} (h : ∀ n ∈ cs, 0 ≤ n) (hs : cs.sum < fib 15) (i : Nat) (hi : i < cs.length) : dAt cs i ≤ 15 := by
  unfold dAt
  split
  · omega
  · rename_i h1
    rw [List.getD_eq_getElem?_getD, List.getElem?_eq_getElem hi, Option.getD_some] at h1
    have h0 := h _ (List.getElem_mem hi)
    have := tree_deep h hs (tree cs).length (leaf cs i) (leaf_lt hi (by omega))
    omega
/-- a count halved -/
def half (n : Int) : Int := if 0 < n then n.tdiv 2 + 1 else n
theorem half_le {n : Int} (h : 0 ≤ n) : 0 ≤ half n ∧ half n ≤ n ∧ (3 ≤ n → half n < n) ∧ (half n = 0 ↔ n = 0) := by
  unfold half
  by_cases hp : 0 < n
  · rw [if_pos hp, Int.tdiv_eq_ediv_of_nonneg h]
    refine ⟨by omega, by omega, fun h3 => by omega, by omega⟩
  · rw [if_neg hp]
    exact ⟨h, Int.le_refl _, fun h3 => by omega, Iff.rfl⟩
theorem sum_half : ∀ (cs : List Int), (∀ n ∈ cs, 0 ≤ n) → 0 ≤ cs.sum ∧ (cs.map half).sum ≤ cs.sum ∧ ((∃ n ∈ cs, 3 ≤ n) → (cs.map half).sum < cs.sum) ∧ ((∀ n ∈ cs, n ≤ 2) → cs.sum ≤ 2 * cs.length)
  | [], _ => by simp
  | n :: cs, h => by
    obtain ⟨i0, i1, i2, i3⟩ := sum_half cs (fun m hm => h m (by simp [hm]))
    obtain ⟨h0, h1, h2, _⟩ := half_le (h n (by simp))
    have hn := h n (by simp)
    simp only [List.map_cons, List.sum_cons, List.length_cons]
    refine ⟨by omega, by omega, ?_, ?_⟩
    · rintro ⟨m, hm, h3⟩
      rcases List.mem_cons.1 hm with rfl | hm
      · have := h2 h3; omega
      · have := i2 ⟨m, hm, h3⟩; omega
    · intro h4
      have := i3 (fun m hm => h4 m (by simp [hm]))
      have := h4 n (by simp)
      omega
/-- too deep: then the halved counts are fewer -/
theorem deep_half {cs : List Int} (h : ∀ n ∈ cs, 0 ≤ n) (hl : cs.length ≤ 512) (hd : 15 < dMost cs cs.length) : (cs.map half).sum < cs.sum := by
  obtain ⟨_, _, h2, h3⟩ := sum_half cs h
  apply h2
  apply Classical.byContradiction
  intro hc
  have hs := h3 (fun n hn => by
    apply Classical.byContradiction
    intro h4
    exact hc ⟨n, hn, by omega⟩)
  have hf : fib 15 = 1597 := by decide
  have := dMost_le cs 15 (dAt_small h (by omega)) cs.length (Nat.le_refl _)
  omega
end Go.Huf
set_option linter.unusedVariables false
set_option linter.unusedSimpArgs false
namespace Go.Huf
/-- the first of least weight, among the first j, that stands in none and is not that one; below 0: none -/
def rl (l : List (Int × Int)) (no : Int) : Nat → Int
  | 0 => -1
  | j + 1 => if (j : Int) ≠ no ∧ up1 l j < 0 ∧ (rl l no j < 0 ∨ wt l j < wt l (rl l no j).toNat) then j else rl l no j
theorem rl_spec (l : List (Int × Int)) (no : Int) : ∀ j, (rl l no j = -1 ∧ ∀ i, i < j → (i : Int) = no ∨ 0 ≤ up1 l i) ∨
    ∃ b : Nat, rl l no j = b ∧ b < j ∧ (b : Int) ≠ no ∧ up1 l b < 0 ∧ ∀ i, i < j → (i : Int) ≠ no → up1 l i < 0 → wt l b ≤ wt l i ∧ (i < b → wt l b < wt l i)
  | 0 => .inl ⟨rfl, fun i h => by omega⟩
  | j + 1 => by
    rw [rl]
    rcases rl_spec l no j with ⟨h1, h2⟩ | ⟨b, h1, h2, h3, h4, h5⟩
    · by_cases hc : (j : Int) ≠ no ∧ up1 l j < 0
      · rw [if_pos ⟨hc.1, hc.2, .inl (by rw [h1]; omega)⟩]
        right
        refine ⟨j, rfl, by omega, hc.1, hc.2, fun i hi hn hu => ?_⟩
        rcases Nat.lt_succ_iff_lt_or_eq.1 hi with h6 | rfl
        · rcases h2 i h6 with h7 | h7
          · exact absurd h7 hn
          · omega
        · exact ⟨Int.le_refl _, fun h => by omega⟩
      · rw [if_neg (fun h => hc ⟨h.1, h.2.1⟩)]
        left
        refine ⟨h1, fun i hi => ?_⟩
        rcases Nat.lt_succ_iff_lt_or_eq.1 hi with h6 | rfl
        · exact h2 i h6
        · by_cases h7 : (i : Int) = no
          · exact .inl h7
          · right
            apply Classical.byContradiction
            intro h8
            exact hc ⟨h7, by omega⟩
    · by_cases hc : (j : Int) ≠ no ∧ up1 l j < 0 ∧ (rl l no j < 0 ∨ wt l j < wt l (rl l no j).toNat)
      · rw [if_pos hc]
        rw [h1, Int.toNat_natCast] at hc
        have hlt : wt l j < wt l b := by rcases hc.2.2 with h | h <;> omega
        right
        refine ⟨j, rfl, by omega, hc.1, hc.2.1, fun i hi hn hu => ?_⟩
        rcases Nat.lt_succ_iff_lt_or_eq.1 hi with h6 | rfl
        · have := (h5 i h6 hn hu).1
          exact ⟨by omega, fun _ => by omega⟩
        · exact ⟨Int.le_refl _, fun h => by omega⟩
      · rw [if_neg hc]
        right
        refine ⟨b, h1, by omega, h3, h4, fun i hi hn hu => ?_⟩
        rcases Nat.lt_succ_iff_lt_or_eq.1 hi with h6 | rfl
        · exact h5 i h6 hn hu
        · refine ⟨?_, fun h => by omega⟩
          apply Classical.byContradiction
          intro h8
          exact hc ⟨hn, hu, .inr (by rw [h1, Int.toNat_natCast]; omega)⟩
/-- what the list of the free ones gives -/
theorem least_spec {l : List (Int × Int)} {free : List Nat} (hs : free.Pairwise (· < ·)) (h0 : 0 < free.length) :
    free.getD (leastK l free) 0 ∈ free ∧ ∀ v ∈ free, wt l (free.getD (leastK l free) 0) ≤ wt l v ∧ (v < free.getD (leastK l free) 0 → wt l (free.getD (leastK l free) 0) < wt l v) := by
  have hk := leastK_lt (l := l) h0
  refine ⟨getD_mem hk, fun v hv => ?_⟩
  obtain ⟨j, hj, rfl⟩ := List.mem_iff_getElem.1 hv
  have e : free.getD j 0 = free[j] := by simp [List.getD, hj]
  have h1 := leastK_le (l := l) (free := free) hj
  rw [e] at h1
  refine ⟨h1, fun hlt => ?_⟩
  have hg : free.getD (leastK l free) 0 = free[leastK l free] := by simp [List.getD, hk]
  have hjk : j < leastK l free := by
    rcases Nat.lt_trichotomy j (leastK l free) with h | h | h
    · exact h
    · rw [hg] at hlt
      have : free[j] = free[leastK l free] := by simp [h]
      omega
    · have := List.pairwise_iff_getElem.1 hs _ _ hk hj h
      rw [hg] at hlt
      omega
  have h2 := scanK_first l free free.length j hjk
  rw [e] at h2
  exact h2
theorem rl_least {l : List (Int × Int)} {free : List Nat} {no : Int} (hs : free.Pairwise (· < ·)) (h0 : 0 < free.length) (hm : ∀ v : Nat, v ∈ free ↔ v < l.length ∧ (v : Int) ≠ no ∧ up1 l v < 0) :
    rl l no l.length = (free.getD (leastK l free) 0 : Nat) := by
  obtain ⟨h1, h2⟩ := least_spec (l := l) hs h0
  obtain ⟨a1, a2, a3⟩ := (hm _).1 h1
  rcases rl_spec l no l.length with ⟨_, h4⟩ | ⟨b, h3, h4, h5, h6, h7⟩
  · rcases h4 _ a1 with h | h
    · exact absurd h a2
    · omega
  · rw [h3]
    have hb := (hm b).2 ⟨h4, h5, h6⟩
    obtain ⟨c1, c2⟩ := h2 b hb
    obtain ⟨c3, c4⟩ := h7 _ a1 a2 a3
    generalize free.getD (leastK l free) 0 = a at *
    have : b = a := by
      rcases Nat.lt_trichotomy b a with h | h | h
      · have := c2 h; omega
      · exact h
      · have := c4 h; omega
    rw [this]
/-- the step, in the reference's order: linked first, then laid -/
theorem treeStep_ref {l : List (Int × Int)} {free : List Nat} {h : Nat → Nat} {p tot : Int} (hI : TI l free h p tot) (hf : 1 < free.length) :
    ∃ a b : Nat, rl l (-1) l.length = a ∧ rl l a l.length = b ∧ a < l.length ∧ b < l.length ∧ a ≠ b ∧ 0 ≤ wt l a ∧ wt l a ≤ tot ∧ 0 ≤ wt l b ∧ wt l b ≤ tot ∧
      (treeStep (l, free)).1 = link (link l a l.length) b l.length ++ [(wt l a + wt l b, -1)] := by
  obtain ⟨k1, hk1⟩ : ∃ k1, k1 = leastK l free := ⟨_, rfl⟩
  obtain ⟨a, ha⟩ : ∃ a, a = free.getD k1 0 := ⟨_, rfl⟩
  obtain ⟨f1, hf1⟩ : ∃ f1, f1 = free.eraseIdx k1 := ⟨_, rfl⟩
  obtain ⟨k2, hk2⟩ : ∃ k2, k2 = leastK l f1 := ⟨_, rfl⟩
  obtain ⟨b, hb⟩ : ∃ b, b = f1.getD k2 0 := ⟨_, rfl⟩
  have h1 : k1 < free.length := by rw [hk1]; exact leastK_lt (by omega)
  have hl1 : f1.length = free.length - 1 := by rw [hf1, List.length_eraseIdx, if_pos h1]
  have h2 : k2 < f1.length := by rw [hk2]; exact leastK_lt (by omega)
  have hn1 : f1.Pairwise (· < ·) := by rw [hf1]; exact hI.nod.sublist (List.eraseIdx_sublist _ _)
  have am : a ∈ free := by rw [ha]; exact getD_mem h1
  have bm1 : b ∈ f1 := by rw [hb]; exact getD_mem h2
  obtain ⟨bm, hba⟩ : b ∈ free ∧ b ≠ a := by rw [ha]; rw [hf1] at bm1; exact mem_eraseIdx_ne hI.nod h1 bm1
  obtain ⟨al, au⟩ := hI.frl a am
  obtain ⟨bl, bu⟩ := hI.frl b bm
  have hmem : ∀ v : Nat, v ∈ free ↔ v < l.length ∧ (v : Int) ≠ -1 ∧ up1 l v < 0 := fun v => by
    constructor
    · intro hv
      obtain ⟨x1, x2⟩ := hI.frl v hv
      exact ⟨x1, by omega, by omega⟩
    · rintro ⟨x1, _, x3⟩
      rcases hI.ups v x1 with ⟨_, x4⟩ | ⟨t, x4, _⟩
      · exact x4
      · omega
  have hmem1 : ∀ v : Nat, v ∈ f1 ↔ v < l.length ∧ (v : Int) ≠ a ∧ up1 l v < 0 := fun v => by
    constructor
    · intro hv
      rw [hf1] at hv
      obtain ⟨x1, x2⟩ := mem_eraseIdx_ne hI.nod h1 hv
      rw [← ha] at x2
      obtain ⟨x3, x4, x5⟩ := (hmem v).1 x1
      exact ⟨x3, by omega, x5⟩
    · rintro ⟨x1, x2, x3⟩
      rw [hf1]
      exact mem_of_ne h1 ((hmem v).2 ⟨x1, by omega, x3⟩) (by rw [← ha]; omega)
  have hpw : ∀ v ∈ free, 0 ≤ wt l v := fun v hv => by have := hI.wts v (hI.frl v hv).1; have := fib_pos (h v); omega
  have wa := wt_le_sum (l := l) free hpw a am
  have wb := wt_le_sum (l := l) free hpw b bm
  rw [hI.tots] at wa wb
  refine ⟨a, b, ?_, ?_, al, bl, fun e => hba e.symm, hpw a am, wa, hpw b bm, wb, ?_⟩
  · rw [rl_least hI.nod (by omega) hmem, ← hk1, ← ha]
  · rw [rl_least hn1 (by omega) hmem1, ← hk2, ← hb]
  · unfold treeStep
    simp only [← hk1, ← ha, ← hf1, ← hk2, ← hb]
    have e1 : link (l ++ [(wt l a + wt l b, -1)]) a l.length = link l a l.length ++ [(wt l a + wt l b, -1)] := by
      unfold link
      rw [wt_app al, List.set_append_left _ _ al]
    rw [e1]
    have e2 : link (link l a l.length ++ [(wt l a + wt l b, -1)]) b l.length = link (link l a l.length) b l.length ++ [(wt l a + wt l b, -1)] := by
      unfold link
      have hbl : b < (l.set a (wt l a, (l.length : Int))).length := by rw [List.length_set]; exact bl
      rw [wt_app hbl, List.set_append_left _ _ hbl]
    rw [e2]
end Go.Huf
set_option linter.unusedVariables false
set_option linter.unusedSimpArgs false
namespace Go.Huf
abbrev RN3 := (Int × Int) × Int
/-- the symbols' nodes of the first k counts -/
def lay (cs : List Int) : Nat → List RN3
  | 0 => []
  | k + 1 => lay cs k ++ (if 0 < cs.getD k 0 then [((cs.getD k 0, -1), (k : Int))] else [])
theorem lay_fst (cs : List Int) : ∀ k, k ≤ cs.length → (lay cs k).map Prod.fst = nodes0 (cs.take k)
  | 0, _ => by simp [lay, nodes0]
  | k + 1, h => by
    have e : cs.getD k 0 = cs[k] := by simp [List.getD, show k < cs.length by omega]
    rw [lay, List.map_append, lay_fst cs k (by omega), List.take_succ_eq_append_getElem (by omega), e]
    unfold nodes0
    rw [List.filter_append, List.map_append]
    congr 1
    by_cases hp : 0 < cs[k] <;> simp [hp]
theorem lay_len (cs : List Int) (k : Nat) (h : k ≤ cs.length) : (lay cs k).length = leaf cs k := by
  have := congrArg List.length (lay_fst cs k h)
  rwa [List.length_map] at this
theorem lay_snd (cs : List Int) : ∀ (k i : Nat) (h : k ≤ cs.length) (hi : i < (lay cs k).length), ∃ j : Nat, (lay cs k)[i].2 = j ∧ j < k ∧ 0 < cs.getD j 0 ∧ leaf cs j = i
  | 0, i, _, hi => by simp [lay] at hi
  | k + 1, i, h, hi => by
    by_cases hlt : i < (lay cs k).length
    · obtain ⟨j, h1, h2, h3, h4⟩ := lay_snd cs k i (by omega) hlt
      refine ⟨j, ?_, by omega, h3, h4⟩
      simp only [lay]
      rw [List.getElem_append_left hlt]
      exact h1
    · by_cases hp : 0 < cs.getD k 0
      · simp only [lay, if_pos hp, List.length_append, List.length_singleton] at hi
        obtain rfl : i = (lay cs k).length := by omega
        refine ⟨k, ?_, by omega, hp, (lay_len cs k (by omega)).symm⟩
        simp only [lay, if_pos hp]
        rw [List.getElem_append_right (Nat.le_refl _)]
        simp
      · simp only [lay, if_neg hp, List.append_nil] at hi
        omega
/-- one node linked -/
def rlink (r : List RN3) (i : Nat) (t : Int) : List RN3 := r.set i (((r.getD i ((0, -1), -1)).1.1, t), (r.getD i ((0, -1), -1)).2)
theorem rlink_len {r : List RN3} {i : Nat} {t : Int} : (rlink r i t).length = r.length := by simp [rlink]
theorem rlink_fst {r : List RN3} {i : Nat} {t : Int} (h : i < r.length) : (rlink r i t).map Prod.fst = link (r.map Prod.fst) i t := by
  unfold rlink link wt
  rw [List.map_set]
  simp [List.getD, h]
theorem rlink_snd {r : List RN3} {i : Nat} {t : Int} (h : i < r.length) : (rlink r i t).map Prod.snd = r.map Prod.snd := by
  unfold rlink
  rw [List.map_set]
  apply List.ext_getElem
  · simp
  · intro j h1 h2
    rw [List.getElem_set]
    split
    · subst_vars
      simp [List.getD, h]
    · rfl
/-- one free one alone: there is no second -/
theorem rl_none {l : List (Int × Int)} {free : List Nat} {h : Nat → Nat} {p tot : Int} (hI : TI l free h p tot) (hf : free.length = 1) : rl l (rl l (-1) l.length) l.length = -1 := by
  obtain ⟨x, rfl⟩ := List.length_eq_one_iff.1 hf
  have hx := hI.frl x (by simp)
  have hin : ∀ b : Nat, b < l.length → up1 l b < 0 → b = x := fun b hb hu => by
    rcases hI.ups b hb with ⟨_, h1⟩ | ⟨t, h1, _⟩
    · simpa using h1
    · omega
  rcases rl_spec l (-1) l.length with ⟨h1, h2⟩ | ⟨b, h1, h2, h3, h4, _⟩
  · rcases h2 x hx.1 with h | h <;> omega
  · rw [h1]
    have hbx := hin b h2 h4
    rcases rl_spec l b l.length with ⟨h5, _⟩ | ⟨c, h5, h6, h7, h8, _⟩
    · exact h5
    · have := hin c h6 h8
      omega
theorem rl_range (l : List (Int × Int)) (no : Int) (j : Nat) : -1 ≤ rl l no j ∧ rl l no j < j ∨ rl l no j = -1 := by
  rcases rl_spec l no j with ⟨h1, _⟩ | ⟨b, h1, h2, _⟩
  · exact .inr h1
  · left; omega
/-- the row of depths, when the first i symbols' are laid -/
def oRow (cs : List Int) (i : Nat) : List Int := (List.range cs.length).map fun j => if leaf cs j < i then (dAt cs j : Int) else 0
theorem oRow_len (cs : List Int) (i : Nat) : (oRow cs i).length = cs.length := by simp [oRow]
theorem oRow_zero (cs : List Int) : oRow cs 0 = List.replicate cs.length 0 := by
  unfold oRow
  apply List.ext_getElem
  · simp
  · intro j h1 h2; simp
theorem leaf_mono {cs : List Int} : ∀ {j k : Nat}, j ≤ k → k ≤ cs.length → leaf cs j ≤ leaf cs k := by
  intro j k h hk
  unfold leaf nodes0
  rw [List.length_map, List.length_map]
  exact (List.Sublist.filter _ (List.take_sublist_take_left h)).length_le
theorem leaf_lt2 {cs : List Int} {j k : Nat} (h : j < k) (hk : k ≤ cs.length) (hp : 0 < cs.getD j 0) : leaf cs j < leaf cs k := by
  have e : cs.getD j 0 = cs[j] := by simp [List.getD, show j < cs.length by omega]
  rw [e] at hp
  have h1 := nodes0_succ (cs := cs) (i := j) (by omega)
  rw [if_pos hp] at h1
  have := leaf_mono (cs := cs) (j := j + 1) (k := k) (by omega) hk
  omega
theorem dAt_zero {cs : List Int} {j : Nat} (h : cs.getD j 0 = 0) : dAt cs j = 0 := by unfold dAt; rw [if_pos h]
theorem oRow_succ {cs : List Int} {i j : Nat} (h0 : ∀ n ∈ cs, 0 ≤ n) (hj : j < cs.length) (hp : 0 < cs.getD j 0) (hl : leaf cs j = i) : (oRow cs i).set j (dAt cs j : Int) = oRow cs (i + 1) := by
  apply List.ext_getElem
  · simp [oRow]
  · intro q h1 h2
    have hq : q < cs.length := by rw [List.length_set, oRow_len] at h1; exact h1
    rw [List.getElem_set]
    simp only [oRow, List.getElem_map, List.getElem_range]
    by_cases hjq : j = q
    · subst hjq
      rw [if_pos rfl, if_pos (by omega)]
    · rw [if_neg hjq]
      by_cases hlq : leaf cs q = i
      · have hz : cs.getD q 0 = 0 := by
          apply Classical.byContradiction
          intro hne
          have hqn : 0 ≤ cs.getD q 0 := by
            rw [show cs.getD q 0 = cs[q] by simp [List.getD, hq]]
            exact h0 _ (List.getElem_mem hq)
          rcases Nat.lt_or_ge j q with h | h
          · have := leaf_lt2 h (by omega) hp
            omega
          · have := leaf_lt2 (cs := cs) (j := q) (k := j) (by omega) (by omega) (by omega)
            omega
        rw [dAt_zero hz]
        simp
      · by_cases h3 : leaf cs q < i
        · rw [if_pos h3, if_pos (by omega)]
        · rw [if_neg h3, if_neg (by omega)]
theorem oRow_all {cs : List Int} (h0 : ∀ n ∈ cs, 0 ≤ n) : oRow cs (leaf cs cs.length) = (depths cs).map fun (k : Nat) => (k : Int) := by
  unfold oRow depths
  rw [List.map_map]
  refine List.map_congr_left (fun j hj => ?_)
  have hj' : j < cs.length := by simpa using hj
  dsimp only [Function.comp]
  by_cases hz : cs.getD j 0 = 0
  · rw [dAt_zero hz]; simp
  · have hn : 0 ≤ cs.getD j 0 := by
      rw [show cs.getD j 0 = cs[j] by simp [List.getD, hj']]
      exact h0 _ (List.getElem_mem hj')
    rw [if_pos (leaf_lt2 hj' (Nat.le_refl _) (by omega))]
end Go.Huf
set_option linter.unusedVariables false
set_option linter.unusedSimpArgs false
namespace Go.Huf
/-- how often k comes -/
def cnt (ls : List Int) (k : Nat) : Nat := ls.countP (fun n => decide (n = (k : Int)))
/-- how many come -/
def some_ (ls : List Int) : Nat := ls.countP (fun n => decide (0 < n))
/-- how much room a code of k bits takes -/
def p2 (k : Nat) : Nat := 2 ^ (15 - k)
theorem p2_le (k : Nat) : 1 ≤ p2 k ∧ p2 k ≤ 32768 := by
  have h1 : 2 ^ (15 - k) ≤ 2 ^ 15 := Nat.pow_le_pow_right (by omega) (by omega)
  have h2 := Nat.two_pow_pos (15 - k)
  simp only [Nat.reducePow] at h1
  unfold p2
  omega
def pw (n : Int) : Int := if 0 < n then p2 n.toNat else 0
def room (ls : List Int) : Int := (ls.map pw).sum
def good (ls : List Int) : Prop := ∀ n ∈ ls, 0 ≤ n ∧ n ≤ 15
def okL (ls : List Int) : Prop := ls.length ≤ 512 ∧ good ls ∧ (some_ ls = 0 ∨ some_ ls = 1 ∧ cnt ls 1 = 1 ∨ room ls = 32768)
instance (ls : List Int) : Decidable (good ls) := by unfold good; infer_instance
instance (ls : List Int) : Decidable (okL ls) := by unfold okL; infer_instance
def chkE (ls : List Int) : Int := if okL ls then 0 else 51
theorem chkE_ok {ls : List Int} (hl : ls.length ≤ 512) (hg : good ls) (h : some_ ls = 0 ∨ some_ ls = 1 ∧ cnt ls 1 = 1 ∨ room ls = 32768) : chkE ls = 0 := by
  unfold chkE
  rw [if_pos (show okL ls from ⟨hl, hg, h⟩)]
theorem chkE_no {ls : List Int} (h : ¬ (some_ ls = 0 ∨ some_ ls = 1 ∧ cnt ls 1 = 1 ∨ room ls = 32768)) : chkE ls = 51 := by
  unfold chkE
  rw [if_neg (show ¬ okL ls from fun h2 => h h2.2.2)]
theorem cnt_le (ls : List Int) (k : Nat) : cnt ls k ≤ ls.length := List.countP_le_length
theorem some_le (ls : List Int) : some_ ls ≤ ls.length := List.countP_le_length
theorem cnt_snoc (ls : List Int) (x : Int) (k : Nat) : cnt (ls ++ [x]) k = cnt ls k + (if x = k then 1 else 0) := by
  unfold cnt
  rw [List.countP_append]
  by_cases h : x = (k : Int) <;> simp [h]
theorem some_snoc (ls : List Int) (x : Int) : some_ (ls ++ [x]) = some_ ls + (if 0 < x then 1 else 0) := by
  unfold some_
  rw [List.countP_append]
  by_cases h : 0 < x <;> simp [h]
theorem room_snoc (ls : List Int) (x : Int) : room (ls ++ [x]) = room ls + pw x := by
  unfold room
  simp [List.sum_append]
theorem pw_range (n : Int) : 0 ≤ pw n ∧ pw n ≤ 32768 := by
  unfold pw
  split
  · have := p2_le n.toNat
    omega
  · omega
theorem room_range : ∀ ls : List Int, 0 ≤ room ls ∧ room ls ≤ 32768 * ls.length
  | [] => by simp [room]
  | x :: ls => by
    have := room_range ls
    have := pw_range x
    unfold room at *
    simp only [List.map_cons, List.sum_cons, List.length_cons]
    omega
theorem some_cnt : ∀ (ls : List Int), good ls → some_ ls + cnt ls 0 = ls.length
  | [], _ => rfl
  | x :: ls, h => by
    have ih := some_cnt ls (fun n hn => h n (by simp [hn]))
    have hx := h x (by simp)
    unfold some_ cnt at *
    rw [List.countP_cons, List.countP_cons, List.length_cons]
    by_cases h0 : 0 < x
    · have h1 : ¬ x = ((0 : Nat) : Int) := by omega
      simp only [h0, h1, decide_true, decide_false, if_true, Bool.false_eq_true, if_false]
      omega
    · have h1 : x = ((0 : Nat) : Int) := by omega
      simp only [h0, decide_false, Bool.false_eq_true, if_false]
      rw [if_pos (by simpa using h1)]
      omega
/-- the room, length by length -/
def rm (ls : List Int) : Nat → Int
  | 0 => 0
  | n + 1 => rm ls n + (cnt ls (n + 1) : Int) * (p2 (n + 1) : Int)
theorem rm_cons (x : Int) (ls : List Int) : ∀ m, m ≤ 15 → rm (x :: ls) m = rm ls m + (if 1 ≤ x ∧ x ≤ m then (p2 x.toNat : Int) else 0)
  | 0, _ => by simp only [rm]; rw [if_neg (by omega)]; rfl
  | m + 1, h => by
    have ih := rm_cons x ls m (by omega)
    have hc : (cnt (x :: ls) (m + 1) : Int) = cnt ls (m + 1) + (if x = ((m + 1 : Nat) : Int) then 1 else 0) := by
      unfold cnt
      rw [List.countP_cons]
      by_cases hx : x = ((m + 1 : Nat) : Int)
      · rw [if_pos hx, if_pos (by simpa using hx)]; omega
      · rw [if_neg hx, if_neg (by simpa using hx)]; omega
    rw [rm, rm, ih, hc]
    by_cases hx : x = ((m + 1 : Nat) : Int)
    · rw [if_pos hx, if_neg (by omega), if_pos (by omega)]
      have : x.toNat = m + 1 := by omega
      rw [this, Int.add_mul]
      omega
    · rw [if_neg hx]
      rw [show ((cnt ls (m + 1) : Int) + 0) = cnt ls (m + 1) by omega]
      by_cases h2 : 1 ≤ x ∧ x ≤ m
      · rw [if_pos h2, if_pos (by omega)]
        omega
      · rw [if_neg h2, if_neg (by omega)]
        omega
theorem rm_room : ∀ (ls : List Int), good ls → rm ls 15 = room ls
  | [], _ => by decide
  | x :: ls, h => by
    have ih := rm_room ls (fun n hn => h n (by simp [hn]))
    have hx := h x (by simp)
    rw [rm_cons x ls 15 (by omega), ih]
    unfold room
    rw [List.map_cons, List.sum_cons]
    have : pw x = if 1 ≤ x ∧ x ≤ (15 : Nat) then (p2 x.toNat : Int) else 0 := by
      unfold pw
      by_cases h0 : 0 < x
      · rw [if_pos h0, if_pos (by omega)]
      · rw [if_neg h0, if_neg (by omega)]
    rw [this]
    omega
theorem rm_small {ls : List Int} (hl : ls.length ≤ 512) : ∀ m, 0 ≤ rm ls m ∧ rm ls m ≤ 16777216 * m
  | 0 => by simp [rm]
  | m + 1 => by
    have ih := rm_small hl m
    have hc := cnt_le ls (m + 1)
    have h1 : cnt ls (m + 1) * p2 (m + 1) ≤ 512 * 32768 := Nat.mul_le_mul (by omega) (p2_le _).2
    have h2 : ((cnt ls (m + 1) : Int) * (p2 (m + 1) : Int)) = ((cnt ls (m + 1) * p2 (m + 1) : Nat) : Int) := by simp
    rw [rm, h2]
    omega
theorem rm_mul {ls : List Int} (hl : ls.length ≤ 512) (m : Nat) : 0 ≤ (cnt ls m : Int) * (p2 m : Int) ∧ (cnt ls m : Int) * (p2 m : Int) ≤ 16777216 := by
  have hc := cnt_le ls m
  have h1 : cnt ls m * p2 m ≤ 512 * 32768 := Nat.mul_le_mul (by omega) (p2_le _).2
  have h2 : ((cnt ls m : Int) * (p2 m : Int)) = ((cnt ls m * p2 m : Nat) : Int) := by simp
  rw [h2]
  omega
end Go.Huf
set_option linter.unusedVariables false
set_option linter.unusedSimpArgs false
namespace Go.Huf
section
variable (key : Nat → Int)
/-- x stands ahead of y -/
def lexlt (x y : Nat) : Prop := key x < key y ∨ key x = key y ∧ x < y
instance (x y : Nat) : Decidable (lexlt key x y) := by unfold lexlt; infer_instance
theorem lex_irrefl (x : Nat) : ¬ lexlt key x x := by unfold lexlt; omega
variable {key}
theorem lex_trans {x y z : Nat} (h1 : lexlt key x y) (h2 : lexlt key y z) : lexlt key x z := by unfold lexlt at *; omega
theorem lex_asymm {x y : Nat} (h1 : lexlt key x y) : ¬ lexlt key y x := by unfold lexlt at *; omega
theorem lex_total {x y : Nat} (h : x ≠ y) : lexlt key x y ∨ lexlt key y x := by unfold lexlt; omega
/-- a later one stands ahead of an earlier one just where its key is less -/
theorem lex_late {x y : Nat} (h : y < x) : lexlt key x y ↔ key x < key y := by unfold lexlt; omega
variable (key)
def ins (x : Nat) : List Nat → List Nat
  | [] => [x]
  | y :: l => if lexlt key x y then x :: y :: l else y :: ins x l
def isort : List Nat → List Nat
  | [] => []
  | x :: l => ins key x (isort l)
/-- sorted, strictly -/
def srtd (l : List Nat) : Prop := l.Pairwise (lexlt key)
variable {key}
theorem ins_perm (x : Nat) : ∀ l, (ins key x l).Perm (x :: l)
  | [] => .refl _
  | y :: l => by
    rw [ins]
    split
    · exact .refl _
    · exact ((ins_perm x l).cons y).trans (List.Perm.swap x y l)
theorem isort_perm : ∀ l, (isort key l).Perm l
  | [] => .refl _
  | x :: l => by
    rw [isort]
    exact (ins_perm x _).trans ((isort_perm l).cons x)
theorem ins_srtd {x : Nat} : ∀ {l}, srtd key l → x ∉ l → srtd key (ins key x l)
  | [], _, _ => by simp [ins, srtd]
  | y :: l, h, hx => by
    rw [ins]
    have h' := List.pairwise_cons.1 h
    split
    · rename_i hlt
      refine List.pairwise_cons.2 ⟨fun z hz => ?_, h⟩
      rcases List.mem_cons.1 hz with rfl | hz
      · exact hlt
      · exact lex_trans hlt (h'.1 z hz)
    · rename_i hlt
      have hxy : x ≠ y := fun e => hx (by simp [e])
      refine List.pairwise_cons.2 ⟨fun z hz => ?_, ins_srtd h'.2 (fun hm => hx (by simp [hm]))⟩
      rcases List.mem_cons.1 ((ins_perm x l).mem_iff.1 hz) with rfl | hz
      · rcases lex_total (key := key) hxy with h1 | h1
        · exact absurd h1 hlt
        · exact h1
      · exact h'.1 z hz
theorem isort_srtd : ∀ {l : List Nat}, l.Nodup → srtd key (isort key l)
  | [], _ => List.Pairwise.nil
  | x :: l, h => by
    have h' := List.nodup_cons.1 h
    rw [isort]
    exact ins_srtd (isort_srtd h'.2) (fun hm => h'.1 ((isort_perm l).mem_iff.1 hm))
theorem srtd_nodup {l : List Nat} (h : srtd key l) : l.Nodup := List.Pairwise.imp (fun {a b} hab => by intro e; subst e; exact lex_irrefl key a hab) h
/-- there is one sorted row of the same numbers -/
theorem srtd_unique : ∀ {l l' : List Nat}, srtd key l → srtd key l' → l.Perm l' → l = l'
  | [], l', _, _, hp => (List.nil_perm.1 hp).symm
  | x :: l, l', h, h', hp => by
    cases l' with
    | nil => exact absurd (List.perm_nil.1 hp) (by simp)
    | cons y l' =>
      have a := List.pairwise_cons.1 h
      have b := List.pairwise_cons.1 h'
      have hxy : x = y := by
        have h1 : x ∈ y :: l' := hp.mem_iff.1 (by simp)
        have h2 : y ∈ x :: l := hp.mem_iff.2 (by simp)
        rcases List.mem_cons.1 h1 with h1 | h1
        · exact h1
        · rcases List.mem_cons.1 h2 with h2 | h2
          · exact h2.symm
          · exact absurd (a.1 y h2) (lex_asymm (b.1 x h1))
      subst hxy
      rw [srtd_unique a.2 b.2 (List.Perm.cons_inv hp)]
theorem isort_eq {l l' : List Nat} (h : srtd key l) (hp : l.Perm l') : l = isort key l' :=
  srtd_unique h (isort_srtd (hp.nodup_iff.1 (srtd_nodup h))) (hp.trans (isort_perm l').symm)
theorem isort_len (l : List Nat) : (isort key l).length = l.length := (isort_perm l).length_eq
theorem isort_id {l : List Nat} (h : srtd key l) : isort key l = l := (isort_eq h (.refl _)).symm
theorem srtd_append {l l' : List Nat} (h : srtd key l) (h' : srtd key l') (hx : ∀ x ∈ l, ∀ y ∈ l', lexlt key x y) : srtd key (l ++ l') := List.pairwise_append.2 ⟨h, h', hx⟩
/-- two rows, the one wholly ahead of the other -/
theorem isort_append {l l' : List Nat} (hn : (l ++ l').Nodup) (hx : ∀ x ∈ l, ∀ y ∈ l', lexlt key x y) : isort key (l ++ l') = isort key l ++ isort key l' := by
  have hn' := List.nodup_append.1 hn
  symm
  refine isort_eq (srtd_append (isort_srtd hn'.1) (isort_srtd hn'.2.1) (fun x h y h' => hx x ((isort_perm l).mem_iff.1 h) y ((isort_perm l').mem_iff.1 h'))) ?_
  exact List.Perm.append (isort_perm l) (isort_perm l')
theorem isort_of_perm {l l' : List Nat} (hn : l.Nodup) (hp : l.Perm l') : isort key l = isort key l' :=
  isort_eq (isort_srtd hn) ((isort_perm l).trans hp)
end
end Go.Huf
namespace Go.Huf
/-- the symbols that have a code, among the first k -/
def symsK (ls : List Int) (k : Nat) : List Nat := (List.range k).filter fun i => decide (0 < ls.getD i 0)
/-- the symbols that have a code, by length -/
def ord (ls : List Int) : List Nat := isort (fun i => ls.getD i 0) (symsK ls ls.length)
theorem symsK_succ (ls : List Int) (k : Nat) : symsK ls (k + 1) = symsK ls k ++ (if 0 < ls.getD k 0 then [k] else []) := by
  unfold symsK
  rw [List.range_succ, List.filter_append]
  congr 1
  by_cases h : 0 < ls.getD k 0
  · rw [if_pos h, List.filter_cons_of_pos (by simpa using h)]; rfl
  · rw [if_neg h, List.filter_cons_of_neg (by simpa using h)]; rfl
theorem symsK_len (ls : List Int) (k : Nat) : (symsK ls k).length ≤ k := by
  have := List.length_filter_le (fun i => decide (0 < ls.getD i 0)) (List.range k)
  rw [List.length_range] at this
  exact this
theorem symsK_mem {ls : List Int} {k i : Nat} : i ∈ symsK ls k ↔ i < k ∧ 0 < ls.getD i 0 := by
  simp [symsK]
theorem symsK_inc (ls : List Int) (k : Nat) : (symsK ls k).Pairwise (· < ·) := List.pairwise_lt_range.sublist List.filter_sublist
theorem ord_len (ls : List Int) : (ord ls).length = (symsK ls ls.length).length := isort_len _
end Go.Huf
namespace Go.Huf
section
variable {key : Nat → Int}
theorem srtd_get {l : List Nat} (h : srtd key l) {i j : Nat} (hij : i < j) (hj : j < l.length) : lexlt key (l.getD i 0) (l.getD j 0) := by
  have := List.pairwise_iff_getElem.1 h i j (by omega) hj hij
  simpa [List.getD, hj, show i < l.length by omega] using this
theorem srtd_le {l : List Nat} (h : srtd key l) {i j : Nat} (hij : i ≤ j) (hj : j < l.length) : lexlt key (l.getD i 0) (l.getD j 0) ∨ l.getD i 0 = l.getD j 0 := by
  rcases Nat.lt_or_eq_of_le hij with h1 | rfl
  · exact .inl (srtd_get h h1 hj)
  · exact .inr rfl
theorem lex_le_trans {x y z : Nat} (h1 : lexlt key x y ∨ x = y) (h2 : lexlt key y z) : lexlt key x z := by
  rcases h1 with h1 | rfl
  · exact lex_trans h1 h2
  · exact h2
theorem lex_trans_le {x y z : Nat} (h1 : lexlt key x y) (h2 : lexlt key y z ∨ y = z) : lexlt key x z := by
  rcases h2 with h2 | rfl
  · exact lex_trans h1 h2
  · exact h1
theorem take_getD {l : List Nat} {s : Nat} {x : Nat} (h : x ∈ l.take s) : ∃ i, i < s ∧ i < l.length ∧ x = l.getD i 0 := by
  obtain ⟨i, hi, rfl⟩ := List.mem_iff_getElem.1 h
  rw [List.length_take] at hi
  exact ⟨i, by omega, by omega, by simp [List.getD, show i < l.length by omega]⟩
theorem drop_getD {l : List Nat} {s : Nat} {x : Nat} (h : x ∈ l.drop s) : ∃ i, s ≤ i ∧ i < l.length ∧ x = l.getD i 0 := by
  obtain ⟨i, hi, rfl⟩ := List.mem_iff_getElem.1 h
  rw [List.length_drop] at hi
  exact ⟨s + i, by omega, by omega, by simp [List.getD, show s + i < l.length by omega]⟩
theorem sym_nodup {A B : List Nat} (hA : srtd key A) (hB : srtd key B) (hlt : ∀ x ∈ A, ∀ y ∈ B, x < y) : (A ++ B).Nodup :=
  List.nodup_append.2 ⟨srtd_nodup hA, srtd_nodup hB, fun a ha b hb => by have := hlt a ha b hb; omega⟩
theorem split_perm (A B : List Nat) (s e : Nat) : (A.take s ++ B.take e ++ (A.drop s ++ B.drop e)).Perm (A ++ B) := by
  have h1 : (A.take s ++ B.take e ++ (A.drop s ++ B.drop e)).Perm (A.take s ++ A.drop s ++ (B.take e ++ B.drop e)) := by
    rw [List.append_assoc, List.append_assoc]
    refine List.Perm.append_left _ ?_
    rw [← List.append_assoc, ← List.append_assoc]
    exact List.Perm.append_right _ List.perm_append_comm
  rwa [List.take_append_drop, List.take_append_drop] at h1
theorem sym_split {A B : List Nat} (hA : srtd key A) (hB : srtd key B) (hlt : ∀ x ∈ A, ∀ y ∈ B, x < y) {s e : Nat} (hs : s ≤ A.length) (he : e ≤ B.length)
    (h1 : 0 < s → e < B.length → ¬ lexlt key (B.getD e 0) (A.getD (s - 1) 0)) (h2 : 0 < e → s < A.length → lexlt key (B.getD (e - 1) 0) (A.getD s 0)) :
    isort key (A ++ B) = isort key (A.take s ++ B.take e) ++ isort key (A.drop s ++ B.drop e) := by
  have hnd := sym_nodup hA hB hlt
  have hp := split_perm A B s e
  rw [← isort_of_perm (hp.nodup_iff.2 hnd) hp]
  refine isort_append (hp.nodup_iff.2 hnd) (fun x hx y hy => ?_)
  rcases List.mem_append.1 hx with hx | hx
  · obtain ⟨i, hi, hi2, rfl⟩ := take_getD hx
    rcases List.mem_append.1 hy with hy | hy
    · obtain ⟨j, hj, hj2, rfl⟩ := drop_getD hy
      exact srtd_get hA (by omega) hj2
    · obtain ⟨j, hj, hj2, rfl⟩ := drop_getD hy
      have h3 := h1 (by omega) (by omega)
      have hne : A.getD (s - 1) 0 < B.getD e 0 := hlt _ (getD_mem (by omega)) _ (getD_mem (by omega))
      have h4 : lexlt key (A.getD (s - 1) 0) (B.getD e 0) := (lex_total (key := key) (by omega)).resolve_right h3
      exact lex_le_trans (srtd_le hA (by omega) (by omega)) (lex_trans_le h4 (srtd_le hB hj hj2))
  · obtain ⟨i, hi, hi2, rfl⟩ := take_getD hx
    rcases List.mem_append.1 hy with hy | hy
    · obtain ⟨j, hj, hj2, rfl⟩ := drop_getD hy
      have h3 := h2 (by omega) (by omega)
      exact lex_le_trans (srtd_le hB (by omega) (by omega)) (lex_trans_le h3 (srtd_le hA hj hj2))
    · obtain ⟨j, hj, hj2, rfl⟩ := drop_getD hy
      exact srtd_get hB (by omega) hj2
/-- while the split is searched -/
def SS (key : Nat → Int) (A B : List Nat) (mid lo hi st r : Nat) : Prop :=
  lo ≤ st ∧ st ≤ r ∧ r ≤ hi ∧ (∀ c, lo ≤ c → c < st → ¬ lexlt key (B.getD (mid - 1 - c) 0) (A.getD c 0)) ∧ ∀ c, r ≤ c → c < hi → lexlt key (B.getD (mid - 1 - c) 0) (A.getD c 0)
theorem ss_mono {A B : List Nat} (hA : srtd key A) (hB : srtd key B) {mid c c' : Nat} (hcc : c' ≤ c) (hc : c < A.length) (hcm : c < mid) (hb : mid - 1 - c' < B.length)
    (h : lexlt key (B.getD (mid - 1 - c') 0) (A.getD c' 0)) : lexlt key (B.getD (mid - 1 - c) 0) (A.getD c 0) :=
  lex_le_trans (srtd_le hB (by omega) hb) (lex_trans_le h (srtd_le hA hcc hc))
theorem SS.up {A B : List Nat} {mid lo hi st r : Nat} (h : SS key A B mid lo hi st r) (hA : srtd key A) (hB : srtd key B) (hhi : hi ≤ A.length ∧ hi ≤ mid) (hlo : mid ≤ lo + B.length) {c : Nat} (h1 : st ≤ c) (h2 : c < r)
    (hc : ¬ lexlt key (B.getD (mid - 1 - c) 0) (A.getD c 0)) : SS key A B mid lo hi (c + 1) r := by
  obtain ⟨a1, a2, a3, a4, a5⟩ := h
  refine ⟨by omega, by omega, a3, fun c' h3 h4 hl => hc (ss_mono hA hB (by omega) (by omega) (by omega) (by omega) hl), a5⟩
theorem SS.down {A B : List Nat} {mid lo hi st r : Nat} (h : SS key A B mid lo hi st r) (hA : srtd key A) (hB : srtd key B) (hhi : hi ≤ A.length ∧ hi ≤ mid) (hlo : mid ≤ lo + B.length) {c : Nat} (h1 : st ≤ c) (h2 : c < r)
    (hc : lexlt key (B.getD (mid - 1 - c) 0) (A.getD c 0)) : SS key A B mid lo hi st c := by
  obtain ⟨a1, a2, a3, a4, a5⟩ := h
  refine ⟨a1, by omega, by omega, a4, fun c' h3 h4 => ss_mono hA hB h3 (by omega) (by omega) (by omega) hc⟩
theorem SS.done {A B : List Nat} {mid lo hi s : Nat} (h : SS key A B mid lo hi s s) (hA : srtd key A) (hB : srtd key B) (hlt : ∀ x ∈ A, ∀ y ∈ B, x < y) (hhi : hi = min mid A.length) (hlo : lo = mid - B.length) :
    isort key (A ++ B) = isort key (A.take s ++ B.take (mid - s)) ++ isort key (A.drop s ++ B.drop (mid - s)) := by
  obtain ⟨a1, a2, a3, a4, a5⟩ := h
  refine sym_split hA hB hlt (by omega) (by omega) (fun h1 h2 => ?_) (fun h1 h2 => ?_)
  · have := a4 (s - 1) (by omega) (by omega)
    rwa [show mid - 1 - (s - 1) = mid - s by omega] at this
  · have := a5 s (by omega) (by omega)
    rwa [show mid - 1 - s = mid - s - 1 by omega] at this
/-- one against a row: it goes in at i -/
theorem one_in {x : Nat} {B : List Nat} (hB : srtd key B) (hn : x ∉ B) {i : Nat} (hi : i ≤ B.length) (h1 : ∀ k, k < i → lexlt key (B.getD k 0) x) (h2 : ∀ k, i ≤ k → k < B.length → ¬ lexlt key (B.getD k 0) x) (l : List Nat) (hl : l.Perm (x :: B)) :
    isort key l = B.take i ++ x :: B.drop i := by
  symm
  refine isort_eq ?_ ?_
  · have hs : srtd key (B.take i ++ B.drop i) := by rw [List.take_append_drop]; exact hB
    have h := List.pairwise_append.1 hs
    refine List.pairwise_append.2 ⟨h.1, List.pairwise_cons.2 ⟨fun y hy => ?_, h.2.1⟩, fun a ha b hb => ?_⟩
    · have hm := List.mem_of_mem_drop hy
      obtain ⟨j, hj, hj2, rfl⟩ := drop_getD hy
      exact (lex_total (key := key) (fun e => hn (by rw [e]; exact hm))).resolve_right (h2 j hj hj2)
    · rcases List.mem_cons.1 hb with rfl | hb
      · obtain ⟨j, hj, hj2, rfl⟩ := take_getD ha
        exact h1 j hj
      · exact h.2.2 a ha b hb
  · refine List.perm_middle.trans ?_
    rw [List.take_append_drop]
    exact hl.symm
end
end Go.Huf
namespace Go.Huf
section
variable (key : Nat → Int)
def sb (s : Nat) (l : List Nat) : List Nat :=
  if h : 0 < s ∧ l ≠ [] then isort key (l.take s) ++ sb s (l.drop s) else []
termination_by l.length
decreasing_by
  have := List.length_pos_iff.2 h.2
  simp only [List.length_drop]
  omega
variable {key}
theorem sb_nil (s : Nat) : sb key s [] = [] := by rw [sb]; simp
theorem sb_cons {s : Nat} {l : List Nat} (hs : 0 < s) (hl : l ≠ []) : sb key s l = isort key (l.take s) ++ sb key s (l.drop s) := by
  rw [sb, dif_pos ⟨hs, hl⟩]
theorem sb_small {s : Nat} {l : List Nat} (hs : 0 < s) (hl : l.length ≤ s) : sb key s l = isort key l := by
  cases l with
  | nil => rw [sb_nil]; rfl
  | cons x l =>
    rw [sb_cons hs (by simp), List.take_of_length_le hl, List.drop_of_length_le hl, sb_nil, List.append_nil]
theorem sb_app {s : Nat} (hs : 0 < s) : ∀ (k : Nat) (x y : List Nat), x.length = k * s → sb key s (x ++ y) = sb key s x ++ sb key s y
  | 0, x, y, h => by
    have : x = [] := List.eq_nil_of_length_eq_zero (by simpa using h)
    subst this
    rw [sb_nil]; rfl
  | k + 1, x, y, h => by
    have h1 : s ≤ x.length := by rw [h, Nat.add_mul]; omega
    have hx : x ≠ [] := fun e => by subst e; simp at h1; omega
    rw [sb_cons hs (by simp [hx]), sb_cons hs hx, List.take_append_of_le_length h1, List.drop_append_of_le_length h1, sb_app hs k (x.drop s) y (by rw [List.length_drop, h, Nat.add_mul]; omega), List.append_assoc]
theorem take_two (l : List Nat) (a s : Nat) : l.take (a + s) = l.take a ++ (l.drop a).take s := List.take_add
theorem sb_len {s : Nat} (hs : 0 < s) (l : List Nat) : (sb key s l).length = l.length := by
  by_cases hl : l = []
  · subst hl; rw [sb_nil]
  · rw [sb_cons hs hl, List.length_append, isort_len, sb_len hs (l.drop s), List.length_take, List.length_drop]
    omega
termination_by l.length
decreasing_by
  have := List.length_pos_iff.2 hl
  simp only [List.length_drop]
  omega
/-- one block more -/
theorem sb_next {s k : Nat} (hs : 0 < s) {l : List Nat} (h : k * s ≤ l.length) : sb key s (l.take (k * s + s)) = sb key s (l.take (k * s)) ++ isort key ((l.drop (k * s)).take s) := by
  rw [take_two, sb_app hs k _ _ (by rw [List.length_take]; omega), sb_small (l := (l.drop (k * s)).take s) hs (by rw [List.length_take]; omega)]
theorem sb_rest {s k : Nat} (hs : 0 < s) {l : List Nat} (h : k * s ≤ l.length) (h2 : l.length ≤ k * s + s) : sb key s l = sb key s (l.take (k * s)) ++ isort key (l.drop (k * s)) := by
  conv => lhs; rw [← List.take_append_drop (k * s) l]
  rw [sb_app hs k _ _ (by rw [List.length_take]; omega), sb_small (l := l.drop (k * s)) hs (by rw [List.length_drop]; omega)]
/-- two blocks at the head -/
theorem sb_two {s : Nat} (hs : 0 < s) {l : List Nat} (h : s < l.length) : sb key s l = isort key (l.take s) ++ isort key ((l.drop s).take s) ++ sb key s (l.drop (s + s)) := by
  rw [sb_cons hs (fun e => by subst e; simp at h), sb_cons (l := l.drop s) hs (fun e => by have := congrArg List.length e; rw [List.length_drop] at this; simp at this; omega), List.drop_drop, List.append_assoc]
theorem isort_two {X Y : List Nat} (hn : (X ++ Y).Nodup) : isort key (isort key X ++ isort key Y) = isort key (X ++ Y) :=
  isort_of_perm (((isort_perm X).append (isort_perm Y)).nodup_iff.2 hn) ((isort_perm X).append (isort_perm Y))
end
end Go.Huf
set_option linter.unusedVariables false
set_option linter.unusedSimpArgs false
namespace Go.Huf
def sumR (f : Nat → Nat) : Nat → Nat
  | 0 => 0
  | m + 1 => sumR f m + f m
theorem sumR_eq (f : Nat → Nat) : ∀ m, ((List.range m).map f).sum = sumR f m
  | 0 => rfl
  | m + 1 => by rw [List.range_succ, List.map_append, List.sum_append, sumR_eq f m]; simp [sumR]
theorem sumR_congr {f g : Nat → Nat} : ∀ m, (∀ j, j < m → f j = g j) → sumR f m = sumR g m
  | 0, _ => rfl
  | m + 1, h => by rw [sumR, sumR, sumR_congr m (fun j hj => h j (by omega)), h m (by omega)]
theorem sumR_le {f g : Nat → Nat} : ∀ m, (∀ j, j < m → f j ≤ g j) → sumR f m ≤ sumR g m
  | 0, _ => Nat.le_refl _
  | m + 1, h => by
    have := sumR_le m (fun j hj => h j (by omega))
    have := h m (by omega)
    rw [sumR, sumR]; omega
theorem sumR_add (f g : Nat → Nat) : ∀ m, sumR (fun j => f j + g j) m = sumR f m + sumR g m
  | 0 => rfl
  | m + 1 => by rw [sumR, sumR, sumR, sumR_add f g m]; omega
theorem sumR_point (i c : Nat) : ∀ m, sumR (fun j => if j = i then c else 0) m = if i < m then c else 0
  | 0 => by simp [sumR]
  | m + 1 => by
    rw [sumR, sumR_point i c m]
    by_cases h : m = i
    · subst h; simp
    · rw [if_neg h]
      by_cases h2 : i < m
      · rw [if_pos h2, if_pos (by omega)]; rfl
      · rw [if_neg h2, if_neg (by omega)]
theorem sumR_zero {f : Nat → Nat} : ∀ m, (∀ j, j < m → f j = 0) → sumR f m = 0
  | 0, _ => rfl
  | m + 1, h => by rw [sumR, sumR_zero m (fun j hj => h j (by omega)), h m (by omega)]
theorem sumR_dvd {f : Nat → Nat} {d : Nat} : ∀ m, (∀ j, j < m → d ∣ f j) → d ∣ sumR f m
  | 0, _ => Nat.dvd_zero _
  | m + 1, h => by rw [sumR]; exact Nat.dvd_add (sumR_dvd m (fun j hj => h j (by omega))) (h m (by omega))
theorem sum_filter (p : Nat → Bool) (f : Nat → Nat) : ∀ l : List Nat, ((l.filter p).map f).sum = (l.map fun j => if p j then f j else 0).sum
  | [] => rfl
  | x :: l => by
    have ih := sum_filter p f l
    cases h : p x with
    | true => rw [List.filter_cons_of_pos h, List.map_cons, List.sum_cons, ih, List.map_cons, List.sum_cons, if_pos h]
    | false => rw [List.filter_cons_of_neg (by simp [h]), ih, List.map_cons, List.sum_cons, if_neg (by simp [h])]; omega
/-- the length of symbol j -/
abbrev ln (ls : List Int) (j : Nat) : Int := ls.getD j 0
theorem ln_eq {ls : List Int} {j : Nat} (h : j < ls.length) : ln ls j = ls[j] := by simp [ln, List.getD, h]
theorem ln_good {ls : List Int} (hg : good ls) (j : Nat) : 0 ≤ ln ls j ∧ ln ls j ≤ 15 := by
  rcases Nat.lt_or_ge j ls.length with h | h
  · rw [ln_eq h]; exact hg _ (List.getElem_mem h)
  · simp [ln, List.getD, h]
/-- the room that symbol j takes -/
def pj (ls : List Int) (j : Nat) : Nat := if 0 < ln ls j then p2 (ln ls j).toNat else 0
theorem p2_dvd {m n : Nat} (h : m ≤ n) : p2 n ∣ p2 m := by
  unfold p2
  exact Nat.pow_dvd_pow 2 (by omega)
theorem p2_pos (n : Nat) : 0 < p2 n := by have := p2_le n; omega
theorem p2_half {n : Nat} (h : n < 15) : p2 n = 2 * p2 (n + 1) := by
  unfold p2
  rw [show 15 - n = (15 - (n + 1)) + 1 by omega, Nat.pow_succ]
  omega
theorem p2_sub {m n : Nat} (h : m ≤ n) (h2 : n ≤ 15) : p2 m = p2 n * 2 ^ (n - m) := by
  unfold p2
  rw [← Nat.pow_add]
  congr 1
  omega
theorem p2_mul {n : Nat} (h : n ≤ 15) : p2 n * 2 ^ n = 32768 := by
  unfold p2
  rw [← Nat.pow_add, show 15 - n + n = 15 by omega]
theorem room_sum : ∀ (ls : List Int), room ls = (sumR (pj ls) ls.length : Nat) := by
  intro ls
  have key : ∀ m, m ≤ ls.length → room (ls.take m) = (sumR (pj ls) m : Nat) := by
    intro m
    induction m with
    | zero => intro _; simp [room, sumR]
    | succ m ih =>
      intro h
      rw [List.take_succ_eq_append_getElem (by omega), room_snoc, ih (by omega), sumR, pw, pj, ln_eq (by omega)]
      split <;> simp
  have := key ls.length (Nat.le_refl _)
  rwa [List.take_length] at this
/-- j stands ahead of place i among those of length n -/
def ahead (ls : List Int) (n : Nat) (i j : Nat) : Prop := ln ls j < n ∨ ln ls j = n ∧ j < i
instance (ls : List Int) (n i j : Nat) : Decidable (ahead ls n i j) := by unfold ahead; infer_instance
def preN (ls : List Int) (n i : Nat) : Nat := sumR (fun j => if ahead ls n i j then pj ls j else 0) ls.length
theorem preN_step {ls : List Int} {n i : Nat} (hn : 0 < n) (hi : i < ls.length) : preN ls n (i + 1) = preN ls n i + (if ln ls i = n then p2 n else 0) := by
  have h1 : (if ln ls i = n then p2 n else 0) = sumR (fun j => if j = i then (if ln ls i = n then p2 n else 0) else 0) ls.length := by rw [sumR_point, if_pos hi]
  rw [h1]
  unfold preN
  rw [← sumR_add]
  refine sumR_congr _ (fun j hj => ?_)
  by_cases hji : j = i
  · subst hji
    rw [if_pos rfl]
    by_cases hl : ln ls j = n
    · rw [if_pos hl, if_pos (show ahead ls n (j + 1) j from .inr ⟨hl, by omega⟩), if_neg (show ¬ ahead ls n j j by unfold ahead; omega)]
      unfold pj
      rw [if_pos (by omega), hl]
      simp
    · rw [if_neg hl]
      have : ahead ls n (j + 1) j ↔ ahead ls n j j := by unfold ahead; omega
      simp only [this]
      omega
  · rw [if_neg hji]
    have : ahead ls n (i + 1) j ↔ ahead ls n i j := by unfold ahead; omega
    simp only [this]
    omega
theorem preN_end {ls : List Int} {n : Nat} : preN ls n ls.length = preN ls (n + 1) 0 := by
  unfold preN
  refine sumR_congr _ (fun j hj => ?_)
  have : ahead ls n ls.length j ↔ ahead ls (n + 1) 0 j := by unfold ahead; omega
  simp only [this]
theorem preN_first {ls : List Int} : preN ls 1 0 = 0 := by
  unfold preN
  refine sumR_zero _ (fun j hj => ?_)
  by_cases h : ahead ls 1 0 j
  · rw [if_pos h]
    unfold pj
    rw [if_neg (by unfold ahead at h; omega)]
  · rw [if_neg h]
theorem preN_dvd {ls : List Int} {n i : Nat} : p2 n ∣ preN ls n i := by
  unfold preN
  refine sumR_dvd _ (fun j hj => ?_)
  split
  · rename_i h
    unfold pj
    split
    · exact p2_dvd (by unfold ahead at h; omega)
    · exact Nat.dvd_zero _
  · exact Nat.dvd_zero _
theorem preN_room {ls : List Int} {n i : Nat} : (preN ls n i : Int) ≤ room ls := by
  rw [room_sum]
  have : preN ls n i ≤ sumR (pj ls) ls.length := sumR_le _ (fun j hj => by split <;> omega)
  omega
theorem room_some : ∀ (ls : List Int), room ls ≤ 16384 * (some_ ls : Nat)
  | [] => by simp [room, some_]
  | x :: ls => by
    have ih := room_some ls
    have : pw x ≤ if 0 < x then 16384 else 0 := by
      unfold pw
      split
      · have h1 : p2 x.toNat ≤ p2 1 := Nat.le_of_dvd (p2_pos 1) (p2_dvd (by omega))
        have : p2 1 = 16384 := rfl
        omega
      · omega
    unfold room some_ at *
    rw [List.map_cons, List.sum_cons, List.countP_cons]
    by_cases h : 0 < x
    · simp only [h, if_true, decide_true] at *
      omega
    · simp only [h, if_false, decide_false, Bool.false_eq_true] at *
      omega
theorem ok_room {ls : List Int} (h : okL ls) : room ls ≤ 32768 := by
  have := room_some ls
  rcases h.2.2 with h | ⟨h, _⟩ | h <;> omega
/-- the code of symbol s -/
def codeV (ls : List Int) (s : Nat) : Nat := if 0 < ln ls s then preN ls (ln ls s).toNat s / p2 (ln ls s).toNat else 0
def codesL (ls : List Int) : List Nat := (List.range ls.length).map (codeV ls)
theorem codesL_len (ls : List Int) : (codesL ls).length = ls.length := by simp [codesL]
/-- a code has as many bits as said -/
theorem codeV_lt {ls : List Int} (h : okL ls) {s : Nat} (hs : s < ls.length) (hp : 0 < ln ls s) : codeV ls s < 2 ^ (ln ls s).toNat := by
  unfold codeV
  rw [if_pos hp]
  obtain ⟨n, hn⟩ : ∃ n : Nat, ln ls s = n := ⟨(ln ls s).toNat, by omega⟩
  have hl := ln_good h.2.1 s
  have h1 := preN_step (ls := ls) (n := n) (i := s) (by omega) hs
  rw [if_pos hn] at h1
  have h2 := preN_room (ls := ls) (n := n) (i := s + 1)
  have h3 := ok_room h
  rw [hn]
  simp only [Int.toNat_natCast]
  rw [Nat.div_lt_iff_lt_mul (p2_pos n)]
  have h4 := p2_mul (n := n) (by omega)
  have h5 := p2_pos n
  have h6 : 2 ^ n * p2 n = 32768 := by rw [Nat.mul_comm]; exact h4
  omega
theorem codeV_small {ls : List Int} (h : okL ls) {s : Nat} (hs : s < ls.length) : codeV ls s < 32768 := by
  by_cases hp : 0 < ln ls s
  · have h1 := codeV_lt h hs hp
    have hl := ln_good h.2.1 s
    have : 2 ^ (ln ls s).toNat ≤ 2 ^ 15 := Nat.pow_le_pow_right (by omega) (by omega)
    omega
  · unfold codeV; rw [if_neg hp]; omega
/-! ### along the row by length -/
def pl (ls : List Int) (l : List Nat) : Nat := (l.map (pj ls)).sum
theorem filter_take {key : Nat → Int} {l : List Nat} (h : srtd key l) {i : Nat} (hi : i < l.length) : l.filter (fun j => decide (lexlt key j l[i])) = l.take i := by
  have hp := List.pairwise_iff_getElem.1 h
  have e0 : l.filter (fun j => decide (lexlt key j l[i])) = (l.take i).filter (fun j => decide (lexlt key j l[i])) ++ (l.drop i).filter (fun j => decide (lexlt key j l[i])) := by
    rw [← List.filter_append, List.take_append_drop]
  rw [e0]
  have h1 : (l.take i).filter (fun j => decide (lexlt key j l[i])) = l.take i := by
    rw [List.filter_eq_self]
    intro x hx
    obtain ⟨j, hj, rfl⟩ := List.mem_iff_getElem.1 hx
    rw [List.length_take] at hj
    rw [List.getElem_take]
    simpa using hp j i (by omega) hi (by omega)
  have h2 : (l.drop i).filter (fun j => decide (lexlt key j l[i])) = [] := by
    rw [List.filter_eq_nil_iff]
    intro x hx
    obtain ⟨j, hj, rfl⟩ := List.mem_iff_getElem.1 hx
    rw [List.length_drop] at hj
    rw [List.getElem_drop]
    rcases Nat.eq_zero_or_pos j with rfl | h0
    · simpa using lex_irrefl key _
    · simpa using lex_asymm (hp i (i + j) hi (by omega) (by omega))
  rw [h1, h2, List.append_nil]
theorem ord_srtd (ls : List Int) : srtd (fun i => ls.getD i 0) (ord ls) := isort_srtd ((symsK_inc ls ls.length).imp (fun h => by omega))
theorem ord_perm (ls : List Int) : (ord ls).Perm (symsK ls ls.length) := isort_perm _
theorem ord_mem {ls : List Int} {i : Nat} : i ∈ ord ls ↔ i < ls.length ∧ 0 < ls.getD i 0 := by
  rw [(ord_perm ls).mem_iff, symsK_mem]
theorem ord_pre {ls : List Int} (hg : good ls) {i : Nat} (hi : i < (ord ls).length) : preN ls (ln ls (ord ls)[i]).toNat (ord ls)[i] = pl ls ((ord ls).take i) := by
  rw [← filter_take (ord_srtd ls) hi]
  have hm := ord_mem.1 (List.getElem_mem hi)
  generalize (ord ls)[i] = s at *
  have h1 : pl ls ((ord ls).filter (fun j => decide (lexlt (fun i => ls.getD i 0) j s))) = pl ls ((symsK ls ls.length).filter (fun j => decide (lexlt (fun i => ls.getD i 0) j s))) :=
    List.Perm.sum_nat (((ord_perm ls).filter _).map _)
  rw [h1]
  unfold pl symsK
  rw [List.filter_filter, sum_filter, sumR_eq]
  unfold preN
  refine sumR_congr _ (fun j hj => ?_)
  have hgs := ln_good hg s
  by_cases hp : 0 < ls.getD j 0
  · have : ahead ls (ln ls s).toNat s j ↔ lexlt (fun i => ls.getD i 0) j s := by unfold ahead lexlt; dsimp only [ln] at *; omega
    simp only [this, hp, decide_true, Bool.and_true, decide_eq_true_eq]
  · have h0 : pj ls j = 0 := by unfold pj; rw [if_neg hp]
    rw [h0]
    simp
theorem pl_snoc (ls : List Int) (l : List Nat) (s : Nat) : pl ls (l ++ [s]) = pl ls l + pj ls s := by
  simp [pl, List.sum_append]
theorem ord_len_inc {ls : List Int} {i : Nat} (hi : i + 1 < (ord ls).length) : ln ls (ord ls)[i] ≤ ln ls (ord ls)[i + 1] := by
  have h := List.pairwise_iff_getElem.1 (ord_srtd ls) i (i + 1) (by omega) hi (by omega)
  unfold lexlt at h
  dsimp only [ln] at *
  omega
theorem code_first {ls : List Int} (hg : good ls) (hi : 0 < (ord ls).length) : codeV ls (ord ls)[0] = 0 := by
  unfold codeV
  split
  · rw [ord_pre hg hi]; simp [pl]
  · rfl
theorem code_next {ls : List Int} (hg : good ls) {i : Nat} (hi : i + 1 < (ord ls).length) :
    codeV ls (ord ls)[i + 1] = (codeV ls (ord ls)[i] + 1) * 2 ^ ((ln ls (ord ls)[i + 1]).toNat - (ln ls (ord ls)[i]).toNat) := by
  have hi0 : i < (ord ls).length := by omega
  have h1 := ord_pre hg hi0
  have h2 := ord_pre hg hi
  rw [List.take_succ_eq_append_getElem hi0, pl_snoc, ← h1] at h2
  have hle := ord_len_inc hi
  have hm1 := (ord_mem.1 (List.getElem_mem hi0)).2
  have hm2 := (ord_mem.1 (List.getElem_mem hi)).2
  generalize (ord ls)[i + 1] = t at *
  generalize (ord ls)[i] = s at *
  have hg1 := ln_good hg s
  have hg2 := ln_good hg t
  change 0 < ln ls s at hm1
  change 0 < ln ls t at hm2
  have hpj : pj ls s = p2 (ln ls s).toNat := by unfold pj; rw [if_pos hm1]
  have hd := preN_dvd (ls := ls) (n := (ln ls s).toNat) (i := s)
  unfold codeV
  rw [if_pos hm1, if_pos hm2, h2, hpj]
  generalize preN ls (ln ls s).toNat s = p at *
  obtain ⟨q, rfl⟩ := hd
  rw [Nat.mul_div_cancel_left _ (p2_pos _)]
  have hs := p2_sub (m := (ln ls s).toNat) (n := (ln ls t).toNat) (by omega) (by omega)
  rw [hs]
  have : p2 (ln ls t).toNat * 2 ^ ((ln ls t).toNat - (ln ls s).toNat) * q + p2 (ln ls t).toNat * 2 ^ ((ln ls t).toNat - (ln ls s).toNat) = p2 (ln ls t).toNat * ((q + 1) * 2 ^ ((ln ls t).toNat - (ln ls s).toNat)) := by
    rw [← Nat.mul_succ, Nat.mul_assoc, Nat.mul_comm (2 ^ _)]
  rw [this, Nat.mul_div_cancel_left _ (p2_pos _)]
/-- the row of codes, when the first k by length have theirs -/
def cRow (ls : List Int) (k : Nat) : List Nat := (List.range ls.length).map fun s => if s ∈ (ord ls).take k then codeV ls s else 0
theorem cRow_len (ls : List Int) (k : Nat) : (cRow ls k).length = ls.length := by simp [cRow]
theorem cRow_zero (ls : List Int) : cRow ls 0 = List.replicate ls.length 0 := by
  apply List.ext_getElem
  · simp [cRow]
  · intro i h1 h2; simp [cRow]
theorem cRow_succ {ls : List Int} {k : Nat} (hk : k < (ord ls).length) : (cRow ls k).set (ord ls)[k] (codeV ls (ord ls)[k]) = cRow ls (k + 1) := by
  apply List.ext_getElem
  · simp [cRow]
  · intro i h1 h2
    rw [List.getElem_set]
    simp only [cRow, List.getElem_map, List.getElem_range]
    split
    · rename_i h
      subst h
      rw [if_pos]
      rw [List.take_succ_eq_append_getElem hk]
      exact List.mem_append_right _ (List.mem_singleton.2 rfl)
    · rename_i h
      rw [List.take_succ_eq_append_getElem hk]
      simp only [List.mem_append, List.mem_singleton]
      have : ¬ i = (ord ls)[k] := fun e => h e.symm
      simp only [this, or_false]
theorem cRow_all (ls : List Int) : cRow ls (ord ls).length = codesL ls := by
  unfold cRow codesL
  rw [List.take_length]
  refine List.map_congr_left (fun s hs => ?_)
  have hs' : s < ls.length := by simpa using hs
  split
  · rfl
  · rename_i h
    rw [ord_mem] at h
    unfold codeV
    rw [if_neg]
    unfold ln
    intro hh
    exact h ⟨hs', hh⟩
end Go.Huf
set_option linter.unusedVariables false
set_option linter.unusedSimpArgs false
namespace Go.Huf
def byteAt (l : List Bool) (k : Nat) : Nat := sumR (fun i => if l.getD (8 * k + i) false then 2 ^ (7 - i) else 0) 8
def pack (l : List Bool) : List Nat := (List.range ((l.length + 7) / 8)).map (byteAt l)
/-- with room for one more bit -/
def packO (l : List Bool) : List Nat := (List.range (l.length / 8 + 1)).map (byteAt l)
theorem byteAt_lt (l : List Bool) (k : Nat) : byteAt l k < 256 := by
  have h : byteAt l k ≤ sumR (fun i => 2 ^ (7 - i)) 8 := sumR_le 8 (fun i _ => by
    split
    · exact Nat.le_refl _
    · exact Nat.zero_le _)
  have : sumR (fun i => 2 ^ (7 - i)) 8 = 255 := by decide
  omega
theorem byteAt_none {l : List Bool} {k : Nat} (h : l.length ≤ 8 * k) : byteAt l k = 0 :=
  sumR_zero 8 (fun i _ => by rw [if_neg]; simp [List.getD, List.getElem?_eq_none (show l.length ≤ 8 * k + i by omega)])
theorem pack_lt {l : List Bool} : ∀ x ∈ pack l, x < 256 := by
  intro x hx
  obtain ⟨k, _, rfl⟩ := List.mem_map.1 hx
  exact byteAt_lt _ _
theorem pack_len (l : List Bool) : (pack l).length = (l.length + 7) / 8 := by simp [pack]
theorem packO_len (l : List Bool) : (packO l).length = l.length / 8 + 1 := by simp [packO]
theorem packO_new {l : List Bool} (h : l.length % 8 = 0) : packO l = pack l ++ [0] := by
  unfold packO pack
  rw [List.range_succ, List.map_append, show (l.length + 7) / 8 = l.length / 8 by omega]
  simp only [List.map_cons, List.map_nil]
  rw [byteAt_none (by omega)]
theorem packO_old {l : List Bool} (h : l.length % 8 ≠ 0) : packO l = pack l := by
  unfold packO pack
  rw [show (l.length + 7) / 8 = l.length / 8 + 1 by omega]
theorem byteAt_snoc (l : List Bool) (x : Bool) (k : Nat) : byteAt (l ++ [x]) k = byteAt l k + (if k = l.length / 8 then (if x then 2 ^ (7 - l.length % 8) else 0) else 0) := by
  generalize hy : (if k = l.length / 8 then (if x then 2 ^ (7 - l.length % 8) else 0) else 0) = y
  have h1 : sumR (fun i => if i = l.length % 8 then y else 0) 8 = y := by rw [sumR_point, if_pos (by omega)]
  conv => rhs; rw [← h1]
  unfold byteAt
  rw [← sumR_add]
  refine sumR_congr 8 (fun i hi => ?_)
  have hz : ∀ a b : Nat, a = b → (i = l.length % 8 → y = 0) → a = b + (if i = l.length % 8 then y else 0) := fun a b e h => by
    by_cases h2 : i = l.length % 8
    · rw [if_pos h2, h h2, e]; rfl
    · rw [if_neg h2, e]; rfl
  by_cases hlt : 8 * k + i < l.length
  · have : (l ++ [x]).getD (8 * k + i) false = l.getD (8 * k + i) false := by simp [List.getD, List.getElem?_append_left hlt]
    rw [this]
    refine hz _ _ rfl (fun h2 => ?_)
    rw [← hy, if_neg (by omega)]
  · have h4 : l.getD (8 * k + i) false = false := by simp [List.getD, List.getElem?_eq_none (show l.length ≤ 8 * k + i by omega)]
    by_cases he : 8 * k + i = l.length
    · have h3 : (l ++ [x]).getD (8 * k + i) false = x := by rw [he]; simp [List.getD]
      rw [h3, h4, if_pos (show i = l.length % 8 by omega), ← hy, if_pos (show k = l.length / 8 by omega), show l.length % 8 = i by omega]
      simp
    · have h3 : (l ++ [x]).getD (8 * k + i) false = false := by simp [List.getD, List.getElem?_eq_none (show (l ++ [x]).length ≤ 8 * k + i by simp; omega)]
      rw [h3, h4]
      refine hz _ _ rfl (fun h2 => ?_)
      rw [← hy, if_neg (by omega)]
theorem pack_snoc (l : List Bool) (x : Bool) : (packO l).set (l.length / 8) (byteAt l (l.length / 8) + (if x then 2 ^ (7 - l.length % 8) else 0)) = pack (l ++ [x]) := by
  apply List.ext_getElem
  · rw [List.length_set, packO_len, pack_len, List.length_append, List.length_singleton]; omega
  · intro k h1 h2
    rw [List.length_set, packO_len] at h1
    rw [List.getElem_set]
    simp only [packO, pack, List.getElem_map, List.getElem_range]
    rw [byteAt_snoc]
    by_cases h3 : l.length / 8 = k
    · subst h3; simp
    · rw [if_neg h3, if_neg (fun e => h3 e.symm)]; rfl
theorem packO_get (l : List Bool) {k : Nat} (h : k < (packO l).length) : (packO l)[k] = byteAt l k := by simp [packO]
theorem byteAt_low (l : List Bool) : 2 ^ (7 - l.length % 8 + 1) ∣ byteAt l (l.length / 8) := by
  refine sumR_dvd 8 (fun i hi => ?_)
  by_cases h : i < l.length % 8
  · split
    · exact Nat.pow_dvd_pow 2 (by omega)
    · exact Nat.dvd_zero _
  · have h4 : l.getD (8 * (l.length / 8) + i) false = false := by simp [List.getD, List.getElem?_eq_none (show l.length ≤ 8 * (l.length / 8) + i by omega)]
    rw [h4]
    exact Nat.dvd_zero _
theorem or_add {a e : Nat} (h : 2 ^ (e + 1) ∣ a) : a ||| 2 ^ e = a + 2 ^ e := by
  obtain ⟨q, rfl⟩ := h
  rw [Nat.two_pow_add_eq_or_of_lt (Nat.pow_lt_pow_right (by omega) (by omega)) q]
def b2n (x : Bool) : Nat := if x then 1 else 0
theorem byte_or (l : List Bool) (x : Bool) : byteAt l (l.length / 8) ||| b2n x * 2 ^ (7 - l.length % 8) = byteAt l (l.length / 8) + (if x then 2 ^ (7 - l.length % 8) else 0) := by
  cases x
  · simp [b2n]
  · simp only [b2n, if_true, Nat.one_mul]
    exact or_add (byteAt_low l)
theorem byte_or_lt (l : List Bool) (x : Bool) : byteAt l (l.length / 8) + (if x then 2 ^ (7 - l.length % 8) else 0) < 256 := by
  have h := byteAt_lt (l ++ [x]) (l.length / 8)
  rw [byteAt_snoc, if_pos rfl] at h
  exact h
/-! ### a code's bits -/
def bitAt (c n j : Nat) : Bool := decide (c / 2 ^ (n - 1 - j) % 2 = 1)
def bitsK (c n : Nat) : List Bool := (List.range n).map (bitAt c n)
theorem bitsK_len (c n : Nat) : (bitsK c n).length = n := by simp [bitsK]
theorem bitsK_take (c n : Nat) {j : Nat} (h : j < n) : (bitsK c n).take j ++ [bitAt c n j] = (bitsK c n).take (j + 1) := by
  rw [List.take_succ_eq_append_getElem (by rw [bitsK_len]; exact h)]
  simp [bitsK]
theorem b2n_bit (c n j : Nat) : b2n (bitAt c n j) = c / 2 ^ (n - 1 - j) % 2 := by
  unfold b2n bitAt
  by_cases h : c / 2 ^ (n - 1 - j) % 2 = 1
  · simp [h]
  · simp [h]; omega
/-- may be coded -/
def okS (ls : List Int) (s : Int) : Prop := 0 ≤ s ∧ s < ls.length ∧ ln ls s.toNat ≠ 0
instance (ls : List Int) (s : Int) : Decidable (okS ls s) := by unfold okS; infer_instance
def symBits (ls : List Int) (s : Int) : List Bool := bitsK (codeV ls s.toNat) (ln ls s.toNat).toNat
def bitsOf (ls : List Int) (ss : List Int) : List Bool := ss.flatMap (symBits ls)
theorem bitsOf_snoc (ls ss : List Int) (s : Int) : bitsOf ls (ss ++ [s]) = bitsOf ls ss ++ symBits ls s := by simp [bitsOf]
theorem bitsOf_len {ls : List Int} (hg : good ls) : ∀ ss : List Int, (bitsOf ls ss).length ≤ 15 * ss.length
  | [] => by simp [bitsOf]
  | s :: ss => by
    have ih := bitsOf_len hg ss
    have h := ln_good hg s.toNat
    have e : (bitsOf ls (s :: ss)).length = (ln ls s.toNat).toNat + (bitsOf ls ss).length := by
      unfold bitsOf
      rw [List.flatMap_cons, List.length_append]
      congr 1
      exact bitsK_len _ _
    rw [e, List.length_cons]
    omega
theorem or8 {a b : Nat} (ha : a < 256) (hb : b < 256) : (BitVec.ofInt 8 (a : Int) ||| BitVec.ofInt 8 (b : Int)).toNat = a ||| b := by
  rw [BitVec.toNat_or, BitVec.ofInt_natCast, BitVec.ofInt_natCast, BitVec.toNat_ofNat, BitVec.toNat_ofNat, Nat.mod_eq_of_lt (by omega), Nat.mod_eq_of_lt (by omega)]
theorem and16 {a : Nat} (ha : a < 65536) : (BitVec.ofInt 16 (a : Int) &&& BitVec.ofInt 16 1).toNat = a % 2 := by
  rw [BitVec.toNat_and, BitVec.ofInt_natCast, show BitVec.ofInt 16 1 = BitVec.ofNat 16 1 from rfl, BitVec.toNat_ofNat, BitVec.toNat_ofNat, Nat.mod_eq_of_lt (by omega)]
  exact Nat.and_one_is_mod a
end Go.Huf
namespace Go.Huf
section
variable {ls : List Int}
/-- where a symbol's codes begin, in room -/
theorem code_room {s : Nat} (hp : 0 < ln ls s) : codeV ls s * p2 (ln ls s).toNat = preN ls (ln ls s).toNat s := by
  unfold codeV
  rw [if_pos hp]
  exact Nat.div_mul_cancel preN_dvd
/-- whoever stands ahead has its room ahead -/
theorem pre_ahead {a b : Nat} (ha : a < ls.length) (hpa : 0 < ln ls a) (hpb : 0 < ln ls b) (h : ln ls a < ln ls b ∨ ln ls a = ln ls b ∧ a < b) : preN ls (ln ls a).toNat a + p2 (ln ls a).toNat ≤ preN ls (ln ls b).toNat b := by
  have h1 : p2 (ln ls a).toNat = sumR (fun j => if j = a then p2 (ln ls a).toNat else 0) ls.length := by rw [sumR_point, if_pos ha]
  rw [h1]
  unfold preN
  rw [← sumR_add]
  refine sumR_le _ (fun j hj => ?_)
  by_cases hja : j = a
  · subst hja
    rw [if_neg (show ¬ ahead ls (ln ls j).toNat j j by unfold ahead; omega), if_pos (show j = j from rfl), if_pos (show ahead ls (ln ls b).toNat b j by unfold ahead; omega)]
    unfold pj
    rw [if_pos hpa]
    omega
  · rw [if_neg hja]
    by_cases h2 : ahead ls (ln ls a).toNat a j
    · rw [if_pos h2, if_pos (show ahead ls (ln ls b).toNat b j by unfold ahead at *; omega)]
      omega
    · rw [if_neg h2]
      omega
theorem div_back {c a d : Nat} (h : a = c / 2 ^ d) : a * 2 ^ d ≤ c ∧ c < (a + 1) * 2 ^ d := by
  have h1 := Nat.two_pow_pos d
  subst h
  refine ⟨Nat.div_mul_le_self _ _, ?_⟩
  have h2 := Nat.div_add_mod c (2 ^ d)
  have h3 := Nat.mod_lt c h1
  rw [Nat.add_mul, Nat.one_mul, Nat.mul_comm]
  omega
/-- no code is the beginning of another one's -/
theorem code_apart {a b : Nat} (hok : okL ls) (ha : a < ls.length) (hb : b < ls.length) (hpa : 0 < ln ls a) (hab : ln ls a ≤ ln ls b) (h : codeV ls a = codeV ls b / 2 ^ ((ln ls b).toNat - (ln ls a).toNat)) : a = b := by
  have hga := ln_good hok.2.1 a
  have hgb := ln_good hok.2.1 b
  have hpb : 0 < ln ls b := by omega
  have ra := code_room hpa
  have rb := code_room hpb
  obtain ⟨h1, h2⟩ := div_back h
  have hs := p2_sub (m := (ln ls a).toNat) (n := (ln ls b).toNat) (by omega) (by omega)
  have h3 := Nat.mul_le_mul_right (p2 (ln ls b).toNat) h1
  have h4 := Nat.mul_lt_mul_of_pos_right h2 (p2_pos (ln ls b).toNat)
  rw [Nat.mul_assoc, Nat.mul_comm (2 ^ _), ← hs, ra, rb] at h3
  rw [Nat.mul_assoc, Nat.mul_comm (2 ^ _), ← hs, Nat.add_mul, ra, rb, Nat.one_mul] at h4
  apply Classical.byContradiction
  intro hne
  rcases Nat.lt_or_ge a b with hlt | hge
  · have := pre_ahead ha hpa hpb (by omega)
    omega
  · by_cases he : ln ls a = ln ls b
    · have := pre_ahead hb hpb hpa (by omega)
      have hp := p2_pos (ln ls b).toNat
      omega
    · have := pre_ahead ha hpa hpb (by omega)
      omega
end
theorem bit_test (c n j : Nat) : bitAt c n j = c.testBit (n - 1 - j) := by
  unfold bitAt
  rw [Nat.testBit_eq_decide_div_mod_eq]
/-- what has the same bits is the same -/
theorem bits_same {x y n : Nat} (hx : x < 2 ^ n) (hy : y < 2 ^ n) (h : ∀ i, i < n → bitAt x n i = bitAt y n i) : x = y := by
  apply Nat.eq_of_testBit_eq
  intro i
  rcases Nat.lt_or_ge i n with hi | hi
  · have := h (n - 1 - i) (by omega)
    rw [bit_test, bit_test, show n - 1 - (n - 1 - i) = i by omega] at this
    exact this
  · rw [Nat.testBit_lt_two_pow (Nat.lt_of_lt_of_le hx (Nat.pow_le_pow_right (by omega) hi)), Nat.testBit_lt_two_pow (Nat.lt_of_lt_of_le hy (Nat.pow_le_pow_right (by omega) hi))]
theorem bit_head (c : Nat) {n m i : Nat} (hmn : m ≤ n) (hi : i < m) : bitAt (c / 2 ^ (n - m)) m i = bitAt c n i := by
  unfold bitAt
  rw [Nat.div_div_eq_div_mul, ← Nat.pow_add, show n - m + (m - 1 - i) = n - 1 - i by omega]
theorem div_lt_pow {c n m : Nat} (h : c < 2 ^ n) (hmn : m ≤ n) : c / 2 ^ (n - m) < 2 ^ m := by
  rw [Nat.div_lt_iff_lt_mul (Nat.two_pow_pos _), ← Nat.pow_add, show m + (n - m) = n by omega]
  exact h
/-- two symbols' codes fall apart within the shorter one -/
theorem bits_apart {ls : List Int} {a b : Nat} (hok : okL ls) (ha : a < ls.length) (hb : b < ls.length) (hpa : 0 < ln ls a) (hab : ln ls a ≤ ln ls b) (hne : a ≠ b) :
    ¬ ∀ i, i < (ln ls a).toNat → bitAt (codeV ls a) (ln ls a).toNat i = bitAt (codeV ls b) (ln ls b).toNat i := fun h => by
  refine hne (code_apart hok ha hb hpa hab (bits_same (n := (ln ls a).toNat) (codeV_lt hok ha hpa) (div_lt_pow (codeV_lt hok hb (by omega)) (by omega)) (fun i hi => ?_)))
  rw [bit_head _ (by omega) hi]
  exact h i hi
end Go.Huf
set_option linter.unusedVariables false
set_option linter.unusedSimpArgs false
namespace Go.Huf
/-- a sum over a row of places -/
def Sm (F : Nat → Int) (f : List Nat) : Int := (f.map F).sum
theorem Sm_nil (F : Nat → Int) : Sm F [] = 0 := rfl
theorem Sm_cons (F : Nat → Int) (x : Nat) (f : List Nat) : Sm F (x :: f) = F x + Sm F f := by simp [Sm]
theorem Sm_snoc (F : Nat → Int) (x : Nat) (f : List Nat) : Sm F (f ++ [x]) = Sm F f + F x := by simp [Sm, List.sum_append]
theorem Sm_perm {F : Nat → Int} {f g : List Nat} (h : f.Perm g) : Sm F f = Sm F g := by
  induction h with
  | nil => rfl
  | cons x _ ih => rw [Sm_cons, Sm_cons, ih]
  | swap x y l => simp only [Sm_cons]; omega
  | trans _ _ h1 h2 => exact h1.trans h2
theorem Sm_congr {F G : Nat → Int} : ∀ {f : List Nat}, (∀ v ∈ f, F v = G v) → Sm F f = Sm G f
  | [], _ => rfl
  | x :: f, h => by rw [Sm_cons, Sm_cons, h x (by simp), Sm_congr (fun v hv => h v (by simp [hv]))]
theorem Sm_le {F G : Nat → Int} : ∀ {f : List Nat}, (∀ v ∈ f, F v ≤ G v) → Sm F f ≤ Sm G f
  | [], _ => Int.le_refl _
  | x :: f, h => by
    have := h x (by simp)
    have := Sm_le (f := f) (fun v hv => h v (by simp [hv]))
    rw [Sm_cons, Sm_cons]; omega
theorem Sm_nonneg {F : Nat → Int} : ∀ {f : List Nat}, (∀ v ∈ f, 0 ≤ F v) → 0 ≤ Sm F f
  | [], _ => Int.le_refl _
  | x :: f, h => by
    have := h x (by simp)
    have := Sm_nonneg (f := f) (fun v hv => h v (by simp [hv]))
    rw [Sm_cons]; omega
theorem Sm_dvd {F : Nat → Int} {d : Int} : ∀ {f : List Nat}, (∀ v ∈ f, d ∣ F v) → d ∣ Sm F f
  | [], _ => ⟨0, by simp [Sm]⟩
  | x :: f, h => by
    rw [Sm_cons]
    exact Int.dvd_add (h x (by simp)) (Sm_dvd (fun v hv => h v (by simp [hv])))
theorem erase_perm : ∀ {f : List Nat} {k : Nat}, k < f.length → f.Perm (f.getD k 0 :: f.eraseIdx k)
  | [], k, h => by simp at h
  | x :: f, 0, _ => by simp
  | x :: f, k + 1, h => by
    have ih := erase_perm (f := f) (k := k) (by simpa using h)
    rw [List.getD_cons_succ, List.eraseIdx_cons_succ]
    exact (ih.cons x).trans (List.Perm.swap _ _ _)
/-- room of a code of length m, where the longest has K -/
def pk (K m : Nat) : Int := ((2 ^ (K - m) : Nat) : Int)
theorem pk_pos (K m : Nat) : 1 ≤ pk K m := by
  have := Nat.two_pow_pos (K - m)
  unfold pk; omega
theorem pk_dvd {K m m' : Nat} (h : m ≤ m') : pk K m' ∣ pk K m := by
  unfold pk
  exact Int.natCast_dvd_natCast.2 (Nat.pow_dvd_pow 2 (by omega))
theorem pk_two {K m : Nat} (h1 : 1 ≤ m) (h2 : m ≤ K) : pk K m + pk K m = pk K (m - 1) := by
  unfold pk
  rw [show K - (m - 1) = (K - m) + 1 by omega, Nat.pow_succ]
  omega
theorem pk_zero (K : Nat) : pk K 0 = ((2 ^ K : Nat) : Int) := rfl
section
variable {w : Nat → Int} {K : Nat} {lam : Nat → Nat} {free : List Nat}
def cst (w : Nat → Int) (lam : Nat → Nat) (f : List Nat) : Int := Sm (fun v => w v * (lam v : Int)) f
def krf (K : Nat) (lam : Nat → Nat) (f : List Nat) : Int := Sm (fun v => pk K (lam v)) f
theorem two_out (hn : free.Nodup) {a x : Nat} (ha : a ∈ free) (hx : x ∈ free) (hne : a ≠ x) : ∃ r, free.Perm (a :: x :: r) ∧ a ∉ r ∧ x ∉ r := by
  have h1 := List.perm_cons_erase ha
  have hx' : x ∈ free.erase a := (List.mem_erase_of_ne hne.symm).2 hx
  have h2 := List.perm_cons_erase hx'
  have h3 : free.Perm (a :: x :: (free.erase a).erase x) := h1.trans (h2.cons a)
  have h4 := List.nodup_cons.1 (h3.nodup_iff.1 hn)
  have h5 := List.nodup_cons.1 h4.2
  exact ⟨_, h3, fun h => h4.1 (by simp [h]), h5.1⟩
theorem max_in : ∀ {f : List Nat}, f ≠ [] → ∀ lam : Nat → Nat, ∃ x ∈ f, ∀ v ∈ f, lam v ≤ lam x
  | [], h, _ => absurd rfl h
  | x :: f, _, lam => by
    by_cases hf : f = []
    · subst hf
      exact ⟨x, by simp, by simp⟩
    · obtain ⟨y, hy, hm⟩ := max_in hf lam
      rcases Nat.le_total (lam x) (lam y) with h | h
      · refine ⟨y, by simp [hy], fun v hv => ?_⟩
        rcases List.mem_cons.1 hv with rfl | hv
        · exact h
        · exact hm v hv
      · refine ⟨x, by simp, fun v hv => ?_⟩
        rcases List.mem_cons.1 hv with rfl | hv
        · exact Nat.le_refl _
        · have := hm v hv; omega
/-- two lengths exchanged -/
def swp (lam : Nat → Nat) (p q : Nat) : Nat → Nat := fun v => if v = p then lam q else if v = q then lam p else lam v
theorem swp_ok (hn : free.Nodup) {p q : Nat} (hp : p ∈ free) (hq : q ∈ free) (hne : p ≠ q) (hw : w p ≤ w q) (hl : lam p ≤ lam q) :
    krf K (swp lam p q) free = krf K lam free ∧ cst w (swp lam p q) free ≤ cst w lam free := by
  obtain ⟨r, hr, h1, h2⟩ := two_out hn hp hq hne
  have e1 : swp lam p q p = lam q := by simp [swp]
  have e2 : swp lam p q q = lam p := by simp [swp, hne.symm]
  have e3 : ∀ v ∈ r, swp lam p q v = lam v := fun v hv => by
    unfold swp
    rw [if_neg (show v ≠ p from fun e => h1 (e ▸ hv)), if_neg (show v ≠ q from fun e => h2 (e ▸ hv))]
  unfold krf cst
  rw [Sm_perm hr, Sm_perm hr, Sm_perm hr, Sm_perm hr]
  simp only [Sm_cons, e1, e2]
  rw [Sm_congr (F := fun v => pk K (swp lam p q v)) (G := fun v => pk K (lam v)) (fun v hv => by rw [e3 v hv]),
    Sm_congr (F := fun v => w v * (swp lam p q v : Int)) (G := fun v => w v * (lam v : Int)) (fun v hv => by rw [e3 v hv])]
  refine ⟨by omega, ?_⟩
  obtain ⟨d, hd⟩ : ∃ d : Nat, lam q = lam p + d := ⟨lam q - lam p, by omega⟩
  obtain ⟨e, he⟩ : ∃ e : Nat, w q = w p + e := ⟨(w q - w p).toNat, by omega⟩
  rw [hd, he]
  have hde : 0 ≤ (e : Int) * d := Int.mul_nonneg (by omega) (by omega)
  have x1 : (w p + e) * ((lam p + d : Nat) : Int) = w p * (lam p : Int) + w p * d + e * (lam p : Int) + (e : Int) * d := by
    rw [Int.natCast_add, Int.mul_add, Int.add_mul, Int.add_mul]; omega
  have x2 : w p * ((lam p + d : Nat) : Int) = w p * (lam p : Int) + w p * d := by rw [Int.natCast_add, Int.mul_add]
  have x3 : (w p + e) * (lam p : Int) = w p * (lam p : Int) + e * (lam p : Int) := by rw [Int.add_mul]
  rw [x1, x2, x3]
  omega
theorem swp_le (hK : ∀ v ∈ free, lam v ≤ K) {p q : Nat} (hp : p ∈ free) (hq : q ∈ free) : ∀ v ∈ free, swp lam p q v ≤ K := fun v hv => by
  unfold swp
  split
  · exact hK q hq
  · split
    · exact hK p hp
    · exact hK v hv
/-- the two lightest may as well stand side by side, deepest -/
theorem best_step {a b : Nat} {f2 : List Nat} (hp : free.Perm (a :: b :: f2)) (hn : free.Nodup) (h0 : ∀ v ∈ free, 0 ≤ w v) (hab : w a ≤ w b) (hlow : ∀ v ∈ f2, w b ≤ w v)
    (hK : ∀ v ∈ free, lam v ≤ K) (hkr : krf K lam free ≤ pk K 0) :
    ∃ lam' : Nat → Nat, lam' a = lam' b ∧ 1 ≤ lam' a ∧ (∀ v ∈ free, lam' v ≤ K) ∧ krf K lam' free ≤ pk K 0 ∧ cst w lam' free ≤ cst w lam free := by
  have ham : a ∈ free := hp.mem_iff.2 (by simp)
  have hbm : b ∈ free := hp.mem_iff.2 (by simp)
  have hnd := hp.nodup_iff.1 hn
  have hn1 := List.nodup_cons.1 hnd
  have hn2 := List.nodup_cons.1 hn1.2
  have hba : a ≠ b := fun e => hn1.1 (by simp [e])
  have hlow1 : ∀ v ∈ free, w a ≤ w v := fun v hv => by
    rcases List.mem_cons.1 (hp.mem_iff.1 hv) with rfl | hv
    · exact Int.le_refl _
    · rcases List.mem_cons.1 hv with rfl | hv
      · exact hab
      · have := hlow v hv; omega
  -- a deepest
  obtain ⟨lam1, k1, k2, k3, k4⟩ : ∃ lam1 : Nat → Nat, (∀ v ∈ free, lam1 v ≤ lam1 a) ∧ (∀ v ∈ free, lam1 v ≤ K) ∧ krf K lam1 free ≤ pk K 0 ∧ cst w lam1 free ≤ cst w lam free := by
    obtain ⟨x, hx, hm⟩ := max_in (f := free) (fun e => by rw [e] at ham; simp at ham) lam
    by_cases hxa : a = x
    · subst hxa
      exact ⟨lam, hm, hK, hkr, Int.le_refl _⟩
    · have hs := swp_ok (K := K) (w := w) (lam := lam) hn ham hx hxa (hlow1 x hx) (hm a ham)
      refine ⟨swp lam a x, fun v hv => ?_, swp_le hK ham hx, by rw [hs.1]; exact hkr, hs.2⟩
      have e1 : swp lam a x a = lam x := by simp [swp]
      rw [e1]
      unfold swp
      split
      · exact Nat.le_refl _
      · split
        · exact hm a ham
        · exact hm v hv
  -- b deepest of the others
  obtain ⟨lam2, m1, m2, m3, m4⟩ : ∃ lam2 : Nat → Nat, (∀ v ∈ b :: f2, lam2 v ≤ lam2 b) ∧ (∀ v ∈ free, lam2 v ≤ K) ∧ krf K lam2 free ≤ pk K 0 ∧ cst w lam2 free ≤ cst w lam free ∧ lam2 b ≤ lam2 a := by
    obtain ⟨x, hx, hm⟩ := max_in (f := b :: f2) (by simp) lam1
    have hxf : x ∈ free := hp.mem_iff.2 (by simp only [List.mem_cons] at hx ⊢; exact .inr hx)
    have hxa : x ≠ a := fun e => hn1.1 (e ▸ hx)
    by_cases hxb : b = x
    · subst hxb
      exact ⟨lam1, hm, k2, k3, k4, k1 b hbm⟩
    · have hxf2 : x ∈ f2 := by
        rcases List.mem_cons.1 hx with h | h
        · exact absurd h.symm hxb
        · exact h
      have hs := swp_ok (K := K) (w := w) (lam := lam1) hn hbm hxf hxb (hlow x hxf2) (hm b (by simp))
      have e1 : swp lam1 b x b = lam1 x := by simp [swp]
      have e2 : swp lam1 b x a = lam1 a := by unfold swp; rw [if_neg hba, if_neg (fun e => hxa e.symm)]
      refine ⟨swp lam1 b x, fun v hv => ?_, swp_le k2 hbm hxf, by rw [hs.1]; exact k3, Int.le_trans hs.2 k4, by rw [e1, e2]; exact k1 x hxf⟩
      rw [e1]
      unfold swp
      split
      · exact Nat.le_refl _
      · split
        · exact hm b (by simp)
        · exact hm v hv
  obtain ⟨m4, m5⟩ := m4
  -- a as deep as b
  have hkb : lam2 b ≤ K := m2 b hbm
  have hkrf : krf K lam2 free = pk K (lam2 a) + (pk K (lam2 b) + Sm (fun v => pk K (lam2 v)) f2) := by
    unfold krf
    rw [Sm_perm hp, Sm_cons, Sm_cons]
  have hpa := pk_pos K (lam2 a)
  have hnn : 0 ≤ Sm (fun v => pk K (lam2 v)) f2 := Sm_nonneg (fun v hv => by have := pk_pos K (lam2 v); omega)
  have hb1 : 1 ≤ lam2 b := by
    apply Classical.byContradiction
    intro hc
    have : lam2 b = 0 := by omega
    rw [this] at hkrf
    omega
  refine ⟨fun v => if v = a then lam2 b else lam2 v, by simp, by simp [hb1], fun v hv => ?_, ?_, ?_⟩
  · dsimp only
    split
    · exact hkb
    · exact m2 v hv
  · have e : krf K (fun v => if v = a then lam2 b else lam2 v) free = pk K (lam2 b) + (pk K (lam2 b) + Sm (fun v => pk K (lam2 v)) f2) := by
      unfold krf
      rw [Sm_perm hp, Sm_cons, Sm_cons]
      dsimp only
      rw [if_pos rfl, if_neg (fun e => hba e.symm)]
      congr 2
      refine Sm_congr (fun v hv => ?_)
      rw [if_neg (fun e => hn1.1 (by rw [← e]; simp [hv]))]
    rw [e]
    have hd : pk K (lam2 b) ∣ pk K (lam2 b) + Sm (fun v => pk K (lam2 v)) f2 := Int.dvd_add (Int.dvd_refl _) (Sm_dvd (fun v hv => pk_dvd (m1 v (by simp [hv]))))
    have hd0 : pk K (lam2 b) ∣ pk K 0 := pk_dvd (by omega)
    obtain ⟨q, hq⟩ := hd
    obtain ⟨q0, hq0⟩ := hd0
    have hlt : pk K (lam2 b) * q < pk K (lam2 b) * q0 := by rw [← hq, ← hq0]; omega
    have hpb := pk_pos K (lam2 b)
    have hqq : q < q0 := Int.lt_of_mul_lt_mul_left hlt (by omega)
    have := Int.mul_le_mul_of_nonneg_left (show q + 1 ≤ q0 by omega) (show 0 ≤ pk K (lam2 b) by omega)
    rw [Int.mul_add, Int.mul_one] at this
    rw [hq, hq0]
    omega
  · refine Int.le_trans (Sm_le (fun v hv => ?_)) m4
    dsimp only
    by_cases hva : v = a
    · subst hva
      rw [if_pos rfl]
      exact Int.mul_le_mul_of_nonneg_left (by omega) (h0 v hv)
    · rw [if_neg hva]
      exact Int.le_refl _
end
end Go.Huf
set_option linter.unusedVariables false
set_option linter.unusedSimpArgs false
namespace Go.Huf
theorem step_facts {l : List (Int × Int)} {free : List Nat} {h : Nat → Nat} {p tot : Int} (hI : TI l free h p tot) (hf : 1 < free.length) :
    ∃ a b f2, free.Perm (a :: b :: f2) ∧ (treeStep (l, free)).2 = f2 ++ [l.length] ∧ (treeStep (l, free)).1.length = l.length + 1 ∧ a < l.length ∧ b < l.length ∧ a ≠ b ∧
      (∀ v ∈ f2, v < l.length ∧ wt l b ≤ wt l v) ∧ wt l a ≤ wt l b ∧ (∀ i, i < l.length → wt (treeStep (l, free)).1 i = wt l i) ∧ wt (treeStep (l, free)).1 l.length = wt l a + wt l b ∧
      (∀ i, i < l.length → up1 (treeStep (l, free)).1 i = if i = b then (l.length : Int) else if i = a then (l.length : Int) else up1 l i) ∧ up1 l a = -1 ∧ up1 l b = -1 := by
  obtain ⟨k1, hk1⟩ : ∃ k1, k1 = leastK l free := ⟨_, rfl⟩
  obtain ⟨a, ha⟩ : ∃ a, a = free.getD k1 0 := ⟨_, rfl⟩
  obtain ⟨f1, hf1⟩ : ∃ f1, f1 = free.eraseIdx k1 := ⟨_, rfl⟩
  obtain ⟨k2, hk2⟩ : ∃ k2, k2 = leastK l f1 := ⟨_, rfl⟩
  obtain ⟨b, hb⟩ : ∃ b, b = f1.getD k2 0 := ⟨_, rfl⟩
  obtain ⟨f2, hf2⟩ : ∃ f2, f2 = f1.eraseIdx k2 := ⟨_, rfl⟩
  have hst : treeStep (l, free) = (link (link (l ++ [(wt l a + wt l b, -1)]) a l.length) b l.length, f2 ++ [l.length]) := by
    unfold treeStep
    simp only [← hk1, ← ha, ← hf1, ← hk2, ← hb, ← hf2]
  have h1 : k1 < free.length := by rw [hk1]; exact leastK_lt (by omega)
  have hl1 : f1.length = free.length - 1 := by rw [hf1, List.length_eraseIdx, if_pos h1]
  have h2 : k2 < f1.length := by rw [hk2]; exact leastK_lt (by omega)
  have p1 : free.Perm (a :: f1) := by rw [ha, hf1]; exact erase_perm h1
  have p2 : f1.Perm (b :: f2) := by rw [hb, hf2]; exact erase_perm h2
  have hp : free.Perm (a :: b :: f2) := p1.trans (p2.cons a)
  have hnd : (a :: b :: f2).Nodup := hp.nodup_iff.1 (hI.nod.imp (fun h => by omega))
  have hn1 := List.nodup_cons.1 hnd
  have hn2 := List.nodup_cons.1 hn1.2
  have hba : a ≠ b := fun e => hn1.1 (by simp [e])
  have am : a ∈ free := hp.mem_iff.2 (by simp)
  have bm : b ∈ free := hp.mem_iff.2 (by simp)
  obtain ⟨al, au⟩ := hI.frl a am
  obtain ⟨bl, bu⟩ := hI.frl b bm
  have hleast : ∀ v ∈ free, wt l a ≤ wt l v := fun v hv => by
    rw [List.mem_iff_getElem] at hv
    obtain ⟨j, hj, e⟩ := hv
    have := leastK_le (l := l) (free := free) hj
    rw [← hk1, ← ha] at this
    rw [show free.getD j 0 = v by rw [← e]; simp [List.getD, hj]] at this
    exact this
  have hleast2 : ∀ v ∈ f1, wt l b ≤ wt l v := fun v hv => by
    rw [List.mem_iff_getElem] at hv
    obtain ⟨j, hj, e⟩ := hv
    have := leastK_le (l := l) (free := f1) hj
    rw [← hk2, ← hb] at this
    rw [show f1.getD j 0 = v by rw [← e]; simp [List.getD, hj]] at this
    exact this
  refine ⟨a, b, f2, hp, by rw [hst], by rw [treeStep_len], al, bl, hba, fun v hv => ?_, hleast b bm, fun i hi => ?_, ?_, fun i hi => ?_, au, bu⟩
  · exact ⟨(hI.frl v (hp.mem_iff.2 (by simp [hv]))).1, hleast2 v (p2.mem_iff.2 (by simp [hv]))⟩
  · rw [hst]; dsimp only; rw [link_wt, link_wt, wt_app hi]
  · rw [hst]; dsimp only; rw [link_wt, link_wt, wt_last]
  · rw [hst]; dsimp only
    rw [link_up _ (by rw [link_len, List.length_append]; simp; omega), link_up _ (by rw [List.length_append]; simp; omega), up_app hi]
/-- the sum of what is made one -/
def Hc : Nat → List (Int × Int) × List Nat → Int
  | 0, _ => 0
  | n + 1, s => if 1 < s.2.length then wt (treeStep s).1 s.1.length + Hc n (treeStep s) else 0
/-- no lengths cost less -/
theorem best_run {tot : Int} (K : Nat) : ∀ (n : Nat) (l : List (Int × Int)) (free : List Nat) (h : Nat → Nat) (p : Int) (lam : Nat → Nat), TI l free h p tot →
    (∀ v ∈ free, lam v ≤ K) → krf K lam free ≤ pk K 0 → Hc n (l, free) ≤ cst (wt l) lam free
  | 0, l, free, h, p, lam, hI, hK, hkr => by
    rw [Hc]
    refine Sm_nonneg (fun v hv => Int.mul_nonneg ?_ (by omega))
    have := hI.low v hv
    have := hI.pos
    omega
  | n + 1, l, free, h, p, lam, hI, hK, hkr => by
    have hw0 : ∀ v ∈ free, 0 ≤ wt l v := fun v hv => by
      have := hI.low v hv
      have := hI.pos
      omega
    rw [Hc]
    split
    · rename_i hf
      obtain ⟨a, b, f2, hp, hs2, hlen, hal, hbl, hab, hf2, hwab, hwl, hwn, hul, _, _⟩ := step_facts hI hf
      obtain ⟨h', p', hI'⟩ := hI.step hf
      obtain ⟨lam', e1, e2, e3, e4, e5⟩ := best_step (w := wt l) (lam := lam) hp (hI.nod.imp (fun h => by omega)) hw0 hwab (fun v hv => (hf2 v hv).2) hK hkr
      have hbm : b ∈ free := hp.mem_iff.2 (by simp)
      have ham : a ∈ free := hp.mem_iff.2 (by simp)
      obtain ⟨mu, hmu⟩ : ∃ mu : Nat → Nat, mu = fun v => if v = l.length then lam' a - 1 else lam' v := ⟨_, rfl⟩
      have hmn : mu l.length = lam' a - 1 := by rw [hmu]; simp
      have hmv : ∀ v ∈ f2, mu v = lam' v := fun v hv => by
        rw [hmu]
        dsimp only
        rw [if_neg (by have := (hf2 v hv).1; omega)]
      obtain ⟨l', f', hs'⟩ : ∃ l' f', treeStep (l, free) = (l', f') := ⟨_, _, rfl⟩
      rw [hs'] at hs2 hlen hwl hwn hI' ⊢
      dsimp only at hs2 hlen hwl hwn hI' ⊢
      subst hs2
      have hkr' : krf K mu (f2 ++ [l.length]) ≤ pk K 0 := by
        have h1 : krf K lam' free = pk K (lam' a) + (pk K (lam' b) + krf K lam' f2) := by unfold krf; rw [Sm_perm hp, Sm_cons, Sm_cons]
        have h2 : krf K mu (f2 ++ [l.length]) = krf K lam' f2 + pk K (lam' a - 1) := by
          unfold krf
          rw [Sm_snoc, hmn, Sm_congr (F := fun v => pk K (mu v)) (G := fun v => pk K (lam' v)) (fun v hv => by rw [hmv v hv])]
        have h3 := pk_two (K := K) e2 (e3 a ham)
        rw [← e1] at h1
        omega
      have hK' : ∀ v ∈ f2 ++ [l.length], mu v ≤ K := fun v hv => by
        rcases List.mem_append.1 hv with hv | hv
        · rw [hmv v hv]; exact e3 v (hp.mem_iff.2 (by simp [hv]))
        · simp at hv
          rw [hv, hmn]
          have := e3 a ham
          omega
      have ih := best_run K n l' (f2 ++ [l.length]) h' p' mu hI' hK' hkr'
      have hc1 : cst (wt l') mu (f2 ++ [l.length]) = cst (wt l) lam' f2 + (wt l a + wt l b) * ((lam' a - 1 : Nat) : Int) := by
        unfold cst
        rw [Sm_snoc, hmn, hwn, Sm_congr (F := fun v => wt l' v * (mu v : Int)) (G := fun v => wt l v * (lam' v : Int)) (fun v hv => by rw [hmv v hv, hwl v (hf2 v hv).1])]
      have hc2 : cst (wt l) lam' free = wt l a * (lam' a : Int) + (wt l b * (lam' b : Int) + cst (wt l) lam' f2) := by unfold cst; rw [Sm_perm hp, Sm_cons, Sm_cons]
      rw [← e1] at hc2
      have hx : (wt l a + wt l b) * ((lam' a - 1 : Nat) : Int) = wt l a * (lam' a : Int) + wt l b * (lam' a : Int) - (wt l a + wt l b) := by
        obtain ⟨m, hm⟩ : ∃ m, lam' a = m + 1 := ⟨lam' a - 1, by omega⟩
        rw [hm, Nat.add_sub_cancel, Int.natCast_add, Int.mul_add, Int.mul_add, Int.add_mul]
        simp
        omega
      rw [hwn]
      omega
    · refine Sm_nonneg (fun v hv => Int.mul_nonneg (hw0 v hv) (by omega))
/-- in how many nodes the one at i stands -/
def Dp (L : List (Int × Int)) (i : Nat) : Nat := upN L L.length (up1 L i)
/-- in the end nobody stands but in a later one -/
def Ups (L : List (Int × Int)) : Prop := ∀ i, i < L.length → up1 L i = -1 ∨ ∃ t : Nat, up1 L i = t ∧ i < t ∧ t < L.length
theorem upN_fuel {L : List (Int × Int)} (hU : Ups L) : ∀ (f g i : Nat), i < L.length → L.length - 1 - i ≤ f → L.length - 1 - i ≤ g → upN L f (up1 L i) = upN L g (up1 L i)
  | 0, 0, i, hi, h1, h2 => rfl
  | 0, g + 1, i, hi, h1, h2 => by
    rcases hU i hi with h | ⟨t, h, h3, h4⟩
    · rw [h, upN, upN, if_pos (by omega)]
    · omega
  | f + 1, 0, i, hi, h1, h2 => by
    rcases hU i hi with h | ⟨t, h, h3, h4⟩
    · rw [h, upN, upN, if_pos (by omega)]
    · omega
  | f + 1, g + 1, i, hi, h1, h2 => by
    rcases hU i hi with h | ⟨t, h, h3, h4⟩
    · rw [h, upN, upN, if_pos (by omega), if_pos (by omega)]
    · rw [h, upN, upN, if_neg (by omega), if_neg (by omega), Int.toNat_natCast, upN_fuel hU f g t h4 (by omega) (by omega)]
theorem Dp_none {L : List (Int × Int)} {i : Nat} (h : up1 L i = -1) : Dp L i = 0 := by
  unfold Dp
  rw [h]
  cases L.length with
  | zero => rfl
  | succ n => rw [upN, if_pos (by omega)]
theorem Dp_up {L : List (Int × Int)} (hU : Ups L) {i t : Nat} (hi : i < L.length) (h : up1 L i = t) : Dp L i = Dp L t + 1 := by
  have ht : i < t ∧ t < L.length := by
    rcases hU i hi with h1 | ⟨t', h1, h2, h3⟩
    · omega
    · have : t' = t := by omega
      subst this
      exact ⟨h2, h3⟩
  unfold Dp
  obtain ⟨f, hf⟩ : ∃ f, L.length = f + 1 := ⟨L.length - 1, by omega⟩
  conv => lhs; rw [h, hf, upN, if_neg (by omega), Int.toNat_natCast]
  rw [upN_fuel hU f L.length t ht.2 (by omega) (by omega)]
theorem TI.to_ups {l : List (Int × Int)} {free : List Nat} {h : Nat → Nat} {p tot : Int} (hI : TI l free h p tot) : Ups l := fun i hi => by
  rcases hI.ups i hi with ⟨h1, _⟩ | ⟨t, h1, h2, h3, _⟩
  · exact .inl h1
  · exact .inr ⟨t, h1, h2, h3⟩
/-- who stands in one stays there -/
theorem up_stays {tot : Int} : ∀ (n : Nat) (l : List (Int × Int)) (free : List Nat) (h : Nat → Nat) (p : Int), TI l free h p tot → ∀ i, i < l.length → 0 ≤ up1 l i → up1 (treeF n (l, free)).1 i = up1 l i
  | 0, _, _, _, _, _, _, _, _ => rfl
  | n + 1, l, free, h, p, hI, i, hi, hu => by
    rw [treeF]
    split
    · rename_i hf
      obtain ⟨a, b, f2, hp, hs2, hlen, hal, hbl, hab, hf2, hwab, hwl, hwn, hul, hua, hub⟩ := step_facts hI hf
      obtain ⟨h', p', hI'⟩ := hI.step hf
      have hi' : up1 (treeStep (l, free)).1 i = up1 l i := by
        rw [hul i hi, if_neg (fun e => by rw [e] at hu; omega), if_neg (fun e => by rw [e] at hu; omega)]
      rw [up_stays n _ _ h' p' hI' i (by rw [hlen]; omega) (by rw [hi']; exact hu), hi']
    · rfl
/-- what the depths of those that stand in none cost in the end, and their room -/
theorem cost_run {tot : Int} (K : Nat) : ∀ (n : Nat) (l : List (Int × Int)) (free : List Nat) (h : Nat → Nat) (p : Int), TI l free h p tot → free.length ≤ n + 1 → 0 < free.length →
    cst (wt l) (Dp (treeF n (l, free)).1) free = Hc n (l, free) ∧ ((∀ v ∈ free, Dp (treeF n (l, free)).1 v ≤ K) → krf K (Dp (treeF n (l, free)).1) free = pk K 0)
  | n, l, free, h, p, hI, hn, h0 => by
    have hone : ¬ 1 < free.length → treeF n (l, free) = (l, free) → Hc n (l, free) = 0 → cst (wt l) (Dp (treeF n (l, free)).1) free = Hc n (l, free) ∧ ((∀ v ∈ free, Dp (treeF n (l, free)).1 v ≤ K) → krf K (Dp (treeF n (l, free)).1) free = pk K 0) := fun h1 h2 h3 => by
      rw [h2, h3]
      obtain ⟨x, rfl⟩ := List.length_eq_one_iff.1 (show free.length = 1 by omega)
      have := Dp_none (hI.frl x (by simp)).2
      constructor
      · unfold cst; simp [Sm, this]
      · intro _; unfold krf; simp [Sm, this]
    cases n with
    | zero => exact hone (by omega) rfl rfl
    | succ n =>
      by_cases hf : 1 < free.length
      · obtain ⟨a, b, f2, hp, hs2, hlen, hal, hbl, hab, hf2, hwab, hwl, hwn, hul, hua, hub⟩ := step_facts hI hf
        obtain ⟨h', p', hI'⟩ := hI.step hf
        have hfl := treeStep_free (s := (l, free)) hf
        have hrun := TI.run (h := h') (p := p') n _ _ h' p' hI'
        have e0 : treeF (n + 1) (l, free) = treeF n (treeStep (l, free)) := by rw [treeF]; rw [if_pos hf]
        have ih := cost_run K n (treeStep (l, free)).1 (treeStep (l, free)).2 h' p' hI' (by dsimp only at hfl; omega) (by dsimp only at hfl; omega)
        have hge := treeF_ge n (treeStep (l, free))
        have hsa := up_stays n _ _ h' p' hI' a (by rw [hlen]; omega) (by rw [hul a hal]; split <;> simp <;> omega)
        have hsb := up_stays n _ _ h' p' hI' b (by rw [hlen]; omega) (by rw [hul b hbl, if_pos rfl]; omega)
        rw [hul a hal, if_neg hab, if_pos rfl] at hsa
        rw [hul b hbl, if_pos rfl] at hsb
        rw [hs2] at ih
        have hHc : Hc (n + 1) (l, free) = wt (treeStep (l, free)).1 l.length + Hc n (treeStep (l, free)) := by rw [Hc]; rw [if_pos hf]
        have hHs : Hc n ((treeStep (l, free)).1, f2 ++ [l.length]) = Hc n (treeStep (l, free)) := by rw [← hs2]
        have hTs : treeF n ((treeStep (l, free)).1, f2 ++ [l.length]) = treeF n (treeStep (l, free)) := by rw [← hs2]
        rw [hHs, hTs] at ih
        rw [e0, hHc, hwn]
        have hTs2 : treeF n ((treeStep (l, free)).1, (treeStep (l, free)).2) = treeF n (treeStep (l, free)) := rfl
        rw [hTs2] at hsa hsb hrun
        obtain ⟨h'', p'', hI''⟩ := hrun
        generalize (treeF n (treeStep (l, free))).1 = L at *
        have hU := hI''.to_ups
        have hda := Dp_up hU (by omega) hsa
        have hdb := Dp_up hU (by omega) hsb
        obtain ⟨ih1, ih2⟩ := ih
        constructor
        · have h1 : cst (wt (treeStep (l, free)).1) (Dp L) (f2 ++ [l.length]) = cst (wt l) (Dp L) f2 + (wt l a + wt l b) * (Dp L l.length : Int) := by
            unfold cst
            rw [Sm_snoc, hwn, Sm_congr (F := fun v => wt (treeStep (l, free)).1 v * (Dp L v : Int)) (G := fun v => wt l v * (Dp L v : Int)) (fun v hv => by rw [hwl v (hf2 v hv).1])]
          have h2 : cst (wt l) (Dp L) free = wt l a * (Dp L a : Int) + (wt l b * (Dp L b : Int) + cst (wt l) (Dp L) f2) := by unfold cst; rw [Sm_perm hp, Sm_cons, Sm_cons]
          rw [hda, hdb, Int.natCast_add, Int.mul_add, Int.mul_add] at h2
          rw [Int.add_mul] at h1
          simp only [Int.natCast_one, Int.mul_one] at h2
          omega
        · intro hK
          have hKa := hK a (hp.mem_iff.2 (by simp))
          have ih2' := ih2 (fun v hv => by
            rcases List.mem_append.1 hv with hv | hv
            · exact hK v (hp.mem_iff.2 (by simp [hv]))
            · simp at hv
              rw [hv]
              omega)
          have h1 : krf K (Dp L) (f2 ++ [l.length]) = krf K (Dp L) f2 + pk K (Dp L l.length) := by unfold krf; rw [Sm_snoc]
          have h2 : krf K (Dp L) free = pk K (Dp L a) + (pk K (Dp L b) + krf K (Dp L) f2) := by unfold krf; rw [Sm_perm hp, Sm_cons, Sm_cons]
          have h3 := pk_two (K := K) (m := Dp L a) (by omega) hKa
          rw [hda, Nat.add_sub_cancel] at h3
          rw [hda, hdb] at h2
          omega
      · exact hone hf (by rw [treeF]; rw [if_neg hf]) (by rw [Hc]; rw [if_neg hf])
end Go.Huf
