/- The tree of counts, on lists alone: the least two made one, again and again; how deep it is. -/
import Derived.WalkKit
set_option linter.unusedVariables false
set_option linter.unusedSimpArgs false
namespace Go.Huf
/-- a node: its weight, and the node in which it stands (below 0: in none) -/
def wt (l : List (Int × Int)) (i : Nat) : Int := (l.getD i (0, -1)).1
def up1 (l : List (Int × Int)) (i : Nat) : Int := (l.getD i (0, -1)).2
/-- the place of the first of least weight among the first j of free -/
def scanK (l : List (Int × Int)) (free : List Nat) : Nat → Nat
  | 0 => 0
  | j + 1 => if wt l (free.getD j 0) < wt l (free.getD (scanK l free j) 0) then j else scanK l free j
def leastK (l : List (Int × Int)) (free : List Nat) : Nat := scanK l free free.length
theorem scanK_lt (l : List (Int × Int)) (free : List Nat) : ∀ j, 0 < j → scanK l free j < j
  | 0, h => by omega
  | 1, _ => by simp [scanK]
  | j + 2, _ => by
    have ih := scanK_lt l free (j + 1) (by omega)
    rw [scanK]
    split <;> omega
theorem scanK_le (l : List (Int × Int)) (free : List Nat) : ∀ j i, i < j → wt l (free.getD (scanK l free j) 0) ≤ wt l (free.getD i 0)
  | 0, i, h => by omega
  | j + 1, i, h => by
    rw [scanK]
    rcases Nat.lt_succ_iff_lt_or_eq.1 h with h1 | rfl
    · have ih := scanK_le l free j i h1
      split <;> omega
    · split <;> omega
/-- and it is the first such -/
theorem scanK_first (l : List (Int × Int)) (free : List Nat) : ∀ j i, i < scanK l free j → wt l (free.getD (scanK l free j) 0) < wt l (free.getD i 0)
  | 0, i, h => by simp [scanK] at h
  | j + 1, i, h => by
    rw [scanK] at h ⊢
    split
    · rename_i h1
      rw [if_pos h1] at h
      have := scanK_le l free j i h
      omega
    · rename_i h1
      rw [if_neg h1] at h
      exact scanK_first l free j i h
theorem leastK_lt {l : List (Int × Int)} {free : List Nat} (h : 0 < free.length) : leastK l free < free.length := scanK_lt l free _ h
theorem leastK_le {l : List (Int × Int)} {free : List Nat} {i : Nat} (h : i < free.length) : wt l (free.getD (leastK l free) 0) ≤ wt l (free.getD i 0) := scanK_le l free _ i h
/-- the node i now stands in node t -/
def link (l : List (Int × Int)) (i : Nat) (t : Int) : List (Int × Int) := l.set i (wt l i, t)
theorem link_len {l : List (Int × Int)} {i : Nat} {t : Int} : (link l i t).length = l.length := by simp [link]
theorem link_wt {l : List (Int × Int)} {i : Nat} {t : Int} (j : Nat) : wt (link l i t) j = wt l j := by
  unfold link
  by_cases hij : i = j
  · subst hij
    unfold wt
    rcases Nat.lt_or_ge i l.length with h | h
    · simp [List.getD, h]
    · simp [List.getD, h]
  · unfold wt
    simp [List.getD, List.getElem?_set_ne hij]
theorem link_up {l : List (Int × Int)} {i : Nat} {t : Int} (j : Nat) (h : i < l.length) : up1 (link l i t) j = if j = i then t else up1 l j := by
  unfold link up1
  by_cases hij : i = j
  · subst hij
    simp [List.getD, h]
  · rw [if_neg (fun e => hij e.symm)]
    simp [List.getD, List.getElem?_set_ne hij]
def treeStep (s : List (Int × Int) × List Nat) : List (Int × Int) × List Nat :=
  let k1 := leastK s.1 s.2
  let a := s.2.getD k1 0
  let f1 := s.2.eraseIdx k1
  let k2 := leastK s.1 f1
  let b := f1.getD k2 0
  let f2 := f1.eraseIdx k2
  (link (link (s.1 ++ [(wt s.1 a + wt s.1 b, -1)]) a s.1.length) b s.1.length, f2 ++ [s.1.length])
def treeF : Nat → List (Int × Int) × List Nat → List (Int × Int) × List Nat
  | 0, s => s
  | n + 1, s => if 1 < s.2.length then treeF n (treeStep s) else s
def nodes0 (cs : List Int) : List (Int × Int) := (cs.filter (fun n => decide (0 < n))).map (fun n => (n, -1))
def tree (cs : List Int) : List (Int × Int) := (treeF (nodes0 cs).length (nodes0 cs, List.range (nodes0 cs).length)).1
theorem treeStep_free {s : List (Int × Int) × List Nat} (h : 1 < s.2.length) : (treeStep s).2.length + 1 = s.2.length := by
  have h1 := leastK_lt (l := s.1) (free := s.2) (by omega)
  have h2 : (s.2.eraseIdx (leastK s.1 s.2)).length = s.2.length - 1 := by rw [List.length_eraseIdx]; simp [h1]
  have h3 := leastK_lt (l := s.1) (free := s.2.eraseIdx (leastK s.1 s.2)) (by omega)
  unfold treeStep
  simp only [List.length_append, List.length_singleton]
  rw [List.length_eraseIdx, if_pos h3, h2]
  omega
theorem treeStep_len (s : List (Int × Int) × List Nat) : (treeStep s).1.length = s.1.length + 1 := by
  unfold treeStep
  simp only [link_len, List.length_append, List.length_singleton]
theorem treeF_done : ∀ (n : Nat) (s : List (Int × Int) × List Nat), s.2.length ≤ n + 1 → (treeF n s).2.length ≤ 1
  | 0, s, h => h
  | n + 1, s, h => by
    rw [treeF]
    split
    · rename_i h1
      have := treeStep_free h1
      exact treeF_done n _ (by omega)
    · omega

/-! ### how deep: weights grow at least as Fibonacci's numbers -/
def fib : Nat → Int
  | 0 => 1
  | 1 => 2
  | n + 2 => fib (n + 1) + fib n
theorem fib_pos : ∀ n, 1 ≤ fib n
  | 0 => by simp [fib]
  | 1 => by simp [fib]
  | n + 2 => by have := fib_pos (n + 1); have := fib_pos n; rw [fib]; omega
theorem fib_mono1 : ∀ n, fib n ≤ fib (n + 1)
  | 0 => by simp [fib]
  | n + 1 => by have := fib_pos n; rw [fib]; omega
theorem fib_mono {m n : Nat} (h : m ≤ n) : fib m ≤ fib n := by
  induction h with
  | refl => exact Int.le_refl _
  | step _ ih => exact Int.le_trans ih (fib_mono1 _)
theorem fib_succ (h : Nat) : fib (h + 1) ≤ fib h + fib (h - 1) := by
  cases h with
  | zero => simp [fib]
  | succ n => rw [fib]; simp
/-- what holds while the tree grows: h says how high a node stands, p is the weight taken last -/
structure TI (l : List (Int × Int)) (free : List Nat) (h : Nat → Nat) (p tot : Int) : Prop where
  frl : ∀ v ∈ free, v < l.length ∧ up1 l v = -1
  nod : free.Pairwise (· < ·)
  ups : ∀ i, i < l.length → up1 l i = -1 ∧ i ∈ free ∨ ∃ t : Nat, up1 l i = t ∧ i < t ∧ t < l.length ∧ h i < h t
  wts : ∀ i, i < l.length → fib (h i) ≤ wt l i
  low : ∀ v ∈ free, p ≤ wt l v ∧ (h v = 0 ∨ ∃ c : Int, c ≤ p ∧ fib (h v - 1) ≤ c)
  tots : (free.map (wt l)).sum = tot
  pos : 0 ≤ p
theorem sum_erase {l : List (Int × Int)} : ∀ (f : List Nat) (k : Nat), k < f.length → (f.map (wt l)).sum = wt l (f.getD k 0) + ((f.eraseIdx k).map (wt l)).sum
  | [], k, h => by simp at h
  | x :: f, 0, _ => by simp
  | x :: f, k + 1, h => by
    have ih := sum_erase (l := l) f k (by simpa using h)
    simp only [List.map_cons, List.sum_cons, List.eraseIdx_cons_succ, List.getD_cons_succ]
    rw [ih]
    omega
theorem mem_eraseIdx_ne {f : List Nat} (hn : f.Pairwise (· < ·)) {k v : Nat} (hk : k < f.length) (hv : v ∈ f.eraseIdx k) : v ∈ f ∧ v ≠ f.getD k 0 := by
  have h1 : v ∈ f := (List.eraseIdx_sublist f k).mem hv
  refine ⟨h1, ?_⟩
  rw [List.mem_iff_getElem] at hv
  obtain ⟨j, hj, rfl⟩ := hv
  rw [List.length_eraseIdx, if_pos hk] at hj
  rw [List.getElem_eraseIdx]
  have hg : f.getD k 0 = f[k] := by simp [List.getD, hk]
  rw [hg]
  have hp := List.pairwise_iff_getElem.1 hn
  split
  · rename_i h2
    have := hp j k (by omega) hk h2
    omega
  · have := hp k (j + 1) hk (by omega) (by omega)
    omega
theorem mem_of_ne {f : List Nat} {k v : Nat} (hk : k < f.length) (hv : v ∈ f) (hne : v ≠ f.getD k 0) : v ∈ f.eraseIdx k := by
  rw [List.mem_iff_getElem] at hv
  obtain ⟨j, hj, rfl⟩ := hv
  have hg : f.getD k 0 = f[k] := by simp [List.getD, hk]
  rw [hg] at hne
  have hl : (f.eraseIdx k).length = f.length - 1 := by rw [List.length_eraseIdx, if_pos hk]
  rcases Nat.lt_trichotomy j k with h | h | h
  · exact List.mem_iff_getElem.2 ⟨j, by omega, by rw [List.getElem_eraseIdx, dif_pos h]⟩
  · subst h; exact absurd rfl hne
  · refine List.mem_iff_getElem.2 ⟨j - 1, by omega, ?_⟩
    rw [List.getElem_eraseIdx, dif_neg (by omega)]
    congr 1
    omega
theorem getD_mem {f : List Nat} {k : Nat} (h : k < f.length) : f.getD k 0 ∈ f := by
  have : f.getD k 0 = f[k] := by simp [List.getD, h]
  rw [this]; exact List.getElem_mem h
theorem wt_app {l : List (Int × Int)} {x : Int × Int} {i : Nat} (h : i < l.length) : wt (l ++ [x]) i = wt l i := by
  unfold wt; simp [List.getD, List.getElem?_append_left h]
theorem wt_last {l : List (Int × Int)} {x : Int × Int} : wt (l ++ [x]) l.length = x.1 := by
  unfold wt; simp [List.getD]
theorem up_app {l : List (Int × Int)} {x : Int × Int} {i : Nat} (h : i < l.length) : up1 (l ++ [x]) i = up1 l i := by
  unfold up1; simp [List.getD, List.getElem?_append_left h]
theorem up_last {l : List (Int × Int)} {x : Int × Int} : up1 (l ++ [x]) l.length = x.2 := by
  unfold up1; simp [List.getD]
theorem TI.step {l : List (Int × Int)} {free : List Nat} {h : Nat → Nat} {p tot : Int} (hI : TI l free h p tot) (hf : 1 < free.length) :
    ∃ h' p', TI (treeStep (l, free)).1 (treeStep (l, free)).2 h' p' tot := by
  obtain ⟨k1, hk1⟩ : ∃ k1, k1 = leastK l free := ⟨_, rfl⟩
  obtain ⟨a, ha⟩ : ∃ a, a = free.getD k1 0 := ⟨_, rfl⟩
  obtain ⟨f1, hf1⟩ : ∃ f1, f1 = free.eraseIdx k1 := ⟨_, rfl⟩
  obtain ⟨k2, hk2⟩ : ∃ k2, k2 = leastK l f1 := ⟨_, rfl⟩
  obtain ⟨b, hb⟩ : ∃ b, b = f1.getD k2 0 := ⟨_, rfl⟩
  obtain ⟨f2, hf2⟩ : ∃ f2, f2 = f1.eraseIdx k2 := ⟨_, rfl⟩
  have hst : treeStep (l, free) = (link (link (l ++ [(wt l a + wt l b, -1)]) a l.length) b l.length, f2 ++ [l.length]) := by
    unfold treeStep
    simp only [← hk1, ← ha, ← hf1, ← hk2, ← hb, ← hf2]
  have h1 : k1 < free.length := by rw [hk1]; exact leastK_lt (by omega)
  have hl1 : f1.length = free.length - 1 := by rw [hf1, List.length_eraseIdx, if_pos h1]
  have h2 : k2 < f1.length := by rw [hk2]; exact leastK_lt (by omega)
  have hn1 : f1.Pairwise (· < ·) := by rw [hf1]; exact hI.nod.sublist (List.eraseIdx_sublist _ _)
  have hn2 : f2.Pairwise (· < ·) := by rw [hf2]; exact hn1.sublist (List.eraseIdx_sublist _ _)
  have am : a ∈ free := by rw [ha]; exact getD_mem h1
  have bm1 : b ∈ f1 := by rw [hb]; exact getD_mem h2
  obtain ⟨bm, hba⟩ : b ∈ free ∧ b ≠ a := by rw [ha]; rw [hf1] at bm1; exact mem_eraseIdx_ne hI.nod h1 bm1
  obtain ⟨al, au⟩ := hI.frl a am
  obtain ⟨bl, bu⟩ := hI.frl b bm
  have hab : wt l a ≤ wt l b := by
    have hbm := bm
    rw [List.mem_iff_getElem] at hbm
    obtain ⟨j, hj, e⟩ := hbm
    have := leastK_le (l := l) (free := free) hj
    rw [← hk1, ← ha] at this
    rw [show free.getD j 0 = b by rw [← e]; simp [List.getD, hj]] at this
    exact this
  have hf2m : ∀ v ∈ f2, v ∈ free ∧ v ≠ a ∧ v ≠ b ∧ wt l b ≤ wt l v := fun v hv => by
    rw [hf2] at hv
    obtain ⟨x1, x2⟩ := mem_eraseIdx_ne hn1 h2 hv
    have x1' := x1
    rw [hf1] at x1'
    obtain ⟨x3, x4⟩ := mem_eraseIdx_ne hI.nod h1 x1'
    refine ⟨x3, by rw [ha]; exact x4, by rw [hb]; exact x2, ?_⟩
    rw [List.mem_iff_getElem] at x1
    obtain ⟨j, hj, e⟩ := x1
    have := leastK_le (l := l) (free := f1) hj
    rw [← hk2, ← hb] at this
    rw [show f1.getD j 0 = v by rw [← e]; simp [List.getD, hj]] at this
    exact this
  have hwl : ∀ i, i < l.length → wt (link (link (l ++ [(wt l a + wt l b, -1)]) a l.length) b l.length) i = wt l i := fun i hi => by
    rw [link_wt, link_wt, wt_app hi]
  have hwn : wt (link (link (l ++ [(wt l a + wt l b, -1)]) a l.length) b l.length) l.length = wt l a + wt l b := by
    rw [link_wt, link_wt, wt_last]
  have hul : ∀ i, i < l.length → up1 (link (link (l ++ [(wt l a + wt l b, -1)]) a l.length) b l.length) i = if i = b then (l.length : Int) else if i = a then (l.length : Int) else up1 l i := fun i hi => by
    rw [link_up _ (by rw [link_len, List.length_append]; simp; omega), link_up _ (by rw [List.length_append]; simp; omega), up_app hi]
  have hun : up1 (link (link (l ++ [(wt l a + wt l b, -1)]) a l.length) b l.length) l.length = -1 := by
    rw [link_up _ (by rw [link_len, List.length_append]; simp; omega), if_neg (by omega), link_up _ (by rw [List.length_append]; simp; omega), if_neg (by omega), up_last]
  obtain ⟨la, lda⟩ := hI.low a am
  obtain ⟨lb, ldb⟩ := hI.low b bm
  have wa := hI.wts a al
  have wb := hI.wts b bl
  have hp := hI.pos
  refine ⟨fun i => if i = l.length then max (h a) (h b) + 1 else h i, wt l b, ?_⟩
  rw [hst]
  have hlen : (link (link (l ++ [(wt l a + wt l b, -1)]) a l.length) b l.length).length = l.length + 1 := by
    rw [link_len, link_len, List.length_append, List.length_singleton]
  refine ⟨?_, ?_, ?_, ?_, ?_, ?_, by omega⟩
  · intro v hv
    rw [hlen]
    rcases List.mem_append.1 hv with hv | hv
    · obtain ⟨x1, x2, x3, x4⟩ := hf2m v hv
      obtain ⟨y1, y2⟩ := hI.frl v x1
      dsimp only
      rw [hul v y1, if_neg x3, if_neg x2]
      exact ⟨by omega, y2⟩
    · simp at hv
      subst hv
      exact ⟨by omega, hun⟩
  · rw [List.pairwise_append]
    refine ⟨hn2, by simp, fun x hx y hy => ?_⟩
    simp at hy
    subst hy
    exact (hI.frl x (hf2m x hx).1).1
  · intro i hi
    dsimp only at hi ⊢
    rw [hlen] at hi ⊢
    rcases Nat.lt_succ_iff_lt_or_eq.1 hi with h3 | rfl
    · rw [hul i h3, if_neg (show i ≠ l.length by omega)]
      by_cases hib : i = b
      · right
        subst hib
        rw [if_pos rfl]
        exact ⟨l.length, rfl, h3, by omega, by rw [if_pos rfl]; omega⟩
      · rw [if_neg hib]
        by_cases hia : i = a
        · right
          subst hia
          rw [if_pos rfl]
          exact ⟨l.length, rfl, h3, by omega, by rw [if_pos rfl]; omega⟩
        · rw [if_neg hia]
          rcases hI.ups i h3 with ⟨h4, h5⟩ | ⟨t, h4, h5, h6, h7⟩
          · left
            refine ⟨h4, List.mem_append_left _ ?_⟩
            rw [hf2]
            refine mem_of_ne h2 ?_ (by rw [← hb]; exact hib)
            rw [hf1]
            exact mem_of_ne h1 h5 (by rw [← ha]; exact hia)
          · right
            exact ⟨t, h4, h5, by omega, by rw [if_neg (by omega)]; exact h7⟩
    · left
      exact ⟨hun, by simp⟩
  · intro i hi
    dsimp only at hi ⊢
    rw [hlen] at hi
    rcases Nat.lt_succ_iff_lt_or_eq.1 hi with h3 | rfl
    · rw [hwl i h3, if_neg (by omega)]
      exact hI.wts i h3
    · rw [hwn, if_pos rfl]
      rcases Nat.le_total (h a) (h b) with h4 | h4
      · rw [Nat.max_eq_right h4]
        have h5 : fib (h b - 1) ≤ wt l a := by
          rcases ldb with h6 | ⟨c, h6, h7⟩
          · rw [h6] at h4 ⊢
            have h8 : h a = 0 := by omega
            rw [h8] at wa
            exact wa
          · omega
        have := fib_succ (h b)
        omega
      · rw [Nat.max_eq_left h4]
        have h5 : fib (h a - 1) ≤ fib (h a) := fib_mono (by omega)
        have := fib_succ (h a)
        omega
  · intro v hv
    dsimp only
    rcases List.mem_append.1 hv with hv | hv
    · obtain ⟨x1, x2, x3, x4⟩ := hf2m v hv
      obtain ⟨y1, y2⟩ := hI.frl v x1
      rw [hwl v y1, if_neg (by omega)]
      refine ⟨x4, ?_⟩
      rcases (hI.low v x1).2 with h3 | ⟨c, h3, h4⟩
      · exact .inl h3
      · exact .inr ⟨c, by omega, h4⟩
    · simp at hv
      subst hv
      rw [hwn, if_pos rfl]
      have := fib_pos (h a)
      refine ⟨by omega, .inr ?_⟩
      simp only [Nat.add_sub_cancel]
      rcases Nat.le_total (h a) (h b) with h4 | h4
      · exact ⟨wt l b, Int.le_refl _, by rw [Nat.max_eq_right h4]; exact wb⟩
      · exact ⟨wt l a, hab, by rw [Nat.max_eq_left h4]; exact wa⟩
  · dsimp only
    rw [List.map_append, List.sum_append]
    have e1 : f2.map (wt (link (link (l ++ [(wt l a + wt l b, -1)]) a l.length) b l.length)) = f2.map (wt l) := by
      refine List.map_congr_left (fun v hv => hwl v (hI.frl v (hf2m v hv).1).1)
    rw [e1]
    have t1 := sum_erase (l := l) free k1 h1
    have t2 := sum_erase (l := l) f1 k2 h2
    rw [← ha, ← hf1] at t1
    rw [← hb, ← hf2] at t2
    have t3 := hI.tots
    simp [hwn]
    omega
theorem TI.run {h : Nat → Nat} {p tot : Int} : ∀ (n : Nat) (l : List (Int × Int)) (free : List Nat) (h : Nat → Nat) (p : Int), TI l free h p tot → ∃ h' p', TI (treeF n (l, free)).1 (treeF n (l, free)).2 h' p' tot
  | 0, l, free, h, p, hI => ⟨h, p, hI⟩
  | n + 1, l, free, h, p, hI => by
    rw [treeF]
    split
    · rename_i h1
      obtain ⟨h', p', hI'⟩ := hI.step h1
      exact TI.run (h := h) (p := p) n _ _ h' p' hI'
    · exact ⟨h, p, hI⟩
/-- in how many nodes the one at k stands, itself counted; fuel -/
def upN (l : List (Int × Int)) : Nat → Int → Nat
  | 0, _ => 0
  | f + 1, k => if k < 0 then 0 else upN l f (up1 l k.toNat) + 1
/-- whoever stands in none has weight at most the sum -/
theorem wt_le_sum {l : List (Int × Int)} : ∀ (f : List Nat), (∀ v ∈ f, 0 ≤ wt l v) → ∀ v ∈ f, wt l v ≤ (f.map (wt l)).sum
  | [], _, v, hv => by simp at hv
  | x :: f, h, v, hv => by
    have hs : ∀ (g : List Nat), (∀ v ∈ g, 0 ≤ wt l v) → 0 ≤ (g.map (wt l)).sum := fun g hg => by
      induction g with
      | nil => simp
      | cons y g ih => simp only [List.map_cons, List.sum_cons]; have := hg y (by simp); have := ih (fun v hv => hg v (by simp [hv])); omega
    simp only [List.map_cons, List.sum_cons]
    rcases List.mem_cons.1 hv with rfl | hv
    · have := hs f (fun v hv => h v (by simp [hv])); omega
    · have := wt_le_sum f (fun v hv => h v (by simp [hv])) v hv
      have := h x (by simp)
      omega
theorem TI.low_tot {l : List (Int × Int)} {free : List Nat} {h : Nat → Nat} {p tot : Int} (hI : TI l free h p tot) : ∀ (d i : Nat), l.length - i ≤ d → i < l.length → fib (h i) ≤ tot
  | 0, i, hd, hi => by omega
  | d + 1, i, hd, hi => by
    rcases hI.ups i hi with ⟨h1, h2⟩ | ⟨t, h1, h2, h3, h4⟩
    · have w1 := hI.wts i hi
      have w2 := wt_le_sum (l := l) free (fun v hv => by have := hI.wts v (hI.frl v hv).1; have := fib_pos (h v); omega) i h2
      rw [hI.tots] at w2
      omega
    · have ih := TI.low_tot hI d t (by omega) h3
      exact Int.le_trans (fib_mono (by omega)) ih
theorem TI.deep {l : List (Int × Int)} {free : List Nat} {h : Nat → Nat} {p tot : Int} (hI : TI l free h p tot) : ∀ (f i : Nat), i < l.length → fib (upN l f (up1 l i) + h i) ≤ tot
  | 0, i, hi => by
    rw [upN, Nat.zero_add]
    exact hI.low_tot _ i (Nat.le_refl _) hi
  | f + 1, i, hi => by
    rcases hI.ups i hi with ⟨h1, h2⟩ | ⟨t, h1, h2, h3, h4⟩
    · rw [h1, upN, if_pos (by omega), Nat.zero_add]
      exact hI.low_tot _ i (Nat.le_refl _) hi
    · rw [h1, upN, if_neg (by omega), Int.toNat_natCast]
      have ih := TI.deep hI f t h3
      exact Int.le_trans (fib_mono (by omega)) ih
theorem nodes0_wt {cs : List Int} {i : Nat} (h : i < (nodes0 cs).length) : 0 < wt (nodes0 cs) i ∧ up1 (nodes0 cs) i = -1 := by
  have h1 : (nodes0 cs)[i] ∈ nodes0 cs := List.getElem_mem h
  unfold wt up1
  have e : (nodes0 cs).getD i (0, -1) = (nodes0 cs)[i] := by simp [List.getD, h]
  rw [e]
  obtain ⟨n, hn, e2⟩ := List.mem_map.1 h1
  rw [← e2]
  have := (List.mem_filter.1 hn).2
  exact ⟨by simpa using this, rfl⟩
theorem nodes0_sum : ∀ (cs : List Int), (∀ n ∈ cs, 0 ≤ n) → ((nodes0 cs).map (·.1)).sum = cs.sum
  | [], _ => rfl
  | n :: cs, h => by
    have ih := nodes0_sum cs (fun m hm => h m (by simp [hm]))
    have h0 := h n (by simp)
    unfold nodes0 at *
    rw [List.filter_cons]
    split
    · simp only [List.map_cons, List.sum_cons]; rw [ih]
    · rename_i h1
      simp at h1
      simp only [List.sum_cons]
      rw [ih]
      omega
theorem range_wt (l : List (Int × Int)) : (List.range l.length).map (wt l) = l.map (·.1) := by
  apply List.ext_getElem
  · simp
  · intro i h1 h2
    simp at h1
    simp [wt, List.getD, h1]
theorem TI.start {cs : List Int} (h : ∀ n ∈ cs, 0 ≤ n) : TI (nodes0 cs) (List.range (nodes0 cs).length) (fun _ => 0) 0 cs.sum := by
  refine ⟨fun v hv => ?_, List.pairwise_lt_range, fun i hi => .inl ⟨(nodes0_wt hi).2, by simpa using hi⟩, fun i hi => ?_, fun v hv => ?_, ?_, Int.le_refl _⟩
  · have hv' : v < (nodes0 cs).length := by simpa using hv
    exact ⟨hv', (nodes0_wt hv').2⟩
  · have := (nodes0_wt hi).1
    show (1 : Int) ≤ _
    omega
  · have hv' : v < (nodes0 cs).length := by simpa using hv
    have := (nodes0_wt hv').1
    exact ⟨by omega, .inl rfl⟩
  · rw [range_wt]; exact nodes0_sum cs h
/-- a tree of small counts is not deep -/
theorem tree_deep {cs : List Int} (h : ∀ n ∈ cs, 0 ≤ n) (hs : cs.sum < fib 15) (f i : Nat) (hi : i < (tree cs).length) : upN (tree cs) f (up1 (tree cs) i) < 15 := by
  obtain ⟨h', p', hI⟩ := TI.run (h := fun _ => 0) (p := 0) (nodes0 cs).length (nodes0 cs) (List.range (nodes0 cs).length) _ _ (TI.start h)
  have hd := hI.deep f i hi
  apply Classical.byContradiction
  intro hc
  have := fib_mono (m := 15) (n := upN (tree cs) f (up1 (tree cs) i) + h' i) (by omega)
  have hh : fib (upN (tree cs) f (up1 (tree cs) i) + h' i) ≤ cs.sum := hd
  omega
end Go.Huf
