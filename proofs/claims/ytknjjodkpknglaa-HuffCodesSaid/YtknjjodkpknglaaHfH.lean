/- The tree of counts: what its depths add up to, and that no lengths cost less. -/
import Derived.Test.YtknjjodkpknglaaHfQ
set_option linter.unusedVariables false
set_option linter.unusedSimpArgs false
namespace Go.Huf
/-- a sum over a row of places -/
def Sm (F : Nat → Int) (f : List Nat) : Int := (f.map F).sum
theorem Sm_nil (F : Nat → Int) : Sm F [] = 0 := rfl
theorem Sm_cons (F : Nat → Int) (x : Nat) (f : List Nat) : Sm F (x :: f) = F x + Sm F f := by simp [Sm]
theorem Sm_snoc (F : Nat → Int) (x : Nat) (f : List Nat) : Sm F (f ++ [x]) = Sm F f + F x := by simp [Sm, List.sum_append]
theorem Sm_perm {F : Nat → Int} {f g : List Nat} (h : f.Perm g) : Sm F f = Sm F g := by
  induction h with
  | nil => rfl
  | cons x _ ih => rw [Sm_cons, Sm_cons, ih]
  | swap x y l => simp only [Sm_cons]; omega
  | trans _ _ h1 h2 => exact h1.trans h2
theorem Sm_congr {F G : Nat → Int} : ∀ {f : List Nat}, (∀ v ∈ f, F v = G v) → Sm F f = Sm G f
  | [], _ => rfl
  | x :: f, h => by rw [Sm_cons, Sm_cons, h x (by simp), Sm_congr (fun v hv => h v (by simp [hv]))]
theorem Sm_le {F G : Nat → Int} : ∀ {f : List Nat}, (∀ v ∈ f, F v ≤ G v) → Sm F f ≤ Sm G f
  | [], _ => Int.le_refl _
  | x :: f, h => by
    have := h x (by simp)
    have := Sm_le (f := f) (fun v hv => h v (by simp [hv]))
    rw [Sm_cons, Sm_cons]; omega
theorem Sm_nonneg {F : Nat → Int} : ∀ {f : List Nat}, (∀ v ∈ f, 0 ≤ F v) → 0 ≤ Sm F f
  | [], _ => Int.le_refl _
  | x :: f, h => by
    have := h x (by simp)
    have := Sm_nonneg (f := f) (fun v hv => h v (by simp [hv]))
    rw [Sm_cons]; omega
theorem Sm_dvd {F : Nat → Int} {d : Int} : ∀ {f : List Nat}, (∀ v ∈ f, d ∣ F v) → d ∣ Sm F f
  | [], _ => ⟨0, by simp [Sm]⟩
  | x :: f, h => by
    rw [Sm_cons]
    exact Int.dvd_add (h x (by simp)) (Sm_dvd (fun v hv => h v (by simp [hv])))
theorem erase_perm : ∀ {f : List Nat} {k : Nat}, k < f.length → f.Perm (f.getD k 0 :: f.eraseIdx k)
  | [], k, h => by simp at h
  | x :: f, 0, _ => by simp
  | x :: f, k + 1, h => by
    have ih := erase_perm (f := f) (k := k) (by simpa using h)
    rw [List.getD_cons_succ, List.eraseIdx_cons_succ]
    exact (ih.cons x).trans (List.Perm.swap _ _ _)
/-- room of a code of length m, where the longest has K -/
def pk (K m : Nat) : Int := ((2 ^ (K - m) : Nat) : Int)
theorem pk_pos (K m : Nat) : 1 ≤ pk K m := by
  have := Nat.two_pow_pos (K - m)
  unfold pk; omega
theorem pk_dvd {K m m' : Nat} (h : m ≤ m') : pk K m' ∣ pk K m := by
  unfold pk
  exact Int.natCast_dvd_natCast.2 (Nat.pow_dvd_pow 2 (by omega))
theorem pk_two {K m : Nat} (h1 : 1 ≤ m) (h2 : m ≤ K) : pk K m + pk K m = pk K (m - 1) := by
  unfold pk
  rw [show K - (m - 1) = (K - m) + 1 by omega, Nat.pow_succ]
  omega
theorem pk_zero (K : Nat) : pk K 0 = ((2 ^ K : Nat) : Int) := rfl
section
variable {w : Nat → Int} {K : Nat} {lam : Nat → Nat} {free : List Nat}
def cst (w : Nat → Int) (lam : Nat → Nat) (f : List Nat) : Int := Sm (fun v => w v * (lam v : Int)) f
def krf (K : Nat) (lam : Nat → Nat) (f : List Nat) : Int := Sm (fun v => pk K (lam v)) f
theorem two_out (hn : free.Nodup) {a x : Nat} (ha : a ∈ free) (hx : x ∈ free) (hne : a ≠ x) : ∃ r, free.Perm (a :: x :: r) ∧ a ∉ r ∧ x ∉ r := by
  have h1 := List.perm_cons_erase ha
  have hx' : x ∈ free.erase a := (List.mem_erase_of_ne hne.symm).2 hx
  have h2 := List.perm_cons_erase hx'
  have h3 : free.Perm (a :: x :: (free.erase a).erase x) := h1.trans (h2.cons a)
  have h4 := List.nodup_cons.1 (h3.nodup_iff.1 hn)
  have h5 := List.nodup_cons.1 h4.2
  exact ⟨_, h3, fun h => h4.1 (by simp [h]), h5.1⟩
theorem max_in : ∀ {f : List Nat}, f ≠ [] → ∀ lam : Nat → Nat, ∃ x ∈ f, ∀ v ∈ f, lam v ≤ lam x
  | [], h, _ => absurd rfl h
  | x :: f, _, lam => by
    by_cases hf : f = []
    · subst hf
      exact ⟨x, by simp, by simp⟩
    · obtain ⟨y, hy, hm⟩ := max_in hf lam
      rcases Nat.le_total (lam x) (lam y) with h | h
      · refine ⟨y, by simp [hy], fun v hv => ?_⟩
        rcases List.mem_cons.1 hv with rfl | hv
        · exact h
        · exact hm v hv
      · refine ⟨x, by simp, fun v hv => ?_⟩
        rcases List.mem_cons.1 hv with rfl | hv
        · exact Nat.le_refl _
        · have := hm v hv; omega
/-- two lengths exchanged -/
def swp (lam : Nat → Nat) (p q : Nat) : Nat → Nat := fun v => if v = p then lam q else if v = q then lam p else lam v
theorem swp_ok (hn : free.Nodup) {p q : Nat} (hp : p ∈ free) (hq : q ∈ free) (hne : p ≠ q) (hw : w p ≤ w q) (hl : lam p ≤ lam q) :
    krf K (swp lam p q) free = krf K lam free ∧ cst w (swp lam p q) free ≤ cst w lam free := by
  obtain ⟨r, hr, h1, h2⟩ := two_out hn hp hq hne
  have e1 : swp lam p q p = lam q := by simp [swp]
  have e2 : swp lam p q q = lam p := by simp [swp, hne.symm]
  have e3 : ∀ v ∈ r, swp lam p q v = lam v := fun v hv => by
    unfold swp
    rw [if_neg (show v ≠ p from fun e => h1 (e ▸ hv)), if_neg (show v ≠ q from fun e => h2 (e ▸ hv))]
  unfold krf cst
  rw [Sm_perm hr, Sm_perm hr, Sm_perm hr, Sm_perm hr]
  simp only [Sm_cons, e1, e2]
  rw [Sm_congr (F := fun v => pk K (swp lam p q v)) (G := fun v => pk K (lam v)) (fun v hv => by rw [e3 v hv]),
    Sm_congr (F := fun v => w v * (swp lam p q v : Int)) (G := fun v => w v * (lam v : Int)) (fun v hv => by rw [e3 v hv])]
  refine ⟨by omega, ?_⟩
  obtain ⟨d, hd⟩ : ∃ d : Nat, lam q = lam p + d := ⟨lam q - lam p, by omega⟩
  obtain ⟨e, he⟩ : ∃ e : Nat, w q = w p + e := ⟨(w q - w p).toNat, by omega⟩
  rw [hd, he]
  have hde : 0 ≤ (e : Int) * d := Int.mul_nonneg (by omega) (by omega)
  have x1 : (w p + e) * ((lam p + d : Nat) : Int) = w p * (lam p : Int) + w p * d + e * (lam p : Int) + (e : Int) * d := by
    rw [Int.natCast_add, Int.mul_add, Int.add_mul, Int.add_mul]; omega
  have x2 : w p * ((lam p + d : Nat) : Int) = w p * (lam p : Int) + w p * d := by rw [Int.natCast_add, Int.mul_add]
  have x3 : (w p + e) * (lam p : Int) = w p * (lam p : Int) + e * (lam p : Int) := by rw [Int.add_mul]
  rw [x1, x2, x3]
  omega
theorem swp_le (hK : ∀ v ∈ free, lam v ≤ K) {p q : Nat} (hp : p ∈ free) (hq : q ∈ free) : ∀ v ∈ free, swp lam p q v ≤ K := fun v hv => by
  unfold swp
  split
  · exact hK q hq
  · split
    · exact hK p hp
    · exact hK v hv
/-- the two lightest may as well stand side by side, deepest -/
theorem best_step {a b : Nat} {f2 : List Nat} (hp : free.Perm (a :: b :: f2)) (hn : free.Nodup) (h0 : ∀ v ∈ free, 0 ≤ w v) (hab : w a ≤ w b) (hlow : ∀ v ∈ f2, w b ≤ w v)
    (hK : ∀ v ∈ free, lam v ≤ K) (hkr : krf K lam free ≤ pk K 0) :
    ∃ lam' : Nat → Nat, lam' a = lam' b ∧ 1 ≤ lam' a ∧ (∀ v ∈ free, lam' v ≤ K) ∧ krf K lam' free ≤ pk K 0 ∧ cst w lam' free ≤ cst w lam free := by
  have ham : a ∈ free := hp.mem_iff.2 (by simp)
  have hbm : b ∈ free := hp.mem_iff.2 (by simp)
  have hnd := hp.nodup_iff.1 hn
  have hn1 := List.nodup_cons.1 hnd
  have hn2 := List.nodup_cons.1 hn1.2
  have hba : a ≠ b := fun e => hn1.1 (by simp [e])
  have hlow1 : ∀ v ∈ free, w a ≤ w v := fun v hv => by
    rcases List.mem_cons.1 (hp.mem_iff.1 hv) with rfl | hv
    · exact Int.le_refl _
    · rcases List.mem_cons.1 hv with rfl | hv
      · exact hab
      · have := hlow v hv; omega
  -- a deepest
  obtain ⟨lam1, k1, k2, k3, k4⟩ : ∃ lam1 : Nat → Nat, (∀ v ∈ free, lam1 v ≤ lam1 a) ∧ (∀ v ∈ free, lam1 v ≤ K) ∧ krf K lam1 free ≤ pk K 0 ∧ cst w lam1 free ≤ cst w lam free := by
    obtain ⟨x, hx, hm⟩ := max_in (f := free) (fun e => by rw [e] at ham; simp at ham) lam
    by_cases hxa : a = x
    · subst hxa
      exact ⟨lam, hm, hK, hkr, Int.le_refl _⟩
    · have hs := swp_ok (K := K) (w := w) (lam := lam) hn ham hx hxa (hlow1 x hx) (hm a ham)
      refine ⟨swp lam a x, fun v hv => ?_, swp_le hK ham hx, by rw [hs.1]; exact hkr, hs.2⟩
      have e1 : swp lam a x a = lam x := by simp [swp]
      rw [e1]
      unfold swp
      split
      · exact Nat.le_refl _
      · split
        · exact hm a ham
        · exact hm v hv
  -- b deepest of the others
  obtain ⟨lam2, m1, m2, m3, m4⟩ : ∃ lam2 : Nat → Nat, (∀ v ∈ b :: f2, lam2 v ≤ lam2 b) ∧ (∀ v ∈ free, lam2 v ≤ K) ∧ krf K lam2 free ≤ pk K 0 ∧ cst w lam2 free ≤ cst w lam free ∧ lam2 b ≤ lam2 a := by
    obtain ⟨x, hx, hm⟩ := max_in (f := b :: f2) (by simp) lam1
    have hxf : x ∈ free := hp.mem_iff.2 (by simp only [List.mem_cons] at hx ⊢; exact .inr hx)
    have hxa : x ≠ a := fun e => hn1.1 (e ▸ hx)
    by_cases hxb : b = x
    · subst hxb
      exact ⟨lam1, hm, k2, k3, k4, k1 b hbm⟩
    · have hxf2 : x ∈ f2 := by
        rcases List.mem_cons.1 hx with h | h
        · exact absurd h.symm hxb
        · exact h
      have hs := swp_ok (K := K) (w := w) (lam := lam1) hn hbm hxf hxb (hlow x hxf2) (hm b (by simp))
      have e1 : swp lam1 b x b = lam1 x := by simp [swp]
      have e2 : swp lam1 b x a = lam1 a := by unfold swp; rw [if_neg hba, if_neg (fun e => hxa e.symm)]
      refine ⟨swp lam1 b x, fun v hv => ?_, swp_le k2 hbm hxf, by rw [hs.1]; exact k3, Int.le_trans hs.2 k4, by rw [e1, e2]; exact k1 x hxf⟩
      rw [e1]
      unfold swp
      split
      · exact Nat.le_refl _
      · split
        · exact hm b (by simp)
        · exact hm v hv
  obtain ⟨m4, m5⟩ := m4
  -- a as deep as b
  have hkb : lam2 b ≤ K := m2 b hbm
  have hkrf : krf K lam2 free = pk K (lam2 a) + (pk K (lam2 b) + Sm (fun v => pk K (lam2 v)) f2) := by
    unfold krf
    rw [Sm_perm hp, Sm_cons, Sm_cons]
  have hpa := pk_pos K (lam2 a)
  have hnn : 0 ≤ Sm (fun v => pk K (lam2 v)) f2 := Sm_nonneg (fun v hv => by have := pk_pos K (lam2 v); omega)
  have hb1 : 1 ≤ lam2 b := by
    apply Classical.byContradiction
    intro hc
    have : lam2 b = 0 := by omega
    rw [this] at hkrf
    omega
  refine ⟨fun v => if v = a then lam2 b else lam2 v, by simp, by simp [hb1], fun v hv => ?_, ?_, ?_⟩
  · dsimp only
    split
    · exact hkb
    · exact m2 v hv
  · have e : krf K (fun v => if v = a then lam2 b else lam2 v) free = pk K (lam2 b) + (pk K (lam2 b) + Sm (fun v => pk K (lam2 v)) f2) := by
      unfold krf
      rw [Sm_perm hp, Sm_cons, Sm_cons]
      dsimp only
      rw [if_pos rfl, if_neg (fun e => hba e.symm)]
      congr 2
      refine Sm_congr (fun v hv => ?_)
      rw [if_neg (fun e => hn1.1 (by rw [← e]; simp [hv]))]
    rw [e]
    have hd : pk K (lam2 b) ∣ pk K (lam2 b) + Sm (fun v => pk K (lam2 v)) f2 := Int.dvd_add (Int.dvd_refl _) (Sm_dvd (fun v hv => pk_dvd (m1 v (by simp [hv]))))
    have hd0 : pk K (lam2 b) ∣ pk K 0 := pk_dvd (by omega)
    obtain ⟨q, hq⟩ := hd
    obtain ⟨q0, hq0⟩ := hd0
    have hlt : pk K (lam2 b) * q < pk K (lam2 b) * q0 := by rw [← hq, ← hq0]; omega
    have hpb := pk_pos K (lam2 b)
    have hqq : q < q0 := Int.lt_of_mul_lt_mul_left hlt (by omega)
    have := Int.mul_le_mul_of_nonneg_left (show q + 1 ≤ q0 by omega) (show 0 ≤ pk K (lam2 b) by omega)
    rw [Int.mul_add, Int.mul_one] at this
    rw [hq, hq0]
    omega
  · refine Int.le_trans (Sm_le (fun v hv => ?_)) m4
    dsimp only
    by_cases hva : v = a
    · subst hva
      rw [if_pos rfl]
      exact Int.mul_le_mul_of_nonneg_left (by omega) (h0 v hv)
    · rw [if_neg hva]
      exact Int.le_refl _
end
end Go.Huf
