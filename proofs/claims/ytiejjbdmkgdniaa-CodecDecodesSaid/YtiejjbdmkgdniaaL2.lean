/- Lengths and the reference's, in one word each. -/
import Derived.Test.YtiejjbdmkgdniaaH6
import Derived.Test.YtiejjbdmkgdniaaR2
import Derived.Test.YtiejjbdmkgdniaaC2
set_option linter.unusedVariables false
set_option linter.unusedSimpArgs false
namespace Go.Huf
instance (cs : List Int) : Decidable (okC cs) := by unfold okC; infer_instance
def resL (cs : List Int) : List Int := if okC cs then toI (lens cs) else []
def errL (cs : List Int) : Int := if okC cs then 0 else 50
end Go.Huf
namespace Go.Proofs.Ytiejjbdmkgdniaa
open Go.RowKit Go.Sal Go.Huf
theorem own_n {w : World} {base n : Nat} {v : Value} {l : List Int} (h : w.ownsRow base 3 1 v n (inI l)) : n = l.length := by
  have := h.1
  rw [inI_len] at this
  omega
/-- a call's answer that is a new row of ints and a number -/
def RowE (w : World) (l : List Int) (E : Int) (e : Ending) (w' : World) : Prop := ∃ A c, e = .returned (.tuple #[.slice A l.length c, .int .i64 E]) ∧ w'.ownsRow w.heap.size 3 1 (.slice A l.length c) l.length (inI l) ∧ Keep [] w w'
theorem lengths_any (cs : List Int) (A : Option Addr) (c : Nat) (w : World) (hs : ISrc w A cs) (hn : cs.length ≤ 100000000) :
    Calls Try.prog 26 #[.slice A cs.length c] w fun e w' => RowE w (resL cs) (errL cs) e w' := by
  unfold resL errL
  by_cases h : okC cs
  · rw [if_pos h, if_pos h]
    refine (lengths_ok cs A c w hs h).mono ?_
    rintro e w' ⟨AO, cO, rfl, hown, hk⟩
    have hl := own_n hown
    rw [hl] at hown ⊢
    exact ⟨AO, cO, rfl, hown, hk⟩
  · rw [if_neg h, if_neg h]
    refine (lengths_bad cs A c w hs hn h).mono ?_
    rintro e w' ⟨rfl, rfl⟩
    exact ⟨none, 0, rfl, World.ownsRow_nil _ _ _ _, Keep.refl _ _⟩
theorem rlengths_any (cs : List Int) (A : Option Addr) (c : Nat) (w : World) (hs : ISrc w A cs) (hn : cs.length ≤ 100000000) :
    Calls Try.prog 35 #[.slice A cs.length c] w fun e w' => RowE w (resL cs) (errL cs) e w' := by
  unfold resL errL
  by_cases h : okC cs
  · rw [if_pos h, if_pos h]
    refine (rlengths_ok cs A c w hs h).mono ?_
    rintro e w' ⟨AO, cO, rfl, hown, hk⟩
    have hl := own_n hown
    rw [hl] at hown ⊢
    exact ⟨AO, cO, rfl, hown, hk⟩
  · rw [if_neg h, if_neg h]
    refine (rlengths_bad cs A c w hs hn h).mono ?_
    rintro e w' ⟨rfl, rfl⟩
    exact ⟨none, 0, rfl, World.ownsRow_nil _ _ _ _, Keep.refl _ _⟩
theorem lens_len : ∀ (f : Nat) (cs : List Int), (lensF f cs).length = cs.length
  | 0, cs => by simp [lensF, depths]
  | f + 1, cs => by
    rw [lensF]
    split
    · simp [depths]
    · rw [lens_len f]; simp
theorem resL_len (cs : List Int) : (resL cs).length ≤ cs.length := by
  unfold resL
  split
  · simp [toI, lens, lens_len]
  · simp
end Go.Proofs.Ytiejjbdmkgdniaa
set_option linter.unusedVariables false
set_option linter.unusedSimpArgs false
namespace Go.Cod
open Go.Huf
/-- a token: how far ahead, how many, the byte -/
abbrev Tk := Int × Int × Nat
def okT (t : Tk) : Bool := (decide (t.1 = 0) && decide (t.2.1 = 1)) || (decide (1 ≤ t.1) && decide (t.1 ≤ 4096) && decide (4 ≤ t.2.1) && decide (t.2.1 ≤ 258) && decide (t.2.2 = 0))
def sumT (l : List Tk) : Int := (l.map fun t => t.2.1).sum
def sizeE (l : List Tk) : Int := if l.all okT then (if 65536 < sumT l then 2 else 0) else 60
def sizeN (l : List Tk) : Int := if sizeE l = 0 then sumT l else 0
def symT (t : Tk) : Nat := if t.1 = 0 then t.2.2 else (252 + t.2.1).toNat
def dsT (t : Tk) : Nat := Nat.log2 t.1.toNat
def litOk (l : List Tk) : Prop := ∀ t ∈ l, t.2.2 < 256
theorem okT_cases {t : Tk} (h : okT t = true) : t.1 = 0 ∧ t.2.1 = 1 ∨ (1 ≤ t.1 ∧ t.1 ≤ 4096 ∧ 4 ≤ t.2.1 ∧ t.2.1 ≤ 258 ∧ t.2.2 = 0) := by
  simp [okT] at h; omega
theorem okT_len {t : Tk} (h : okT t = true) : 1 ≤ t.2.1 ∧ t.2.1 ≤ 258 := by rcases okT_cases h with h | h <;> omega
theorem symT_lt {t : Tk} (h : okT t = true) (hl : t.2.2 < 256) : symT t < 511 := by
  unfold symT
  rcases okT_cases h with h | h
  · rw [if_pos h.1]; omega
  · rw [if_neg (by omega)]; omega
theorem dsT_lt {t : Tk} (h : okT t = true) (hd : 0 < t.1) : dsT t < 13 ∧ dsT t ≤ 12 := by
  unfold dsT
  have h2 : t.1.toNat ≤ 4096 := by rcases okT_cases h with h | h <;> omega
  have h1 : t.1.toNat ≠ 0 := by omega
  have : t.1.toNat.log2 < 13 := by
    rw [Nat.log2_lt h1]
    omega
  omega
/-! ### counts -/
def cntG (p : Tk → Nat → Bool) (n : Nat) (l : List Tk) : List Int := (List.range n).map fun s => ((l.countP fun t => p t s : Nat) : Int)
def cntA (l : List Tk) : List Int := cntG (fun t s => decide (symT t = s)) 511 l
def cntD (l : List Tk) : List Int := cntG (fun t s => decide (0 < t.1) && decide (dsT t = s)) 13 l
section
variable {p : Tk → Nat → Bool} {n : Nat} {l : List Tk}
theorem cntG_len : (cntG p n l).length = n := by simp [cntG]
theorem cntG_nil : cntG p n [] = List.replicate n 0 := by
  apply List.ext_getElem
  · simp [cntG]
  · intro i h1 h2; simp [cntG]
theorem cntG_get {s : Nat} (h : s < (cntG p n l).length) : (cntG p n l)[s] = ((l.countP fun t => p t s : Nat) : Int) := by simp [cntG]
theorem cntG_snoc (t : Tk) {k : Nat} (h : k < (cntG p n l).length) {v : Int} (hv : v = (cntG p n l)[k] + 1) (hp : ∀ i, p t i = decide (k = i)) : (cntG p n l).set k v = cntG p n (l ++ [t]) := by
  apply List.ext_getElem
  · simp [cntG]
  · intro i h1 h2
    rw [List.getElem_set, cntG_get h2, List.countP_append]
    by_cases hi : k = i
    · subst hi; rw [if_pos rfl, hv, cntG_get]; simp [hp]
    · rw [if_neg hi, cntG_get]; simp [hp, hi]
theorem cntG_same (t : Tk) (hp : ∀ i, p t i = false) : cntG p n (l ++ [t]) = cntG p n l := by
  apply List.ext_getElem
  · simp [cntG]
  · intro i h1 h2
    rw [cntG_get, cntG_get, List.countP_append]
    simp [hp]
theorem cntG_bd : ∀ x ∈ cntG p n l, 0 ≤ x ∧ x ≤ l.length := by
  intro x hx
  simp only [cntG, List.mem_map] at hx
  obtain ⟨s, _, rfl⟩ := hx
  have := List.countP_le_length (p := fun t => p t s) (l := l)
  omega
end
theorem cntA_len (l : List Tk) : (cntA l).length = 511 := cntG_len
theorem cntD_len (l : List Tk) : (cntD l).length = 13 := cntG_len
theorem cntA_nil : cntA [] = List.replicate 511 0 := cntG_nil
theorem cntD_nil : cntD [] = List.replicate 13 0 := cntG_nil
theorem cntA_snoc (l : List Tk) (t : Tk) (h : symT t < (cntA l).length) {v : Int} (hv : v = (cntA l)[symT t] + 1) : (cntA l).set (symT t) v = cntA (l ++ [t]) := cntG_snoc t h hv (fun _ => rfl)
theorem cntD_snoc (l : List Tk) (t : Tk) (h : dsT t < (cntD l).length) (hp : 0 < t.1) {v : Int} (hv : v = (cntD l)[dsT t] + 1) : (cntD l).set (dsT t) v = cntD (l ++ [t]) := cntG_snoc t h hv (fun i => by simp [hp])
theorem cntD_same (l : List Tk) (t : Tk) (hp : ¬ 0 < t.1) : cntD (l ++ [t]) = cntD l := cntG_same t (fun i => by simp [hp])
theorem cntA_bd (l : List Tk) : ∀ n ∈ cntA l, 0 ≤ n ∧ n ≤ l.length := cntG_bd
theorem cntD_bd (l : List Tk) : ∀ n ∈ cntD l, 0 ≤ n ∧ n ≤ l.length := cntG_bd
/-! ### a number as bytes -/
def varF : Nat → Nat → List Nat
  | 0, x => [x]
  | f + 1, x => if x < 128 then [x] else (x % 128 + 128) :: varF f (x / 128)
def varP (x : Nat) : List Nat := varF 9 x
def rdV : Nat → List Nat → Option (Nat × Nat)
  | _, [] => none
  | i, c :: l => if i = 9 ∧ c ≠ 1 ∨ 0 < i ∧ c = 0 then none else if c < 128 then some (c, 1) else (rdV (i + 1) l).map fun p => (c - 128 + 128 * p.1, p.2 + 1)
/-! ### lengths as bytes -/
def runK (x : Int) (l : List Int) : Nat := (l.takeWhile (fun y => decide (y = x))).length
def runF : Nat → List Int → List Nat
  | 0, _ => []
  | _ + 1, [] => []
  | f + 1, x :: l => x.toNat :: (varP (runK x l + 1) ++ runF f (l.drop (runK x l)))
def runsP (l : List Int) : List Nat := runF l.length l
/-! ### tokens as bits, and all of it -/
def tokBits (la lb : List Int) (t : Tk) : List Bool := symBits la (symT t) ++ (if 0 < t.1 then symBits lb (dsT t) ++ bitsK t.1.toNat (dsT t) else [])
def tokB (la lb : List Int) (l : List Tk) : List Bool := l.flatMap (tokBits la lb)
def lenA (l : List Tk) : List Int := toI (lens (cntA l))
def lenD (l : List Tk) : List Int := toI (lens (cntD l))
def hdP (l : List Tk) : List Nat := runsP (lenA l) ++ runsP (lenD l) ++ varP l.length
def packP (l : List Tk) : List Nat := hdP l ++ pack (tokB (lenA l) (lenD l) l)
/-- the bytes of any tokens, or none -/
def packR (l : List Tk) : List Nat := if sizeE l = 0 then packP l else []
theorem tokB_snoc (la lb : List Int) (l : List Tk) (t : Tk) : tokB la lb (l ++ [t]) = tokB la lb l ++ tokBits la lb t := by simp [tokB]
/-! ### reading -/
/-- lengths of so many symbols, behind those that are read -/
def lenF : Nat → Nat → List Int → List Nat → Option (List Int × List Nat)
  | 0, _, _, _ => none
  | f + 1, n, out, b => if out.length < n then (match b with
    | [] => none
    | x :: b1 => match rdV 0 b1 with
      | none => none
      | some (k, u) => if k < 1 ∨ n - out.length < k then none else lenF f n (out ++ List.replicate k (x : Int)) (b1.drop u)) else if okL out then some (out, b) else none
def lenP (n : Nat) (b : List Nat) : Option (List Int × List Nat) := lenF (n + 1) n [] b
/-- a 1 and the next bits, as a number -/
def vAt (b : List Nat) (at_ : Nat) : Nat → Nat
  | 0 => 1
  | n + 1 => vAt b at_ n * 2 + bitB b (at_ + n)
/-- one token of bits, and where the next one is -/
def tokR (la lb : List Int) (b : List Nat) (at_ : Nat) : Option (Tk × Nat) :=
  match one la b at_ with
  | none => none
  | some (s, k) => if s < 256 then some ((0, 1, s), at_ + k) else match one lb b (at_ + k) with
    | none => none
    | some (x, k2) => if 8 * b.length < at_ + k + k2 + x then none else some (((vAt b (at_ + k + k2) x : Nat), (s : Int) - 252, 0), at_ + k + k2 + x)
def toksF (la lb : List Int) (b : List Nat) : Nat → Nat → Option (List Tk)
  | 0, _ => some []
  | n + 1, at_ => match tokR la lb b at_ with
    | none => none
    | some (t, a2) => (toksF la lb b n a2).map (t :: ·)
def readP (b : List Nat) : Option (List Tk) :=
  match lenP 511 b with
  | none => none
  | some (la, b1) => match lenP 13 b1 with
    | none => none
    | some (lb, b2) => match rdV 0 b2 with
      | none => none
      | some (n, u) => if 65536 < n then none else toksF la lb (b2.drop u) n 0
def unpT (b : List Nat) : List Tk := match readP b with
  | none => []
  | some l => if b.length ≤ 262144 ∧ sizeE l = 0 ∧ packP l = b then l else []
def unpE (b : List Nat) : Int := if 262144 < b.length then 2 else match readP b with
  | none => 70
  | some l => if sizeE l = 0 ∧ packP l = b then 0 else 70
end Go.Cod
set_option linter.unusedVariables false
set_option linter.unusedSimpArgs false
namespace Go.Cod
open Go.Huf
/-- what stands behind k bytes that are read, none of them the last -/
def RI (bl : List Nat) (k acc : Nat) : Prop :=
  k ≤ bl.length ∧ k ≤ 9 ∧ acc < 128 ^ k ∧ rdV 0 bl = (rdV k (bl.drop k)).map fun p => (acc + 128 ^ k * p.1, p.2 + k)
theorem RI.start (bl : List Nat) : RI bl 0 0 := by
  refine ⟨by omega, by omega, by simp, ?_⟩
  simp only [List.drop_zero, Nat.pow_zero, Nat.one_mul, Nat.zero_add, Nat.add_zero]
  cases rdV 0 bl <;> rfl
theorem lt_step {v acc u : Nat} (h : acc < v) (hu : u ≤ v * 127) : acc + u < v * 128 := by omega
section
variable {bl : List Nat} {k acc : Nat}
theorem RI.bad (h : RI bl k acc) (hk : k < bl.length) (hc : k = 9 ∧ bl[k] ≠ 1 ∨ 0 < k ∧ bl[k] = 0) : rdV 0 bl = none := by
  rw [h.2.2.2, List.drop_eq_getElem_cons hk, rdV, if_pos hc]; rfl
theorem RI.ends (h : RI bl k acc) (hk : k = bl.length) : rdV 0 bl = none := by
  rw [h.2.2.2, List.drop_of_length_le (by omega), rdV]; rfl
theorem RI.last (h : RI bl k acc) (hk : k < bl.length) (hc : ¬ (k = 9 ∧ bl[k] ≠ 1 ∨ 0 < k ∧ bl[k] = 0)) (hl : bl[k] < 128) : rdV 0 bl = some (acc + 128 ^ k * bl[k], k + 1) := by
  rw [h.2.2.2, List.drop_eq_getElem_cons hk, rdV, if_neg hc, if_pos hl]
  simp [Nat.add_comm]
set_option maxRecDepth 20000 in
theorem RI.next (h : RI bl k acc) (hk : k < bl.length) (hc : ¬ (k = 9 ∧ bl[k] ≠ 1 ∨ 0 < k ∧ bl[k] = 0)) (hl : ¬ bl[k] < 128) (hb : bl[k] < 256) : RI bl (k + 1) (acc + 128 ^ k * (bl[k] - 128)) := by
  obtain ⟨h1, h2, h3, h4⟩ := h
  have hk9 : k + 1 ≤ 9 := by clear h3 h4; omega
  refine ⟨hk, hk9, ?_, ?_⟩
  · have hx : bl[k] - 128 ≤ 127 := by clear h3 h4; omega
    rw [Nat.pow_succ]
    clear h4
    generalize 128 ^ k = P at *
    exact lt_step h3 (Nat.mul_le_mul_left P hx)
  · rw [h4, List.drop_eq_getElem_cons hk, rdV, if_neg hc, if_neg hl, Option.map_map]
    congr 1
    funext p
    simp only [Function.comp_apply, Prod.mk.injEq]
    refine ⟨?_, by omega⟩
    rw [Nat.mul_add, Nat.pow_succ, Nat.mul_assoc, Nat.add_assoc]
end
theorem rdV_bd : ∀ (l : List Nat) (k x n : Nat), (∀ c ∈ l, c < 256) → k ≤ 9 → rdV k l = some (x, n) → 1 ≤ n ∧ n ≤ l.length ∧ x < 2 ^ (64 - 7 * k) ∧ n + k ≤ 10
  | [], k, x, n, _, _, h => by simp [rdV] at h
  | c :: l, k, x, n, hb, hk, h => by
    rw [rdV] at h
    split at h
    · cases h
    · rename_i hc
      split at h
      · rename_i hl
        injection h with h
        injection h with e1 e2
        subst e1; subst e2
        simp
        refine ⟨?_, by omega⟩
        rcases Nat.lt_or_ge k 9 with h9 | h9
        · have : 2 ^ 7 ≤ 2 ^ (64 - 7 * k) := Nat.pow_le_pow_right (by omega) (by omega)
          omega
        · obtain rfl : k = 9 := by omega
          have : c = 1 := by omega
          subst this
          decide
      · rename_i hl
        cases hx : rdV (k + 1) l with
        | none => rw [hx] at h; cases h
        | some p =>
          rw [hx] at h
          obtain ⟨y, m⟩ := p
          simp only [Option.map_some, Option.some.injEq, Prod.mk.injEq] at h
          obtain ⟨rfl, rfl⟩ := h
          have hk8 : k ≤ 8 := by
            apply Classical.byContradiction
            intro h8
            obtain rfl : k = 9 := by omega
            exact hc (.inl ⟨rfl, by omega⟩)
          have ih := rdV_bd l (k + 1) y m (fun c hc => hb c (List.mem_cons_of_mem _ hc)) (by omega) hx
          have hc2 := hb c (by simp)
          have he : 2 ^ (64 - 7 * k) = 2 ^ (64 - 7 * (k + 1)) * 128 := by
            rw [show 64 - 7 * k = (64 - 7 * (k + 1)) + 7 by omega, Nat.pow_add]
          rw [he]
          simp only [List.length_cons]
          omega
end Go.Cod
set_option linter.unusedVariables false
set_option linter.unusedSimpArgs false
namespace Go.Cod
open Go.Huf
/-- how many bytes at two places are alike -/
def rchF (b : List Nat) : Nat → Nat → Nat → Nat
  | 0, _, _ => 0
  | f + 1, p, q => if q < b.length ∧ b.getD p 0 = b.getD q 0 then rchF b f (p + 1) (q + 1) + 1 else 0
def rch (b : List Nat) (p q : Nat) : Nat := rchF b 258 p q
/-- the best token at a place, copies from at most d ahead -/
def bestT (b : List Nat) (at_ : Nat) : Nat → Tk
  | 0 => (0, 1, b.getD at_ 0)
  | d + 1 => if 4 ≤ rch b (at_ - (d + 1)) at_ ∧ (bestT b at_ d).2.1 < rch b (at_ - (d + 1)) at_ then ((d : Int) + 1, ((rch b (at_ - (d + 1)) at_ : Nat) : Int), 0) else bestT b at_ d
def longP (b : List Nat) (at_ : Nat) : Tk := bestT b at_ (min at_ 4096)
def tokF (b : List Nat) : Nat → Nat → List Tk
  | 0, _ => []
  | f + 1, at_ => if at_ < b.length then longP b at_ :: tokF b f (at_ + (longP b at_).2.1.toNat) else []
def tokP (b : List Nat) : List Tk := tokF b b.length 0
theorem rchF_le (b : List Nat) : ∀ f p q, rchF b f p q ≤ f ∧ (rchF b f p q = 0 ∨ q + rchF b f p q ≤ b.length)
  | 0, _, _ => by simp [rchF]
  | f + 1, p, q => by
    have ih := rchF_le b f (p + 1) (q + 1)
    rw [rchF]
    split
    · rename_i h; omega
    · simp
theorem rch_le (b : List Nat) (p q : Nat) : rch b p q ≤ 258 ∧ (rch b p q = 0 ∨ q + rch b p q ≤ b.length) := rchF_le b 258 p q
theorem rchF_alike (b : List Nat) : ∀ f p q i, i < rchF b f p q → b.getD (p + i) 0 = b.getD (q + i) 0
  | 0, _, _, _, h => by simp [rchF] at h
  | f + 1, p, q, i, h => by
    rw [rchF] at h
    split at h
    · rename_i h1
      cases i with
      | zero => exact h1.2
      | succ i =>
        have := rchF_alike b f (p + 1) (q + 1) i (by omega)
        rw [show p + (i + 1) = p + 1 + i by omega, show q + (i + 1) = q + 1 + i by omega]
        exact this
    · omega
theorem rchF_ge (b : List Nat) : ∀ f p q m, m ≤ f → (0 < m → q + m ≤ b.length) → (∀ i, i < m → b.getD (p + i) 0 = b.getD (q + i) 0) → m ≤ rchF b f p q
  | _, _, _, 0, _, _, _ => Nat.zero_le _
  | 0, _, _, m + 1, h, _, _ => by omega
  | f + 1, p, q, m + 1, h, hq, ha => by
    have h0 := ha 0 (by omega)
    have hq' := hq (by omega)
    rw [rchF, if_pos ⟨by omega, h0⟩]
    have := rchF_ge b f (p + 1) (q + 1) m (by omega) (by omega) (fun i hi => by
      have := ha (i + 1) (by omega)
      rw [show p + (i + 1) = p + 1 + i by omega, show q + (i + 1) = q + 1 + i by omega] at this
      exact this)
    omega
theorem bestT_spec (b : List Nat) (at_ : Nat) (h : at_ < b.length) : ∀ d, d ≤ at_ → (bestT b at_ d = (0, 1, b.getD at_ 0) ∨ ∃ k, 1 ≤ k ∧ k ≤ d ∧ 4 ≤ rch b (at_ - k) at_ ∧ bestT b at_ d = ((k : Int), ((rch b (at_ - k) at_ : Nat) : Int), 0))
  | 0, _ => .inl rfl
  | d + 1, hd => by
    rw [bestT]
    split
    · rename_i h1
      exact .inr ⟨d + 1, by omega, by omega, h1.1, by simp⟩
    · rcases bestT_spec b at_ h d (by omega) with h1 | ⟨k, h1, h2, h3, h4⟩
      · exact .inl h1
      · exact .inr ⟨k, h1, by omega, h3, h4⟩
theorem longP_spec {b : List Nat} {at_ : Nat} (h : at_ < b.length) : longP b at_ = (0, 1, b.getD at_ 0) ∨ ∃ k, 1 ≤ k ∧ k ≤ at_ ∧ k ≤ 4096 ∧ 4 ≤ rch b (at_ - k) at_ ∧ longP b at_ = ((k : Int), ((rch b (at_ - k) at_ : Nat) : Int), 0) := by
  rcases bestT_spec b at_ h (min at_ 4096) (by omega) with h1 | ⟨k, h1, h2, h3, h4⟩
  · exact .inl h1
  · exact .inr ⟨k, h1, by omega, by omega, h3, h4⟩
theorem longP_ok {b : List Nat} {at_ : Nat} (h : at_ < b.length) : okT (longP b at_) = true ∧ 1 ≤ (longP b at_).2.1 ∧ (longP b at_).2.1 ≤ 258 ∧ at_ + (longP b at_).2.1.toNat ≤ b.length := by
  rcases longP_spec h with h1 | ⟨k, h1, h2, h3, h4, h5⟩
  · rw [h1]; simp [okT]; omega
  · have := rch_le b (at_ - k) at_
    rw [h5]
    simp [okT]
    omega
theorem longP_lit {b : List Nat} {at_ : Nat} (hb : ∀ x ∈ b, x < 256) (h : at_ < b.length) : (longP b at_).2.2 < 256 := by
  rcases longP_spec h with h1 | ⟨k, h1, h2, h3, h4, h5⟩
  · rw [h1]; simp [List.getD, h]; exact hb _ (List.getElem_mem h)
  · rw [h5]; simp
theorem tokF_more (b : List Nat) : ∀ f g at_, b.length - at_ ≤ f → f ≤ g → tokF b f at_ = tokF b g at_
  | 0, 0, _, _, _ => rfl
  | 0, g + 1, at_, h, _ => by rw [tokF, tokF, if_neg (by omega)]
  | f + 1, 0, _, _, h => by omega
  | f + 1, g + 1, at_, h, hg => by
    rw [tokF, tokF]
    split
    · rename_i h1
      have := longP_ok h1
      rw [tokF_more b f g _ (by omega) (by omega)]
    · rfl
/-! ### what tokens make -/
def cpyF (d : Nat) : Nat → List Nat → List Nat
  | 0, b => b
  | n + 1, b => cpyF d n (b ++ [b.getD (b.length - d) 0])
def bytF : List Tk → List Nat → Option (List Nat)
  | [], b => some b
  | t :: l, b => if okT t = false ∨ (b.length : Int) < t.1 ∨ 65536 - (b.length : Int) < t.2.1 then none else if t.1 = 0 then bytF l (b ++ [t.2.2]) else bytF l (cpyF t.1.toNat t.2.1.toNat b)
def bytP (l : List Tk) : Option (List Nat) := bytF l []
theorem cpy_len (d : Nat) : ∀ n b, (cpyF d n b).length = b.length + n
  | 0, _ => rfl
  | n + 1, b => by rw [cpyF, cpy_len d n]; simp; omega
theorem take_getD {b : List Nat} {k : Nat} (h : k < b.length) : b.take k ++ [b.getD k 0] = b.take (k + 1) := by
  rw [List.take_succ_eq_append_getElem h]; simp [List.getD, h]
theorem cpy_take (b : List Nat) (d : Nat) : ∀ n k, k + n ≤ b.length → 1 ≤ d → d ≤ k → (∀ i, i < n → b.getD (k - d + i) 0 = b.getD (k + i) 0) → cpyF d n (b.take k) = b.take (k + n)
  | 0, k, _, _, _, _ => rfl
  | n + 1, k, h, hd, hk, ha => by
    have h0 := ha 0 (by omega)
    have hl : (b.take k).length = k := by rw [List.length_take]; omega
    have e : (b.take k).getD ((b.take k).length - d) 0 = b.getD k 0 := by
      rw [Nat.add_zero, Nat.add_zero] at h0
      rw [hl, ← h0]
      simp [List.getD, List.getElem?_take, show k - d < k by omega]
    rw [cpyF, e, take_getD (by omega), cpy_take b d n (k + 1) (by omega) hd (by omega) (fun i hi => by
      have := ha (i + 1) (by omega)
      rw [show k - d + (i + 1) = k + 1 - d + i by omega, show k + (i + 1) = k + 1 + i by omega] at this
      exact this)]
    rw [show k + 1 + n = k + (n + 1) by omega]
theorem byt_tok {b : List Nat} (hl : b.length ≤ 65536) : ∀ f k, b.length - k ≤ f → k ≤ b.length → bytF (tokF b f k) (b.take k) = some b
  | 0, k, h, hk => by
    rw [tokF, bytF, List.take_of_length_le (by omega)]
  | f + 1, k, h, hk => by
    rw [tokF]
    have hlk : (b.take k).length = k := by rw [List.length_take]; omega
    split
    · rename_i hlt
      have h1 := longP_ok hlt
      rw [bytF, hlk, if_neg (by
        rcases longP_spec hlt with h2 | ⟨d, h2, h3, h4, h5, h6⟩
        · rw [h1.1, h2]; simp; omega
        · have h7 := rch_le b (k - d) k
          rw [h1.1, h6]; simp; omega)]
      rcases longP_spec hlt with h2 | ⟨d, h2, h3, h4, h5, h6⟩
      · rw [h2, if_pos rfl]
        simp only
        rw [take_getD hlt]
        exact byt_tok hl f (k + 1) (by omega) (by omega)
      · have h7 := rch_le b (k - d) k
        rw [h6, if_neg (by simp; omega)]
        simp only [Int.toNat_natCast]
        rw [cpy_take b d (rch b (k - d) k) k (by omega) h2 h3 (fun i hi => rchF_alike b 258 (k - d) k i hi)]
        exact byt_tok hl f _ (by omega) (by omega)
    · rw [bytF, List.take_of_length_le (by omega)]
theorem byt_back {b : List Nat} (hl : b.length ≤ 65536) : bytP (tokP b) = some b := by
  have := byt_tok hl b.length 0 (by omega) (by omega)
  rwa [List.take_zero] at this
theorem tokF_all {b : List Nat} (hb : ∀ x ∈ b, x < 256) : ∀ f k, (∀ t ∈ tokF b f k, okT t = true ∧ t.2.2 < 256)
  | 0, k, t, ht => by simp [tokF] at ht
  | f + 1, k, t, ht => by
    rw [tokF] at ht
    split at ht
    · rename_i h1
      rcases List.mem_cons.1 ht with rfl | ht
      · exact ⟨(longP_ok h1).1, longP_lit hb h1⟩
      · exact tokF_all hb f _ t ht
    · simp at ht
theorem tokF_sum {b : List Nat} : ∀ f k, b.length - k ≤ f → k ≤ b.length → sumT (tokF b f k) = ((b.length - k : Nat) : Int)
  | 0, k, h, hk => by simp [tokF, sumT]; omega
  | f + 1, k, h, hk => by
    rw [tokF]
    split
    · rename_i h1
      have := longP_ok h1
      have ih := tokF_sum (b := b) f (k + (longP b k).2.1.toNat) (by omega) (by omega)
      simp only [sumT, List.map_cons, List.sum_cons] at ih ⊢
      rw [ih]; omega
    · simp [sumT]; omega
theorem tok_size {b : List Nat} (hb : ∀ x ∈ b, x < 256) (hl : b.length ≤ 65536) : sizeE (tokP b) = 0 ∧ litOk (tokP b) := by
  have h1 := tokF_all hb b.length 0
  have h2 := tokF_sum (b := b) b.length 0 (by omega) (by omega)
  refine ⟨?_, fun t ht => (h1 t ht).2⟩
  have h3 : (tokP b).all okT = true := List.all_eq_true.2 (fun t ht => (h1 t ht).1)
  have h4 : ¬ 65536 < sumT (tokP b) := by unfold tokP; rw [h2]; omega
  unfold sizeE
  rw [if_pos h3, if_neg h4]
theorem tok_len {b : List Nat} : ∀ f k, (tokF b f k).length ≤ f
  | 0, k => by simp [tokF]
  | f + 1, k => by
    rw [tokF]
    split
    · have := tok_len (b := b) f (k + (longP b k).2.1.toNat); simp; omega
    · simp
end Go.Cod
set_option linter.unusedVariables false
set_option linter.unusedSimpArgs false
namespace Go.Cod
open Go.Huf
abbrev Q4 := Nat × Nat × Nat × Nat
def q4 (b : List Nat) (i : Nat) : Q4 := (b.getD i 0, b.getD (i + 1) 0, b.getD (i + 2) 0, b.getD (i + 3) 0)
/-- the last place below n with these four bytes -/
def lastF (b : List Nat) (q : Q4) : Nat → Option Nat
  | 0 => none
  | n + 1 => if n + 4 ≤ b.length ∧ q4 b n = q then some n else lastF b q n
def lastV (b : List Nat) (q : Q4) (n : Nat) : Int := ((lastF b q n).map fun (p : Nat) => (p : Int)).getD (-1)
def aheadV (b : List Nat) (i : Nat) : Int := if i + 4 ≤ b.length then lastV b (q4 b i) i else -1
theorem lastF_some {b : List Nat} {q : Q4} {p : Nat} : ∀ {n : Nat}, lastF b q n = some p → p < n ∧ p + 4 ≤ b.length ∧ q4 b p = q ∧ ∀ j, p < j → j < n → j + 4 ≤ b.length → q4 b j ≠ q
  | 0, h => by simp [lastF] at h
  | n + 1, h => by
    rw [lastF] at h
    split at h
    · rename_i h1
      injection h with h
      subst h
      exact ⟨by omega, h1.1, h1.2, fun j h2 h3 => by omega⟩
    · rename_i h1
      obtain ⟨h2, h3, h4, h5⟩ := lastF_some h
      refine ⟨by omega, h3, h4, fun j h6 h7 h8 h9 => ?_⟩
      rcases Nat.lt_succ_iff_lt_or_eq.1 h7 with h | rfl
      · exact h5 j h6 h h8 h9
      · exact h1 ⟨h8, h9⟩
theorem lastF_none {b : List Nat} {q : Q4} : ∀ {n : Nat}, lastF b q n = none → ∀ j, j < n → j + 4 ≤ b.length → q4 b j ≠ q
  | 0, _, j, h => by omega
  | n + 1, h, j, hj => by
    rw [lastF] at h
    split at h
    · cases h
    · rename_i h1
      intro h8 h9
      rcases Nat.lt_succ_iff_lt_or_eq.1 hj with h2 | rfl
      · exact lastF_none h j h2 h8 h9
      · exact h1 ⟨h8, h9⟩
section
variable {b : List Nat} {at_ : Nat}
theorem rch_key {p : Nat} (hp : p < at_) (h : 4 ≤ rch b p at_) : p + 4 ≤ b.length ∧ q4 b p = q4 b at_ := by
  have h1 := rch_le b p at_
  refine ⟨by omega, ?_⟩
  have h2 := fun i (hi : i < 4) => rchF_alike b 258 p at_ i (by unfold rch at h; omega)
  have a0 := h2 0 (by omega)
  have a1 := h2 1 (by omega)
  have a2 := h2 2 (by omega)
  have a3 := h2 3 (by omega)
  simp only [Nat.add_zero] at a0
  simp only [q4, a0, a1, a2, a3]
theorem key_rch {p : Nat} (hp : p < at_) (ha : at_ + 4 ≤ b.length) (h : q4 b p = q4 b at_) : 4 ≤ rch b p at_ := by
  simp only [q4, Prod.mk.injEq] at h
  obtain ⟨h0, h1, h2, h3⟩ := h
  refine rchF_ge b 258 p at_ 4 (by omega) (by omega) (fun i hi => ?_)
  rcases (show i = 0 ∨ i = 1 ∨ i = 2 ∨ i = 3 by omega) with rfl | rfl | rfl | rfl
  · exact h0
  · exact h1
  · exact h2
  · exact h3
theorem best_flat {a : Nat} : ∀ {c : Nat}, a ≤ c → (∀ k, a < k → k ≤ c → rch b (at_ - k) at_ < 4) → bestT b at_ c = bestT b at_ a
  | 0, h, _ => by rw [show a = 0 by omega]
  | c + 1, h, hk => by
    by_cases hc : a = c + 1
    · rw [hc]
    · have := hk (c + 1) (by omega) (Nat.le_refl _)
      rw [bestT, if_neg (by omega)]
      exact best_flat (by omega) (fun k h1 h2 => hk k h1 (by omega))
/-- no place between has the four bytes -/
theorem best_skip {m p : Nat} (hm : m ≤ at_) (hpm : p < m) (h : ∀ j, p < j → j < m → j + 4 ≤ b.length → q4 b j ≠ q4 b at_) : bestT b at_ (at_ - p - 1) = bestT b at_ (at_ - m) := by
  refine best_flat (by omega) (fun k h1 h2 => ?_)
  apply Classical.byContradiction
  intro h3
  obtain ⟨h4, h5⟩ := rch_key (b := b) (at_ := at_) (p := at_ - k) (by omega) (by omega)
  exact h _ (by omega) (by omega) h4 h5
theorem best_end {m c : Nat} (hm : m ≤ at_) (hc : at_ - m ≤ c) (hc2 : c ≤ at_) (h : ∀ j, j < m → at_ - c ≤ j → j + 4 ≤ b.length → q4 b j ≠ q4 b at_) : bestT b at_ c = bestT b at_ (at_ - m) := by
  refine best_flat hc (fun k h1 h2 => ?_)
  apply Classical.byContradiction
  intro h3
  obtain ⟨h4, h5⟩ := rch_key (b := b) (at_ := at_) (p := at_ - k) (by omega) (by omega)
  exact h _ (by omega) (by omega) h4 h5
theorem long_short (h : b.length < at_ + 4) : longP b at_ = (0, 1, b.getD at_ 0) := by
  unfold longP
  rw [best_flat (a := 0) (by omega) (fun k h1 h2 => ?_)]
  · rfl
  · have := rch_le b (at_ - k) at_
    omega
theorem best_stop : ∀ {d c : Nat}, d ≤ c → 258 ≤ (bestT b at_ d).2.1 → bestT b at_ c = bestT b at_ d
  | d, 0, h, _ => by rw [show d = 0 by omega]
  | d, c + 1, h, h2 => by
    by_cases hc : d = c + 1
    · rw [hc]
    · have ih := best_stop (d := d) (c := c) (by omega) h2
      have := (rch_le b (at_ - (c + 1)) at_).1
      rw [bestT, if_neg (by rw [ih]; omega), ih]
theorem best_len (h : at_ < b.length) {d : Nat} (hd : d ≤ at_) : 1 ≤ (bestT b at_ d).2.1 ∧ (bestT b at_ d).2.1 ≤ 258 ∧ 0 ≤ (bestT b at_ d).1 ∧ (bestT b at_ d).1 ≤ d := by
  rcases bestT_spec b at_ h d hd with h1 | ⟨k, h1, h2, h3, h4⟩
  · rw [h1]; simp
  · have := (rch_le b (at_ - k) at_).1
    rw [h4]; simp; omega
end
end Go.Cod
