/- Symbols read of bits, on lists alone: the symbols of one length by their codes, and where they stand in the row by length. -/
import Derived.Test.YtknjjodkpknglaaHfB
import Derived.Test.YtknjjodkpknglaaC4
set_option linter.unusedVariables false
set_option linter.unusedSimpArgs false
namespace Go.Huf
section
variable {ls : List Int}
/-- the symbols of length n below k -/
def ofK (ls : List Int) (n k : Nat) : List Nat := (List.range k).filter fun i => decide (ln ls i = n)
theorem ofK_succ (n k : Nat) : ofK ls n (k + 1) = ofK ls n k ++ (if ln ls k = n then [k] else []) := by
  unfold ofK
  rw [List.range_succ, List.filter_append]
  congr 1
  by_cases h : ln ls k = n
  · rw [if_pos h, List.filter_cons_of_pos (by simpa using h)]; rfl
  · rw [if_neg h, List.filter_cons_of_neg (by simpa using h)]; rfl
theorem ofK_mem {n k i : Nat} : i ∈ ofK ls n k ↔ i < k ∧ ln ls i = n := by simp [ofK]
theorem ofK_inc (n k : Nat) : (ofK ls n k).Pairwise (· < ·) := List.pairwise_lt_range.sublist List.filter_sublist
theorem ofK_nodup (n k : Nat) : (ofK ls n k).Nodup := (ofK_inc n k).imp (fun h => by omega)
theorem ofK_split (n j : Nat) : ∀ k, ∃ r, ofK ls n (j + k) = ofK ls n j ++ r
  | 0 => ⟨[], by simp⟩
  | k + 1 => by
    obtain ⟨r, hr⟩ := ofK_split n j k
    refine ⟨r ++ (if ln ls (j + k) = n then [j + k] else []), ?_⟩
    rw [show j + (k + 1) = (j + k) + 1 by omega, ofK_succ, hr, List.append_assoc]
/-- where a symbol stands among those of its length -/
theorem ofK_at {n s : Nat} (hs : s < ls.length) (h : ln ls s = n) : (ofK ls n ls.length)[(ofK ls n s).length]? = some s := by
  obtain ⟨r, hr⟩ := ofK_split (ls := ls) n (s + 1) (ls.length - (s + 1))
  rw [show s + 1 + (ls.length - (s + 1)) = ls.length by omega] at hr
  rw [hr, ofK_succ, if_pos h]
  simp
theorem ofK_idx {n r : Nat} (hr : r < (ofK ls n ls.length).length) : (ofK ls n (ofK ls n ls.length)[r]).length = r := by
  have hm := ofK_mem.1 (List.getElem_mem hr)
  have h1 := ofK_at hm.1 hm.2
  obtain ⟨h2, h3⟩ := List.getElem?_eq_some_iff.1 h1
  exact (List.getElem_inj (ofK_nodup n ls.length)).1 h3
theorem cnt_ofK (n : Nat) : cnt ls n = (ofK ls n ls.length).length := by
  have key : ∀ m, m ≤ ls.length → cnt (ls.take m) n = (ofK ls n m).length := by
    intro m
    induction m with
    | zero => intro _; simp [cnt, ofK]
    | succ m ih =>
      intro h
      rw [List.take_succ_eq_append_getElem (by omega), cnt_snoc, ih (by omega), ofK_succ, ← ln_eq (by omega)]
      split <;> simp
  have := key ls.length (Nat.le_refl _)
  rwa [List.take_length] at this
theorem nextV_ofK {n : Nat} (hn : 0 < n) : ∀ i, i ≤ ls.length → nextV ls n i = nextV ls n 0 + (ofK ls n i).length
  | 0, _ => by simp [ofK]
  | i + 1, h => by
    rw [nextV_step hn (by omega), nextV_ofK hn i (by omega), ofK_succ]
    split <;> simp <;> omega
theorem code_ofK {n s : Nat} (hn : 0 < n) (hs : s < ls.length) (h : ln ls s = n) : codeV ls s = nextV ls n 0 + (ofK ls n s).length := by
  rw [nextV_code hn h, nextV_ofK hn s (by omega)]
/-- the symbol of length n with that code -/
def symAt (ls : List Int) (n c : Nat) : Option Nat := if nextV ls n 0 ≤ c then (ofK ls n ls.length)[c - nextV ls n 0]? else none
theorem symAt_some {n c s : Nat} (hn : 0 < n) : symAt ls n c = some s ↔ s < ls.length ∧ ln ls s = n ∧ codeV ls s = c := by
  unfold symAt
  constructor
  · intro h
    split at h
    · rename_i h1
      obtain ⟨h2, h3⟩ := List.getElem?_eq_some_iff.1 h
      have hm := ofK_mem.1 (List.getElem_mem h2)
      have hi := ofK_idx h2
      rw [h3] at hm hi
      exact ⟨hm.1, hm.2, by rw [code_ofK hn hm.1 hm.2, hi]; omega⟩
    · cases h
  · rintro ⟨h1, h2, h3⟩
    have := code_ofK hn h1 h2
    rw [if_pos (by omega), ← h3, this, Nat.add_sub_cancel_left]
    exact ofK_at h1 h2
theorem symAt_none {n c : Nat} (hn : 0 < n) : symAt ls n c = none ↔ ∀ s, s < ls.length → ln ls s = n → codeV ls s ≠ c := by
  constructor
  · intro h s h1 h2 h3
    have := (symAt_some hn).2 ⟨h1, h2, h3⟩
    rw [h] at this
    cases this
  · intro h
    cases hx : symAt ls n c with
    | none => rfl
    | some s =>
      obtain ⟨h1, h2, h3⟩ := (symAt_some hn).1 hx
      exact absurd h3 (h s h1 h2)
/-- how many are shorter than n -/
def bef (ls : List Int) : Nat → Nat
  | 0 => 0
  | 1 => 0
  | n + 2 => bef ls (n + 1) + cnt ls (n + 1)
theorem bef_succ {n : Nat} (h : 1 ≤ n) : bef ls (n + 1) = bef ls n + cnt ls n := by
  cases n with
  | zero => omega
  | succ n => rfl
/-- those of lengths 1 to n, by length -/
def ordN (ls : List Int) : Nat → List Nat
  | 0 => []
  | n + 1 => ordN ls n ++ ofK ls (n + 1) ls.length
theorem ordN_len : ∀ n, (ordN ls n).length = bef ls (n + 1)
  | 0 => rfl
  | n + 1 => by
    rw [ordN, List.length_append, ordN_len n, ← cnt_ofK]
    exact (bef_succ (by omega)).symm
theorem ordN_mem : ∀ (n s : Nat), s ∈ ordN ls n ↔ s < ls.length ∧ 0 < ln ls s ∧ ln ls s ≤ n
  | 0, s => ⟨fun h => by simp [ordN] at h, fun h => by omega⟩
  | n + 1, s => by
    rw [ordN, List.mem_append, ordN_mem n s, ofK_mem]
    omega
theorem ordN_srtd : ∀ n, srtd (fun i => ls.getD i 0) (ordN ls n)
  | 0 => List.Pairwise.nil
  | n + 1 => by
    rw [ordN]
    refine srtd_append (ordN_srtd n) ?_ (fun x hx y hy => ?_)
    · refine List.Pairwise.imp_of_mem ?_ (ofK_inc (n + 1) ls.length)
      intro a b ha hb hab
      have h1 := (ofK_mem.1 ha).2
      have h2 := (ofK_mem.1 hb).2
      unfold ln at h1 h2
      unfold lexlt
      dsimp only
      omega
    · have h1 := (ordN_mem n x).1 hx
      have h2 := ofK_mem.1 hy
      unfold ln at h1 h2
      unfold lexlt
      dsimp only
      omega
theorem ord_eq (hg : good ls) : ord ls = ordN ls 15 := by
  refine srtd_unique (ord_srtd ls) (ordN_srtd 15) ?_
  rw [List.perm_ext_iff_of_nodup (srtd_nodup (ord_srtd ls)) (srtd_nodup (ordN_srtd 15))]
  intro s
  rw [ord_mem, ordN_mem]
  have := ln_good hg s
  unfold ln at *
  omega
theorem ordN_split (n : Nat) : ∀ k, ∃ r, ordN ls (n + k) = ordN ls n ++ r
  | 0 => ⟨[], by simp⟩
  | k + 1 => by
    obtain ⟨r, hr⟩ := ordN_split n k
    exact ⟨r ++ ofK ls (n + k + 1) ls.length, by rw [show n + (k + 1) = (n + k) + 1 by omega, ordN, hr, List.append_assoc]⟩
/-- where the symbols of length n stand in the row by length -/
theorem ord_at (hg : good ls) {n r : Nat} (hn : 1 ≤ n) (hn2 : n ≤ 15) (hr : r < cnt ls n) : (ord ls)[bef ls n + r]? = (ofK ls n ls.length)[r]? := by
  obtain ⟨m, rfl⟩ : ∃ m, n = m + 1 := ⟨n - 1, by omega⟩
  obtain ⟨t, ht⟩ := ordN_split (ls := ls) (m + 1) (15 - (m + 1))
  rw [show m + 1 + (15 - (m + 1)) = 15 by omega] at ht
  rw [ord_eq hg, ht, ordN, List.append_assoc, ← ordN_len, List.getElem?_append_right (by omega), Nat.add_sub_cancel_left, List.getElem?_append_left (by rw [← cnt_ofK]; exact hr)]
theorem bef_le (hg : good ls) {n : Nat} (hn : 1 ≤ n) (hn2 : n ≤ 16) : bef ls n ≤ (ord ls).length := by
  obtain ⟨m, rfl⟩ : ∃ m, n = m + 1 := ⟨n - 1, by omega⟩
  obtain ⟨t, ht⟩ := ordN_split (ls := ls) m (15 - m)
  rw [show m + (15 - m) = 15 by omega] at ht
  rw [ord_eq hg, ht, List.length_append, ordN_len]
  omega
end
/-! ### bits of bytes -/
def bitB (b : List Nat) (i : Nat) : Nat := b.getD (i / 8) 0 / 2 ^ (7 - i % 8) % 2
theorem bitB_lt (b : List Nat) (i : Nat) : bitB b i < 2 := Nat.mod_lt _ (by omega)
/-- the first n bits from a place on, as a number -/
def cAt (b : List Nat) (at_ : Nat) : Nat → Nat
  | 0 => 0
  | n + 1 => cAt b at_ n * 2 + bitB b (at_ + n)
theorem cAt_lt (b : List Nat) (at_ : Nat) : ∀ n, cAt b at_ n < 2 ^ n
  | 0 => by simp [cAt]
  | n + 1 => by
    have := cAt_lt b at_ n
    have := bitB_lt b (at_ + n)
    rw [cAt, Nat.pow_succ]
    omega
/-- the symbol that bits begin with, and how many bits it has -/
def oneF (ls : List Int) (b : List Nat) (at_ : Nat) : Nat → Nat → Option (Nat × Nat)
  | 0, _ => none
  | f + 1, n => if at_ + n ≤ 8 * b.length then (match symAt ls n (cAt b at_ n) with
    | some s => some (s, n)
    | none => oneF ls b at_ f (n + 1)) else none
def one (ls : List Int) (b : List Nat) (at_ : Nat) : Option (Nat × Nat) := oneF ls b at_ 15 1
theorem oneF_end {ls : List Int} {b : List Nat} {at_ n f : Nat} (h : ¬ at_ + n ≤ 8 * b.length) : oneF ls b at_ f n = none := by
  cases f with
  | zero => rfl
  | succ f => rw [oneF, if_neg h]
theorem oneF_some {ls : List Int} {b : List Nat} {at_ n f s : Nat} (h : at_ + n ≤ 8 * b.length) (hs : symAt ls n (cAt b at_ n) = some s) : oneF ls b at_ (f + 1) n = some (s, n) := by
  rw [oneF, if_pos h, hs]
theorem oneF_none {ls : List Int} {b : List Nat} {at_ n f : Nat} (h : at_ + n ≤ 8 * b.length) (hs : symAt ls n (cAt b at_ n) = none) : oneF ls b at_ (f + 1) n = oneF ls b at_ f (n + 1) := by
  rw [oneF, if_pos h, hs]
theorem oneF_spec {ls : List Int} {b : List Nat} {at_ s m : Nat} : ∀ (f n : Nat), 0 < n → oneF ls b at_ f n = some (s, m) → n ≤ m ∧ m < n + f ∧ at_ + m ≤ 8 * b.length ∧ s < ls.length ∧ ln ls s = m ∧ codeV ls s = cAt b at_ m
  | 0, n, _, h => by simp [oneF] at h
  | f + 1, n, h0, h => by
    rw [oneF] at h
    split at h
    · rename_i h1
      cases hx : symAt ls n (cAt b at_ n) with
      | some s' =>
        rw [hx] at h
        simp only [Option.some.injEq, Prod.mk.injEq] at h
        obtain ⟨rfl, rfl⟩ := h
        have := (symAt_some h0).1 hx
        exact ⟨Nat.le_refl _, by omega, h1, this⟩
      | none =>
        rw [hx] at h
        have := oneF_spec f (n + 1) (by omega) h
        omega
    · cases h
theorem one_spec {ls : List Int} {b : List Nat} {at_ s m : Nat} (h : one ls b at_ = some (s, m)) : 1 ≤ m ∧ m ≤ 15 ∧ at_ + m ≤ 8 * b.length ∧ s < ls.length ∧ ln ls s = m ∧ codeV ls s = cAt b at_ m := by
  have := oneF_spec 15 1 (by omega) h
  omega
/-- symbols read one by one -/
def dst (ls : List Int) (b : List Nat) : Nat → List Nat × Nat
  | 0 => ([], 0)
  | k + 1 => match one ls b (dst ls b k).2 with
    | some (s, n) => ((dst ls b k).1 ++ [s], (dst ls b k).2 + n)
    | none => dst ls b k
theorem dst_some {ls : List Int} {b : List Nat} {k s n : Nat} (h : one ls b (dst ls b k).2 = some (s, n)) : dst ls b (k + 1) = ((dst ls b k).1 ++ [s], (dst ls b k).2 + n) := by
  rw [dst, h]
theorem dst_bounds {ls : List Int} {b : List Nat} : ∀ k, (∀ j, j < k → one ls b (dst ls b j).2 ≠ none) → k ≤ (dst ls b k).2 ∧ (dst ls b k).2 ≤ 8 * b.length ∧ (dst ls b k).1.length = k
  | 0, _ => by simp [dst]
  | k + 1, h => by
    have ih := dst_bounds k (fun j hj => h j (by omega))
    cases hx : one ls b (dst ls b k).2 with
    | none => exact absurd hx (h k (by omega))
    | some p =>
      obtain ⟨s, n⟩ := p
      have := one_spec hx
      rw [dst_some hx]
      simp
      omega
/-- what reading n symbols answers: all of them, or where there is none -/
def DecP (ls : List Int) (b : List Nat) (n : Nat) (l : List Nat) (a : Nat) (E : Int) : Prop :=
  (∀ j, j < n → one ls b (dst ls b j).2 ≠ none) ∧ l = (dst ls b n).1 ∧ a = (dst ls b n).2 ∧ E = 0 ∨
  ∃ k, k < n ∧ (∀ j, j < k → one ls b (dst ls b j).2 ≠ none) ∧ one ls b (dst ls b k).2 = none ∧ l = [] ∧ a = (dst ls b k).2 ∧ E = 52
theorem DecP.same {ls : List Int} {b : List Nat} {n : Nat} {l l' : List Nat} {a a' : Nat} {E E' : Int} (h : DecP ls b n l a E) (h' : DecP ls b n l' a' E') : l = l' ∧ a = a' ∧ E = E' := by
  rcases h with ⟨h1, rfl, rfl, rfl⟩ | ⟨k, hk, h1, h2, rfl, rfl, rfl⟩
  · rcases h' with ⟨_, rfl, rfl, rfl⟩ | ⟨k', hk', _, h2', _⟩
    · exact ⟨rfl, rfl, rfl⟩
    · exact absurd h2' (h1 k' hk')
  · rcases h' with ⟨h1', _⟩ | ⟨k', hk', h1', h2', rfl, rfl, rfl⟩
    · exact absurd h2 (h1' k hk)
    · rcases Nat.lt_trichotomy k k' with h | rfl | h
      · exact absurd h2 (h1' k h)
      · exact ⟨rfl, rfl, rfl⟩
      · exact absurd h2' (h1 k' h)
end Go.Huf
namespace Go.Huf
theorem byte_bit (l : List Bool) (k : Nat) {r : Nat} (h : r < 8) : byteAt l k / 2 ^ (7 - r) % 2 = b2n (l.getD (8 * k + r) false) := by
  have e : byteAt l k = b2n (l.getD (8 * k) false) * 128 + b2n (l.getD (8 * k + 1) false) * 64 + b2n (l.getD (8 * k + 2) false) * 32 + b2n (l.getD (8 * k + 3) false) * 16 + b2n (l.getD (8 * k + 4) false) * 8 + b2n (l.getD (8 * k + 5) false) * 4 + b2n (l.getD (8 * k + 6) false) * 2 + b2n (l.getD (8 * k + 7) false) := by
    unfold byteAt b2n
    simp only [sumR, Nat.add_zero]
    have hx : ∀ (p : Bool) (c : Nat), (if p = true then c else 0) = (if p = true then 1 else 0) * c := fun p c => by cases p <;> simp
    rw [hx (l.getD (8 * k) false) (2 ^ (7 - 0)), hx (l.getD (8 * k + 1) false) (2 ^ (7 - 1)), hx (l.getD (8 * k + 2) false) (2 ^ (7 - 2)), hx (l.getD (8 * k + 3) false) (2 ^ (7 - 3)), hx (l.getD (8 * k + 4) false) (2 ^ (7 - 4)), hx (l.getD (8 * k + 5) false) (2 ^ (7 - 5)), hx (l.getD (8 * k + 6) false) (2 ^ (7 - 6)), hx (l.getD (8 * k + 7) false) (2 ^ (7 - 7))]
    simp only [Nat.zero_add, Nat.reduceSub, Nat.reducePow, Nat.mul_one]
  have hb : ∀ p : Bool, b2n p ≤ 1 := fun p => by cases p <;> simp [b2n]
  have h0 := hb (l.getD (8 * k) false)
  have h1 := hb (l.getD (8 * k + 1) false)
  have h2 := hb (l.getD (8 * k + 2) false)
  have h3 := hb (l.getD (8 * k + 3) false)
  have h4 := hb (l.getD (8 * k + 4) false)
  have h5 := hb (l.getD (8 * k + 5) false)
  have h6 := hb (l.getD (8 * k + 6) false)
  have h7 := hb (l.getD (8 * k + 7) false)
  rw [e]
  rcases (show r = 0 ∨ r = 1 ∨ r = 2 ∨ r = 3 ∨ r = 4 ∨ r = 5 ∨ r = 6 ∨ r = 7 by omega) with rfl | rfl | rfl | rfl | rfl | rfl | rfl | rfl
  all_goals
    simp only [Nat.add_zero, Nat.reduceSub, Nat.reducePow]
    omega
theorem bit_pack (l : List Bool) (beh : List Nat) {i : Nat} (h : i < l.length) : bitB (pack l ++ beh) i = b2n (l.getD i false) := by
  unfold bitB
  have hk : i / 8 < (pack l).length := by rw [pack_len]; omega
  rw [List.getD_eq_getElem?_getD, List.getElem?_append_left hk, List.getElem?_eq_getElem hk, Option.getD_some]
  have : (pack l)[i / 8] = byteAt l (i / 8) := by simp [pack]
  rw [this, byte_bit l (i / 8) (by omega), show 8 * (i / 8) + i % 8 = i by omega]
section
variable {ls : List Int} {b : List Nat}
/-- bits that are a code's beginning -/
theorem cAt_code {c m at_ : Nat} (hc : c < 2 ^ m) (h : ∀ j, j < m → bitB b (at_ + j) = b2n (bitAt c m j)) : ∀ n, n ≤ m → cAt b at_ n = c / 2 ^ (m - n)
  | 0, _ => by rw [cAt, Nat.sub_zero, Nat.div_eq_of_lt hc]
  | n + 1, hn => by
    rw [cAt, cAt_code hc h n (by omega), h n (by omega), b2n_bit]
    obtain ⟨d, hd⟩ : ∃ d, m - n = d + 1 := ⟨m - n - 1, by omega⟩
    rw [hd, show m - (n + 1) = d by omega, show m - 1 - n = d by omega, Nat.pow_succ, ← Nat.div_div_eq_div_mul]
    omega
theorem oneF_run (hok : okL ls) {s m at_ : Nat} (hs : s < ls.length) (hm : ln ls s = m) (hm1 : 1 ≤ m) (hat : at_ + m ≤ 8 * b.length) (h : ∀ j, j < m → bitB b (at_ + j) = b2n (bitAt (codeV ls s) m j)) :
    ∀ (f n : Nat), 1 ≤ n → n ≤ m → m < n + f → oneF ls b at_ f n = some (s, m)
  | 0, n, h1, h2, h3 => by omega
  | f + 1, n, h1, h2, h3 => by
    have hcl := codeV_lt hok hs (by omega)
    rw [hm, Int.toNat_natCast] at hcl
    have hcn := cAt_code hcl h n h2
    by_cases he : n = m
    · subst he
      refine oneF_some (by omega) ((symAt_some (by omega)).2 ⟨hs, hm, ?_⟩)
      rw [hcn]
      simp
    · rw [oneF_none (by omega) ((symAt_none (by omega)).2 (fun s' q1 q2 q3 => by
        have := code_apart hok q1 hs (by omega) (by omega) (by
          rw [q3, hcn, hm, q2]
          simp)
        subst this
        omega))]
      exact oneF_run hok hs hm hm1 hat h f (n + 1) (by omega) (by omega) (by omega)
end
/-- what is coded is read -/
theorem dst_back {ls ss : List Int} {beh : List Nat} (hok : okL ls) (hall : ∀ s ∈ ss, okS ls s) : ∀ k, k ≤ ss.length →
    dst ls (pack (bitsOf ls ss) ++ beh) k = ((ss.take k).map Int.toNat, (bitsOf ls (ss.take k)).length) ∧ ∀ j, j < k → one ls (pack (bitsOf ls ss) ++ beh) (dst ls (pack (bitsOf ls ss) ++ beh) j).2 ≠ none
  | 0, _ => ⟨by simp [dst, bitsOf], fun j hj => by omega⟩
  | k + 1, hk => by
    obtain ⟨ih1, ih2⟩ := dst_back (beh := beh) hok hall k (by omega)
    have hkl : k < ss.length := by omega
    have htk : ss.take (k + 1) = ss.take k ++ [ss[k]] := List.take_succ_eq_append_getElem hkl
    obtain ⟨h0, h1, h2⟩ := hall _ (List.getElem_mem hkl)
    have hsplit : bitsOf ls ss = bitsOf ls (ss.take k) ++ (symBits ls ss[k] ++ bitsOf ls (ss.drop (k + 1))) := by
      have e : ss = ss.take k ++ (ss[k] :: ss.drop (k + 1)) := by rw [← List.drop_eq_getElem_cons hkl, List.take_append_drop]
      conv => lhs; rw [e]
      unfold bitsOf
      rw [List.flatMap_append, List.flatMap_cons]
    generalize hx : ss[k] = x at *
    obtain ⟨s, rfl⟩ : ∃ s : Nat, x = s := ⟨x.toNat, by omega⟩
    rw [Int.toNat_natCast] at h2
    have hg := ln_good hok.2.1 s
    obtain ⟨m, hm⟩ : ∃ m : Nat, ln ls s = m := ⟨(ln ls s).toNat, by omega⟩
    have hsb : symBits ls s = bitsK (codeV ls s) m := by unfold symBits; rw [Int.toNat_natCast, hm, Int.toNat_natCast]
    rw [hsb] at hsplit
    obtain ⟨at_, hat⟩ : ∃ at_, at_ = (bitsOf ls (ss.take k)).length := ⟨_, rfl⟩
    have hlen : (bitsOf ls ss).length = at_ + (m + (bitsOf ls (ss.drop (k + 1))).length) := by
      rw [hsplit, List.length_append, List.length_append, bitsK_len, hat]
    have hone : one ls (pack (bitsOf ls ss) ++ beh) at_ = some (s, m) := by
      refine oneF_run hok (by omega) hm (by omega) ?_ (fun j hj => ?_) 15 1 (Nat.le_refl _) (by omega) (by omega)
      · rw [List.length_append, pack_len]
        omega
      · rw [bit_pack _ _ (by omega)]
        congr 1
        rw [List.getD_eq_getElem?_getD, hsplit, List.getElem?_append_right (by omega), ← hat, Nat.add_sub_cancel_left, List.getElem?_append_left (by rw [bitsK_len]; exact hj)]
        simp [bitsK, hj]
    have hd := dst_some (ls := ls) (b := pack (bitsOf ls ss) ++ beh) (k := k) (s := s) (n := m) (by rw [ih1, ← hat]; exact hone)
    refine ⟨?_, fun j hj => ?_⟩
    · rw [hd, ih1, htk, List.map_append, bitsOf_snoc, hsb, List.length_append, bitsK_len]
      simp
    · rcases Nat.lt_succ_iff_lt_or_eq.1 hj with h3 | rfl
      · exact ih2 j h3
      · rw [ih1]
        dsimp only
        rw [← hat, hone]
        simp
theorem dec_back {ls ss : List Int} {beh : List Nat} (hok : okL ls) (hall : ∀ s ∈ ss, okS ls s) : DecP ls (pack (bitsOf ls ss) ++ beh) ss.length (ss.map Int.toNat) (bitsOf ls ss).length 0 := by
  obtain ⟨h1, h2⟩ := dst_back (beh := beh) hok hall ss.length (Nat.le_refl _)
  rw [List.take_length] at h1
  exact .inl ⟨h2, by rw [h1], by rw [h1], rfl⟩
end Go.Huf
