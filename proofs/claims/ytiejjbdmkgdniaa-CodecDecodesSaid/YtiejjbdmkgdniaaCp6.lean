/- A row's code: on lists alone. -/
import Derived.Test.YtiejjbdmkgdniaaL2
import Derived.Test.YtiejjbdmkgdniaaK7
import Derived.Test.YtiejjbdmkgdniaaC2
import Derived.Test.YtiejjbdmkgdniaaHfJ
set_option linter.unusedVariables false
set_option linter.unusedSimpArgs false
namespace Go.Cod
open Go.Huf
def encP (b : List Nat) : List Nat := if (packR (tokP b)).length < b.length then 1 :: (varP b.length ++ packR (tokP b)) else 0 :: (varP b.length ++ b)
def headP : List Nat → Option (Nat × Bool × List Nat)
  | [] => none
  | x :: b1 => if x ≤ 1 then (match rdV 0 b1 with
    | none => none
    | some (n, u) => if n ≤ 65536 then some (n, decide (x = 1), b1.drop u) else none) else none
def decP (b : List Nat) : Option (List Nat) := match headP b with
  | none => none
  | some (n, p, r) => if p then (if unpE r = 0 then (match bytP (unpT r) with
    | none => none
    | some q => if q.length = n then some q else none) else none) else if r.length = n then some r else none
theorem varP_len3 {x : Nat} (h : x < 2097152) : (varP x).length ≤ 3 := by
  unfold varP
  rw [varF]
  split
  · simp
  · rw [varF]
    split
    · simp
    · rw [varF, if_pos (by omega)]
      simp
theorem enc_len {b : List Nat} (h : b.length ≤ 65536) : (encP b).length ≤ b.length + 4 := by
  have := varP_len3 (x := b.length) (by omega)
  unfold encP
  split
  · simp; omega
  · simp; omega
theorem rd_varF : ∀ (f i x : Nat) (r : List Nat), i + f = 9 → x < 128 ^ f → (0 < i → 0 < x) → rdV i (varF f x ++ r) = some (x, (varF f x).length)
  | 0, i, x, r, hi, hx, h0 => by
    simp at hx
    have := h0 (by omega)
    omega
  | f + 1, i, x, r, hi, hx, h0 => by
    rw [varF]
    by_cases h : x < 128
    · rw [if_pos h, List.cons_append, List.nil_append, rdV, if_neg (by omega), if_pos h]
      rfl
    · rw [if_neg h, List.cons_append, rdV, if_neg (by omega), if_neg (by omega), rd_varF f (i + 1) (x / 128) r (by omega) (by rw [Nat.div_lt_iff_lt_mul (by omega)]; rw [Nat.pow_succ] at hx; exact hx) (fun _ => by omega)]
      simp
      omega
theorem rd_var {x : Nat} (h : x < 128 ^ 9) (r : List Nat) : rdV 0 (varP x ++ r) = some (x, (varP x).length) := rd_varF 9 0 x r rfl h (by omega)
end Go.Cod
set_option linter.unusedVariables false
set_option linter.unusedSimpArgs false
namespace Go.Cod
open Go.Huf
theorem runK_rep (x : Int) : ∀ l : List Int, l = List.replicate (runK x l) x ++ l.drop (runK x l)
  | [] => by simp [runK]
  | a :: l => by
    have ih := runK_rep x l
    by_cases h : a = x
    · subst h
      have e : runK a (a :: l) = runK a l + 1 := by simp [runK, List.takeWhile_cons]
      rw [e, List.replicate_succ, List.drop_succ_cons, List.cons_append, ← ih]
    · have e : runK x (a :: l) = 0 := by simp [runK, List.takeWhile_cons, h]
      rw [e]; simp
theorem lenF_runs : ∀ (m f n : Nat) (out l : List Int) (r : List Nat), l.length ≤ m → l.length < f → out.length + l.length = n → n ≤ 1000 → (∀ x ∈ l, 0 ≤ x ∧ x ≤ 255) → okL (out ++ l) → lenF f n out (runsP l ++ r) = some (out ++ l, r)
  | m, 0, n, out, l, r, _, hf, _, _, _, _ => by omega
  | m, f + 1, n, out, [], r, _, _, hn, _, _, hok => by
    unfold lenF
    simp at hn hok
    rw [if_neg (by omega), if_pos hok]
    simp [runsP, runF]
  | 0, f + 1, n, out, x :: l, r, hm, _, _, _, _, _ => by simp at hm
  | m + 1, f + 1, n, out, x :: l, r, hm, hf, hn, h1, hg, hok => by
    have hr := runK_le x l
    have hx := hg x (by simp)
    simp at hm hf hn
    rw [runs_cons]
    unfold lenF
    rw [if_pos (by omega)]
    simp only [List.cons_append, List.append_assoc]
    rw [rd_var (by omega)]
    simp only
    rw [if_neg (by omega), List.drop_left]
    have e : out ++ List.replicate (runK x l + 1) ((x.toNat : Nat) : Int) ++ l.drop (runK x l) = out ++ x :: l := by
      have hxt : ((x.toNat : Nat) : Int) = x := by omega
      rw [hxt, List.append_assoc, List.replicate_succ, List.cons_append, ← runK_rep x l]
    rw [← e]
    refine lenF_runs m f n _ _ r (by rw [List.length_drop]; omega) (by rw [List.length_drop]; omega) (by rw [List.length_append, List.length_replicate, List.length_drop]; omega) h1 (fun y hy => hg y (List.mem_cons_of_mem _ (List.mem_of_mem_drop hy))) (by rw [e]; exact hok)
theorem lenP_runs {n : Nat} {l : List Int} (hl : l.length = n) (hn : n ≤ 1000) (hok : okL l) (hg : ∀ x ∈ l, 0 ≤ x ∧ x ≤ 255) (r : List Nat) : lenP n (runsP l ++ r) = some (l, r) := by
  unfold lenP
  have := lenF_runs l.length (n + 1) n [] l r (Nat.le_refl _) (by omega) (by simpa using hl) hn hg (by simpa using hok)
  simpa using this
end Go.Cod
set_option linter.unusedVariables false
set_option linter.unusedSimpArgs false
namespace Go.Cod
open Go.Huf
theorem one_at {ls : List Int} (hok : okL ls) {s : Nat} (hs : s < ls.length) (hp : 0 < ln ls s) (pre post : List Bool) :
    one ls (pack (pre ++ (symBits ls (s : Int) ++ post))) pre.length = some (s, (symBits ls (s : Int)).length) := by
  have hg := ln_good hok.2.1 s
  obtain ⟨m, hm⟩ : ∃ m : Nat, ln ls s = m := ⟨(ln ls s).toNat, by omega⟩
  have hsl : symBits ls (s : Int) = bitsK (codeV ls s) m := by
    unfold symBits
    rw [Int.toNat_natCast, hm, Int.toNat_natCast]
  have hlen : (pre ++ (bitsK (codeV ls s) m ++ post)).length = pre.length + m + post.length := by
    rw [List.length_append, List.length_append, bitsK_len]; omega
  rw [hsl, bitsK_len]
  refine oneF_run hok hs hm (by omega) ?_ (fun j hj => ?_) 15 1 (by omega) (by omega) (by omega)
  · rw [pack_len, hlen]; omega
  · have := bit_pack (pre ++ (bitsK (codeV ls s) m ++ post)) [] (i := pre.length + j) (by omega)
    rw [List.append_nil] at this
    rw [this]
    congr 1
    rw [List.getD_eq_getElem?_getD, List.getElem?_append_right (by omega), Nat.add_sub_cancel_left, List.getElem?_append_left (by rw [bitsK_len]; exact hj)]
    simp [bitsK, hj]
theorem vAt_code {b : List Nat} {c x at_ : Nat} (hc : c / 2 ^ x = 1) (h : ∀ j, j < x → bitB b (at_ + j) = b2n (bitAt c x j)) : ∀ n, n ≤ x → vAt b at_ n = c / 2 ^ (x - n)
  | 0, _ => by rw [vAt, Nat.sub_zero, hc]
  | n + 1, hn => by
    rw [vAt, vAt_code hc h n (by omega), h n (by omega), b2n_bit]
    obtain ⟨d, hd⟩ : ∃ d, x - n = d + 1 := ⟨x - n - 1, by omega⟩
    rw [hd, show x - (n + 1) = d by omega, show x - 1 - n = d by omega, Nat.pow_succ, ← Nat.div_div_eq_div_mul]
    omega
/-- bits of a number behind others -/
theorem vAt_at {c x : Nat} (hc : c / 2 ^ x = 1) (pre post : List Bool) : vAt (pack (pre ++ (bitsK c x ++ post))) pre.length x = c := by
  have hlen : (pre ++ (bitsK c x ++ post)).length = pre.length + x + post.length := by
    rw [List.length_append, List.length_append, bitsK_len]; omega
  rw [vAt_code hc (fun j hj => ?_) x (Nat.le_refl _), Nat.sub_self, Nat.pow_zero, Nat.div_one]
  have := bit_pack (pre ++ (bitsK c x ++ post)) [] (i := pre.length + j) (by omega)
  rw [List.append_nil] at this
  rw [this]
  congr 1
  rw [List.getD_eq_getElem?_getD, List.getElem?_append_right (by omega), Nat.add_sub_cancel_left, List.getElem?_append_left (by rw [bitsK_len]; exact hj)]
  simp [bitsK, hj]
end Go.Cod
set_option linter.unusedVariables false
set_option linter.unusedSimpArgs false
namespace Go.Cod
open Go.Huf
theorem log2_one {c : Nat} (h : c ≠ 0) : c / 2 ^ c.log2 = 1 := by
  have h1 := Nat.log2_self_le h
  have h2 := Nat.lt_log2_self (n := c)
  rw [Nat.pow_succ] at h2
  have hp : 0 < 2 ^ c.log2 := Nat.pos_of_ne_zero (by simp)
  apply Nat.le_antisymm
  · exact Nat.le_of_lt_succ ((Nat.div_lt_iff_lt_mul hp).2 (by omega))
  · exact (Nat.le_div_iff_mul_le hp).2 (by omega)
theorem tokR_at {la lb : List Int} (ha : okL la) (hb : okL lb) {t : Tk} (ht : okT t = true) (hl : t.2.2 < 256) (h1 : symT t < la.length) (h2 : 0 < ln la (symT t)) (h3 : 0 < t.1 → dsT t < lb.length ∧ 0 < ln lb (dsT t)) (pre post : List Bool) :
    tokR la lb (pack (pre ++ (tokBits la lb t ++ post))) pre.length = some (t, pre.length + (tokBits la lb t).length) := by
  by_cases hd : 0 < t.1
  · obtain ⟨d1, d2⟩ := h3 hd
    have hk := okT_cases ht
    have e0 : tokBits la lb t = symBits la (symT t) ++ (symBits lb (dsT t) ++ bitsK t.1.toNat (dsT t)) := by unfold tokBits; rw [if_pos hd]
    have o1 := one_at ha h1 h2 pre (symBits lb (dsT t) ++ (bitsK t.1.toNat (dsT t) ++ post))
    have o2 := one_at hb d1 d2 (pre ++ symBits la (symT t)) (bitsK t.1.toNat (dsT t) ++ post)
    have o3 := vAt_at (c := t.1.toNat) (x := dsT t) (log2_one (by omega)) (pre ++ symBits la (symT t) ++ symBits lb (dsT t)) post
    have hs : symT t = (252 + t.2.1).toNat := by unfold symT; rw [if_neg (by omega)]
    rw [e0]
    simp only [List.append_assoc] at o1 o2 o3 ⊢
    simp only [List.length_append] at o1 o2 o3 ⊢
    unfold tokR
    rw [o1]
    simp only
    rw [if_neg (by omega), o2]
    simp only
    rw [if_neg ?_]
    · rw [← Nat.add_assoc] at o3
      rw [o3, bitsK_len]
      congr 1
      refine Prod.ext (Prod.ext ?_ (Prod.ext ?_ ?_)) ?_
      · simp only; omega
      · simp only; rw [hs]; omega
      · simp only; omega
      · simp only; omega
    · rw [pack_len]
      simp only [List.length_append, bitsK_len]
      omega
  · have hk := okT_cases ht
    have e0 : tokBits la lb t = symBits la (symT t) := by unfold tokBits; rw [if_neg hd, List.append_nil]
    have hs : symT t = t.2.2 := by unfold symT; rw [if_pos (by omega)]
    rw [e0]
    unfold tokR
    rw [one_at ha h1 h2 pre post]
    simp only
    rw [if_pos (by omega)]
    congr 1
    refine Prod.ext (Prod.ext ?_ (Prod.ext ?_ ?_)) rfl
    · simp only; omega
    · simp only; omega
    · simp only; omega
theorem toksF_at {la lb : List Int} (ha : okL la) (hb : okL lb) : ∀ (l : List Tk) (pre post : List Bool), (∀ t ∈ l, okT t = true ∧ t.2.2 < 256 ∧ symT t < la.length ∧ 0 < ln la (symT t) ∧ (0 < t.1 → dsT t < lb.length ∧ 0 < ln lb (dsT t))) →
    toksF la lb (pack (pre ++ (tokB la lb l ++ post))) l.length pre.length = some l
  | [], pre, post, _ => rfl
  | t :: l, pre, post, h => by
    obtain ⟨q1, q2, q3, q4, q5⟩ := h t (by simp)
    have e : tokB la lb (t :: l) = tokBits la lb t ++ tokB la lb l := by simp [tokB]
    have o1 := tokR_at ha hb q1 q2 q3 q4 q5 pre (tokB la lb l ++ post)
    have o2 := toksF_at ha hb l (pre ++ tokBits la lb t) post (fun u hu => h u (List.mem_cons_of_mem _ hu))
    simp only [List.append_assoc, List.length_append] at o2
    rw [e, List.append_assoc, List.length_cons, toksF, o1]
    simp only
    rw [o2]
    rfl
end Go.Cod
set_option linter.unusedVariables false
set_option linter.unusedSimpArgs false
namespace Go.Cod
open Go.Huf
theorem cnt_pos {p : Tk → Nat → Bool} {n s : Nat} {l : List Tk} {t : Tk} (hs : s < n) (ht : t ∈ l) (hp : p t s = true) : (cntG p n l).getD s 0 ≠ 0 := by
  have h : s < (cntG p n l).length := by rw [cntG_len]; exact hs
  rw [List.getD_eq_getElem?_getD, List.getElem?_eq_getElem h, Option.getD_some, cntG_get h]
  have : 0 < l.countP fun t => p t s := List.countP_pos_iff.2 ⟨t, ht, hp⟩
  omega
theorem readP_back {l : List Tk} (hl : l.length ≤ 20000) (hs : sizeE l = 0) (hlit : litOk l) : readP (packP l) = some l := by
  have hall : l.all okT = true := by
    unfold sizeE at hs
    split at hs
    · assumption
    · cases hs
  obtain ⟨a1, a2, a3⟩ := lenA_ok (l := l) (by omega)
  obtain ⟨d1, d2, d3⟩ := lenD_ok (l := l) (by omega)
  have hg : ∀ ls : List Int, okL ls → ∀ x ∈ ls, 0 ≤ x ∧ x ≤ 255 := fun ls h => good_255 h
  have ht : ∀ t ∈ l, okT t = true ∧ t.2.2 < 256 ∧ symT t < (lenA l).length ∧ 0 < ln (lenA l) (symT t) ∧ (0 < t.1 → dsT t < (lenD l).length ∧ 0 < ln (lenD l) (dsT t)) := fun t hm => by
    have h1 : okT t = true := List.all_eq_true.1 hall t hm
    have h2 := hlit t hm
    have h3 := symT_lt h1 h2
    refine ⟨h1, h2, by omega, ?_, fun hd => ?_⟩
    · have q := ln_good a1.2.1 (symT t)
      have z : (lenA l).getD (symT t) 0 ≠ 0 := fun e => cnt_pos (p := fun t s => decide (symT t = s)) h3 hm (by simp) ((a3 _ h3).1 e)
      have e : ln (lenA l) (symT t) = (lenA l).getD (symT t) 0 := rfl
      omega
    · have h4 := (dsT_lt h1 hd).1
      have q := ln_good d1.2.1 (dsT t)
      have z : (lenD l).getD (dsT t) 0 ≠ 0 := fun e => cnt_pos (p := fun t s => decide (0 < t.1) && decide (dsT t = s)) h4 hm (by simp [hd]) ((d3 _ h4).1 e)
      have e : ln (lenD l) (dsT t) = (lenD l).getD (dsT t) 0 := rfl
      exact ⟨by omega, by omega⟩
  unfold readP packP hdP
  simp only [List.append_assoc]
  rw [lenP_runs a2 (by omega) a1 (hg _ a1)]
  simp only
  rw [lenP_runs d2 (by omega) d1 (hg _ d1)]
  simp only
  rw [rd_var (by omega)]
  simp only
  rw [if_neg (by omega), List.drop_left]
  have := toksF_at a1 d1 l [] [] ht
  simpa using this
theorem unp_back {l : List Tk} (hl : l.length ≤ 20000) (hs : sizeE l = 0) (hlit : litOk l) (hp : (packP l).length ≤ 262144) : unpT (packP l) = l ∧ unpE (packP l) = 0 := by
  have h := readP_back hl hs hlit
  refine ⟨?_, ?_⟩
  · unfold unpT
    rw [h]
    simp only
    rw [if_pos ⟨hp, hs, trivial⟩]
  · unfold unpE
    rw [if_neg (by omega), h]
    simp only
    rw [if_pos ⟨hs, trivial⟩]
/-- what is unpacked is packed to the same bytes -/
theorem unp_one {b : List Nat} (h : unpE b = 0) : sizeE (unpT b) = 0 ∧ packP (unpT b) = b ∧ b.length ≤ 262144 := by
  unfold unpE at h
  split at h
  · cases h
  · cases hr : readP b with
    | none => rw [hr] at h; cases h
    | some l =>
      rw [hr] at h
      simp only at h
      split at h
      · rename_i h1 h2
        unfold unpT
        rw [hr]
        simp only
        rw [if_pos ⟨by omega, h2⟩]
        exact ⟨h2.1, h2.2, by omega⟩
      · cases h
end Go.Cod
set_option linter.unusedVariables false
set_option linter.unusedSimpArgs false
namespace Go.Cod
open Go.Huf
theorem dec_back {b : List Nat} (hb : ∀ x ∈ b, x < 256) (hl : b.length ≤ 20000) : decP (encP b) = some b := by
  obtain ⟨hs, hlit⟩ := tok_size hb (by omega)
  have ht : (tokP b).length ≤ 20000 := Nat.le_trans (tok_len b.length 0) hl
  have hpk : packR (tokP b) = packP (tokP b) := by unfold packR; rw [if_pos hs]
  unfold encP
  split
  · rename_i hlt
    rw [hpk] at hlt ⊢
    obtain ⟨u1, u2⟩ := unp_back ht hs hlit (by omega)
    unfold decP headP
    simp only
    rw [if_pos (by omega), rd_var (by omega)]
    simp only
    rw [if_pos (by omega), List.drop_left]
    simp [u1, u2, byt_back (b := b) (by omega)]
  · unfold decP headP
    simp only
    rw [if_pos (by omega), rd_var (by omega)]
    simp only
    rw [if_pos (by omega), List.drop_left]
    simp
end Go.Cod
