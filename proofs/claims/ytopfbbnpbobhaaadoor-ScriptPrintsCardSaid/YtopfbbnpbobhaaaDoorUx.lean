import Derived.Test.YtopfbbnpbobhaaaDoorHx
namespace Go.Proofs.YtopfbbnpbobhaaaDoor
open Go

abbrev MF : Nat := 1048576
/-- A hex digit; below 0: none. -/
def dg16 (c : UInt8) : Int := if 48 ≤ c.toNat ∧ c.toNat ≤ 57 then (c.toNat : Int) - 48 else if 97 ≤ c.toNat ∧ c.toNat ≤ 102 then (c.toNat : Int) - 87 else -1
def digA (s : List UInt8) (i : Nat) : Int := match s[i]? with | none => -1 | some c => dg16 c
def byteOf (a b : Int) : UInt8 := UInt8.ofNat (16 * a.toNat + b.toNat)
/-- What a text of bytes is: the bytes, or the place where it is none. -/
inductive UR where
  | ok (b : List UInt8)
  | bad (i : Nat)

/-! ### the program's reader -/
structure HS where
  pos : Nat
  out : List UInt8
  last : UInt8
  n : Nat
  closed : Bool

def pairS (s : List UInt8) (h : HS) : Bool × HS :=
  if digA s h.pos < 0 ∨ MF ≤ h.out.length then (false, h)
  else if digA s (h.pos + 1) < 0 then (false, { h with pos := h.pos + 1 })
  else if (0 < h.n ∧ byteOf (digA s h.pos) (digA s (h.pos + 1)) = h.last) ∧ (h.closed = true ∨ h.n = 4) then (false, { h with pos := h.pos + 1 })
  else if 0 < h.n ∧ byteOf (digA s h.pos) (digA s (h.pos + 1)) = h.last then (true, { h with pos := h.pos + 2, out := h.out ++ [byteOf (digA s h.pos) (digA s (h.pos + 1))], n := h.n + 1 })
  else (true, { pos := h.pos + 2, out := h.out ++ [byteOf (digA s h.pos) (digA s (h.pos + 1))], last := byteOf (digA s h.pos) (digA s (h.pos + 1)), n := 1, closed := false })
def mayS (n left : Nat) : Bool := if n ≤ 4 then decide (0 < n ∧ 10 * n ≤ left) else decide (n ≤ left)
def isDec (c : UInt8) : Bool := decide (48 ≤ c.toNat ∧ c.toNat ≤ 57)
def cntG (s : List UInt8) (left : Nat) : Nat → Nat → Nat → Bool × Nat × Nat
  | 0, n, i => (true, n, i)
  | f + 1, n, i => match s[i]? with
    | none => (true, n, i)
    | some c => if isDec c then (if mayS (10 * n + (c.toNat - 48)) left then cntG s left f (10 * n + (c.toNat - 48)) (i + 1) else (false, n, i)) else (true, n, i)
def manyS (s : List UInt8) (h : HS) : Bool × HS :=
  if h.n ≠ 1 ∨ MF - h.out.length + 1 ≤ 4 then (false, h)
  else match cntG s (MF - h.out.length + 1) (s.length + 1) 0 (h.pos + 1) with
    | (ok, n, i) => if ok = true ∧ s[i]? = some 44 ∧ 4 < n then (true, { h with pos := i + 1, out := h.out ++ List.replicate (n - 1) h.last, closed := true }) else (false, { h with pos := i })
def unG (s : List UInt8) : Nat → HS → UR
  | 0, h => .bad h.pos
  | f + 1, h =>
    if (pairS s h).1 = false then .bad (pairS s h).2.pos
    else if s[(pairS s h).2.pos]? = some 42 then
      (if (manyS s (pairS s h).2).1 = false then .bad (manyS s (pairS s h).2).2.pos
      else if (manyS s (pairS s h).2).2.pos < s.length then unG s f (manyS s (pairS s h).2).2 else .ok (manyS s (pairS s h).2).2.out)
    else if (pairS s h).2.pos < s.length then unG s f (pairS s h).2 else .ok (pairS s h).2.out

/-! ### the reference's reader -/
def cntR (most : Nat) : List UInt8 → Nat → Nat → Nat × Nat × Bool
  | [], _, i => (0, i, false)
  | c :: t, n, i =>
    if c = 44 ∧ 5 ≤ n then (n, i + 1, true)
    else if isDec c = false ∨ n = 0 ∧ c = 48 then (0, i, false)
    else if most < n * 10 + (c.toNat - 48) ∨ n * 10 + (c.toNat - 48) < 5 ∧ most < (n * 10 + (c.toNat - 48)) * 10 then (0, i, false)
    else cntR most t (n * 10 + (c.toNat - 48)) (i + 1)
def unR (s : List UInt8) : Nat → Nat → List UInt8 → Nat → Bool → UR
  | 0, i, _, _, _ => .bad i
  | g + 1, i, b, run, closed => match s[i]? with
    | none => .ok b
    | some c =>
      if c = 42 ∧ run = 1 ∧ closed = false ∧ 4 ≤ MF - b.length then
        (match cntR (MF - b.length + 1) (s.drop (i + 1)) 0 0 with
        | (n, u, ok) => if ok = true then unR s g (i + 1 + u) (b ++ List.replicate (n - 1) (b.getLast?.getD 0)) run true else .bad (i + 1 + u))
      else if dg16 c < 0 ∨ MF ≤ b.length then .bad i
      else if digA s (i + 1) < 0 then .bad (i + 1)
      else if b.getLast? = some (byteOf (digA s i) (digA s (i + 1))) ∧ (closed = true ∨ run = 4) then .bad (i + 1)
      else unR s g (i + 2) (b ++ [byteOf (digA s i) (digA s (i + 1))]) (if b.getLast? = some (byteOf (digA s i) (digA s (i + 1))) then run + 1 else 1) false

/-! ### they are one -/
theorem cnt_eq (s : List UInt8) (left : Nat) : ∀ (f : Nat) (t : List UInt8) (n i u base : Nat), i = base + u → s.drop i = t → t.length < f →
    cntR left t n u = (if (cntG s left f n i).1 = true ∧ s[(cntG s left f n i).2.2]? = some 44 ∧ 4 < (cntG s left f n i).2.1
      then ((cntG s left f n i).2.1, (cntG s left f n i).2.2 - base + 1, true) else (0, (cntG s left f n i).2.2 - base, false)) ∧ i ≤ (cntG s left f n i).2.2 ∧ ((cntG s left f n i).2.1 ≤ left ∨ (cntG s left f n i).2.1 = n)
  | 0, t, _, _, _, _, _, _, h => by omega
  | f + 1, [], n, i, u, base, hi, hd, _ => by
    have hn : s[i]? = none := by
      have := congrArg List.length hd
      simp at this
      exact List.getElem?_eq_none_iff.2 (by omega)
    subst hi
    simp [cntR, cntG, hn]
  | f + 1, c :: t, n, i, u, base, hi, hd, hf => by
    have hn : s[i]? = some c := by
      have := congrArg (fun m => m[0]?) hd
      simpa using this
    have hd' : s.drop (i + 1) = t := by
      have := congrArg (fun m => m.drop 1) hd
      simpa using this
    have ih := cnt_eq s left f t (10 * n + (c.toNat - 48)) (i + 1) (u + 1) base (by omega) hd' (by simp at hf; omega)
    subst hi
    by_cases h44 : c = 44
    · subst h44
      have e1 : isDec 44 = false := by decide
      by_cases h5 : 5 ≤ n
      · have : 4 < n := h5
        simp [cntR, cntG, hn, e1, h5, this]
      · have : ¬ 4 < n := h5
        simp [cntR, cntG, hn, e1, h5, this]
    · by_cases hdc : isDec c = true
      · have h48 : (c = 48) = (c.toNat = 48) := by
          apply propext
          constructor
          · rintro rfl; rfl
          · intro e; exact UInt8.toNat_inj.1 e
        by_cases hz : n = 0 ∧ c = 48
        · have hz' := hz.2
          obtain ⟨rfl, rfl⟩ := hz
          simp [cntR, cntG, hn, hdc, mayS]
        · have hz2 : ¬ (n = 0 ∧ c.toNat = 48) := by rw [← h48]; exact hz
          have hge : 48 ≤ c.toNat ∧ c.toNat ≤ 57 := by simpa [isDec] using hdc
          by_cases hm : mayS (10 * n + (c.toNat - 48)) left = true
          · have hm2 : ¬ (left < n * 10 + (c.toNat - 48) ∨ n * 10 + (c.toNat - 48) < 5 ∧ left < (n * 10 + (c.toNat - 48)) * 10) := by
              unfold mayS at hm
              split at hm <;> simp at hm <;> omega
            have e1 : cntR left (c :: t) n u = cntR left t (10 * n + (c.toNat - 48)) (u + 1) := by
              rw [cntR, if_neg (fun h => h44 h.1), if_neg (by rintro (h | h); exact absurd hdc (by simp [h]); exact hz h), if_neg hm2]
              congr 1
              omega
            have e2 : cntG s left (f + 1) n (base + u) = cntG s left f (10 * n + (c.toNat - 48)) (base + u + 1) := by
              simp [cntG, hn, hdc, hm]
            rw [e1, e2]
            refine ⟨ih.1, by omega, .inl ?_⟩
            rcases ih.2.2 with h | h
            · exact h
            · rw [h]; omega
          · have hm2 : (left < n * 10 + (c.toNat - 48) ∨ n * 10 + (c.toNat - 48) < 5 ∧ left < (n * 10 + (c.toNat - 48)) * 10) := by
              unfold mayS at hm
              split at hm <;> simp at hm <;> omega
            have e1 : cntR left (c :: t) n u = (0, u, false) := by
              rw [cntR, if_neg (fun h => h44 h.1), if_neg (by rintro (h | h); exact absurd hdc (by simp [h]); exact hz h), if_pos hm2]
            have e2 : cntG s left (f + 1) n (base + u) = (false, n, base + u) := by
              simp [cntG, hn, hdc, hm]
            rw [e1, e2]
            simp
      · have hdc' : isDec c = false := by simpa using hdc
        simp [cntR, cntG, hn, hdc', h44]

structure HInv (s : List UInt8) (h : HS) : Prop where
  len : h.out.length ≤ MF
  n4 : h.n ≤ 4
  zero : h.n = 0 → h.out = []
  last : 0 < h.n → h.out.getLast? = some h.last

theorem same_eq {s : List UInt8} {h : HS} (hv : HInv s h) (x : UInt8) : (0 < h.n ∧ x = h.last) ↔ h.out.getLast? = some x := by
  constructor
  · rintro ⟨h0, rfl⟩; exact hv.last h0
  · intro e
    by_cases h0 : h.n = 0
    · rw [hv.zero h0] at e; simp at e
    · have := hv.last (by omega)
      rw [this] at e
      exact ⟨by omega, by simpa using e.symm⟩

theorem pairS_inv {s : List UInt8} {h : HS} (hv : HInv s h) (hp : (pairS s h).1 = true) : HInv s (pairS s h).2 ∧ (pairS s h).2.pos = h.pos + 2 ∧ 0 < (pairS s h).2.n ∧ (pairS s h).2.closed = false := by
  have hl := hv.len
  have hn := hv.n4
  unfold pairS at hp ⊢
  split at hp
  · simp at hp
  split at hp
  · simp at hp
  split at hp
  · simp at hp
  rename_i h1 h2 h3
  have hlt : h.out.length < MF := by omega
  split at hp
  · rename_i h4
    rw [if_neg h1, if_neg h2, if_neg h3, if_pos h4]
    refine ⟨⟨by simp; omega, ?_, by simp, fun _ => by simpa using h4.2⟩, rfl, by simp, ?_⟩
    · have : h.n ≠ 4 := fun e => h3 ⟨h4, .inr e⟩
      simp; omega
    · have : h.closed ≠ true := fun e => h3 ⟨h4, .inl e⟩
      simpa using this
  · rename_i h4
    rw [if_neg h1, if_neg h2, if_neg h3, if_neg h4]
    exact ⟨⟨by simp; omega, by simp, by simp, fun _ => by simp⟩, rfl, by simp, rfl⟩

theorem unR_pair {s : List UInt8} {h : HS} (hv : HInv s h) (g : Nat) (hpos : h.pos < s.length) (hst : s[h.pos]? = some 42 → ¬ (h.n = 1 ∧ h.closed = false ∧ 4 ≤ MF - h.out.length)) :
    unR s (g + 1) h.pos h.out h.n h.closed = if (pairS s h).1 = false then .bad (pairS s h).2.pos else unR s g (pairS s h).2.pos (pairS s h).2.out (pairS s h).2.n false := by
  obtain ⟨c, hc⟩ : ∃ c, s[h.pos]? = some c := ⟨_, List.getElem?_eq_getElem hpos⟩
  have hd : digA s h.pos = dg16 c := by simp [digA, hc]
  have hs := same_eq hv (byteOf (digA s h.pos) (digA s (h.pos + 1)))
  rw [unR]
  simp only [hc]
  rw [if_neg (fun e => hst (by rw [hc, e.1]) e.2)]
  unfold pairS
  rw [← hd]
  split
  · simp
  split
  · simp
  by_cases h3 : (0 < h.n ∧ byteOf (digA s h.pos) (digA s (h.pos + 1)) = h.last) ∧ (h.closed = true ∨ h.n = 4)
  · rw [if_pos h3, if_pos ⟨hs.1 h3.1, h3.2⟩]
    simp
  · rw [if_neg h3, if_neg (fun e => h3 ⟨hs.2 e.1, e.2⟩)]
    by_cases h4 : 0 < h.n ∧ byteOf (digA s h.pos) (digA s (h.pos + 1)) = h.last
    · rw [if_pos h4, if_pos (hs.1 h4)]
      simp
    · rw [if_neg h4, if_neg (fun e => h4 (hs.2 e))]
      simp

theorem unR_star {s : List UInt8} {i : Nat} (b : List UInt8) (run g : Nat) (h : s[i]? = some 42) :
    unR s (g + 1) i b run false = if run = 1 ∧ 4 ≤ MF - b.length then
      (if (cntR (MF - b.length + 1) (s.drop (i + 1)) 0 0).2.2 = true then
        unR s g (i + 1 + (cntR (MF - b.length + 1) (s.drop (i + 1)) 0 0).2.1) (b ++ List.replicate ((cntR (MF - b.length + 1) (s.drop (i + 1)) 0 0).1 - 1) (b.getLast?.getD 0)) run true
      else .bad (i + 1 + (cntR (MF - b.length + 1) (s.drop (i + 1)) 0 0).2.1)) else .bad i := by
  rw [unR]
  simp only [h]
  by_cases hc : run = 1 ∧ 4 ≤ MF - b.length
  · rw [if_pos ⟨trivial, hc.1, trivial, hc.2⟩, if_pos hc]
  · rw [if_neg (fun e => hc ⟨e.2.1, e.2.2.2⟩), if_neg hc, if_pos (.inl (by decide))]

theorem unG_eq (s : List UInt8) : ∀ (f g : Nat) (h : HS), HInv s h → h.pos < s.length → (s[h.pos]? = some 42 → ¬ (h.n = 1 ∧ h.closed = false ∧ 4 ≤ MF - h.out.length)) → s.length - h.pos < f → s.length - h.pos + 1 < g →
    unG s f h = unR s g h.pos h.out h.n h.closed
  | 0, _, h, _, hp, _, hf, _ => by omega
  | _ + 1, 0, h, _, hp, _, _, hg => by omega
  | _ + 1, 1, h, _, hp, _, _, hg => by omega
  | f + 1, g + 2, h, hv, hp, hst, hf, hg => by
    rw [unR_pair hv (g + 1) hp hst, unG]
    by_cases h1 : (pairS s h).1 = false
    · simp [h1]
    · have h1' : (pairS s h).1 = true := by simpa using h1
      obtain ⟨hv2, hpos2, hn2, hcl2⟩ := pairS_inv hv h1'
      rw [if_neg h1, if_neg h1]
      generalize pairS s h = r at *
      obtain ⟨ok, k⟩ := r
      simp only at *
      by_cases h42 : s[k.pos]? = some 42
      · rw [if_pos h42]
        have hlt : k.pos < s.length := by
          rcases Nat.lt_or_ge k.pos s.length with h' | h'
          · exact h'
          · rw [List.getElem?_eq_none_iff.2 h'] at h42; simp at h42
        rw [unR_star _ _ _ h42]
        by_cases hm : k.n ≠ 1 ∨ MF - k.out.length + 1 ≤ 4
        · have e1 : manyS s k = (false, k) := by unfold manyS; rw [if_pos hm]
          rw [e1]
          rw [if_pos rfl, if_neg (by rintro ⟨e2, e3⟩; omega)]
        · rw [if_pos (show k.n = 1 ∧ 4 ≤ MF - k.out.length from ⟨by omega, by omega⟩)]
          have hce := cnt_eq s (MF - k.out.length + 1) (s.length + 1) (s.drop (k.pos + 1)) 0 (k.pos + 1) 0 (k.pos + 1) (by omega) rfl (by simp; omega)
          have hcnt : cntR (MF - k.out.length + 1) (s.drop (k.pos + 1)) 0 0 = _ := hce.1
          have hle := hce.2.1
          have hlb := hce.2.2
          clear hce
          unfold manyS
          rw [if_neg hm, hcnt]
          generalize hr : cntG s (MF - k.out.length + 1) (s.length + 1) 0 (k.pos + 1) = r at *
          obtain ⟨okc, n, i⟩ := r
          simp only at *
          by_cases hg2 : okc = true ∧ s[i]? = some 44 ∧ 4 < n
          · rw [if_pos hg2, if_pos hg2]
            have hi : i < s.length := by
              rcases Nat.lt_or_ge i s.length with h' | h'
              · exact h'
              · rw [List.getElem?_eq_none_iff.2 h'] at hg2; simp at hg2
            have hlast : k.out.getLast?.getD 0 = k.last := by rw [hv2.last hn2]; rfl
            have hidx : k.pos + 1 + (i - (k.pos + 1) + 1) = i + 1 := by omega
            simp only [hlast, hidx, Bool.true_eq_false, if_false, if_true]
            have hlen3 : (k.out ++ List.replicate (n - 1) k.last).length ≤ MF := by
              have := hv2.len
              simp
              rcases hlb with h' | h' <;> omega
            by_cases hend : i + 1 < s.length
            · rw [if_pos hend]
              exact unG_eq s f g { k with pos := i + 1, out := k.out ++ List.replicate (n - 1) k.last, closed := true } ⟨hlen3, hv2.n4, fun e => by simp only at e; omega, fun _ => by
                simp only [List.getLast?_append, List.getLast?_replicate]
                rw [if_neg (by omega)]
                rfl⟩ hend (fun _ e => by simp at e) (by simp only; omega) (by simp only; omega)
            · rw [if_neg hend]
              obtain ⟨g', rfl⟩ : ∃ g', g = g' + 1 := ⟨g - 1, by omega⟩
              rw [unR, List.getElem?_eq_none_iff.2 (by omega)]
          · rw [if_neg hg2, if_neg hg2]
            have hidx : k.pos + 1 + (i - (k.pos + 1)) = i := by omega
            simp [hidx]
      · rw [if_neg h42]
        by_cases hend : k.pos < s.length
        · rw [if_pos hend, ← hcl2]
          exact unG_eq s f (g + 1) k hv2 hend (fun e => absurd e h42) (by omega) (by omega)
        · rw [if_neg hend, unR, List.getElem?_eq_none_iff.2 (by omega)]

end Go.Proofs.YtopfbbnpbobhaaaDoor
