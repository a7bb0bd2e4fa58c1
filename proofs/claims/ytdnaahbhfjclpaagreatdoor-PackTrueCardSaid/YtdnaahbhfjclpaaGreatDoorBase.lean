/- Words for memory that the walks of this claim use: what a call keeps, a block that is known whole, a slice that reads as bytes, a map with int keys as a row of entries. -/
import Derived.WalkKit
import Derived.WalkSpells
import Derived.Deep.AppendLies
import Derived.Maps.AppendAt
import Derived.Deep.Draws
import Derived.RegionTactic
import Derived.OwnWalk
set_option linter.unusedVariables false
set_option linter.unusedSimpArgs false
namespace Go.Pck
def poly : Nat := 2197175160
def stepR (r : Nat) : Nat := if r % 2 = 1 then (r / 2) ^^^ poly else r / 2
def stepN : Nat → Nat → Nat
  | 0, r => r
  | n + 1, r => stepN n (stepR r)
def entry (b : Nat) : Nat := stepN 8 b
def inR (r b : Nat) : Nat := (r / 256) ^^^ entry ((r % 256) ^^^ b)
def crcF (r : Nat) (l : List Nat) : Nat := l.foldl inR r
def not32 (r : Nat) : Nat := 4294967295 - r
def crcA (s : Nat) (l : List Nat) : Nat := not32 (crcF (not32 s) l)
theorem xor_lt {a b : Nat} (ha : a < 4294967296) (hb : b < 4294967296) : a ^^^ b < 4294967296 := Nat.xor_lt_two_pow (n := 32) ha hb
theorem poly_lt : poly < 4294967296 := by decide
theorem stepR_lt {r : Nat} (h : r < 4294967296) : stepR r < 4294967296 := by
  unfold stepR
  split
  · exact xor_lt (by omega) poly_lt
  · omega
theorem stepN_lt : ∀ (n r : Nat), r < 4294967296 → stepN n r < 4294967296
  | 0, r, h => h
  | n + 1, r, h => stepN_lt n _ (stepR_lt h)
theorem entry_lt {b : Nat} (h : b < 256) : entry b < 4294967296 := stepN_lt 8 b (by omega)
theorem xor8_lt {a b : Nat} (ha : a < 256) (hb : b < 256) : a ^^^ b < 256 := Nat.xor_lt_two_pow (n := 8) ha hb
theorem inR_lt {r b : Nat} (h : r < 4294967296) (hb : b < 256) : inR r b < 4294967296 := xor_lt (by omega) (entry_lt (xor8_lt (by omega) hb))
theorem not_lt (r : Nat) : not32 r < 4294967296 := by unfold not32; omega
end Go.Pck

namespace Go.Pck
def rr (x n : Nat) : Nat := (x / 2 ^ n) ||| (x * 2 ^ (32 - n) % 4294967296)
def a32 (a b : Nat) : Nat := (a + b) % 4294967296
def sg0 (a : Nat) : Nat := (rr a 7 ^^^ rr a 18) ^^^ (a / 8)
def sg1 (b : Nat) : Nat := (rr b 17 ^^^ rr b 19) ^^^ (b / 1024)
def wNext (w : List Nat) (i : Nat) : Nat := a32 (a32 (a32 (w.getD (i - 16) 0) (sg0 (w.getD (i - 15) 0))) (w.getD (i - 7) 0)) (sg1 (w.getD (i - 2) 0))
def schF : Nat → List Nat → List Nat
  | 0, w => w
  | n + 1, w => schF n (w ++ [wNext w w.length])
def be32 (l : List Nat) : Nat := ((l.getD 0 0 * 256 + l.getD 1 0) * 256 + l.getD 2 0) * 256 + l.getD 3 0
def words (b : List Nat) : List Nat := (List.range 16).map fun i => be32 (b.drop (4 * i))
def sched (b : List Nat) : List Nat := schF 48 (words b)
def kTab : List Nat := [0x428a2f98, 0x71374491, 0xb5c0fbcf, 0xe9b5dba5, 0x3956c25b, 0x59f111f1, 0x923f82a4, 0xab1c5ed5,
  0xd807aa98, 0x12835b01, 0x243185be, 0x550c7dc3, 0x72be5d74, 0x80deb1fe, 0x9bdc06a7, 0xc19bf174,
  0xe49b69c1, 0xefbe4786, 0x0fc19dc6, 0x240ca1cc, 0x2de92c6f, 0x4a7484aa, 0x5cb0a9dc, 0x76f988da,
  0x983e5152, 0xa831c66d, 0xb00327c8, 0xbf597fc7, 0xc6e00bf3, 0xd5a79147, 0x06ca6351, 0x14292967,
  0x27b70a85, 0x2e1b2138, 0x4d2c6dfc, 0x53380d13, 0x650a7354, 0x766a0abb, 0x81c2c92e, 0x92722c85,
  0xa2bfe8a1, 0xa81a664b, 0xc24b8b70, 0xc76c51a3, 0xd192e819, 0xd6990624, 0xf40e3585, 0x106aa070,
  0x19a4c116, 0x1e376c08, 0x2748774c, 0x34b0bcb5, 0x391c0cb3, 0x4ed8aa4a, 0x5b9cca4f, 0x682e6ff3,
  0x748f82ee, 0x78a5636f, 0x84c87814, 0x8cc70208, 0x90befffa, 0xa4506ceb, 0xbef9a3f7, 0xc67178f2]
def start8 : List Nat := [0x6a09e667, 0xbb67ae85, 0x3c6ef372, 0xa54ff53a, 0x510e527f, 0x9b05688c, 0x1f83d9ab, 0x5be0cd19]
def n32 (x : Nat) : Nat := 4294967295 - x
def bs1 (e : Nat) : Nat := (rr e 6 ^^^ rr e 11) ^^^ rr e 25
def bs0 (a : Nat) : Nat := (rr a 2 ^^^ rr a 13) ^^^ rr a 22
def chF (e f g : Nat) : Nat := (e &&& f) ^^^ (n32 e &&& g)
def mjF (a b c : Nat) : Nat := ((a &&& b) ^^^ (a &&& c)) ^^^ (b &&& c)
def tt1 (s : List Nat) (k w : Nat) : Nat := a32 (a32 (a32 (a32 (s.getD 7 0) (bs1 (s.getD 4 0))) (chF (s.getD 4 0) (s.getD 5 0) (s.getD 6 0))) k) w
def tt2 (s : List Nat) : Nat := a32 (bs0 (s.getD 0 0)) (mjF (s.getD 0 0) (s.getD 1 0) (s.getD 2 0))
def rnd (s : List Nat) (k w : Nat) : List Nat := [a32 (tt1 s k w) (tt2 s), s.getD 0 0, s.getD 1 0, s.getD 2 0, a32 (s.getD 3 0) (tt1 s k w), s.getD 4 0, s.getD 5 0, s.getD 6 0]
def rnds (w : List Nat) (s : List Nat) : Nat → List Nat
  | 0 => s
  | i + 1 => rnd (rnds w s i) (kTab.getD i 0) (w.getD i 0)
def addL (a b : List Nat) : List Nat := (List.range 8).map fun i => a32 (a.getD i 0) (b.getD i 0)
def stepS (s b : List Nat) : List Nat := addL (rnds (sched b) s 64) s
def takF : Nat → List Nat → List Nat → List Nat × List Nat
  | 0, s, l => (s, l)
  | f + 1, s, l => if 64 ≤ l.length then takF f (stepS s (l.take 64)) (l.drop 64) else (s, l)
def tak (s l : List Nat) : List Nat × List Nat := takF (l.length + 1) s l
def be4 (x : Nat) : List Nat := [x / 16777216 % 256, x / 65536 % 256, x / 256 % 256, x % 256]
def be8 (x : Nat) : List Nat := [x / 72057594037927936 % 256, x / 281474976710656 % 256, x / 1099511627776 % 256, x / 4294967296 % 256, x / 16777216 % 256, x / 65536 % 256, x / 256 % 256, x % 256]
def padB (n : Nat) : List Nat := 128 :: (List.replicate ((119 - n % 64) % 64) 0 ++ be8 (n * 8))
def digB (s : List Nat) : List Nat := s.flatMap be4
def shaP (b : List Nat) : List Nat := digB (tak start8 (b ++ padB b.length)).1
theorem or_lt {a b : Nat} (ha : a < 4294967296) (hb : b < 4294967296) : a ||| b < 4294967296 := Nat.or_lt_two_pow (n := 32) ha hb
theorem and_lt {a b : Nat} (ha : a < 4294967296) : a &&& b < 4294967296 := Nat.lt_of_le_of_lt Nat.and_le_left ha
theorem a32_lt (a b : Nat) : a32 a b < 4294967296 := Nat.mod_lt _ (by omega)
theorem rr_lt {x : Nat} (h : x < 4294967296) (n : Nat) : rr x n < 4294967296 := or_lt (Nat.lt_of_le_of_lt (Nat.div_le_self _ _) h) (Nat.mod_lt _ (by omega))
theorem sg0_lt {x : Nat} (h : x < 4294967296) : sg0 x < 4294967296 := xor_lt (xor_lt (rr_lt h _) (rr_lt h _)) (by omega)
theorem sg1_lt {x : Nat} (h : x < 4294967296) : sg1 x < 4294967296 := xor_lt (xor_lt (rr_lt h _) (rr_lt h _)) (by omega)
theorem n32_lt (x : Nat) : n32 x < 4294967296 := by unfold n32; omega
def w32 (l : List Nat) : Prop := ∀ x ∈ l, x < 4294967296
theorem w32_get {l : List Nat} (h : w32 l) (i : Nat) : l.getD i 0 < 4294967296 := by
  rw [List.getD_eq_getElem?_getD]
  cases hi : l[i]? with
  | none => simp
  | some x => exact h x (List.mem_of_getElem? hi)
theorem rnd_w (s : List Nat) (k w : Nat) (h : w32 s) : w32 (rnd s k w) := by
  intro x hx
  unfold rnd at hx
  simp only [List.mem_cons, List.not_mem_nil, or_false] at hx
  rcases hx with rfl | rfl | rfl | rfl | rfl | rfl | rfl | rfl
  · exact a32_lt _ _
  · exact w32_get h _
  · exact w32_get h _
  · exact w32_get h _
  · exact a32_lt _ _
  · exact w32_get h _
  · exact w32_get h _
  · exact w32_get h _
theorem rnds_w (w s : List Nat) (h : w32 s) : ∀ i, w32 (rnds w s i)
  | 0 => h
  | i + 1 => rnd_w _ _ _ (rnds_w w s h i)
theorem rnds_len (w s : List Nat) (h : s.length = 8) : ∀ i, (rnds w s i).length = 8
  | 0 => h
  | i + 1 => rfl
theorem addL_w (a b : List Nat) : w32 (addL a b) := fun x hx => by
  unfold addL at hx
  simp only [List.mem_map] at hx
  obtain ⟨i, _, rfl⟩ := hx
  exact a32_lt _ _
theorem addL_len (a b : List Nat) : (addL a b).length = 8 := by simp [addL]
theorem schF_len : ∀ (n : Nat) (w : List Nat), (schF n w).length = w.length + n
  | 0, w => rfl
  | n + 1, w => by rw [schF, schF_len n, List.length_append]; simp; omega
theorem words_len (b : List Nat) : (words b).length = 16 := by simp [words]
theorem sched_len (b : List Nat) : (sched b).length = 64 := by unfold sched; rw [schF_len, words_len]
theorem be32_lt {l : List Nat} (h : ∀ x ∈ l, x < 256) : be32 l < 4294967296 := by
  have hg : ∀ i, l.getD i 0 < 256 := fun i => by
    rw [List.getD_eq_getElem?_getD]
    cases hi : l[i]? with
    | none => simp
    | some x => exact h x (List.mem_of_getElem? hi)
  unfold be32
  have h0 := hg 0
  have h1 := hg 1
  have h2 := hg 2
  have h3 := hg 3
  omega
theorem words_w {b : List Nat} (h : ∀ x ∈ b, x < 256) : w32 (words b) := fun x hx => by
  unfold words at hx
  simp only [List.mem_map] at hx
  obtain ⟨i, _, rfl⟩ := hx
  exact be32_lt (fun y hy => h y (List.mem_of_mem_drop hy))
theorem schF_w : ∀ (n : Nat) (w : List Nat), w32 w → w32 (schF n w)
  | 0, w, h => h
  | n + 1, w, h => schF_w n _ (fun x hx => by
    rcases List.mem_append.1 hx with hx | hx
    · exact h x hx
    · rw [List.mem_singleton.1 hx]
      exact a32_lt _ _)
theorem sched_w {b : List Nat} (h : ∀ x ∈ b, x < 256) : w32 (sched b) := schF_w 48 _ (words_w h)
theorem stepS_w (s b : List Nat) : w32 (stepS s b) := addL_w _ _
theorem stepS_len (s b : List Nat) : (stepS s b).length = 8 := addL_len _ _
theorem start_w : w32 start8 := by unfold w32 start8; decide
theorem takF_ok : ∀ (f : Nat) (s l : List Nat), w32 s → s.length = 8 → w32 (takF f s l).1 ∧ (takF f s l).1.length = 8
  | 0, s, l, h1, h2 => ⟨h1, h2⟩
  | f + 1, s, l, h1, h2 => by
    rw [takF]
    split
    · exact takF_ok f _ _ (stepS_w _ _) (stepS_len _ _)
    · exact ⟨h1, h2⟩
theorem tak_ok {s l : List Nat} (h1 : w32 s) (h2 : s.length = 8) : w32 (tak s l).1 ∧ (tak s l).1.length = 8 := takF_ok _ _ _ h1 h2
theorem takF_more : ∀ (f g : Nat) (s l : List Nat), l.length < f → l.length < g → takF f s l = takF g s l
  | 0, _, _, _, h, _ => by omega
  | _ + 1, 0, _, _, _, h => by omega
  | f + 1, g + 1, s, l, hf, hg => by
    rw [takF, takF]
    split
    · exact takF_more f g _ _ (by rw [List.length_drop]; omega) (by rw [List.length_drop]; omega)
    · rfl
theorem tak_go {s l : List Nat} (h : 64 ≤ l.length) : tak s l = tak (stepS s (l.take 64)) (l.drop 64) := by
  unfold tak
  rw [takF, if_pos h]
  exact takF_more _ _ _ _ (by rw [List.length_drop]; omega) (by omega)
theorem tak_end {s l : List Nat} (h : l.length < 64) : tak s l = (s, l) := by
  unfold tak
  rw [takF, if_neg (by omega)]
theorem tak_app : ∀ (n : Nat) (s l r : List Nat), l.length ≤ n → tak (tak s l).1 ((tak s l).2 ++ r) = tak s (l ++ r) := by
  intro n
  induction n with
  | zero =>
    intro s l r h
    rw [tak_end (l := l) (by omega)]
  | succ n ih =>
    intro s l r h
    by_cases h64 : 64 ≤ l.length
    · have e1 : (l ++ r).take 64 = l.take 64 := List.take_append_of_le_length h64
      have e2 : (l ++ r).drop 64 = l.drop 64 ++ r := List.drop_append_of_le_length h64
      rw [tak_go h64, tak_go (l := l ++ r) (by rw [List.length_append]; omega), e1, e2]
      exact ih _ _ _ (by rw [List.length_drop]; omega)
    · rw [tak_end (l := l) (by omega)]
theorem tak_rest : ∀ (n : Nat) (s l : List Nat), l.length ≤ n → (tak s l).2.length < 64 ∧ ∀ x ∈ (tak s l).2, x ∈ l := by
  intro n
  induction n with
  | zero =>
    intro s l h
    rw [tak_end (l := l) (by omega)]
    exact ⟨by simp; omega, fun x hx => hx⟩
  | succ n ih =>
    intro s l h
    by_cases h64 : 64 ≤ l.length
    · rw [tak_go h64]
      obtain ⟨i1, i2⟩ := ih (stepS s (l.take 64)) (l.drop 64) (by rw [List.length_drop]; omega)
      exact ⟨i1, fun x hx => List.mem_of_mem_drop (i2 x hx)⟩
    · rw [tak_end (l := l) (by omega)]
      exact ⟨by simp; omega, fun x hx => hx⟩
theorem be4_lt (x : Nat) : ∀ y ∈ be4 x, y < 256 := by
  intro y hy
  simp only [be4, List.mem_cons, List.not_mem_nil, or_false] at hy
  rcases hy with rfl | rfl | rfl | rfl <;> exact Nat.mod_lt _ (by omega)
theorem digB_lt (s : List Nat) : ∀ y ∈ digB s, y < 256 := by
  intro y hy
  unfold digB at hy
  obtain ⟨x, _, hx⟩ := List.mem_flatMap.1 hy
  exact be4_lt x y hx
theorem digB_len : ∀ s : List Nat, (digB s).length = 4 * s.length
  | [] => rfl
  | x :: s => by
    have := digB_len s
    unfold digB at this ⊢
    rw [List.flatMap_cons, List.length_append, this]
    simp [be4]
    omega
theorem shaP_lt (b : List Nat) : ∀ y ∈ shaP b, y < 256 := digB_lt _
theorem shaP_len (b : List Nat) : (shaP b).length = 32 := by
  unfold shaP
  rw [digB_len, (tak_ok start_w rfl).2]
def turn1 (x : Nat) : Nat := x / 2 + 2147483648 * (x % 2)
theorem turn1_eq (x : Nat) : turn1 x = x / 2 + 2147483648 * (x % 2) := rfl
def rrI : Nat → Nat → Nat
  | 0, x => x
  | n + 1, x => rrI n (turn1 x)
def mvI : Nat → Nat → Nat
  | 0, x => x
  | n + 1, x => mvI n (x / 2)
theorem mvI_eq : ∀ n x, mvI n x = x / 2 ^ n
  | 0, x => by simp [mvI]
  | n + 1, x => by rw [mvI, mvI_eq n, Nat.div_div_eq_div_mul, Nat.pow_succ, Nat.mul_comm]
theorem rrI_last : ∀ n x, rrI (n + 1) x = turn1 (rrI n x)
  | 0, x => by simp only [rrI]
  | n + 1, x => by rw [rrI, rrI_last n, rrI]
theorem rrI_eq : ∀ n x, n ≤ 31 → x < 4294967296 → rrI n x = x / 2 ^ n + (x % 2 ^ n) * 2 ^ (32 - n)
  | 0, x, _, _ => by simp [rrI, Nat.mod_one]
  | n + 1, x, hn, hx => by
    rw [rrI_last, rrI_eq n x (by omega) hx, turn1_eq]
    obtain ⟨R, hR⟩ : ∃ R, R = 2 ^ (31 - n) := ⟨_, rfl⟩
    have h1 : 2 ^ (32 - n) = 2 * R := by rw [hR, ← Nat.pow_succ', show (31 - n).succ = 32 - n by omega]
    have h2 : 2 ^ n * R = 2147483648 := by rw [hR, ← Nat.pow_add, show n + (31 - n) = 31 by omega]
    have h3 : 2 ^ (32 - (n + 1)) = R := by rw [hR, show 32 - (n + 1) = 31 - n by omega]
    have h4 : x % 2 ^ (n + 1) = x % 2 ^ n + 2 ^ n * (x / 2 ^ n % 2) := by rw [Nat.pow_succ, Nat.mod_mul]
    have h5 : x / 2 ^ (n + 1) = x / 2 ^ n / 2 := by rw [Nat.pow_succ, Nat.div_div_eq_div_mul]
    rw [h1, h3, h4, h5]
    obtain ⟨q, hq⟩ : ∃ q, q = x / 2 ^ n := ⟨_, rfl⟩
    obtain ⟨m, hm⟩ : ∃ m, m = x % 2 ^ n := ⟨_, rfl⟩
    rw [← hq, ← hm]
    have h6 : m * (2 * R) = 2 * (m * R) := by rw [Nat.mul_left_comm]
    have h7 : (m + 2 ^ n * (q % 2)) * R = m * R + (q % 2) * 2147483648 := by
      rw [Nat.add_mul, Nat.mul_comm (2 ^ n) (q % 2), Nat.mul_assoc, h2]
    rw [h6, h7]
    omega
theorem rr_eq {n x : Nat} (hn : n ≤ 31) (hx : x < 4294967296) : rr x n = rrI n x := by
  rw [rrI_eq n x hn hx]
  unfold rr
  have h1 : (4294967296 : Nat) = 2 ^ n * 2 ^ (32 - n) := by rw [← Nat.pow_add, show n + (32 - n) = 32 by omega]
  have h2 : x * 2 ^ (32 - n) % 4294967296 = (x % 2 ^ n) * 2 ^ (32 - n) := by
    conv => lhs; rw [h1]
    exact Nat.mul_mod_mul_right _ _ _
  have h3 : x / 2 ^ n < 2 ^ (32 - n) := by
    rw [Nat.div_lt_iff_lt_mul (Nat.pow_pos (by omega)), Nat.mul_comm, ← h1]
    exact hx
  have h4 := Nat.two_pow_add_eq_or_of_lt h3 (x % 2 ^ n)
  rw [h2, Nat.or_comm, Nat.mul_comm (x % 2 ^ n), ← h4, Nat.add_comm]
end Go.Pck

namespace Go.Huf
def wt (l : List (Int × Int)) (i : Nat) : Int := (l.getD i (0, -1)).1
def up1 (l : List (Int × Int)) (i : Nat) : Int := (l.getD i (0, -1)).2
def scanK (l : List (Int × Int)) (free : List Nat) : Nat → Nat
  | 0 => 0
  | j + 1 => if wt l (free.getD j 0) < wt l (free.getD (scanK l free j) 0) then j else scanK l free j
def leastK (l : List (Int × Int)) (free : List Nat) : Nat := scanK l free free.length
theorem scanK_lt (l : List (Int × Int)) (free : List Nat) : ∀ j, 0 < j → scanK l free j < j
  | 0, h => by omega
  | 1, _ => by simp [scanK]
  | j + 2, _ => by
    have ih := scanK_lt l free (j + 1) (by omega)
    rw [scanK]
    split <;> omega
theorem scanK_le (l : List (Int × Int)) (free : List Nat) : ∀ j i, i < j → wt l (free.getD (scanK l free j) 0) ≤ wt l (free.getD i 0)
  | 0, i, h => by omega
  | j + 1, i, h => by
    rw [scanK]
    rcases Nat.lt_succ_iff_lt_or_eq.1 h with h1 | rfl
    · have ih := scanK_le l free j i h1
      split <;> omega
    · split <;> omega
theorem leastK_lt {l : List (Int × Int)} {free : List Nat} (h : 0 < free.length) : leastK l free < free.length := scanK_lt l free _ h
theorem leastK_le {l : List (Int × Int)} {free : List Nat} {i : Nat} (h : i < free.length) : wt l (free.getD (leastK l free) 0) ≤ wt l (free.getD i 0) := scanK_le l free _ i h
def link (l : List (Int × Int)) (i : Nat) (t : Int) : List (Int × Int) := l.set i (wt l i, t)
theorem link_len {l : List (Int × Int)} {i : Nat} {t : Int} : (link l i t).length = l.length := by simp [link]
theorem link_wt {l : List (Int × Int)} {i : Nat} {t : Int} (j : Nat) : wt (link l i t) j = wt l j := by
  unfold link
  by_cases hij : i = j
  · subst hij
    unfold wt
    rcases Nat.lt_or_ge i l.length with h | h
    · simp [List.getD, h]
    · simp [List.getD, h]
  · unfold wt
    simp [List.getD, List.getElem?_set_ne hij]
theorem link_up {l : List (Int × Int)} {i : Nat} {t : Int} (j : Nat) (h : i < l.length) : up1 (link l i t) j = if j = i then t else up1 l j := by
  unfold link up1
  by_cases hij : i = j
  · subst hij
    simp [List.getD, h]
  · rw [if_neg (fun e => hij e.symm)]
    simp [List.getD, List.getElem?_set_ne hij]
def treeStep (s : List (Int × Int) × List Nat) : List (Int × Int) × List Nat :=
  let k1 := leastK s.1 s.2
  let a := s.2.getD k1 0
  let f1 := s.2.eraseIdx k1
  let k2 := leastK s.1 f1
  let b := f1.getD k2 0
  let f2 := f1.eraseIdx k2
  (link (link (s.1 ++ [(wt s.1 a + wt s.1 b, -1)]) a s.1.length) b s.1.length, f2 ++ [s.1.length])
def treeF : Nat → List (Int × Int) × List Nat → List (Int × Int) × List Nat
  | 0, s => s
  | n + 1, s => if 1 < s.2.length then treeF n (treeStep s) else s
def nodes0 (cs : List Int) : List (Int × Int) := (cs.filter (fun n => decide (0 < n))).map (fun n => (n, -1))
def tree (cs : List Int) : List (Int × Int) := (treeF (nodes0 cs).length (nodes0 cs, List.range (nodes0 cs).length)).1
theorem treeStep_free {s : List (Int × Int) × List Nat} (h : 1 < s.2.length) : (treeStep s).2.length + 1 = s.2.length := by
  have h1 := leastK_lt (l := s.1) (free := s.2) (by omega)
  have h2 : (s.2.eraseIdx (leastK s.1 s.2)).length = s.2.length - 1 := by rw [List.length_eraseIdx]; simp [h1]
  have h3 := leastK_lt (l := s.1) (free := s.2.eraseIdx (leastK s.1 s.2)) (by omega)
  unfold treeStep
  simp only [List.length_append, List.length_singleton]
  rw [List.length_eraseIdx, if_pos h3, h2]
  omega
theorem treeStep_len (s : List (Int × Int) × List Nat) : (treeStep s).1.length = s.1.length + 1 := by
  unfold treeStep
  simp only [link_len, List.length_append, List.length_singleton]
def fib : Nat → Int
  | 0 => 1
  | 1 => 2
  | n + 2 => fib (n + 1) + fib n
theorem fib_pos : ∀ n, 1 ≤ fib n
  | 0 => by simp [fib]
  | 1 => by simp [fib]
  | n + 2 => by have := fib_pos (n + 1); have := fib_pos n; rw [fib]; omega
theorem fib_mono1 : ∀ n, fib n ≤ fib (n + 1)
  | 0 => by simp [fib]
  | n + 1 => by have := fib_pos n; rw [fib]; omega
theorem fib_mono {m n : Nat} (h : m ≤ n) : fib m ≤ fib n := by
  induction h with
  | refl => exact Int.le_refl _
  | step _ ih => exact Int.le_trans ih (fib_mono1 _)
theorem fib_succ (h : Nat) : fib (h + 1) ≤ fib h + fib (h - 1) := by
  cases h with
  | zero => simp [fib]
  | succ n => rw [fib]; simp
structure TI (l : List (Int × Int)) (free : List Nat) (h : Nat → Nat) (p tot : Int) : Prop where
  frl : ∀ v ∈ free, v < l.length ∧ up1 l v = -1
  nod : free.Pairwise (· < ·)
  ups : ∀ i, i < l.length → up1 l i = -1 ∧ i ∈ free ∨ ∃ t : Nat, up1 l i = t ∧ i < t ∧ t < l.length ∧ h i < h t
  wts : ∀ i, i < l.length → fib (h i) ≤ wt l i
  low : ∀ v ∈ free, p ≤ wt l v ∧ (h v = 0 ∨ ∃ c : Int, c ≤ p ∧ fib (h v - 1) ≤ c)
  tots : (free.map (wt l)).sum = tot
  pos : 0 ≤ p
theorem sum_erase {l : List (Int × Int)} : ∀ (f : List Nat) (k : Nat), k < f.length → (f.map (wt l)).sum = wt l (f.getD k 0) + ((f.eraseIdx k).map (wt l)).sum
  | [], k, h => by simp at h
  | x :: f, 0, _ => by simp
  | x :: f, k + 1, h => by
    have ih := sum_erase (l := l) f k (by simpa using h)
    simp only [List.map_cons, List.sum_cons, List.eraseIdx_cons_succ, List.getD_cons_succ]
    rw [ih]
    omega
theorem mem_eraseIdx_ne {f : List Nat} (hn : f.Pairwise (· < ·)) {k v : Nat} (hk : k < f.length) (hv : v ∈ f.eraseIdx k) : v ∈ f ∧ v ≠ f.getD k 0 := by
  have h1 : v ∈ f := (List.eraseIdx_sublist f k).mem hv
  refine ⟨h1, ?_⟩
  rw [List.mem_iff_getElem] at hv
  obtain ⟨j, hj, rfl⟩ := hv
  rw [List.length_eraseIdx, if_pos hk] at hj
  rw [List.getElem_eraseIdx]
  have hg : f.getD k 0 = f[k] := by simp [List.getD, hk]
  rw [hg]
  have hp := List.pairwise_iff_getElem.1 hn
  split
  · rename_i h2
    have := hp j k (by omega) hk h2
    omega
  · have := hp k (j + 1) hk (by omega) (by omega)
    omega
theorem mem_of_ne {f : List Nat} {k v : Nat} (hk : k < f.length) (hv : v ∈ f) (hne : v ≠ f.getD k 0) : v ∈ f.eraseIdx k := by
  rw [List.mem_iff_getElem] at hv
  obtain ⟨j, hj, rfl⟩ := hv
  have hg : f.getD k 0 = f[k] := by simp [List.getD, hk]
  rw [hg] at hne
  have hl : (f.eraseIdx k).length = f.length - 1 := by rw [List.length_eraseIdx, if_pos hk]
  rcases Nat.lt_trichotomy j k with h | h | h
  · exact List.mem_iff_getElem.2 ⟨j, by omega, by rw [List.getElem_eraseIdx, dif_pos h]⟩
  · subst h; exact absurd rfl hne
  · refine List.mem_iff_getElem.2 ⟨j - 1, by omega, ?_⟩
    rw [List.getElem_eraseIdx, dif_neg (by omega)]
    congr 1
    omega
theorem getD_mem {f : List Nat} {k : Nat} (h : k < f.length) : f.getD k 0 ∈ f := by
  have : f.getD k 0 = f[k] := by simp [List.getD, h]
  rw [this]; exact List.getElem_mem h
theorem wt_app {l : List (Int × Int)} {x : Int × Int} {i : Nat} (h : i < l.length) : wt (l ++ [x]) i = wt l i := by
  unfold wt; simp [List.getD, List.getElem?_append_left h]
theorem wt_last {l : List (Int × Int)} {x : Int × Int} : wt (l ++ [x]) l.length = x.1 := by
  unfold wt; simp [List.getD]
theorem up_app {l : List (Int × Int)} {x : Int × Int} {i : Nat} (h : i < l.length) : up1 (l ++ [x]) i = up1 l i := by
  unfold up1; simp [List.getD, List.getElem?_append_left h]
theorem up_last {l : List (Int × Int)} {x : Int × Int} : up1 (l ++ [x]) l.length = x.2 := by
  unfold up1; simp [List.getD]
theorem TI.step {l : List (Int × Int)} {free : List Nat} {h : Nat → Nat} {p tot : Int} (hI : TI l free h p tot) (hf : 1 < free.length) :
    ∃ h' p', TI (treeStep (l, free)).1 (treeStep (l, free)).2 h' p' tot := by
  obtain ⟨k1, hk1⟩ : ∃ k1, k1 = leastK l free := ⟨_, rfl⟩
  obtain ⟨a, ha⟩ : ∃ a, a = free.getD k1 0 := ⟨_, rfl⟩
  obtain ⟨f1, hf1⟩ : ∃ f1, f1 = free.eraseIdx k1 := ⟨_, rfl⟩
  obtain ⟨k2, hk2⟩ : ∃ k2, k2 = leastK l f1 := ⟨_, rfl⟩
  obtain ⟨b, hb⟩ : ∃ b, b = f1.getD k2 0 := ⟨_, rfl⟩
  obtain ⟨f2, hf2⟩ : ∃ f2, f2 = f1.eraseIdx k2 := ⟨_, rfl⟩
  have hst : treeStep (l, free) = (link (link (l ++ [(wt l a + wt l b, -1)]) a l.length) b l.length, f2 ++ [l.length]) := by
    unfold treeStep
    simp only [← hk1, ← ha, ← hf1, ← hk2, ← hb, ← hf2]
  have h1 : k1 < free.length := by rw [hk1]; exact leastK_lt (by omega)
  have hl1 : f1.length = free.length - 1 := by rw [hf1, List.length_eraseIdx, if_pos h1]
  have h2 : k2 < f1.length := by rw [hk2]; exact leastK_lt (by omega)
  have hn1 : f1.Pairwise (· < ·) := by rw [hf1]; exact hI.nod.sublist (List.eraseIdx_sublist _ _)
  have hn2 : f2.Pairwise (· < ·) := by rw [hf2]; exact hn1.sublist (List.eraseIdx_sublist _ _)
  have am : a ∈ free := by rw [ha]; exact getD_mem h1
  have bm1 : b ∈ f1 := by rw [hb]; exact getD_mem h2
  obtain ⟨bm, hba⟩ : b ∈ free ∧ b ≠ a := by rw [ha]; rw [hf1] at bm1; exact mem_eraseIdx_ne hI.nod h1 bm1
  obtain ⟨al, au⟩ := hI.frl a am
  obtain ⟨bl, bu⟩ := hI.frl b bm
  have hab : wt l a ≤ wt l b := by
    have hbm := bm
    rw [List.mem_iff_getElem] at hbm
    obtain ⟨j, hj, e⟩ := hbm
    have := leastK_le (l := l) (free := free) hj
    rw [← hk1, ← ha] at this
    rw [show free.getD j 0 = b by rw [← e]; simp [List.getD, hj]] at this
    exact this
  have hf2m : ∀ v ∈ f2, v ∈ free ∧ v ≠ a ∧ v ≠ b ∧ wt l b ≤ wt l v := fun v hv => by
    rw [hf2] at hv
    obtain ⟨x1, x2⟩ := mem_eraseIdx_ne hn1 h2 hv
    have x1' := x1
    rw [hf1] at x1'
    obtain ⟨x3, x4⟩ := mem_eraseIdx_ne hI.nod h1 x1'
    refine ⟨x3, by rw [ha]; exact x4, by rw [hb]; exact x2, ?_⟩
    rw [List.mem_iff_getElem] at x1
    obtain ⟨j, hj, e⟩ := x1
    have := leastK_le (l := l) (free := f1) hj
    rw [← hk2, ← hb] at this
    rw [show f1.getD j 0 = v by rw [← e]; simp [List.getD, hj]] at this
    exact this
  have hwl : ∀ i, i < l.length → wt (link (link (l ++ [(wt l a + wt l b, -1)]) a l.length) b l.length) i = wt l i := fun i hi => by
    rw [link_wt, link_wt, wt_app hi]
  have hwn : wt (link (link (l ++ [(wt l a + wt l b, -1)]) a l.length) b l.length) l.length = wt l a + wt l b := by
    rw [link_wt, link_wt, wt_last]
  have hul : ∀ i, i < l.length → up1 (link (link (l ++ [(wt l a + wt l b, -1)]) a l.length) b l.length) i = if i = b then (l.length : Int) else if i = a then (l.length : Int) else up1 l i := fun i hi => by
    rw [link_up _ (by rw [link_len, List.length_append]; simp; omega), link_up _ (by rw [List.length_append]; simp; omega), up_app hi]
  have hun : up1 (link (link (l ++ [(wt l a + wt l b, -1)]) a l.length) b l.length) l.length = -1 := by
    rw [link_up _ (by rw [link_len, List.length_append]; simp; omega), if_neg (by omega), link_up _ (by rw [List.length_append]; simp; omega), if_neg (by omega), up_last]
  obtain ⟨la, lda⟩ := hI.low a am
  obtain ⟨lb, ldb⟩ := hI.low b bm
  have wa := hI.wts a al
  have wb := hI.wts b bl
  have hp := hI.pos
  refine ⟨fun i => if i = l.length then max (h a) (h b) + 1 else h i, wt l b, ?_⟩
  rw [hst]
  have hlen : (link (link (l ++ [(wt l a + wt l b, -1)]) a l.length) b l.length).length = l.length + 1 := by
    rw [link_len, link_len, List.length_append, List.length_singleton]
  refine ⟨?_, ?_, ?_, ?_, ?_, ?_, by omega⟩
  · intro v hv
    rw [hlen]
    rcases List.mem_append.1 hv with hv | hv
    · obtain ⟨x1, x2, x3, x4⟩ := hf2m v hv
      obtain ⟨y1, y2⟩ := hI.frl v x1
      dsimp only
      rw [hul v y1, if_neg x3, if_neg x2]
      exact ⟨by omega, y2⟩
    · simp at hv
      subst hv
      exact ⟨by omega, hun⟩
  · rw [List.pairwise_append]
    refine ⟨hn2, by simp, fun x hx y hy => ?_⟩
    simp at hy
    subst hy
    exact (hI.frl x (hf2m x hx).1).1
  · intro i hi
    dsimp only at hi ⊢
    rw [hlen] at hi ⊢
    rcases Nat.lt_succ_iff_lt_or_eq.1 hi with h3 | rfl
    · rw [hul i h3, if_neg (show i ≠ l.length by omega)]
      by_cases hib : i = b
      · right
        subst hib
        rw [if_pos rfl]
        exact ⟨l.length, rfl, h3, by omega, by rw [if_pos rfl]; omega⟩
      · rw [if_neg hib]
        by_cases hia : i = a
        · right
          subst hia
          rw [if_pos rfl]
          exact ⟨l.length, rfl, h3, by omega, by rw [if_pos rfl]; omega⟩
        · rw [if_neg hia]
          rcases hI.ups i h3 with ⟨h4, h5⟩ | ⟨t, h4, h5, h6, h7⟩
          · left
            refine ⟨h4, List.mem_append_left _ ?_⟩
            rw [hf2]
            refine mem_of_ne h2 ?_ (by rw [← hb]; exact hib)
            rw [hf1]
            exact mem_of_ne h1 h5 (by rw [← ha]; exact hia)
          · right
            exact ⟨t, h4, h5, by omega, by rw [if_neg (by omega)]; exact h7⟩
    · left
      exact ⟨hun, by simp⟩
  · intro i hi
    dsimp only at hi ⊢
    rw [hlen] at hi
    rcases Nat.lt_succ_iff_lt_or_eq.1 hi with h3 | rfl
    · rw [hwl i h3, if_neg (by omega)]
      exact hI.wts i h3
    · rw [hwn, if_pos rfl]
      rcases Nat.le_total (h a) (h b) with h4 | h4
      · rw [Nat.max_eq_right h4]
        have h5 : fib (h b - 1) ≤ wt l a := by
          rcases ldb with h6 | ⟨c, h6, h7⟩
          · rw [h6] at h4 ⊢
            have h8 : h a = 0 := by omega
            rw [h8] at wa
            exact wa
          · omega
        have := fib_succ (h b)
        omega
      · rw [Nat.max_eq_left h4]
        have h5 : fib (h a - 1) ≤ fib (h a) := fib_mono (by omega)
        have := fib_succ (h a)
        omega
  · intro v hv
    dsimp only
    rcases List.mem_append.1 hv with hv | hv
    · obtain ⟨x1, x2, x3, x4⟩ := hf2m v hv
      obtain ⟨y1, y2⟩ := hI.frl v x1
      rw [hwl v y1, if_neg (by omega)]
      refine ⟨x4, ?_⟩
      rcases (hI.low v x1).2 with h3 | ⟨c, h3, h4⟩
      · exact .inl h3
      · exact .inr ⟨c, by omega, h4⟩
    · simp at hv
      subst hv
      rw [hwn, if_pos rfl]
      have := fib_pos (h a)
      refine ⟨by omega, .inr ?_⟩
      simp only [Nat.add_sub_cancel]
      rcases Nat.le_total (h a) (h b) with h4 | h4
      · exact ⟨wt l b, Int.le_refl _, by rw [Nat.max_eq_right h4]; exact wb⟩
      · exact ⟨wt l a, hab, by rw [Nat.max_eq_left h4]; exact wa⟩
  · dsimp only
    rw [List.map_append, List.sum_append]
    have e1 : f2.map (wt (link (link (l ++ [(wt l a + wt l b, -1)]) a l.length) b l.length)) = f2.map (wt l) := by
      refine List.map_congr_left (fun v hv => hwl v (hI.frl v (hf2m v hv).1).1)
    rw [e1]
    have t1 := sum_erase (l := l) free k1 h1
    have t2 := sum_erase (l := l) f1 k2 h2
    rw [← ha, ← hf1] at t1
    rw [← hb, ← hf2] at t2
    have t3 := hI.tots
    simp [hwn]
    omega
theorem TI.run {h : Nat → Nat} {p tot : Int} : ∀ (n : Nat) (l : List (Int × Int)) (free : List Nat) (h : Nat → Nat) (p : Int), TI l free h p tot → ∃ h' p', TI (treeF n (l, free)).1 (treeF n (l, free)).2 h' p' tot
  | 0, l, free, h, p, hI => ⟨h, p, hI⟩
  | n + 1, l, free, h, p, hI => by
    rw [treeF]
    split
    · rename_i h1
      obtain ⟨h', p', hI'⟩ := hI.step h1
      exact TI.run (h := h) (p := p) n _ _ h' p' hI'
    · exact ⟨h, p, hI⟩
def upN (l : List (Int × Int)) : Nat → Int → Nat
  | 0, _ => 0
  | f + 1, k => if k < 0 then 0 else upN l f (up1 l k.toNat) + 1
theorem wt_le_sum {l : List (Int × Int)} : ∀ (f : List Nat), (∀ v ∈ f, 0 ≤ wt l v) → ∀ v ∈ f, wt l v ≤ (f.map (wt l)).sum
  | [], _, v, hv => by simp at hv
  | x :: f, h, v, hv => by
    have hs : ∀ (g : List Nat), (∀ v ∈ g, 0 ≤ wt l v) → 0 ≤ (g.map (wt l)).sum := fun g hg => by
      induction g with
      | nil => simp
      | cons y g ih => simp only [List.map_cons, List.sum_cons]; have := hg y (by simp); have := ih (fun v hv => hg v (by simp [hv])); omega
    simp only [List.map_cons, List.sum_cons]
    rcases List.mem_cons.1 hv with rfl | hv
    · have := hs f (fun v hv => h v (by simp [hv])); omega
    · have := wt_le_sum f (fun v hv => h v (by simp [hv])) v hv
      have := h x (by simp)
      omega
theorem TI.low_tot {l : List (Int × Int)} {free : List Nat} {h : Nat → Nat} {p tot : Int} (hI : TI l free h p tot) : ∀ (d i : Nat), l.length - i ≤ d → i < l.length → fib (h i) ≤ tot
  | 0, i, hd, hi => by omega
  | d + 1, i, hd, hi => by
    rcases hI.ups i hi with ⟨h1, h2⟩ | ⟨t, h1, h2, h3, h4⟩
    · have w1 := hI.wts i hi
      have w2 := wt_le_sum (l := l) free (fun v hv => by have := hI.wts v (hI.frl v hv).1; have := fib_pos (h v); omega) i h2
      rw [hI.tots] at w2
      omega
    · have ih := TI.low_tot hI d t (by omega) h3
      exact Int.le_trans (fib_mono (by omega)) ih
theorem TI.deep {l : List (Int × Int)} {free : List Nat} {h : Nat → Nat} {p tot : Int} (hI : TI l free h p tot) : ∀ (f i : Nat), i < l.length → fib (upN l f (up1 l i) + h i) ≤ tot
  | 0, i, hi => by
    rw [upN, Nat.zero_add]
    exact hI.low_tot _ i (Nat.le_refl _) hi
  | f + 1, i, hi => by
    rcases hI.ups i hi with ⟨h1, h2⟩ | ⟨t, h1, h2, h3, h4⟩
    · rw [h1, upN, if_pos (by omega), Nat.zero_add]
      exact hI.low_tot _ i (Nat.le_refl _) hi
    · rw [h1, upN, if_neg (by omega), Int.toNat_natCast]
      have ih := TI.deep hI f t h3
      exact Int.le_trans (fib_mono (by omega)) ih
theorem nodes0_wt {cs : List Int} {i : Nat} (h : i < (nodes0 cs).length) : 0 < wt (nodes0 cs) i ∧ up1 (nodes0 cs) i = -1 := by
  have h1 : (nodes0 cs)[i] ∈ nodes0 cs := List.getElem_mem h
  unfold wt up1
  have e : (nodes0 cs).getD i (0, -1) = (nodes0 cs)[i] := by simp [List.getD, h]
  rw [e]
  obtain ⟨n, hn, e2⟩ := List.mem_map.1 h1
  rw [← e2]
  have := (List.mem_filter.1 hn).2
  exact ⟨by simpa using this, rfl⟩
theorem nodes0_sum : ∀ (cs : List Int), (∀ n ∈ cs, 0 ≤ n) → ((nodes0 cs).map (·.1)).sum = cs.sum
  | [], _ => rfl
  | n :: cs, h => by
    have ih := nodes0_sum cs (fun m hm => h m (by simp [hm]))
    have h0 := h n (by simp)
    unfold nodes0 at *
    rw [List.filter_cons]
    split
    · simp only [List.map_cons, List.sum_cons]; rw [ih]
    · rename_i h1
      simp at h1
      simp only [List.sum_cons]
      rw [ih]
      omega
theorem range_wt (l : List (Int × Int)) : (List.range l.length).map (wt l) = l.map (·.1) := by
  apply List.ext_getElem
  · simp
  · intro i h1 h2
    simp at h1
    simp [wt, List.getD, h1]
theorem TI.start {cs : List Int} (h : ∀ n ∈ cs, 0 ≤ n) : TI (nodes0 cs) (List.range (nodes0 cs).length) (fun _ => 0) 0 cs.sum := by
  refine ⟨fun v hv => ?_, List.pairwise_lt_range, fun i hi => .inl ⟨(nodes0_wt hi).2, by simpa using hi⟩, fun i hi => ?_, fun v hv => ?_, ?_, Int.le_refl _⟩
  · have hv' : v < (nodes0 cs).length := by simpa using hv
    exact ⟨hv', (nodes0_wt hv').2⟩
  · have := (nodes0_wt hi).1
    show (1 : Int) ≤ _
    omega
  · have hv' : v < (nodes0 cs).length := by simpa using hv
    have := (nodes0_wt hv').1
    exact ⟨by omega, .inl rfl⟩
  · rw [range_wt]; exact nodes0_sum cs h
theorem tree_deep {cs : List Int} (h : ∀ n ∈ cs, 0 ≤ n) (hs : cs.sum < fib 15) (f i : Nat) (hi : i < (tree cs).length) : upN (tree cs) f (up1 (tree cs) i) < 15 := by
  obtain ⟨h', p', hI⟩ := TI.run (h := fun _ => 0) (p := 0) (nodes0 cs).length (nodes0 cs) (List.range (nodes0 cs).length) _ _ (TI.start h)
  have hd := hI.deep f i hi
  apply Classical.byContradiction
  intro hc
  have := fib_mono (m := 15) (n := upN (tree cs) f (up1 (tree cs) i) + h' i) (by omega)
  have hh : fib (upN (tree cs) f (up1 (tree cs) i) + h' i) ≤ cs.sum := hd
  omega
end Go.Huf

namespace Go.Sal
open Go.RowKit
structure Keep (F : List Nat) (w w' : World) : Prop where
  os : w'.os = w.os
  tape : w'.tape = w.tape
  output : w'.output = w.output
  size : w.heap.size ≤ w'.heap.size
  block : ∀ k, k < w.heap.size → k ∉ F → w'.heap[k]? = w.heap[k]?
section
variable {F G : List Nat} {w w' a b c : World}
theorem Keep.refl (F : List Nat) (w : World) : Keep F w w := ⟨rfl, rfl, rfl, Nat.le_refl _, fun _ _ _ => rfl⟩
theorem Keep.trans (h : Keep F a b) (k : Keep F b c) : Keep F a c :=
  ⟨k.os.trans h.os, k.tape.trans h.tape, k.output.trans h.output, Nat.le_trans h.size k.size,
    fun i hi hn => (k.block i (Nat.lt_of_lt_of_le hi h.size) hn).trans (h.block i hi hn)⟩
theorem Keep.step (h : Keep F a b) (k : Keep G b c) (hG : ∀ i, i ∈ G → i ∈ F ∨ a.heap.size ≤ i) : Keep F a c :=
  ⟨k.os.trans h.os, k.tape.trans h.tape, k.output.trans h.output, Nat.le_trans h.size k.size,
    fun i hi hn => (k.block i (Nat.lt_of_lt_of_le hi h.size) (fun hg => by
      rcases hG i hg with h1 | h1
      · exact hn h1
      · omega)).trans (h.block i hi hn)⟩
theorem Keep.mono (h : Keep F a b) (hF : ∀ i, i ∈ F → i ∈ G) : Keep G a b :=
  ⟨h.os, h.tape, h.output, h.size, fun i hi hn => h.block i hi (fun hf => hn (hF i hf))⟩
theorem Keep.below (h : Keep [] a b) : Below a.heap.size a b := ⟨h.os, h.tape, h.output, h.size, fun k hk => h.block k hk (by simp)⟩
theorem Keep.of_below (h : Below a.heap.size a b) : Keep F a b := ⟨h.os, h.tape, h.output, h.size, fun k hk _ => h.block k hk⟩
theorem Keep.of_grown {row : Option Nat} (h : a.grownBy b row) (hr : ∀ k, row = some k → k ∈ F) : Keep F a b :=
  ⟨h.os, h.tape, h.output, h.size, fun k hk hn => h.block k hk (fun e => hn (hr k e.symm))⟩
theorem Keep.drew (h : Keep F a b) : Keep F a b.drew := ⟨h.os, h.tape, h.output, h.size, h.block⟩
theorem Keep.drewN (h : Keep F a b) (n : Nat) : Keep F a (b.drewN n) := ⟨h.os, h.tape, h.output, h.size, h.block⟩
theorem Keep.of_drew (h : Keep F a.drew b) : Keep F a b := ⟨h.os, h.tape, h.output, h.size, h.block⟩
theorem Keep.alloc (h : Keep F a b) (o : Obj) : Keep F a (b.alloc o) :=
  h.trans ⟨rfl, rfl, rfl, by simp, fun k hk _ => Below.heap_alloc _ _ _ hk⟩
theorem Keep.setCell (h : Keep F a b) {p : Addr} (hp : p.block ∈ F ∨ a.heap.size ≤ p.block) (u : Value) : Keep F a (b.setCell p u) :=
  ⟨h.os, h.tape, h.output, by simpa [World.setCell] using h.size, fun k hk hn => (Below.heap_setCell b p u k (by
    rintro rfl
    rcases hp with hp | hp
    · exact hn hp
    · omega)).trans (h.block k hk hn)⟩
theorem Keep.grown (h : Keep F a b) {row : Option Nat} (hg : b.grownBy c row) (hr : ∀ k, row = some k → k ∈ F ∨ a.heap.size ≤ k) : Keep F a c :=
  h.step (Keep.of_grown (F := row.toList) hg (fun k hk => by simp [hk])) (fun i hi => hr i (by simpa [Option.mem_toList] using hi))
theorem Keep.cell (h : Keep F a b) {p : Addr} (hp : p.block < a.heap.size) (hn : p.block ∉ F) : b.cell? p = a.cell? p := World.cell?_of_block (h.block _ hp hn)
end
def Blk (w : World) (g : Nat) (t : TypeId) (cs : Array Value) : Prop := w.heap[g]? = some (.cells cs t (0, 0))
section
variable {w w' : World} {g : Nat} {t : TypeId} {cs : Array Value} {F : List Nat}
theorem lt_of_some {w : World} {g : Nat} {o : Obj} (h : w.heap[g]? = some o) : g < w.heap.size := by
  rcases Nat.lt_or_ge g w.heap.size with hlt | hge
  · exact hlt
  · rw [Array.getElem?_eq_none hge] at h; cases h
theorem Blk.lt (h : Blk w g t cs) : g < w.heap.size := lt_of_some h
theorem Blk.cell (h : Blk w g t cs) (i : Nat) : w.cell? ⟨g, i, none⟩ = cs[i]? := cell_of_row w g i cs t (0, 0) h
theorem Blk.free (h : Blk w g t cs) (i : Nat) : w.frozen? ⟨g, i, none⟩ = false := by
  unfold Blk at h
  simp [World.frozen?, h]
theorem Blk.keep (h : Blk w g t cs) (k : Keep F w w') (hn : g ∉ F) : Blk w' g t cs := (k.block g h.lt hn).trans h
theorem Blk.drew (h : Blk w g t cs) : Blk w.drew g t cs := h
theorem Blk.drewN (h : Blk w g t cs) (n : Nat) : Blk (w.drewN n) g t cs := h
theorem Blk.alloc (h : Blk w g t cs) (o : Obj) : Blk (w.alloc o) g t cs := (Below.heap_alloc w o g h.lt).trans h
theorem Blk.new (w : World) (t : TypeId) (cs : Array Value) : Blk (w.alloc (.cells cs t)) w.heap.size t cs := heap_alloc_new w _
theorem Blk.set_ (h : Blk w g t cs) (i : Nat) (u : Value) : Blk (w.setCell ⟨g, i, none⟩ u) g t (cs.setIfInBounds i u) := by
  unfold Blk at h ⊢
  simp [World.setCell, Array.getElem?_modify, h]
theorem Blk.far (h : Blk w g t cs) {p : Addr} (hp : g ≠ p.block) (u : Value) : Blk (w.setCell p u) g t cs := (Below.heap_setCell w p u g hp).trans h
theorem Blk.grown {row : Option Nat} (h : Blk w g t cs) (hb : w.grownBy w' row) (hg : some g ≠ row) : Blk w' g t cs := (hb.block g h.lt hg).trans h
theorem Blk.ne_ {g' : Nat} {t' : TypeId} {cs' : Array Value} (h : Blk w g t cs) (h' : Blk w g' t' cs') (hne : t ≠ t') : g ≠ g' := by
  rintro rfl
  unfold Blk at h h'
  rw [h] at h'
  injection h' with h'
  injection h' with _ ht
  exact hne ht
end
def ByteBlk (base : Nat) (tb : TypeId) (w : World) (k : Nat) : Prop := k < w.heap.size ∧ (k < base ∨ ∃ cur fr, w.heap[k]? = some (.cells cur tb fr))
def NoByte (base : Nat) (tb : TypeId) (w : World) (F : List Nat) : Prop := ∀ k, k ∈ F → ¬ ByteBlk base tb w k
def Reads (base : Nat) (tb : TypeId) (w : World) (v : Value) (bs : List UInt8) : Prop :=
  ∃ A c, v = .slice A bs.length c ∧ bs.length ≤ c ∧ c ≤ maxLen ∧
    (bs ≠ [] → ∃ a, A = some a ∧ ByteBlk base tb w a.block ∧ ∀ i (h : i < bs.length), w.cell? (a.add i) = some (.int .u8 bs[i].toNat))
section
variable {base : Nat} {tb : TypeId} {w w' : World} {v : Value} {bs : List UInt8} {F : List Nat}
theorem add_block (a : Addr) (n : Nat) : (a.add n).block = a.block := by unfold Addr.add; split <;> rfl
theorem add_add (a : Addr) (i j : Nat) : (a.add i).add j = a.add (i + j) := by
  unfold Addr.add
  by_cases hi : i = 0 <;> by_cases hj : j = 0 <;> simp [hi, hj, Nat.add_assoc]
theorem add_mk (g o i : Nat) : (⟨g, o, none⟩ : Addr).add i = ⟨g, o + i, none⟩ := by
  unfold Addr.add; split <;> simp_all
theorem ByteBlk.keep {k : Nat} (h : ByteBlk base tb w k) (hk : Keep F w w') (hn : k ∉ F) : ByteBlk base tb w' k := by
  refine ⟨Nat.lt_of_lt_of_le h.1 hk.size, ?_⟩
  rcases h.2 with h1 | ⟨cur, fr, h1⟩
  · exact .inl h1
  · exact .inr ⟨cur, fr, (hk.block k h.1 hn).trans h1⟩
theorem Reads.keep (h : Reads base tb w v bs) (hk : Keep F w w') (hn : NoByte base tb w F) : Reads base tb w' v bs := by
  obtain ⟨A, c, rfl, h1, h2, h3⟩ := h
  refine ⟨A, c, rfl, h1, h2, fun hne => ?_⟩
  obtain ⟨a, rfl, hb, hc⟩ := h3 hne
  have hnf : a.block ∉ F := fun hf => hn _ hf hb
  exact ⟨a, rfl, hb.keep hk hnf, fun i hi => (hk.cell (by rw [add_block]; exact hb.1) (by rw [add_block]; exact hnf)).trans (hc i hi)⟩
theorem Reads.nil (base : Nat) (tb : TypeId) (w : World) : Reads base tb w (.slice none 0 0) [] := ⟨none, 0, rfl, by simp, by simp [maxLen], fun h => absurd rfl h⟩
end
end Go.Sal

