/- A number of bytes; small numbers' bytes; sums of rows: walked. -/
import Derived.Test.YtdnaahbhfjclpaaGreatDoorBase
import Derived.Test.YtdnaahbhfjclpaaGreatDoorK3
import Derived.Test.YtdnaahbhfjclpaaGreatDoorWz
import Derived.Deep.MidRow
import Derived.Deep.WholeRow
set_option linter.unusedVariables false
set_option linter.unusedSimpArgs false
namespace Go.Pck
def shF (o n i : Nat) : Nat := if o = 1 then n - 1 - i else i
def bytP (o n x : Nat) : List Nat := (List.range n).map fun i => x / 2 ^ (8 * shF o n i) % 256
def bytR (o n x k : Nat) : List Nat := (List.range n).map fun i => if i < k then x / 2 ^ (8 * shF o n i) % 256 else 0
theorem bytR_len (o n x k : Nat) : (bytR o n x k).length = n := by simp [bytR]
theorem bytR_zero (o n x : Nat) : bytR o n x 0 = List.replicate n 0 := by
  apply List.ext_getElem
  · simp [bytR]
  · intro i h1 h2; simp [bytR]
theorem bytR_all (o n x : Nat) : bytR o n x n = bytP o n x := by
  unfold bytR bytP
  apply List.map_congr_left
  intro i hi
  rw [if_pos (List.mem_range.1 hi)]
theorem bytR_set {o n x k : Nat} (hk : k < n) : (bytR o n x k).set k (x / 2 ^ (8 * shF o n k) % 256) = bytR o n x (k + 1) := by
  apply List.ext_getElem
  · simp [bytR]
  · intro i h1 h2
    rw [List.getElem_set]
    simp only [bytR, List.getElem_map, List.getElem_range]
    by_cases h : k = i
    · subst h
      rw [if_pos rfl, if_pos (by omega)]
    · rw [if_neg h]
      by_cases h3 : i < k
      · rw [if_pos h3, if_pos (by omega)]
      · rw [if_neg h3, if_neg (by omega)]
theorem bytP_lt (o n x : Nat) : ∀ y ∈ bytP o n x, y < 256 := fun y hy => by
  unfold bytP at hy
  simp only [List.mem_map] at hy
  obtain ⟨i, _, rfl⟩ := hy
  exact Nat.mod_lt _ (by omega)
theorem bytP_len (o n x : Nat) : (bytP o n x).length = n := by simp [bytP]
def leN : List Nat → Nat
  | [] => 0
  | c :: l => c + 256 * leN l
def beN (l : List Nat) : Nat := l.foldl (fun a c => a * 256 + c) 0
def numP (o : Nat) (l : List Nat) : Nat := if o = 1 then beN l else leN l
def accN (o : Nat) (l : List Nat) (k : Nat) : Nat := if o = 1 then beN (l.take k) * 2 ^ (8 * (l.length - k)) else leN (l.take k)
theorem p8 (k : Nat) : 2 ^ (8 * (k + 1)) = 256 * 2 ^ (8 * k) := by rw [show 8 * (k + 1) = 8 * k + 8 by omega, Nat.pow_add, Nat.mul_comm]
theorem leN_snoc : ∀ (l : List Nat) (c : Nat), leN (l ++ [c]) = leN l + c * 2 ^ (8 * l.length)
  | [], c => by simp [leN]
  | x :: l, c => by
    rw [List.cons_append, leN, leN, leN_snoc l c, List.length_cons, p8, Nat.mul_add, Nat.mul_left_comm, Nat.add_assoc]
theorem leN_lt : ∀ (l : List Nat), (∀ x ∈ l, x < 256) → leN l < 2 ^ (8 * l.length)
  | [], _ => by simp [leN]
  | x :: l, h => by
    have h1 := leN_lt l (fun y hy => h y (by simp [hy]))
    have h2 := h x (by simp)
    rw [leN, List.length_cons, p8]
    omega
theorem beN_snoc (l : List Nat) (c : Nat) : beN (l ++ [c]) = beN l * 256 + c := by simp [beN]
theorem accN_zero (o : Nat) (l : List Nat) : accN o l 0 = 0 := by simp [accN, beN, leN]
theorem accN_all (o : Nat) (l : List Nat) : accN o l l.length = numP o l := by simp [accN, numP]
theorem or_add {a b n : Nat} (hb : b < 2 ^ n) : (a * 2 ^ n) ||| b = a * 2 ^ n + b := by
  have := Nat.two_pow_add_eq_or_of_lt hb a
  rw [Nat.mul_comm, ← this]
theorem accN_step {o : Nat} {l : List Nat} {k : Nat} (hk : k < l.length) (h : ∀ x ∈ l, x < 256) : accN o l k ||| (l[k] * 2 ^ (8 * shF o l.length k)) = accN o l (k + 1) := by
  have ht : l.take (k + 1) = l.take k ++ [l[k]] := List.take_succ_eq_append_getElem hk
  have hc := h _ (List.getElem_mem hk)
  have hlt : (l.take k).length = k := by rw [List.length_take]; omega
  unfold accN shF
  by_cases ho : o = 1
  · rw [if_pos ho, if_pos ho, if_pos ho, ht, beN_snoc]
    obtain ⟨m, hm⟩ : ∃ m, m = l.length - 1 - k := ⟨_, rfl⟩
    rw [← hm, show l.length - k = m + 1 by omega, show l.length - (k + 1) = m by omega]
    generalize l[k] = c at *
    generalize beN (l.take k) = a
    rw [or_add (by rw [p8]; exact Nat.mul_lt_mul_of_pos_right hc (Nat.pow_pos (by omega))), p8, Nat.add_mul, Nat.mul_assoc]
  · rw [if_neg ho, if_neg ho, if_neg ho, ht, leN_snoc, hlt]
    generalize l[k] = c at *
    have hl := leN_lt (l.take k) (fun x hx => h x (List.mem_of_mem_take hx))
    rw [hlt] at hl
    generalize leN (l.take k) = a at *
    rw [Nat.or_comm, or_add hl, Nat.add_comm]
theorem beN_lt : ∀ (n : Nat) (l : List Nat), l.length = n → (∀ x ∈ l, x < 256) → beN l < 2 ^ (8 * n)
  | 0, l, h0, _ => by
    have : l = [] := List.eq_nil_of_length_eq_zero h0
    subst this; simp [beN]
  | n + 1, l, h0, h => by
    have hl : n < l.length := by omega
    have ht : l = l.take n ++ [l[n]] := by rw [← List.take_succ_eq_append_getElem hl, List.take_of_length_le (by omega)]
    have h1 := beN_lt n (l.take n) (by rw [List.length_take]; omega) (fun x hx => h x (List.mem_of_mem_take hx))
    have h2 := h _ (List.getElem_mem hl)
    rw [ht, beN_snoc, p8]
    omega
theorem accN_lt {o : Nat} {l : List Nat} {k : Nat} (hk : k ≤ l.length) (h : ∀ x ∈ l, x < 256) : accN o l k < 2 ^ (8 * l.length) := by
  have hlt : (l.take k).length = k := by rw [List.length_take]; omega
  have hm : ∀ x ∈ l.take k, x < 256 := fun x hx => h x (List.mem_of_mem_take hx)
  unfold accN
  split
  · have h1 := beN_lt k (l.take k) hlt hm
    have e : 2 ^ (8 * l.length) = 2 ^ (8 * k) * 2 ^ (8 * (l.length - k)) := by rw [← Nat.pow_add]; congr 1; omega
    rw [e]
    exact Nat.mul_lt_mul_of_pos_right h1 (Nat.pow_pos (by omega))
  · have h1 := leN_lt _ hm
    rw [hlt] at h1
    exact Nat.lt_of_lt_of_le h1 (Nat.pow_le_pow_right (by omega) (by omega))
theorem numP_lt (o : Nat) {l : List Nat} (h : ∀ x ∈ l, x < 256) : numP o l < 2 ^ (8 * l.length) := by
  rw [← accN_all]; exact accN_lt (Nat.le_refl _) h
theorem byte_sh {c n i o : Nat} (hc : c < 256) (hi : i < n) : c * 2 ^ (8 * shF o n i) < 2 ^ (8 * n) := by
  have e : 2 ^ (8 * (shF o n i + 1)) ≤ 2 ^ (8 * n) := Nat.pow_le_pow_right (by omega) (by unfold shF; split <;> omega)
  rw [p8] at e
  exact Nat.lt_of_lt_of_le (Nat.mul_lt_mul_of_pos_right hc (Nat.pow_pos (by omega))) e
theorem numP_be32 (l : List Nat) (h : l.length = 4) : numP 1 l = be32 l := by
  match l, h with
  | [a, b, c, d], _ => simp [numP, beN, be32]
end Go.Pck

namespace Go.Proofs.YtdnaahbhfjclpaaGreatDoor
open Go.RowKit Go.Sal Go.Pck Go.Huf Go.Cod
theorem zb_own (w : World) (n base : Nat) (hn : n ≤ 1000000) (hb : base ≤ w.heap.size) : (w.alloc (ZB n)).ownsRow base 5 1 (.slice (some ⟨w.heap.size, 0, none⟩) n n) n (inB (List.replicate n 0)) := by
  refine ⟨by simp [inB], .inr ⟨w.heap.size, n, _, rfl, hb, heap_alloc_new w _, Nat.le_refl _, by unfold maxLen; omega, size_madeCells _ _, ?_⟩⟩
  rw [toList_madeCells_one]
  simp [inB]
def okB (b : Int) : Prop := b = 8 ∨ b = 16 ∨ b = 32 ∨ b = 64
theorem width_any (b : Int) (h : okB b) (w : World) : Calls Tryz.prog 110 #[.int .i64 b] w fun e w' => e = .returned (.int .i64 0) ∧ w' = w := by
  unfold okB at h
  rcases h with rfl | rfl | rfl | rfl
  all_goals
    go_enter Tryz.func110, Tryz.ntmps110
    go_wp2
    go_ret
    exact ⟨rfl, rfl⟩
theorem way_any (b : Int) (o : Nat) (h : okB b) (ho : o = 1 ∨ o = 2) (w : World) : Calls Tryz.prog 70 #[.int .i64 b, .int .i64 (o : Nat)] w fun e w' => e = .returned (.int .i64 0) ∧ w' = w := by
  have HW := Lib.hid (width_any b h)
  clear h
  rcases ho with rfl | rfl
  all_goals
    go_enter Tryz.func70, Tryz.ntmps70
    go_wp2_with (go_at_call 110; refine (HW.out _).mono ?_; rintro e w' ⟨rfl, rfl⟩)
    go_ret
    exact ⟨rfl, rfl⟩
theorem shift_any (i n o : Nat) (ho : o = 1 ∨ o = 2) (hi : i < n) (hn : n ≤ 8) (w : World) : Calls Tryz.prog 71 #[.int .i64 (i : Nat), .int .i64 (n : Nat), .int .i64 (o : Nat)] w fun e w' => e = .returned (.int .u64 ((8 * shF o n i : Nat) : Int)) ∧ w' = w := by
  rcases ho with rfl | rfl
  · have h1 : IntKind.i64.wrap ((n : Int) - 1) = (n : Int) - 1 := by rw [IntKind.wrap_i64]; omega
    have h2 : IntKind.i64.wrap ((n : Int) - 1 - (i : Int)) = ((n - 1 - i : Nat) : Int) := by rw [IntKind.wrap_i64]; omega
    obtain ⟨q, hq⟩ : ∃ q, q = n - 1 - i := ⟨_, rfl⟩
    have h3 : IntKind.i64.wrap (8 * (q : Int)) = 8 * (q : Int) := by rw [IntKind.wrap_i64]; omega
    have h4 : IntKind.u64.wrap (8 * (q : Int)) = 8 * (q : Int) := by rw [IntKind.wrap_u64]; omega
    have HF : Hid (8 * (q : Int) = ((8 * shF 1 n i : Nat) : Int)) := Lib.hid (by unfold shF; rw [if_pos rfl, ← hq]; omega)
    rw [← hq] at h2
    clear hq
    go_enter Tryz.func71, Tryz.ntmps71
    go_wp2
    go_ret
    exact ⟨by rw [← HF.out]; rfl, rfl⟩
  · have h3 : IntKind.i64.wrap (8 * (i : Int)) = 8 * (i : Int) := by rw [IntKind.wrap_i64]; omega
    have h4 : IntKind.u64.wrap (8 * (i : Int)) = 8 * (i : Int) := by rw [IntKind.wrap_u64]; omega
    have HF : Hid (8 * (i : Int) = ((8 * shF 2 n i : Nat) : Int)) := Lib.hid (by unfold shF; rw [if_neg (by omega)]; omega)
    go_enter Tryz.func71, Tryz.ntmps71
    go_wp2
    go_ret
    exact ⟨by rw [← HF.out]; rfl, rfl⟩
set_option maxRecDepth 20000 in
set_option maxHeartbeats 2000000 in
theorem bytes_any (x n o : Nat) (hx : x < 18446744073709551616) (hn : okB (8 * (n : Int))) (ho : o = 1 ∨ o = 2) (w : World) :
    Calls Tryz.prog 36 #[.int .u64 (x : Nat), .int .i64 (8 * (n : Int)), .int .i64 (o : Nat)] w fun e w' => ∃ A c, e = .returned (.tuple #[.slice A n c, .int .i64 0]) ∧ w'.ownsRow w.heap.size 5 1 (.slice A n c) n (inB (bytP o n x)) ∧ Keep [] w w' := by
  have HW := Lib.hid (way_any (8 * (n : Int)) o hn ho)
  have hn8 : n ≤ 8 ∧ 1 ≤ n := by unfold okB at hn; omega
  have hq : (8 * (n : Int)).tdiv 8 = (n : Int) := by rw [Int.tdiv_eq_ediv_of_nonneg (by omega)]; omega
  have hq2 : 8 * (n : Int) / 8 = (n : Int) := by omega
  have mk := mkb n (by omega)
  have H0 : Hid ((w.alloc (ZB n)).ownsRow w.heap.size 5 1 (.slice (some ⟨w.heap.size, 0, none⟩) n n) n (inB (bytR o n x 0)) ∧ Keep [] w (w.alloc (ZB n))) := Lib.hid ⟨by rw [bytR_zero]; exact zb_own w n _ (by omega) (Nat.le_refl _), (Keep.refl [] w).alloc _⟩
  have HS := Lib.hid (fun i (h : i < n) w => shift_any i n o ho h hn8.1 w)
  have hsh : ∀ i, i < n → 8 * shF o n i < 64 := fun i hi => by unfold shF; split <;> omega
  have Hsh := Lib.hid hsh
  clear hn ho hsh
  generalize ZB n = Z at *
  go_enter Tryz.func36, Tryz.ntmps36
  go_wp2_with (go_at_call 70; refine (HW.out _).mono ?_; rintro e w ⟨rfl, rfl⟩)
  go_loopw [22, 10] (fun v22 v10 wr => ∃ k : Nat, v22 = .int .i64 k ∧ k ≤ n ∧ Hid (wr.ownsRow w.heap.size 5 1 (.slice (some ⟨w.heap.size, 0, none⟩) n n) n (inB (bytR o n x k)) ∧ Keep [] w wr)) (fun v22 _ _ => n - (intOf v22).toNat)
  case atStart => exact ⟨0, rfl, by omega, H0⟩
  case round =>
    obtain ⟨k, rfl, hk, hI⟩ := hrel
    clear H0
    rcases Nat.lt_or_ge k n with hkn | hkn
    · as_aux_lemma =>
        obtain ⟨hown, hkp⟩ := hI.out
        have hset := inB_set hown (i := k) hkn (x / 2 ^ (8 * shF o n k) % 256)
        rw [bytR_set hkn] at hset
        obtain ⟨m1', m2⟩ := inB_cell hown (i := k) (by rw [bytR_len]; exact hkn)
        obtain ⟨old, m1⟩ : ∃ b, wr.cell? ⟨w.heap.size, k, none⟩ = some (.int .u8 b) := ⟨_, m1'⟩
        have m3 := (hown.lt _ rfl).2
        clear m1'
        have HSk := Lib.hid (HS.out k hkn)
        have hs := Hsh.out k hkn
        generalize 8 * shF o n k = s at *
        have hv : IntKind.u8.wrap ((x : Int) / 2 ^ s) = ((x / 2 ^ s % 256 : Nat) : Int) := by rw [IntKind.wrap_u8]; simp
        have hki : (k : Int) < n := by omega
        have hwk : IntKind.i64.wrap ((k : Int) + 1) = (k : Int) + 1 := by rw [IntKind.wrap_i64]; omega
        have HN := Lib.hid (And.intro hset (hkp.setCell (p := ⟨w.heap.size, k, none⟩) (.inr (Nat.le_refl _)) (.int .u8 ((x / 2 ^ s % 256 : Nat) : Int))))
        clear hset hown hkp hI HS Hsh HW
        generalize x / 2 ^ s % 256 = y at *
        go_wp2_with (go_at_call 71; refine (HSk.out _).mono ?_; rintro e w' ⟨rfl, rfl⟩)
        exact ⟨⟨k + 1, by simp, by omega, HN⟩, by simp [intOf]; omega⟩
    · obtain rfl : k = n := by omega
      have hki : ¬ (k : Int) < k := by omega
      have HR := hI.out
      rw [bytR_all] at HR
      have HR := Lib.hid HR
      clear hI HS Hsh HW
      go_wp2
      go_ret2
      exact ⟨_, _, rfl, HR.out.1, HR.out.2⟩
set_option maxRecDepth 20000 in
set_option maxHeartbeats 2000000 in
theorem number_any (o : Nat) (l : List Nat) (A : Option Addr) (c : Nat) (w : World) (hl : l.length ≤ 8) (ho : o = 1 ∨ o = 2) (hb : BySrc w A l) :
    Calls Tryz.prog 82 #[.slice A l.length c, .int .i64 (o : Nat)] w fun e w' => e = .returned (.int .u64 (numP o l : Nat)) ∧ w' = w := by
  have Hb := Lib.hid hb
  have HS := Lib.hid (fun i (h : i < l.length) w => shift_any i l.length o ho h hl w)
  have h64 : ∀ y : Nat, y < 2 ^ (8 * l.length) → y < 18446744073709551616 := fun y hy => Nat.lt_of_lt_of_le hy (Nat.le_trans (Nat.pow_le_pow_right (by omega) (show 8 * l.length ≤ 64 by omega)) (by decide))
  have H64 := Lib.hid h64
  clear hb h64 ho
  go_enter Tryz.func82, Tryz.ntmps82
  go_wp2
  go_loop [10, 5] (fun v10 v5 => ∃ k : Nat, v10 = .int .i64 k ∧ v5 = .int .u64 (accN o l k : Nat) ∧ k ≤ l.length) (fun v10 _ => l.length - (intOf v10).toNat)
  case atStart => exact ⟨0, rfl, by rw [accN_zero]; rfl, by omega⟩
  case round =>
    obtain ⟨k, rfl, rfl, hk⟩ := hrel
    rcases Nat.lt_or_ge k l.length with hkl | hkl
    · as_aux_lemma =>
        have hki : (k : Int) < l.length := by omega
        have hwk : IntKind.i64.wrap ((k : Int) + 1) = (k : Int) + 1 := by rw [IntKind.wrap_i64]; omega
        obtain ⟨g, of, rfl, hg, d0⟩ := Hb.out.1 k hkl
        have hx := Hb.out.2 _ (List.getElem_mem hkl)
        have hst := accN_step (o := o) hkl Hb.out.2
        have ha := H64.out _ (accN_lt (o := o) (l := l) (k := k) hk Hb.out.2)
        have hs := H64.out _ (byte_sh (o := o) hx hkl)
        have h8 : 8 * shF o l.length k < 64 := by unfold shF; split <;> omega
        have HSk := Lib.hid (HS.out k hkl)
        clear HS H64
        generalize l[k] = x at *
        generalize 8 * shF o l.length k = s at *
        have hor := u64_or_nat _ _ ha hs
        rw [hst] at hor
        have he : ((x * 2 ^ s : Nat) : Int) = ((x : Int) * 2 ^ s) := by simp
        have hv : IntKind.u64.wrap ((x : Int) * 2 ^ s) = ((x : Int) * 2 ^ s) := by
          rw [← he, IntKind.wrap_u64]; omega
        rw [he] at hor
        clear he
        generalize accN o l k = acc at *
        obtain ⟨acc2, hacc⟩ : ∃ q, q = accN o l (k + 1) := ⟨_, rfl⟩
        rw [← hacc] at hor
        have HA := Lib.hid hacc
        clear hst ha hs hacc
        go_wp2_with (go_at_call 71; refine (HSk.out _).mono ?_; rintro e w ⟨rfl, rfl⟩)
        exact ⟨⟨k + 1, by simp, by rw [HA.out], by omega⟩, by simp [intOf]; omega⟩
    · obtain rfl : k = l.length := by omega
      have hki : ¬ (l.length : Int) < l.length := by omega
      obtain ⟨q, hq⟩ : ∃ q, q = numP o l := ⟨_, rfl⟩
      rw [accN_all, ← hq]
      have HQ := Lib.hid hq
      clear HS H64 Hb hq
      go_wp2
      go_ret
      exact ⟨by rw [HQ.out]; rfl, rfl⟩
end Go.Proofs.YtdnaahbhfjclpaaGreatDoor

namespace Go.Proofs.YtdnaahbhfjclpaaGreatDoor
open Go.RowKit Go.Sal Go.Pck Go.Huf
def inW (l : List Nat) : List Value := l.map fun (x : Nat) => Value.int .u32 x
def enc32 (l : List Nat) : Value := .agg (inW l).toArray
def Z64 : Array Value := (inW (List.replicate 64 0)).toArray
theorem info179 : (Tryz.prog.info? 179).map (fun i => (i.zero, i.size)) = some (some (.agg Z64), 64) := by kernel_rfl
theorem zero179 (w : World) : (zeroValue 179).run Tryz.prog w = .ok (.agg Z64) w := (zero_of_info info179).1 w
theorem size179 : (Tryz.prog.info? 179).map (·.size) = some 64 := (zero_of_info info179).2
theorem inW_one (l : List Nat) : ∀ v ∈ inW l, v.oneCell' = true := by
  intro u hu; obtain ⟨k, _, rfl⟩ := List.mem_map.1 hu; rfl
theorem inW_len (l : List Nat) : (inW l).length = l.length := by simp [inW]
theorem wpList_build_as {P : Program} {Q : Exit → Act → World → Prop} {ops : Array Oper} {rest : List Oper} {o : Oper} {a : Act} {w : World} (hg : o.guard = none) (t : TypeId) (parts : Array (Nat × Operand)) (ho : o.op = .build t parts)
    (V : Array Value) (hf : P.built t (parts.map fun (i, x) => (i, a.eval x)).toList = some V) (h : wpList P ops Q rest (a.put o.dst (.agg V)) w) : wpList P ops Q (o :: rest) a w :=
  wpList_build hg t parts ho (by rw [hf]; rfl) (by rw [hf]; exact h)
set_option maxRecDepth 20000 in
set_option maxHeartbeats 1000000 in
theorem start_any (w : World) : Calls Tryz.prog 75 #[] w fun e w' => e = .returned (enc32 start8) ∧ Keep [] w w' := by
  go_enter Tryz.func75, Tryz.ntmps75
  go_wp2
  refine bodyPost_ret (v := enc32 start8) (results_cell_row (ty := 115) rfl _ _ w.heap.size 115 _ (0, 0) _ rfl (heap_alloc_last w _) Tryz.underlying115 rfl (by kernel_rfl)) rfl ⟨rfl, (Keep.refl [] w).alloc _⟩
set_option maxRecDepth 20000 in
set_option maxHeartbeats 1000000 in
theorem consts_any (w : World) : Calls Tryz.prog 122 #[] w fun e w' => e = .returned (enc32 kTab) ∧ Keep [] w w' := by
  have z := zero179
  generalize hz : Z64 = Z at *
  go_enter Tryz.func122, Tryz.ntmps122
  go_upto_region 1 with (fail)
  refine wp_region_lit ?_
  refine wpList_build_as rfl 179 _ rfl (inW kTab).toArray (by kernel_rfl) ?_
  refine wpList_store_row rfl 179 (.tmp 0) (.tmp 1) rfl w.heap.size (inW kTab).toArray rfl rfl 179 Z (heap_alloc_last w _) (by kernel_rfl) (by rw [← hz]; rfl) (by kernel_rfl) ?_
  rw [World.setRow_alloc_new]
  generalize hk : (inW kTab).toArray = K at *
  go_wp2
  refine bodyPost_ret (v := .agg K) (results_cell_row (ty := 179) rfl _ _ w.heap.size 179 _ (0, 0) _ rfl (heap_alloc_last w _) Tryz.underlying179 rfl (by rw [← hk]; kernel_rfl)) rfl ⟨by rw [← hk]; rfl, (Keep.refl [] w).alloc _⟩
end Go.Proofs.YtdnaahbhfjclpaaGreatDoor

namespace Go.Pck
def wordsR (l : List Nat) (k : Nat) : List Nat := (List.range k).map fun i => numP 1 ((l.drop (4 * i)).take 4)
theorem wordsR_succ (l : List Nat) (k : Nat) : wordsR l (k + 1) = wordsR l k ++ [numP 1 ((l.drop (4 * k)).take 4)] := by simp [wordsR, List.range_succ]
theorem be32_take (l : List Nat) : be32 (l.take 4) = be32 l := by
  match l with
  | [] => rfl
  | [a] => rfl
  | [a, b] => rfl
  | [a, b, c] => rfl
  | a :: b :: c :: d :: r => rfl
theorem wordsR_all {l : List Nat} (h : l.length = 64) : wordsR l 16 = words l := by
  unfold wordsR words
  apply List.map_congr_left
  intro i hi
  have hi' := List.mem_range.1 hi
  rw [numP_be32 _ (by rw [List.length_take, List.length_drop]; omega), be32_take]
end Go.Pck
namespace Go.Proofs.YtdnaahbhfjclpaaGreatDoor
open Go.RowKit Go.Sal Go.Pck Go.Huf Go.Cod
theorem bsrc_mid {w : World} {g o i j : Nat} {l : List Nat} (h : BySrc w (some ⟨g, o, none⟩) l) (hij : i ≤ j) (hj : j ≤ l.length) : BySrc w (some ⟨g, o + i, none⟩) ((l.drop i).take (j - i)) := by
  refine ⟨fun k hk => ?_, fun x hx => h.2 x (List.mem_of_mem_drop (List.mem_of_mem_take hx))⟩
  rw [List.length_take, List.length_drop] at hk
  obtain ⟨g', o', e, hg, hc⟩ := h.1 (i + k) (by omega)
  injection e with e
  injection e with e1 e2
  subst e1; subst e2
  exact ⟨g, o + i, rfl, hg, by rw [Nat.add_assoc, hc, List.getElem_take, List.getElem_drop]⟩
def in64 (l : List Nat) : List Value := l.map fun (k : Nat) => .int .u64 (k : Int)
theorem u64info : (Tryz.prog.info? 69).map (fun i => (i.zero, i.size, i.bytes)) = some (some (.int .u64 0), 1, 8) := by kernel_rfl
theorem in64_cell {w : World} {base g n cap i : Nat} {l : List Nat} (h : w.ownsRow base 69 1 (.slice (some ⟨g, 0, none⟩) n cap) n (in64 l)) (hi : i < l.length) :
    w.cell? ⟨g, i, none⟩ = some (.int .u64 (l[i] : Nat)) ∧ w.frozen? ⟨g, i, none⟩ = false := ownsRow_cell h (show (in64 l)[i]? = some (.int .u64 (l[i] : Nat)) by simp [in64, hi])
theorem u64_app {base n c : Nat} {A : Option Addr} {f : List Nat} {w : World} (h : w.ownsRow base 69 1 (.slice A n c) n (in64 f)) (x : Nat) (hn2 : n ≤ 1000000) (hB : base ≤ w.heap.size) :
    ∃ A' c' w', (Builtin.append_ #[210, 210] 210 #[.slice A n c, .slice (some ⟨w.heap.size, 0, none⟩) 1 1]).run Tryz.prog (w.alloc (.cells #[.int .u64 (x : Nat)] 69)) = .ok (.slice A' (n + 1) c') w' ∧
      w'.ownsRow base 69 1 (.slice A' (n + 1) c') (n + 1) (in64 (f ++ [x])) ∧ Keep (Value.slice A n c).ownBlock.toList w w' := by
  have hka : Keep [] w (w.alloc (.cells #[.int .u64 (x : Nat)] 69)) := (Keep.refl [] w).alloc _
  obtain ⟨v', w', hrun, hown, hg, hat⟩ := run_append_src (P := Tryz.prog) (w.alloc (.cells #[.int .u64 (x : Nat)] 69)) 210 210 69 (.int .u64 0) 1 8 base Tryz.underlying210 u64info rfl (by omega) (.slice A n c) n (in64 f) (ownsRow_keep h hka (by simp))
    (some ⟨w.heap.size, 0, none⟩) 1 1 [.int .u64 (x : Nat)] (src_new w 69 1 [.int .u64 (x : Nat)] rfl) (by simp [Value.oneCell']) (by unfold maxLen; omega) (by omega) (by simp; omega)
  obtain ⟨A', c', rfl, _⟩ := own_slice hown
  exact ⟨A', c', w', hrun, by simpa [in64] using hown, (hka.mono (by simp)).grown hg (fun k hk => .inl (by simp [hk]))⟩
def WdS (w : World) (l : List Nat) (k : Nat) (A : Option Addr) (c : Nat) (wr : World) : Prop := wr.ownsRow w.heap.size 69 1 (.slice A k c) k (in64 (wordsR l k)) ∧ Keep [] w wr
theorem WdS.add {w wr : World} {l : List Nat} {k c : Nat} {A : Option Addr} (h : WdS w l k A c wr) (hk : k ≤ 1000) :
    ∃ A' c' w', (Builtin.append_ #[210, 210] 210 #[.slice A k c, .slice (some ⟨wr.heap.size, 0, none⟩) 1 1]).run Tryz.prog (wr.alloc (.cells #[.int .u64 (numP 1 ((l.drop (4 * k)).take 4) : Nat)] 69)) = .ok (.slice A' (k + 1) c') w' ∧ WdS w l (k + 1) A' c' w' := by
  obtain ⟨A', c', w', h1, h2, h3⟩ := u64_app h.1 (numP 1 ((l.drop (4 * k)).take 4)) (by omega) h.2.size
  rw [← wordsR_succ] at h2
  exact ⟨A', c', w', h1, h2, h.2.step h3 (fun i hi => .inr (own_far h.1 i hi))⟩
set_option maxRecDepth 20000 in
set_option maxHeartbeats 2000000 in
theorem words_any (m : Nat) (l : List Nat) (g o c : Nat) (w : World) (hl : l.length = 4 * m) (hm : m ≤ 1000) (hb : BySrc w (some ⟨g, o, none⟩) l) (hc : l.length ≤ c) :
    Calls Tryz.prog 151 #[.slice (some ⟨g, o, none⟩) l.length c, .int .i64 32, .int .i64 1] w fun e w' => ∃ A c', e = .returned (.tuple #[.slice A m c', .int .i64 0]) ∧ w'.ownsRow w.heap.size 69 1 (.slice A m c') m (in64 (wordsR l m)) ∧ Keep [] w w' := by
  have HW : Hid (∀ w, Calls Tryz.prog 70 #[.int .i64 32, .int .i64 1] w fun e w' => e = .returned (.int .i64 0) ∧ w' = w) := Lib.hid (way_any 32 1 (by unfold okB; omega) (.inl rfl))
  have Hb := Lib.hid hb
  have hmod : (l.length : Int).tmod 4 = 0 := by rw [Int.tmod_eq_emod_of_nonneg (by omega)]; omega
  have hdiv : (l.length : Int).tdiv 4 = (m : Int) := by rw [Int.tdiv_eq_ediv_of_nonneg (by omega)]; omega
  have H0 : Hid (WdS w l 0 none 0 w) := Lib.hid ⟨by simpa [wordsR, in64] using World.ownsRow_nil _ _ _ _, Keep.refl _ _⟩
  clear hb
  go_enter Tryz.func151, Tryz.ntmps151
  go_wp2_with (go_at_call 70; refine (HW.out _).mono ?_; rintro e w ⟨rfl, rfl⟩)
  go_loopw [29, 10, 11] (fun v29 v10 v11 wr => ∃ (k : Nat) (A : Option Addr) (c' : Nat), v29 = .int .i64 k ∧ v10 = .slice A k c' ∧ k ≤ m ∧ Hid (WdS w l k A c' wr)) (fun v29 _ _ _ => m - (intOf v29).toNat)
  case atStart => exact ⟨0, none, 0, rfl, rfl, by omega, H0⟩
  case round =>
    obtain ⟨k, A, c', rfl, rfl, hk, hI⟩ := hrel
    clear H0 HW
    rcases Nat.lt_or_ge k m with hkm | hkm
    · as_aux_lemma =>
        have hki : (k : Int) < m := by omega
        have hwk : IntKind.i64.wrap ((k : Int) + 1) = (k : Int) + 1 := by rw [IntKind.wrap_i64]; omega
        obtain ⟨p, hp⟩ : ∃ p, p = 4 * k := ⟨_, rfl⟩
        obtain ⟨q, hq⟩ : ∃ q, q = 4 * (k + 1) := ⟨_, rfl⟩
        have hw1 : IntKind.i64.wrap ((k : Int) * 4) = (p : Int) := by rw [IntKind.wrap_i64]; omega
        have hw2 : IntKind.i64.wrap (((k : Int) + 1) * 4) = (q : Int) := by rw [IntKind.wrap_i64]; omega
        have hcp : ¬ c = p := by omega
        have hqq : (q : Int) ≤ c := by omega
        have hpq : (p : Int) ≤ q := by omega
        have hqp : q - p = 4 := by omega
        have hmid := bsrc_mid (Hb.out.keep hI.out.2 (fun a _ => by simp)) (i := p) (j := q) (by omega) (by omega)
        have hlen : ((l.drop p).take (q - p)).length = q - p := by rw [List.length_take, List.length_drop]; omega
        have HN := Lib.hid (number_any 1 ((l.drop p).take (q - p)) _ (c - p) wr (by omega) (.inl rfl) hmid)
        rw [hlen] at HN
        obtain ⟨A', c2, w2, hrun, hI2⟩ := hI.out.add (by omega)
        rw [← hp, ← hqp] at hrun
        generalize numP 1 ((l.drop p).take (q - p)) = x at *
        have HI2 := Lib.hid hI2
        clear hI hI2 hp hq hqp hmid hlen Hb
        go_wp2_with (first | (go_at_call 82; refine HN.out.mono ?_; rintro e wr ⟨rfl, rfl⟩) | (at_builtin; refine wpList_append2 (v1 := .slice A k c') (v2 := .slice (some ⟨wr.heap.size, 0, none⟩) 1 1) rfl (.tmp 32) (.tmp 44) rfl rfl rfl hrun ?_))
        exact ⟨⟨k + 1, A', c2, by simp, rfl, by omega, HI2⟩, by simp [intOf]; omega⟩
    · obtain rfl : k = m := by omega
      have hki : ¬ (k : Int) < k := by omega
      clear Hb
      go_wp2
      go_ret2
      exact ⟨_, _, rfl, hI.out⟩
end Go.Proofs.YtdnaahbhfjclpaaGreatDoor

namespace Go.Pck
def crcL (s : Nat) (L : List (List Nat)) : Nat := L.foldl crcA s
theorem crcA_lt (s : Nat) (l : List Nat) : crcA s l < 4294967296 := by unfold crcA; exact not_lt _
end Go.Pck
namespace Go.Proofs.YtdnaahbhfjclpaaGreatDoor
open Go.RowKit Go.Sal Go.Pck Go.Huf Go.Cod
theorem bsrc_head {w : World} {A : Option Addr} {l : List Nat} (h : BySrc w A l) (n : Nat) : BySrc w A (l.take n) := by
  refine ⟨fun k hk => ?_, fun x hx => h.2 x (List.mem_of_mem_take hx)⟩
  rw [List.length_take] at hk
  obtain ⟨g, o, e, hg, hc⟩ := h.1 k (by omega)
  exact ⟨g, o, e, hg, by rw [hc, List.getElem_take]⟩
set_option maxRecDepth 20000 in
set_option maxHeartbeats 2000000 in
theorem word_any (n o : Nat) (l : List Nat) (A : Option Addr) (c : Nat) (w : World) (hn : okB (8 * (n : Int))) (ho : o = 1 ∨ o = 2) (hl : n ≤ l.length) (hl2 : l.length ≤ 1000000) (hc : l.length ≤ c) (hb : BySrc w A l) :
    Calls Tryz.prog 44 #[.slice A l.length c, .int .i64 (8 * (n : Int)), .int .i64 (o : Nat)] w fun e w' => e = .returned (.tuple #[.int .u64 (numP o (l.take n) : Nat), .int .i64 0]) ∧ w' = w := by
  have HW := Lib.hid (way_any (8 * (n : Int)) o hn ho)
  have hn8 : n ≤ 8 ∧ 1 ≤ n := by unfold okB at hn; omega
  have hq : (8 * (n : Int)).tdiv 8 = (n : Int) := by rw [Int.tdiv_eq_ediv_of_nonneg (by omega)]; omega
  have hge : ¬ (l.length : Int) < n := by omega
  have hlt : (l.take n).length = n := by rw [List.length_take]; omega
  have HN := Lib.hid (number_any o (l.take n) A c w (by omega) ho (bsrc_head hb n))
  rw [hlt] at HN
  obtain ⟨g, of, rfl, -⟩ := hb.1 0 (by omega)
  have hnc : (n : Int) ≤ c := by omega
  have hnc2 : (n ≤ c) = True := by simp; omega
  generalize numP o (l.take n) = x at *
  have hc0 : ¬ c = 0 := by omega
  clear hn ho hb hlt
  go_enter Tryz.func44, Tryz.ntmps44
  go_wp2_with (first | (go_at_call 70; refine (HW.out _).mono ?_; rintro e w ⟨rfl, rfl⟩) | (go_at_call 82; refine HN.out.mono ?_; rintro e w ⟨rfl, rfl⟩))
  go_ret2
  exact ⟨rfl, rfl⟩
set_option maxRecDepth 20000 in
set_option maxHeartbeats 2000000 in
theorem small_any (n : Nat) (w : World) (hn : n < 65536) : Calls Tryz.prog 46 #[.int .i64 (n : Nat)] w fun e w' => RowB w (bytP 2 2 n) e w' := by
  have hw : IntKind.u64.wrap (n : Int) = (n : Int) := by rw [IntKind.wrap_u64]; omega
  have HB : Hid (∀ w, Calls Tryz.prog 36 #[.int .u64 (n : Nat), .int .i64 16, .int .i64 2] w fun e w' => ∃ A c, e = .returned (.tuple #[.slice A 2 c, .int .i64 0]) ∧ w'.ownsRow w.heap.size 5 1 (.slice A 2 c) 2 (inB (bytP 2 2 n)) ∧ Keep [] w w') :=
    Lib.hid (bytes_any n 2 2 (by omega) (by unfold okB; omega) (.inr rfl))
  clear hn
  go_enter Tryz.func46, Tryz.ntmps46
  go_wp2_with (go_at_call 36; refine (HB.out _).mono ?_; rintro e w' ⟨A, c, rfl, HO⟩)
  go_ret
  exact ⟨A, c, rfl, HO⟩
def RowsAt (w : World) (g : Nat) (R : List (Option Addr × List Nat × Nat)) : Prop := ∀ i (h : i < R.length), w.cell? ⟨g, i, none⟩ = some (.slice R[i].1 R[i].2.1.length R[i].2.2) ∧ BySrc w R[i].1 R[i].2.1 ∧ R[i].2.1.length ≤ 1000000
set_option maxRecDepth 20000 in
set_option maxHeartbeats 2000000 in
theorem of_any (R : List (Option Addr × List Nat × Nat)) (g n c : Nat) (w : World) (hn : n = R.length) (hn2 : n ≤ 1000) (hR : RowsAt w g R) (hg : g < w.heap.size) :
    Calls Tryz.prog 27 #[.slice (some ⟨g, 0, none⟩) n c] w fun e w' => e = .returned (.int .u32 (crcL 0 (R.map fun r => r.2.1) : Nat)) ∧ w' = w := by
  have HR := Lib.hid hR
  have Hn := Lib.hid hn
  clear hR hn
  go_enter Tryz.func27, Tryz.ntmps27
  go_wp2
  go_loop [8, 3, 5] (fun v8 v3 v5 => ∃ k x : Nat, v8 = .int .i64 k ∧ v3 = .int .u32 (x : Nat) ∧ k ≤ n ∧ x < 4294967296 ∧ Hid (x = crcL 0 ((R.take k).map fun r => r.2.1))) (fun v8 _ _ => n - (intOf v8).toNat)
  case atStart => exact ⟨0, 0, rfl, rfl, by omega, by omega, Lib.hid rfl⟩
  case round =>
    obtain ⟨k, x, rfl, rfl, hk, hx, hI⟩ := hrel
    rcases Nat.lt_or_ge k n with hkn | hkn
    · as_aux_lemma =>
        have hki : (k : Int) < n := by omega
        have hwk : IntKind.i64.wrap ((k : Int) + 1) = (k : Int) + 1 := by rw [IntKind.wrap_i64]; omega
        have hkR : k < R.length := by have := Hn.out; omega
        obtain ⟨m, hb, hl⟩ := HR.out k hkR
        have HA := Lib.hid (add_any x R[k].2.1 R[k].1 R[k].2.2 w hx hl hb)
        have HN : Hid (crcA x R[k].2.1 = crcL 0 ((R.take (k + 1)).map fun r => r.2.1)) := Lib.hid (by rw [List.take_succ_eq_append_getElem hkR, List.map_append, hI.out]; simp [crcL])
        have hlt := crcA_lt x R[k].2.1
        generalize crcA x R[k].2.1 = y at *
        generalize R[k].2.1.length = len at *
        generalize R[k].1 = A at *
        generalize R[k].2.2 = cc at *
        clear hI hb hl hkR HR Hn
        go_wp2_with (go_at_call 45; refine HA.out.mono ?_; rintro e w ⟨rfl, rfl⟩)
        exact ⟨⟨k + 1, y, by simp, rfl, by omega, hlt, HN⟩, by simp [intOf]; omega⟩
    · obtain rfl : k = n := by omega
      have hki : ¬ (k : Int) < k := by omega
      have HF : Hid (x = crcL 0 (R.map fun r => r.2.1)) := Lib.hid (by rw [hI.out, List.take_of_length_le (by have := Hn.out; omega)])
      clear hI HR Hn
      go_wp2
      go_ret
      exact ⟨by rw [← HF.out]; rfl, rfl⟩
end Go.Proofs.YtdnaahbhfjclpaaGreatDoor

