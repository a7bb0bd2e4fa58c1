/- The codes of lengths, on lists alone: by the room that what stands ahead takes. -/
import Derived.WalkKit
import Derived.Test.YtdnaahbhfjclpaaGreatDoorBase
set_option linter.unusedVariables false
set_option linter.unusedSimpArgs false
namespace Go.Huf
section
variable (key : Nat → Int)
def lexlt (x y : Nat) : Prop := key x < key y ∨ key x = key y ∧ x < y
instance (x y : Nat) : Decidable (lexlt key x y) := by unfold lexlt; infer_instance
theorem lex_irrefl (x : Nat) : ¬ lexlt key x x := by unfold lexlt; omega
variable {key}
theorem lex_trans {x y z : Nat} (h1 : lexlt key x y) (h2 : lexlt key y z) : lexlt key x z := by unfold lexlt at *; omega
theorem lex_asymm {x y : Nat} (h1 : lexlt key x y) : ¬ lexlt key y x := by unfold lexlt at *; omega
theorem lex_total {x y : Nat} (h : x ≠ y) : lexlt key x y ∨ lexlt key y x := by unfold lexlt; omega
theorem lex_late {x y : Nat} (h : y < x) : lexlt key x y ↔ key x < key y := by unfold lexlt; omega
variable (key)
def ins (x : Nat) : List Nat → List Nat
  | [] => [x]
  | y :: l => if lexlt key x y then x :: y :: l else y :: ins x l
def isort : List Nat → List Nat
  | [] => []
  | x :: l => ins key x (isort l)
def srtd (l : List Nat) : Prop := l.Pairwise (lexlt key)
variable {key}
theorem ins_perm (x : Nat) : ∀ l, (ins key x l).Perm (x :: l)
  | [] => .refl _
  | y :: l => by
    rw [ins]
    split
    · exact .refl _
    · exact ((ins_perm x l).cons y).trans (List.Perm.swap x y l)
theorem isort_perm : ∀ l, (isort key l).Perm l
  | [] => .refl _
  | x :: l => by
    rw [isort]
    exact (ins_perm x _).trans ((isort_perm l).cons x)
theorem ins_srtd {x : Nat} : ∀ {l}, srtd key l → x ∉ l → srtd key (ins key x l)
  | [], _, _ => by simp [ins, srtd]
  | y :: l, h, hx => by
    rw [ins]
    have h' := List.pairwise_cons.1 h
    split
    · rename_i hlt
      refine List.pairwise_cons.2 ⟨fun z hz => ?_, h⟩
      rcases List.mem_cons.1 hz with rfl | hz
      · exact hlt
      · exact lex_trans hlt (h'.1 z hz)
    · rename_i hlt
      have hxy : x ≠ y := fun e => hx (by simp [e])
      refine List.pairwise_cons.2 ⟨fun z hz => ?_, ins_srtd h'.2 (fun hm => hx (by simp [hm]))⟩
      rcases List.mem_cons.1 ((ins_perm x l).mem_iff.1 hz) with rfl | hz
      · rcases lex_total (key := key) hxy with h1 | h1
        · exact absurd h1 hlt
        · exact h1
      · exact h'.1 z hz
theorem isort_srtd : ∀ {l : List Nat}, l.Nodup → srtd key (isort key l)
  | [], _ => List.Pairwise.nil
  | x :: l, h => by
    have h' := List.nodup_cons.1 h
    rw [isort]
    exact ins_srtd (isort_srtd h'.2) (fun hm => h'.1 ((isort_perm l).mem_iff.1 hm))
theorem srtd_nodup {l : List Nat} (h : srtd key l) : l.Nodup := List.Pairwise.imp (fun {a b} hab => by intro e; subst e; exact lex_irrefl key a hab) h
theorem srtd_unique : ∀ {l l' : List Nat}, srtd key l → srtd key l' → l.Perm l' → l = l'
  | [], l', _, _, hp => (List.nil_perm.1 hp).symm
  | x :: l, l', h, h', hp => by
    cases l' with
    | nil => exact absurd (List.perm_nil.1 hp) (by simp)
    | cons y l' =>
      have a := List.pairwise_cons.1 h
      have b := List.pairwise_cons.1 h'
      have hxy : x = y := by
        have h1 : x ∈ y :: l' := hp.mem_iff.1 (by simp)
        have h2 : y ∈ x :: l := hp.mem_iff.2 (by simp)
        rcases List.mem_cons.1 h1 with h1 | h1
        · exact h1
        · rcases List.mem_cons.1 h2 with h2 | h2
          · exact h2.symm
          · exact absurd (a.1 y h2) (lex_asymm (b.1 x h1))
      subst hxy
      rw [srtd_unique a.2 b.2 (List.Perm.cons_inv hp)]
theorem isort_eq {l l' : List Nat} (h : srtd key l) (hp : l.Perm l') : l = isort key l' :=
  srtd_unique h (isort_srtd (hp.nodup_iff.1 (srtd_nodup h))) (hp.trans (isort_perm l').symm)
theorem isort_len (l : List Nat) : (isort key l).length = l.length := (isort_perm l).length_eq
theorem isort_id {l : List Nat} (h : srtd key l) : isort key l = l := (isort_eq h (.refl _)).symm
theorem srtd_append {l l' : List Nat} (h : srtd key l) (h' : srtd key l') (hx : ∀ x ∈ l, ∀ y ∈ l', lexlt key x y) : srtd key (l ++ l') := List.pairwise_append.2 ⟨h, h', hx⟩
theorem isort_append {l l' : List Nat} (hn : (l ++ l').Nodup) (hx : ∀ x ∈ l, ∀ y ∈ l', lexlt key x y) : isort key (l ++ l') = isort key l ++ isort key l' := by
  have hn' := List.nodup_append.1 hn
  symm
  refine isort_eq (srtd_append (isort_srtd hn'.1) (isort_srtd hn'.2.1) (fun x h y h' => hx x ((isort_perm l).mem_iff.1 h) y ((isort_perm l').mem_iff.1 h'))) ?_
  exact List.Perm.append (isort_perm l) (isort_perm l')
theorem isort_of_perm {l l' : List Nat} (hn : l.Nodup) (hp : l.Perm l') : isort key l = isort key l' :=
  isort_eq (isort_srtd hn) ((isort_perm l).trans hp)
end
end Go.Huf
namespace Go.Huf
def symsK (ls : List Int) (k : Nat) : List Nat := (List.range k).filter fun i => decide (0 < ls.getD i 0)
def ord (ls : List Int) : List Nat := isort (fun i => ls.getD i 0) (symsK ls ls.length)
theorem symsK_succ (ls : List Int) (k : Nat) : symsK ls (k + 1) = symsK ls k ++ (if 0 < ls.getD k 0 then [k] else []) := by
  unfold symsK
  rw [List.range_succ, List.filter_append]
  congr 1
  by_cases h : 0 < ls.getD k 0
  · rw [if_pos h, List.filter_cons_of_pos (by simpa using h)]; rfl
  · rw [if_neg h, List.filter_cons_of_neg (by simpa using h)]; rfl
theorem symsK_len (ls : List Int) (k : Nat) : (symsK ls k).length ≤ k := by
  have := List.length_filter_le (fun i => decide (0 < ls.getD i 0)) (List.range k)
  rw [List.length_range] at this
  exact this
theorem symsK_mem {ls : List Int} {k i : Nat} : i ∈ symsK ls k ↔ i < k ∧ 0 < ls.getD i 0 := by
  simp [symsK]
theorem symsK_inc (ls : List Int) (k : Nat) : (symsK ls k).Pairwise (· < ·) := List.pairwise_lt_range.sublist List.filter_sublist
theorem ord_len (ls : List Int) : (ord ls).length = (symsK ls ls.length).length := isort_len _
end Go.Huf
namespace Go.Huf
section
variable {key : Nat → Int}
theorem srtd_get {l : List Nat} (h : srtd key l) {i j : Nat} (hij : i < j) (hj : j < l.length) : lexlt key (l.getD i 0) (l.getD j 0) := by
  have := List.pairwise_iff_getElem.1 h i j (by omega) hj hij
  simpa [List.getD, hj, show i < l.length by omega] using this
theorem srtd_le {l : List Nat} (h : srtd key l) {i j : Nat} (hij : i ≤ j) (hj : j < l.length) : lexlt key (l.getD i 0) (l.getD j 0) ∨ l.getD i 0 = l.getD j 0 := by
  rcases Nat.lt_or_eq_of_le hij with h1 | rfl
  · exact .inl (srtd_get h h1 hj)
  · exact .inr rfl
theorem lex_le_trans {x y z : Nat} (h1 : lexlt key x y ∨ x = y) (h2 : lexlt key y z) : lexlt key x z := by
  rcases h1 with h1 | rfl
  · exact lex_trans h1 h2
  · exact h2
theorem lex_trans_le {x y z : Nat} (h1 : lexlt key x y) (h2 : lexlt key y z ∨ y = z) : lexlt key x z := by
  rcases h2 with h2 | rfl
  · exact lex_trans h1 h2
  · exact h1
theorem take_getD {l : List Nat} {s : Nat} {x : Nat} (h : x ∈ l.take s) : ∃ i, i < s ∧ i < l.length ∧ x = l.getD i 0 := by
  obtain ⟨i, hi, rfl⟩ := List.mem_iff_getElem.1 h
  rw [List.length_take] at hi
  exact ⟨i, by omega, by omega, by simp [List.getD, show i < l.length by omega]⟩
theorem drop_getD {l : List Nat} {s : Nat} {x : Nat} (h : x ∈ l.drop s) : ∃ i, s ≤ i ∧ i < l.length ∧ x = l.getD i 0 := by
  obtain ⟨i, hi, rfl⟩ := List.mem_iff_getElem.1 h
  rw [List.length_drop] at hi
  exact ⟨s + i, by omega, by omega, by simp [List.getD, show s + i < l.length by omega]⟩
theorem sym_nodup {A B : List Nat} (hA : srtd key A) (hB : srtd key B) (hlt : ∀ x ∈ A, ∀ y ∈ B, x < y) : (A ++ B).Nodup :=
  List.nodup_append.2 ⟨srtd_nodup hA, srtd_nodup hB, fun a ha b hb => by have := hlt a ha b hb; omega⟩
theorem split_perm (A B : List Nat) (s e : Nat) : (A.take s ++ B.take e ++ (A.drop s ++ B.drop e)).Perm (A ++ B) := by
  have h1 : (A.take s ++ B.take e ++ (A.drop s ++ B.drop e)).Perm (A.take s ++ A.drop s ++ (B.take e ++ B.drop e)) := by
    rw [List.append_assoc, List.append_assoc]
    refine List.Perm.append_left _ ?_
    rw [← List.append_assoc, ← List.append_assoc]
    exact List.Perm.append_right _ List.perm_append_comm
  rwa [List.take_append_drop, List.take_append_drop] at h1
theorem sym_split {A B : List Nat} (hA : srtd key A) (hB : srtd key B) (hlt : ∀ x ∈ A, ∀ y ∈ B, x < y) {s e : Nat} (hs : s ≤ A.length) (he : e ≤ B.length)
    (h1 : 0 < s → e < B.length → ¬ lexlt key (B.getD e 0) (A.getD (s - 1) 0)) (h2 : 0 < e → s < A.length → lexlt key (B.getD (e - 1) 0) (A.getD s 0)) :
    isort key (A ++ B) = isort key (A.take s ++ B.take e) ++ isort key (A.drop s ++ B.drop e) := by
  have hnd := sym_nodup hA hB hlt
  have hp := split_perm A B s e
  rw [← isort_of_perm (hp.nodup_iff.2 hnd) hp]
  refine isort_append (hp.nodup_iff.2 hnd) (fun x hx y hy => ?_)
  rcases List.mem_append.1 hx with hx | hx
  · obtain ⟨i, hi, hi2, rfl⟩ := take_getD hx
    rcases List.mem_append.1 hy with hy | hy
    · obtain ⟨j, hj, hj2, rfl⟩ := drop_getD hy
      exact srtd_get hA (by omega) hj2
    · obtain ⟨j, hj, hj2, rfl⟩ := drop_getD hy
      have h3 := h1 (by omega) (by omega)
      have hne : A.getD (s - 1) 0 < B.getD e 0 := hlt _ (getD_mem (by omega)) _ (getD_mem (by omega))
      have h4 : lexlt key (A.getD (s - 1) 0) (B.getD e 0) := (lex_total (key := key) (by omega)).resolve_right h3
      exact lex_le_trans (srtd_le hA (by omega) (by omega)) (lex_trans_le h4 (srtd_le hB hj hj2))
  · obtain ⟨i, hi, hi2, rfl⟩ := take_getD hx
    rcases List.mem_append.1 hy with hy | hy
    · obtain ⟨j, hj, hj2, rfl⟩ := drop_getD hy
      have h3 := h2 (by omega) (by omega)
      exact lex_le_trans (srtd_le hB (by omega) (by omega)) (lex_trans_le h3 (srtd_le hA hj hj2))
    · obtain ⟨j, hj, hj2, rfl⟩ := drop_getD hy
      exact srtd_get hB (by omega) hj2
def SS (key : Nat → Int) (A B : List Nat) (mid lo hi st r : Nat) : Prop :=
  lo ≤ st ∧ st ≤ r ∧ r ≤ hi ∧ (∀ c, lo ≤ c → c < st → ¬ lexlt key (B.getD (mid - 1 - c) 0) (A.getD c 0)) ∧ ∀ c, r ≤ c → c < hi → lexlt key (B.getD (mid - 1 - c) 0) (A.getD c 0)
theorem ss_mono {A B : List Nat} (hA : srtd key A) (hB : srtd key B) {mid c c' : Nat} (hcc : c' ≤ c) (hc : c < A.length) (hcm : c < mid) (hb : mid - 1 - c' < B.length)
    (h : lexlt key (B.getD (mid - 1 - c') 0) (A.getD c' 0)) : lexlt key (B.getD (mid - 1 - c) 0) (A.getD c 0) :=
  lex_le_trans (srtd_le hB (by omega) hb) (lex_trans_le h (srtd_le hA hcc hc))
theorem SS.up {A B : List Nat} {mid lo hi st r : Nat} (h : SS key A B mid lo hi st r) (hA : srtd key A) (hB : srtd key B) (hhi : hi ≤ A.length ∧ hi ≤ mid) (hlo : mid ≤ lo + B.length) {c : Nat} (h1 : st ≤ c) (h2 : c < r)
    (hc : ¬ lexlt key (B.getD (mid - 1 - c) 0) (A.getD c 0)) : SS key A B mid lo hi (c + 1) r := by
  obtain ⟨a1, a2, a3, a4, a5⟩ := h
  refine ⟨by omega, by omega, a3, fun c' h3 h4 hl => hc (ss_mono hA hB (by omega) (by omega) (by omega) (by omega) hl), a5⟩
theorem SS.down {A B : List Nat} {mid lo hi st r : Nat} (h : SS key A B mid lo hi st r) (hA : srtd key A) (hB : srtd key B) (hhi : hi ≤ A.length ∧ hi ≤ mid) (hlo : mid ≤ lo + B.length) {c : Nat} (h1 : st ≤ c) (h2 : c < r)
    (hc : lexlt key (B.getD (mid - 1 - c) 0) (A.getD c 0)) : SS key A B mid lo hi st c := by
  obtain ⟨a1, a2, a3, a4, a5⟩ := h
  refine ⟨a1, by omega, by omega, a4, fun c' h3 h4 => ss_mono hA hB h3 (by omega) (by omega) (by omega) hc⟩
theorem SS.done {A B : List Nat} {mid lo hi s : Nat} (h : SS key A B mid lo hi s s) (hA : srtd key A) (hB : srtd key B) (hlt : ∀ x ∈ A, ∀ y ∈ B, x < y) (hhi : hi = min mid A.length) (hlo : lo = mid - B.length) :
    isort key (A ++ B) = isort key (A.take s ++ B.take (mid - s)) ++ isort key (A.drop s ++ B.drop (mid - s)) := by
  obtain ⟨a1, a2, a3, a4, a5⟩ := h
  refine sym_split hA hB hlt (by omega) (by omega) (fun h1 h2 => ?_) (fun h1 h2 => ?_)
  · have := a4 (s - 1) (by omega) (by omega)
    rwa [show mid - 1 - (s - 1) = mid - s by omega] at this
  · have := a5 s (by omega) (by omega)
    rwa [show mid - 1 - s = mid - s - 1 by omega] at this
theorem one_in {x : Nat} {B : List Nat} (hB : srtd key B) (hn : x ∉ B) {i : Nat} (hi : i ≤ B.length) (h1 : ∀ k, k < i → lexlt key (B.getD k 0) x) (h2 : ∀ k, i ≤ k → k < B.length → ¬ lexlt key (B.getD k 0) x) (l : List Nat) (hl : l.Perm (x :: B)) :
    isort key l = B.take i ++ x :: B.drop i := by
  symm
  refine isort_eq ?_ ?_
  · have hs : srtd key (B.take i ++ B.drop i) := by rw [List.take_append_drop]; exact hB
    have h := List.pairwise_append.1 hs
    refine List.pairwise_append.2 ⟨h.1, List.pairwise_cons.2 ⟨fun y hy => ?_, h.2.1⟩, fun a ha b hb => ?_⟩
    · have hm := List.mem_of_mem_drop hy
      obtain ⟨j, hj, hj2, rfl⟩ := drop_getD hy
      exact (lex_total (key := key) (fun e => hn (by rw [e]; exact hm))).resolve_right (h2 j hj hj2)
    · rcases List.mem_cons.1 hb with rfl | hb
      · obtain ⟨j, hj, hj2, rfl⟩ := take_getD ha
        exact h1 j hj
      · exact h.2.2 a ha b hb
  · refine List.perm_middle.trans ?_
    rw [List.take_append_drop]
    exact hl.symm
end
end Go.Huf
namespace Go.Huf
section
variable (key : Nat → Int)
def sb (s : Nat) (l : List Nat) : List Nat :=
  if h : 0 < s ∧ l ≠ [] then isort key (l.take s) ++ sb s (l.drop s) else []
termination_by l.length
decreasing_by
  have := List.length_pos_iff.2 h.2
  simp only [List.length_drop]
  omega
variable {key}
theorem sb_nil (s : Nat) : sb key s [] = [] := by rw [sb]; simp
theorem sb_cons {s : Nat} {l : List Nat} (hs : 0 < s) (hl : l ≠ []) : sb key s l = isort key (l.take s) ++ sb key s (l.drop s) := by
  rw [sb, dif_pos ⟨hs, hl⟩]
theorem sb_small {s : Nat} {l : List Nat} (hs : 0 < s) (hl : l.length ≤ s) : sb key s l = isort key l := by
  cases l with
  | nil => rw [sb_nil]; rfl
  | cons x l =>
    rw [sb_cons hs (by simp), List.take_of_length_le hl, List.drop_of_length_le hl, sb_nil, List.append_nil]
theorem sb_app {s : Nat} (hs : 0 < s) : ∀ (k : Nat) (x y : List Nat), x.length = k * s → sb key s (x ++ y) = sb key s x ++ sb key s y
  | 0, x, y, h => by
    have : x = [] := List.eq_nil_of_length_eq_zero (by simpa using h)
    subst this
    rw [sb_nil]; rfl
  | k + 1, x, y, h => by
    have h1 : s ≤ x.length := by rw [h, Nat.add_mul]; omega
    have hx : x ≠ [] := fun e => by subst e; simp at h1; omega
    rw [sb_cons hs (by simp [hx]), sb_cons hs hx, List.take_append_of_le_length h1, List.drop_append_of_le_length h1, sb_app hs k (x.drop s) y (by rw [List.length_drop, h, Nat.add_mul]; omega), List.append_assoc]
theorem take_two (l : List Nat) (a s : Nat) : l.take (a + s) = l.take a ++ (l.drop a).take s := List.take_add
theorem sb_len {s : Nat} (hs : 0 < s) (l : List Nat) : (sb key s l).length = l.length := by
  by_cases hl : l = []
  · subst hl; rw [sb_nil]
  · rw [sb_cons hs hl, List.length_append, isort_len, sb_len hs (l.drop s), List.length_take, List.length_drop]
    omega
termination_by l.length
decreasing_by
  have := List.length_pos_iff.2 hl
  simp only [List.length_drop]
  omega
theorem sb_next {s k : Nat} (hs : 0 < s) {l : List Nat} (h : k * s ≤ l.length) : sb key s (l.take (k * s + s)) = sb key s (l.take (k * s)) ++ isort key ((l.drop (k * s)).take s) := by
  rw [take_two, sb_app hs k _ _ (by rw [List.length_take]; omega), sb_small (l := (l.drop (k * s)).take s) hs (by rw [List.length_take]; omega)]
theorem sb_rest {s k : Nat} (hs : 0 < s) {l : List Nat} (h : k * s ≤ l.length) (h2 : l.length ≤ k * s + s) : sb key s l = sb key s (l.take (k * s)) ++ isort key (l.drop (k * s)) := by
  conv => lhs; rw [← List.take_append_drop (k * s) l]
  rw [sb_app hs k _ _ (by rw [List.length_take]; omega), sb_small (l := l.drop (k * s)) hs (by rw [List.length_drop]; omega)]
theorem sb_two {s : Nat} (hs : 0 < s) {l : List Nat} (h : s < l.length) : sb key s l = isort key (l.take s) ++ isort key ((l.drop s).take s) ++ sb key s (l.drop (s + s)) := by
  rw [sb_cons hs (fun e => by subst e; simp at h), sb_cons (l := l.drop s) hs (fun e => by have := congrArg List.length e; rw [List.length_drop] at this; simp at this; omega), List.drop_drop, List.append_assoc]
theorem isort_two {X Y : List Nat} (hn : (X ++ Y).Nodup) : isort key (isort key X ++ isort key Y) = isort key (X ++ Y) :=
  isort_of_perm (((isort_perm X).append (isort_perm Y)).nodup_iff.2 hn) ((isort_perm X).append (isort_perm Y))
end
end Go.Huf

namespace Go.Huf
theorem treeF_ge : ∀ (n : Nat) (s : List (Int × Int) × List Nat), s.1.length ≤ (treeF n s).1.length
  | 0, s => Nat.le_refl _
  | n + 1, s => by
    rw [treeF]
    split
    · have := treeF_ge n (treeStep s)
      rw [treeStep_len] at this
      omega
    · exact Nat.le_refl _
theorem tree_ge (cs : List Int) : (nodes0 cs).length ≤ (tree cs).length := treeF_ge (nodes0 cs).length (nodes0 cs, List.range (nodes0 cs).length)
theorem treeF_sz : ∀ (n : Nat) (s : List (Int × Int) × List Nat), (treeF n s).1.length ≤ s.1.length + n
  | 0, s => Nat.le_refl _
  | n + 1, s => by
    rw [treeF]
    split
    · have := treeF_sz n (treeStep s)
      rw [treeStep_len] at this
      omega
    · omega
theorem nodes0_le (cs : List Int) : (nodes0 cs).length ≤ cs.length := by
  unfold nodes0
  rw [List.length_map]
  exact List.length_filter_le _ _
theorem tree_sz (cs : List Int) : (tree cs).length ≤ 2 * cs.length := by
  have := treeF_sz (nodes0 cs).length (nodes0 cs, List.range (nodes0 cs).length)
  have := nodes0_le cs
  unfold tree
  dsimp only at *
  omega
theorem tree_ups {cs : List Int} (h : ∀ n ∈ cs, 0 ≤ n) (i : Nat) (hi : i < (tree cs).length) : up1 (tree cs) i = -1 ∨ ∃ t : Nat, up1 (tree cs) i = t ∧ i < t ∧ t < (tree cs).length := by
  obtain ⟨h', p', hI⟩ := TI.run (h := fun _ => 0) (p := 0) (nodes0 cs).length (nodes0 cs) (List.range (nodes0 cs).length) _ _ (TI.start h)
  rcases hI.ups i hi with ⟨h1, _⟩ | ⟨t, h1, h2, h3, _⟩
  · exact .inl h1
  · exact .inr ⟨t, h1, h2, h3⟩
def leaf (cs : List Int) (i : Nat) : Nat := (nodes0 (cs.take i)).length
def dAt (cs : List Int) (i : Nat) : Nat := if cs.getD i 0 = 0 then 0 else max (upN (tree cs) (tree cs).length (up1 (tree cs) (leaf cs i))) 1
def dMost (cs : List Int) : Nat → Nat
  | 0 => 0
  | i + 1 => max (dMost cs i) (dAt cs i)
def depths (cs : List Int) : List Nat := (List.range cs.length).map (dAt cs)
theorem dMost_ge (cs : List Int) : ∀ k i, i < k → dAt cs i ≤ dMost cs k
  | 0, i, h => by omega
  | k + 1, i, h => by
    rw [dMost]
    rcases Nat.lt_succ_iff_lt_or_eq.1 h with h1 | rfl
    · have := dMost_ge cs k i h1; omega
    · omega
theorem dMost_le (cs : List Int) (b : Nat) (h : ∀ i, i < cs.length → dAt cs i ≤ b) : ∀ k, k ≤ cs.length → dMost cs k ≤ b
  | 0, _ => Nat.zero_le _
  | k + 1, hk => by
    rw [dMost]
    have := dMost_le cs b h k (by omega)
    have := h k (by omega)
    omega
theorem nodes0_succ {cs : List Int} {i : Nat} (h : i < cs.length) : leaf cs (i + 1) = leaf cs i + (if 0 < cs[i] then 1 else 0) := by
  unfold leaf
  rw [List.take_succ_eq_append_getElem h]
  unfold nodes0
  rw [List.filter_append, List.map_append, List.length_append]
  congr 1
  by_cases hp : 0 < cs[i] <;> simp [hp]
theorem leaf_le (cs : List Int) (i : Nat) : leaf cs i ≤ (nodes0 cs).length := by
  unfold leaf nodes0
  rw [List.length_map, List.length_map]
  exact (List.Sublist.filter _ (List.take_sublist i cs)).length_le
theorem leaf_lt {cs : List Int} {i : Nat} (h : i < cs.length) (hp : 0 < cs[i]) : leaf cs i < (tree cs).length := by
  have h1 := nodes0_succ h
  rw [if_pos hp] at h1
  have := leaf_le cs (i + 1)
  have := tree_ge cs
  omega
theorem dAt_small {cs : List Int} (h : ∀ n ∈ cs, 0 ≤ n) (hs : cs.sum < fib 15) (i : Nat) (hi : i < cs.length) : dAt cs i ≤ 15 := by
  unfold dAt
  split
  · omega
  · rename_i h1
    rw [List.getD_eq_getElem?_getD, List.getElem?_eq_getElem hi, Option.getD_some] at h1
    have h0 := h _ (List.getElem_mem hi)
    have := tree_deep h hs (tree cs).length (leaf cs i) (leaf_lt hi (by omega))
    omega
def half (n : Int) : Int := if 0 < n then n.tdiv 2 + 1 else n
theorem half_le {n : Int} (h : 0 ≤ n) : 0 ≤ half n ∧ half n ≤ n ∧ (3 ≤ n → half n < n) ∧ (half n = 0 ↔ n = 0) := by
  unfold half
  by_cases hp : 0 < n
  · rw [if_pos hp, Int.tdiv_eq_ediv_of_nonneg h]
    refine ⟨by omega, by omega, fun h3 => by omega, by omega⟩
  · rw [if_neg hp]
    exact ⟨h, Int.le_refl _, fun h3 => by omega, Iff.rfl⟩
theorem sum_half : ∀ (cs : List Int), (∀ n ∈ cs, 0 ≤ n) → 0 ≤ cs.sum ∧ (cs.map half).sum ≤ cs.sum ∧ ((∃ n ∈ cs, 3 ≤ n) → (cs.map half).sum < cs.sum) ∧ ((∀ n ∈ cs, n ≤ 2) → cs.sum ≤ 2 * cs.length)
  | [], _ => by simp
  | n :: cs, h => by
    obtain ⟨i0, i1, i2, i3⟩ := sum_half cs (fun m hm => h m (by simp [hm]))
    obtain ⟨h0, h1, h2, _⟩ := half_le (h n (by simp))
    have hn := h n (by simp)
    simp only [List.map_cons, List.sum_cons, List.length_cons]
    refine ⟨by omega, by omega, ?_, ?_⟩
    · rintro ⟨m, hm, h3⟩
      rcases List.mem_cons.1 hm with rfl | hm
      · have := h2 h3; omega
      · have := i2 ⟨m, hm, h3⟩; omega
    · intro h4
      have := i3 (fun m hm => h4 m (by simp [hm]))
      have := h4 n (by simp)
      omega
theorem deep_half {cs : List Int} (h : ∀ n ∈ cs, 0 ≤ n) (hl : cs.length ≤ 512) (hd : 15 < dMost cs cs.length) : (cs.map half).sum < cs.sum := by
  obtain ⟨_, _, h2, h3⟩ := sum_half cs h
  apply h2
  apply Classical.byContradiction
  intro hc
  have hs := h3 (fun n hn => by
    apply Classical.byContradiction
    intro h4
    exact hc ⟨n, hn, by omega⟩)
  have hf : fib 15 = 1597 := by decide
  have := dMost_le cs 15 (dAt_small h (by omega)) cs.length (Nat.le_refl _)
  omega
end Go.Huf

namespace Go.Huf
end Go.Huf

namespace Go.Huf
abbrev RN3 := (Int × Int) × Int
def lay (cs : List Int) : Nat → List RN3
  | 0 => []
  | k + 1 => lay cs k ++ (if 0 < cs.getD k 0 then [((cs.getD k 0, -1), (k : Int))] else [])
end Go.Huf

namespace Go.Huf
def cnt (ls : List Int) (k : Nat) : Nat := ls.countP (fun n => decide (n = (k : Int)))
def some_ (ls : List Int) : Nat := ls.countP (fun n => decide (0 < n))
def p2 (k : Nat) : Nat := 2 ^ (15 - k)
theorem p2_le (k : Nat) : 1 ≤ p2 k ∧ p2 k ≤ 32768 := by
  have h1 : 2 ^ (15 - k) ≤ 2 ^ 15 := Nat.pow_le_pow_right (by omega) (by omega)
  have h2 := Nat.two_pow_pos (15 - k)
  simp only [Nat.reducePow] at h1
  unfold p2
  omega
def pw (n : Int) : Int := if 0 < n then p2 n.toNat else 0
def room (ls : List Int) : Int := (ls.map pw).sum
def good (ls : List Int) : Prop := ∀ n ∈ ls, 0 ≤ n ∧ n ≤ 15
def okL (ls : List Int) : Prop := ls.length ≤ 512 ∧ good ls ∧ (some_ ls = 0 ∨ some_ ls = 1 ∧ cnt ls 1 = 1 ∨ room ls = 32768)
instance (ls : List Int) : Decidable (good ls) := by unfold good; infer_instance
instance (ls : List Int) : Decidable (okL ls) := by unfold okL; infer_instance
def chkE (ls : List Int) : Int := if okL ls then 0 else 51
theorem chkE_ok {ls : List Int} (hl : ls.length ≤ 512) (hg : good ls) (h : some_ ls = 0 ∨ some_ ls = 1 ∧ cnt ls 1 = 1 ∨ room ls = 32768) : chkE ls = 0 := by
  unfold chkE
  rw [if_pos (show okL ls from ⟨hl, hg, h⟩)]
theorem chkE_no {ls : List Int} (h : ¬ (some_ ls = 0 ∨ some_ ls = 1 ∧ cnt ls 1 = 1 ∨ room ls = 32768)) : chkE ls = 51 := by
  unfold chkE
  rw [if_neg (show ¬ okL ls from fun h2 => h h2.2.2)]
theorem cnt_le (ls : List Int) (k : Nat) : cnt ls k ≤ ls.length := List.countP_le_length
theorem some_le (ls : List Int) : some_ ls ≤ ls.length := List.countP_le_length
theorem cnt_snoc (ls : List Int) (x : Int) (k : Nat) : cnt (ls ++ [x]) k = cnt ls k + (if x = k then 1 else 0) := by
  unfold cnt
  rw [List.countP_append]
  by_cases h : x = (k : Int) <;> simp [h]
theorem room_snoc (ls : List Int) (x : Int) : room (ls ++ [x]) = room ls + pw x := by
  unfold room
  simp [List.sum_append]
theorem pw_range (n : Int) : 0 ≤ pw n ∧ pw n ≤ 32768 := by
  unfold pw
  split
  · have := p2_le n.toNat
    omega
  · omega
theorem room_range : ∀ ls : List Int, 0 ≤ room ls ∧ room ls ≤ 32768 * ls.length
  | [] => by simp [room]
  | x :: ls => by
    have := room_range ls
    have := pw_range x
    unfold room at *
    simp only [List.map_cons, List.sum_cons, List.length_cons]
    omega
theorem some_cnt : ∀ (ls : List Int), good ls → some_ ls + cnt ls 0 = ls.length
  | [], _ => rfl
  | x :: ls, h => by
    have ih := some_cnt ls (fun n hn => h n (by simp [hn]))
    have hx := h x (by simp)
    unfold some_ cnt at *
    rw [List.countP_cons, List.countP_cons, List.length_cons]
    by_cases h0 : 0 < x
    · have h1 : ¬ x = ((0 : Nat) : Int) := by omega
      simp only [h0, h1, decide_true, decide_false, if_true, Bool.false_eq_true, if_false]
      omega
    · have h1 : x = ((0 : Nat) : Int) := by omega
      simp only [h0, decide_false, Bool.false_eq_true, if_false]
      rw [if_pos (by simpa using h1)]
      omega
def rm (ls : List Int) : Nat → Int
  | 0 => 0
  | n + 1 => rm ls n + (cnt ls (n + 1) : Int) * (p2 (n + 1) : Int)
theorem rm_cons (x : Int) (ls : List Int) : ∀ m, m ≤ 15 → rm (x :: ls) m = rm ls m + (if 1 ≤ x ∧ x ≤ m then (p2 x.toNat : Int) else 0)
  | 0, _ => by simp only [rm]; rw [if_neg (by omega)]; rfl
  | m + 1, h => by
    have ih := rm_cons x ls m (by omega)
    have hc : (cnt (x :: ls) (m + 1) : Int) = cnt ls (m + 1) + (if x = ((m + 1 : Nat) : Int) then 1 else 0) := by
      unfold cnt
      rw [List.countP_cons]
      by_cases hx : x = ((m + 1 : Nat) : Int)
      · rw [if_pos hx, if_pos (by simpa using hx)]; omega
      · rw [if_neg hx, if_neg (by simpa using hx)]; omega
    rw [rm, rm, ih, hc]
    by_cases hx : x = ((m + 1 : Nat) : Int)
    · rw [if_pos hx, if_neg (by omega), if_pos (by omega)]
      have : x.toNat = m + 1 := by omega
      rw [this, Int.add_mul]
      omega
    · rw [if_neg hx]
      rw [show ((cnt ls (m + 1) : Int) + 0) = cnt ls (m + 1) by omega]
      by_cases h2 : 1 ≤ x ∧ x ≤ m
      · rw [if_pos h2, if_pos (by omega)]
        omega
      · rw [if_neg h2, if_neg (by omega)]
        omega
theorem rm_room : ∀ (ls : List Int), good ls → rm ls 15 = room ls
  | [], _ => by decide
  | x :: ls, h => by
    have ih := rm_room ls (fun n hn => h n (by simp [hn]))
    have hx := h x (by simp)
    rw [rm_cons x ls 15 (by omega), ih]
    unfold room
    rw [List.map_cons, List.sum_cons]
    have : pw x = if 1 ≤ x ∧ x ≤ (15 : Nat) then (p2 x.toNat : Int) else 0 := by
      unfold pw
      by_cases h0 : 0 < x
      · rw [if_pos h0, if_pos (by omega)]
      · rw [if_neg h0, if_neg (by omega)]
    rw [this]
    omega
theorem rm_small {ls : List Int} (hl : ls.length ≤ 512) : ∀ m, 0 ≤ rm ls m ∧ rm ls m ≤ 16777216 * m
  | 0 => by simp [rm]
  | m + 1 => by
    have ih := rm_small hl m
    have hc := cnt_le ls (m + 1)
    have h1 : cnt ls (m + 1) * p2 (m + 1) ≤ 512 * 32768 := Nat.mul_le_mul (by omega) (p2_le _).2
    have h2 : ((cnt ls (m + 1) : Int) * (p2 (m + 1) : Int)) = ((cnt ls (m + 1) * p2 (m + 1) : Nat) : Int) := by simp
    rw [rm, h2]
    omega
theorem rm_mul {ls : List Int} (hl : ls.length ≤ 512) (m : Nat) : 0 ≤ (cnt ls m : Int) * (p2 m : Int) ∧ (cnt ls m : Int) * (p2 m : Int) ≤ 16777216 := by
  have hc := cnt_le ls m
  have h1 : cnt ls m * p2 m ≤ 512 * 32768 := Nat.mul_le_mul (by omega) (p2_le _).2
  have h2 : ((cnt ls m : Int) * (p2 m : Int)) = ((cnt ls m * p2 m : Nat) : Int) := by simp
  rw [h2]
  omega
end Go.Huf

namespace Go.Huf
def sumR (f : Nat → Nat) : Nat → Nat
  | 0 => 0
  | m + 1 => sumR f m + f m
theorem sumR_eq (f : Nat → Nat) : ∀ m, ((List.range m).map f).sum = sumR f m
  | 0 => rfl
  | m + 1 => by rw [List.range_succ, List.map_append, List.sum_append, sumR_eq f m]; simp [sumR]
theorem sumR_congr {f g : Nat → Nat} : ∀ m, (∀ j, j < m → f j = g j) → sumR f m = sumR g m
  | 0, _ => rfl
  | m + 1, h => by rw [sumR, sumR, sumR_congr m (fun j hj => h j (by omega)), h m (by omega)]
theorem sumR_le {f g : Nat → Nat} : ∀ m, (∀ j, j < m → f j ≤ g j) → sumR f m ≤ sumR g m
  | 0, _ => Nat.le_refl _
  | m + 1, h => by
    have := sumR_le m (fun j hj => h j (by omega))
    have := h m (by omega)
    rw [sumR, sumR]; omega
theorem sumR_add (f g : Nat → Nat) : ∀ m, sumR (fun j => f j + g j) m = sumR f m + sumR g m
  | 0 => rfl
  | m + 1 => by rw [sumR, sumR, sumR, sumR_add f g m]; omega
theorem sumR_point (i c : Nat) : ∀ m, sumR (fun j => if j = i then c else 0) m = if i < m then c else 0
  | 0 => by simp [sumR]
  | m + 1 => by
    rw [sumR, sumR_point i c m]
    by_cases h : m = i
    · subst h; simp
    · rw [if_neg h]
      by_cases h2 : i < m
      · rw [if_pos h2, if_pos (by omega)]; rfl
      · rw [if_neg h2, if_neg (by omega)]
theorem sumR_zero {f : Nat → Nat} : ∀ m, (∀ j, j < m → f j = 0) → sumR f m = 0
  | 0, _ => rfl
  | m + 1, h => by rw [sumR, sumR_zero m (fun j hj => h j (by omega)), h m (by omega)]
theorem sumR_dvd {f : Nat → Nat} {d : Nat} : ∀ m, (∀ j, j < m → d ∣ f j) → d ∣ sumR f m
  | 0, _ => Nat.dvd_zero _
  | m + 1, h => by rw [sumR]; exact Nat.dvd_add (sumR_dvd m (fun j hj => h j (by omega))) (h m (by omega))
theorem sum_filter (p : Nat → Bool) (f : Nat → Nat) : ∀ l : List Nat, ((l.filter p).map f).sum = (l.map fun j => if p j then f j else 0).sum
  | [] => rfl
  | x :: l => by
    have ih := sum_filter p f l
    cases h : p x with
    | true => rw [List.filter_cons_of_pos h, List.map_cons, List.sum_cons, ih, List.map_cons, List.sum_cons, if_pos h]
    | false => rw [List.filter_cons_of_neg (by simp [h]), ih, List.map_cons, List.sum_cons, if_neg (by simp [h])]; omega
abbrev ln (ls : List Int) (j : Nat) : Int := ls.getD j 0
theorem ln_eq {ls : List Int} {j : Nat} (h : j < ls.length) : ln ls j = ls[j] := by simp [ln, List.getD, h]
theorem ln_good {ls : List Int} (hg : good ls) (j : Nat) : 0 ≤ ln ls j ∧ ln ls j ≤ 15 := by
  rcases Nat.lt_or_ge j ls.length with h | h
  · rw [ln_eq h]; exact hg _ (List.getElem_mem h)
  · simp [ln, List.getD, h]
def pj (ls : List Int) (j : Nat) : Nat := if 0 < ln ls j then p2 (ln ls j).toNat else 0
theorem p2_dvd {m n : Nat} (h : m ≤ n) : p2 n ∣ p2 m := by
  unfold p2
  exact Nat.pow_dvd_pow 2 (by omega)
theorem p2_pos (n : Nat) : 0 < p2 n := by have := p2_le n; omega
theorem p2_sub {m n : Nat} (h : m ≤ n) (h2 : n ≤ 15) : p2 m = p2 n * 2 ^ (n - m) := by
  unfold p2
  rw [← Nat.pow_add]
  congr 1
  omega
theorem p2_mul {n : Nat} (h : n ≤ 15) : p2 n * 2 ^ n = 32768 := by
  unfold p2
  rw [← Nat.pow_add, show 15 - n + n = 15 by omega]
theorem room_sum : ∀ (ls : List Int), room ls = (sumR (pj ls) ls.length : Nat) := by
  intro ls
  have key : ∀ m, m ≤ ls.length → room (ls.take m) = (sumR (pj ls) m : Nat) := by
    intro m
    induction m with
    | zero => intro _; simp [room, sumR]
    | succ m ih =>
      intro h
      rw [List.take_succ_eq_append_getElem (by omega), room_snoc, ih (by omega), sumR, pw, pj, ln_eq (by omega)]
      split <;> simp
  have := key ls.length (Nat.le_refl _)
  rwa [List.take_length] at this
def ahead (ls : List Int) (n : Nat) (i j : Nat) : Prop := ln ls j < n ∨ ln ls j = n ∧ j < i
instance (ls : List Int) (n i j : Nat) : Decidable (ahead ls n i j) := by unfold ahead; infer_instance
def preN (ls : List Int) (n i : Nat) : Nat := sumR (fun j => if ahead ls n i j then pj ls j else 0) ls.length
theorem preN_step {ls : List Int} {n i : Nat} (hn : 0 < n) (hi : i < ls.length) : preN ls n (i + 1) = preN ls n i + (if ln ls i = n then p2 n else 0) := by
  have h1 : (if ln ls i = n then p2 n else 0) = sumR (fun j => if j = i then (if ln ls i = n then p2 n else 0) else 0) ls.length := by rw [sumR_point, if_pos hi]
  rw [h1]
  unfold preN
  rw [← sumR_add]
  refine sumR_congr _ (fun j hj => ?_)
  by_cases hji : j = i
  · subst hji
    rw [if_pos rfl]
    by_cases hl : ln ls j = n
    · rw [if_pos hl, if_pos (show ahead ls n (j + 1) j from .inr ⟨hl, by omega⟩), if_neg (show ¬ ahead ls n j j by unfold ahead; omega)]
      unfold pj
      rw [if_pos (by omega), hl]
      simp
    · rw [if_neg hl]
      have : ahead ls n (j + 1) j ↔ ahead ls n j j := by unfold ahead; omega
      simp only [this]
      omega
  · rw [if_neg hji]
    have : ahead ls n (i + 1) j ↔ ahead ls n i j := by unfold ahead; omega
    simp only [this]
    omega
theorem preN_dvd {ls : List Int} {n i : Nat} : p2 n ∣ preN ls n i := by
  unfold preN
  refine sumR_dvd _ (fun j hj => ?_)
  split
  · rename_i h
    unfold pj
    split
    · exact p2_dvd (by unfold ahead at h; omega)
    · exact Nat.dvd_zero _
  · exact Nat.dvd_zero _
theorem preN_room {ls : List Int} {n i : Nat} : (preN ls n i : Int) ≤ room ls := by
  rw [room_sum]
  have : preN ls n i ≤ sumR (pj ls) ls.length := sumR_le _ (fun j hj => by split <;> omega)
  omega
theorem room_some : ∀ (ls : List Int), room ls ≤ 16384 * (some_ ls : Nat)
  | [] => by simp [room, some_]
  | x :: ls => by
    have ih := room_some ls
    have : pw x ≤ if 0 < x then 16384 else 0 := by
      unfold pw
      split
      · have h1 : p2 x.toNat ≤ p2 1 := Nat.le_of_dvd (p2_pos 1) (p2_dvd (by omega))
        have : p2 1 = 16384 := rfl
        omega
      · omega
    unfold room some_ at *
    rw [List.map_cons, List.sum_cons, List.countP_cons]
    by_cases h : 0 < x
    · simp only [h, if_true, decide_true] at *
      omega
    · simp only [h, if_false, decide_false, Bool.false_eq_true] at *
      omega
theorem ok_room {ls : List Int} (h : okL ls) : room ls ≤ 32768 := by
  have := room_some ls
  rcases h.2.2 with h | ⟨h, _⟩ | h <;> omega
def codeV (ls : List Int) (s : Nat) : Nat := if 0 < ln ls s then preN ls (ln ls s).toNat s / p2 (ln ls s).toNat else 0
def codesL (ls : List Int) : List Nat := (List.range ls.length).map (codeV ls)
theorem codesL_len (ls : List Int) : (codesL ls).length = ls.length := by simp [codesL]
theorem codeV_lt {ls : List Int} (h : okL ls) {s : Nat} (hs : s < ls.length) (hp : 0 < ln ls s) : codeV ls s < 2 ^ (ln ls s).toNat := by
  unfold codeV
  rw [if_pos hp]
  obtain ⟨n, hn⟩ : ∃ n : Nat, ln ls s = n := ⟨(ln ls s).toNat, by omega⟩
  have hl := ln_good h.2.1 s
  have h1 := preN_step (ls := ls) (n := n) (i := s) (by omega) hs
  rw [if_pos hn] at h1
  have h2 := preN_room (ls := ls) (n := n) (i := s + 1)
  have h3 := ok_room h
  rw [hn]
  simp only [Int.toNat_natCast]
  rw [Nat.div_lt_iff_lt_mul (p2_pos n)]
  have h4 := p2_mul (n := n) (by omega)
  have h5 := p2_pos n
  have h6 : 2 ^ n * p2 n = 32768 := by rw [Nat.mul_comm]; exact h4
  omega
theorem codeV_small {ls : List Int} (h : okL ls) {s : Nat} (hs : s < ls.length) : codeV ls s < 32768 := by
  by_cases hp : 0 < ln ls s
  · have h1 := codeV_lt h hs hp
    have hl := ln_good h.2.1 s
    have : 2 ^ (ln ls s).toNat ≤ 2 ^ 15 := Nat.pow_le_pow_right (by omega) (by omega)
    omega
  · unfold codeV; rw [if_neg hp]; omega
def pl (ls : List Int) (l : List Nat) : Nat := (l.map (pj ls)).sum
theorem filter_take {key : Nat → Int} {l : List Nat} (h : srtd key l) {i : Nat} (hi : i < l.length) : l.filter (fun j => decide (lexlt key j l[i])) = l.take i := by
  have hp := List.pairwise_iff_getElem.1 h
  have e0 : l.filter (fun j => decide (lexlt key j l[i])) = (l.take i).filter (fun j => decide (lexlt key j l[i])) ++ (l.drop i).filter (fun j => decide (lexlt key j l[i])) := by
    rw [← List.filter_append, List.take_append_drop]
  rw [e0]
  have h1 : (l.take i).filter (fun j => decide (lexlt key j l[i])) = l.take i := by
    rw [List.filter_eq_self]
    intro x hx
    obtain ⟨j, hj, rfl⟩ := List.mem_iff_getElem.1 hx
    rw [List.length_take] at hj
    rw [List.getElem_take]
    simpa using hp j i (by omega) hi (by omega)
  have h2 : (l.drop i).filter (fun j => decide (lexlt key j l[i])) = [] := by
    rw [List.filter_eq_nil_iff]
    intro x hx
    obtain ⟨j, hj, rfl⟩ := List.mem_iff_getElem.1 hx
    rw [List.length_drop] at hj
    rw [List.getElem_drop]
    rcases Nat.eq_zero_or_pos j with rfl | h0
    · simpa using lex_irrefl key _
    · simpa using lex_asymm (hp i (i + j) hi (by omega) (by omega))
  rw [h1, h2, List.append_nil]
theorem ord_srtd (ls : List Int) : srtd (fun i => ls.getD i 0) (ord ls) := isort_srtd ((symsK_inc ls ls.length).imp (fun h => by omega))
theorem ord_perm (ls : List Int) : (ord ls).Perm (symsK ls ls.length) := isort_perm _
theorem ord_mem {ls : List Int} {i : Nat} : i ∈ ord ls ↔ i < ls.length ∧ 0 < ls.getD i 0 := by
  rw [(ord_perm ls).mem_iff, symsK_mem]
theorem ord_pre {ls : List Int} (hg : good ls) {i : Nat} (hi : i < (ord ls).length) : preN ls (ln ls (ord ls)[i]).toNat (ord ls)[i] = pl ls ((ord ls).take i) := by
  rw [← filter_take (ord_srtd ls) hi]
  have hm := ord_mem.1 (List.getElem_mem hi)
  generalize (ord ls)[i] = s at *
  have h1 : pl ls ((ord ls).filter (fun j => decide (lexlt (fun i => ls.getD i 0) j s))) = pl ls ((symsK ls ls.length).filter (fun j => decide (lexlt (fun i => ls.getD i 0) j s))) :=
    List.Perm.sum_nat (((ord_perm ls).filter _).map _)
  rw [h1]
  unfold pl symsK
  rw [List.filter_filter, sum_filter, sumR_eq]
  unfold preN
  refine sumR_congr _ (fun j hj => ?_)
  have hgs := ln_good hg s
  by_cases hp : 0 < ls.getD j 0
  · have : ahead ls (ln ls s).toNat s j ↔ lexlt (fun i => ls.getD i 0) j s := by unfold ahead lexlt; dsimp only [ln] at *; omega
    simp only [this, hp, decide_true, Bool.and_true, decide_eq_true_eq]
  · have h0 : pj ls j = 0 := by unfold pj; rw [if_neg hp]
    rw [h0]
    simp
theorem pl_snoc (ls : List Int) (l : List Nat) (s : Nat) : pl ls (l ++ [s]) = pl ls l + pj ls s := by
  simp [pl, List.sum_append]
theorem ord_len_inc {ls : List Int} {i : Nat} (hi : i + 1 < (ord ls).length) : ln ls (ord ls)[i] ≤ ln ls (ord ls)[i + 1] := by
  have h := List.pairwise_iff_getElem.1 (ord_srtd ls) i (i + 1) (by omega) hi (by omega)
  unfold lexlt at h
  dsimp only [ln] at *
  omega
theorem code_first {ls : List Int} (hg : good ls) (hi : 0 < (ord ls).length) : codeV ls (ord ls)[0] = 0 := by
  unfold codeV
  split
  · rw [ord_pre hg hi]; simp [pl]
  · rfl
theorem code_next {ls : List Int} (hg : good ls) {i : Nat} (hi : i + 1 < (ord ls).length) :
    codeV ls (ord ls)[i + 1] = (codeV ls (ord ls)[i] + 1) * 2 ^ ((ln ls (ord ls)[i + 1]).toNat - (ln ls (ord ls)[i]).toNat) := by
  have hi0 : i < (ord ls).length := by omega
  have h1 := ord_pre hg hi0
  have h2 := ord_pre hg hi
  rw [List.take_succ_eq_append_getElem hi0, pl_snoc, ← h1] at h2
  have hle := ord_len_inc hi
  have hm1 := (ord_mem.1 (List.getElem_mem hi0)).2
  have hm2 := (ord_mem.1 (List.getElem_mem hi)).2
  generalize (ord ls)[i + 1] = t at *
  generalize (ord ls)[i] = s at *
  have hg1 := ln_good hg s
  have hg2 := ln_good hg t
  change 0 < ln ls s at hm1
  change 0 < ln ls t at hm2
  have hpj : pj ls s = p2 (ln ls s).toNat := by unfold pj; rw [if_pos hm1]
  have hd := preN_dvd (ls := ls) (n := (ln ls s).toNat) (i := s)
  unfold codeV
  rw [if_pos hm1, if_pos hm2, h2, hpj]
  generalize preN ls (ln ls s).toNat s = p at *
  obtain ⟨q, rfl⟩ := hd
  rw [Nat.mul_div_cancel_left _ (p2_pos _)]
  have hs := p2_sub (m := (ln ls s).toNat) (n := (ln ls t).toNat) (by omega) (by omega)
  rw [hs]
  have : p2 (ln ls t).toNat * 2 ^ ((ln ls t).toNat - (ln ls s).toNat) * q + p2 (ln ls t).toNat * 2 ^ ((ln ls t).toNat - (ln ls s).toNat) = p2 (ln ls t).toNat * ((q + 1) * 2 ^ ((ln ls t).toNat - (ln ls s).toNat)) := by
    rw [← Nat.mul_succ, Nat.mul_assoc, Nat.mul_comm (2 ^ _)]
  rw [this, Nat.mul_div_cancel_left _ (p2_pos _)]
def cRow (ls : List Int) (k : Nat) : List Nat := (List.range ls.length).map fun s => if s ∈ (ord ls).take k then codeV ls s else 0
theorem cRow_len (ls : List Int) (k : Nat) : (cRow ls k).length = ls.length := by simp [cRow]
theorem cRow_zero (ls : List Int) : cRow ls 0 = List.replicate ls.length 0 := by
  apply List.ext_getElem
  · simp [cRow]
  · intro i h1 h2; simp [cRow]
theorem cRow_succ {ls : List Int} {k : Nat} (hk : k < (ord ls).length) : (cRow ls k).set (ord ls)[k] (codeV ls (ord ls)[k]) = cRow ls (k + 1) := by
  apply List.ext_getElem
  · simp [cRow]
  · intro i h1 h2
    rw [List.getElem_set]
    simp only [cRow, List.getElem_map, List.getElem_range]
    split
    · rename_i h
      subst h
      rw [if_pos]
      rw [List.take_succ_eq_append_getElem hk]
      exact List.mem_append_right _ (List.mem_singleton.2 rfl)
    · rename_i h
      rw [List.take_succ_eq_append_getElem hk]
      simp only [List.mem_append, List.mem_singleton]
      have : ¬ i = (ord ls)[k] := fun e => h e.symm
      simp only [this, or_false]
theorem cRow_all (ls : List Int) : cRow ls (ord ls).length = codesL ls := by
  unfold cRow codesL
  rw [List.take_length]
  refine List.map_congr_left (fun s hs => ?_)
  have hs' : s < ls.length := by simpa using hs
  split
  · rfl
  · rename_i h
    rw [ord_mem] at h
    unfold codeV
    rw [if_neg]
    unfold ln
    intro hh
    exact h ⟨hs', hh⟩
end Go.Huf

