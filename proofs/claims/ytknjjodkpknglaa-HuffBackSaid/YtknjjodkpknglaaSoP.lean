/- Sorted rows of numbers under a key: on lists alone. Equal keys: by the number itself, so it is a strict total order. -/
import Derived.WalkKit
set_option linter.unusedVariables false
set_option linter.unusedSimpArgs false
namespace Go.Huf
section
variable (key : Nat → Int)
/-- x stands ahead of y -/
def lexlt (x y : Nat) : Prop := key x < key y ∨ key x = key y ∧ x < y
instance (x y : Nat) : Decidable (lexlt key x y) := by unfold lexlt; infer_instance
theorem lex_irrefl (x : Nat) : ¬ lexlt key x x := by unfold lexlt; omega
variable {key}
theorem lex_trans {x y z : Nat} (h1 : lexlt key x y) (h2 : lexlt key y z) : lexlt key x z := by unfold lexlt at *; omega
theorem lex_asymm {x y : Nat} (h1 : lexlt key x y) : ¬ lexlt key y x := by unfold lexlt at *; omega
theorem lex_total {x y : Nat} (h : x ≠ y) : lexlt key x y ∨ lexlt key y x := by unfold lexlt; omega
/-- a later one stands ahead of an earlier one just where its key is less -/
theorem lex_late {x y : Nat} (h : y < x) : lexlt key x y ↔ key x < key y := by unfold lexlt; omega
variable (key)
def ins (x : Nat) : List Nat → List Nat
  | [] => [x]
  | y :: l => if lexlt key x y then x :: y :: l else y :: ins x l
def isort : List Nat → List Nat
  | [] => []
  | x :: l => ins key x (isort l)
/-- sorted, strictly -/
def srtd (l : List Nat) : Prop := l.Pairwise (lexlt key)
variable {key}
theorem ins_perm (x : Nat) : ∀ l, (ins key x l).Perm (x :: l)
  | [] => .refl _
  | y :: l => by
    rw [ins]
    split
    · exact .refl _
    · exact ((ins_perm x l).cons y).trans (List.Perm.swap x y l)
theorem isort_perm : ∀ l, (isort key l).Perm l
  | [] => .refl _
  | x :: l => by
    rw [isort]
    exact (ins_perm x _).trans ((isort_perm l).cons x)
theorem ins_srtd {x : Nat} : ∀ {l}, srtd key l → x ∉ l → srtd key (ins key x l)
  | [], _, _ => by simp [ins, srtd]
  | y :: l, h, hx => by
    rw [ins]
    have h' := List.pairwise_cons.1 h
    split
    · rename_i hlt
      refine List.pairwise_cons.2 ⟨fun z hz => ?_, h⟩
      rcases List.mem_cons.1 hz with rfl | hz
      · exact hlt
      · exact lex_trans hlt (h'.1 z hz)
    · rename_i hlt
      have hxy : x ≠ y := fun e => hx (by simp [e])
      refine List.pairwise_cons.2 ⟨fun z hz => ?_, ins_srtd h'.2 (fun hm => hx (by simp [hm]))⟩
      rcases List.mem_cons.1 ((ins_perm x l).mem_iff.1 hz) with rfl | hz
      · rcases lex_total (key := key) hxy with h1 | h1
        · exact absurd h1 hlt
        · exact h1
      · exact h'.1 z hz
theorem isort_srtd : ∀ {l : List Nat}, l.Nodup → srtd key (isort key l)
  | [], _ => List.Pairwise.nil
  | x :: l, h => by
    have h' := List.nodup_cons.1 h
    rw [isort]
    exact ins_srtd (isort_srtd h'.2) (fun hm => h'.1 ((isort_perm l).mem_iff.1 hm))
theorem srtd_nodup {l : List Nat} (h : srtd key l) : l.Nodup := List.Pairwise.imp (fun {a b} hab => by intro e; subst e; exact lex_irrefl key a hab) h
/-- there is one sorted row of the same numbers -/
theorem srtd_unique : ∀ {l l' : List Nat}, srtd key l → srtd key l' → l.Perm l' → l = l'
  | [], l', _, _, hp => (List.nil_perm.1 hp).symm
  | x :: l, l', h, h', hp => by
    cases l' with
    | nil => exact absurd (List.perm_nil.1 hp) (by simp)
    | cons y l' =>
      have a := List.pairwise_cons.1 h
      have b := List.pairwise_cons.1 h'
      have hxy : x = y := by
        have h1 : x ∈ y :: l' := hp.mem_iff.1 (by simp)
        have h2 : y ∈ x :: l := hp.mem_iff.2 (by simp)
        rcases List.mem_cons.1 h1 with h1 | h1
        · exact h1
        · rcases List.mem_cons.1 h2 with h2 | h2
          · exact h2.symm
          · exact absurd (a.1 y h2) (lex_asymm (b.1 x h1))
      subst hxy
      rw [srtd_unique a.2 b.2 (List.Perm.cons_inv hp)]
theorem isort_eq {l l' : List Nat} (h : srtd key l) (hp : l.Perm l') : l = isort key l' :=
  srtd_unique h (isort_srtd (hp.nodup_iff.1 (srtd_nodup h))) (hp.trans (isort_perm l').symm)
theorem isort_len (l : List Nat) : (isort key l).length = l.length := (isort_perm l).length_eq
theorem isort_id {l : List Nat} (h : srtd key l) : isort key l = l := (isort_eq h (.refl _)).symm
theorem srtd_append {l l' : List Nat} (h : srtd key l) (h' : srtd key l') (hx : ∀ x ∈ l, ∀ y ∈ l', lexlt key x y) : srtd key (l ++ l') := List.pairwise_append.2 ⟨h, h', hx⟩
/-- two rows, the one wholly ahead of the other -/
theorem isort_append {l l' : List Nat} (hn : (l ++ l').Nodup) (hx : ∀ x ∈ l, ∀ y ∈ l', lexlt key x y) : isort key (l ++ l') = isort key l ++ isort key l' := by
  have hn' := List.nodup_append.1 hn
  symm
  refine isort_eq (srtd_append (isort_srtd hn'.1) (isort_srtd hn'.2.1) (fun x h y h' => hx x ((isort_perm l).mem_iff.1 h) y ((isort_perm l').mem_iff.1 h'))) ?_
  exact List.Perm.append (isort_perm l) (isort_perm l')
theorem isort_of_perm {l l' : List Nat} (hn : l.Nodup) (hp : l.Perm l') : isort key l = isort key l' :=
  isort_eq (isort_srtd hn) ((isort_perm l).trans hp)
end
end Go.Huf
namespace Go.Huf
/-- the symbols that have a code, among the first k -/
def symsK (ls : List Int) (k : Nat) : List Nat := (List.range k).filter fun i => decide (0 < ls.getD i 0)
/-- the symbols that have a code, by length -/
def ord (ls : List Int) : List Nat := isort (fun i => ls.getD i 0) (symsK ls ls.length)
theorem symsK_succ (ls : List Int) (k : Nat) : symsK ls (k + 1) = symsK ls k ++ (if 0 < ls.getD k 0 then [k] else []) := by
  unfold symsK
  rw [List.range_succ, List.filter_append]
  congr 1
  by_cases h : 0 < ls.getD k 0
  · rw [if_pos h, List.filter_cons_of_pos (by simpa using h)]; rfl
  · rw [if_neg h, List.filter_cons_of_neg (by simpa using h)]; rfl
theorem symsK_len (ls : List Int) (k : Nat) : (symsK ls k).length ≤ k := by
  have := List.length_filter_le (fun i => decide (0 < ls.getD i 0)) (List.range k)
  rw [List.length_range] at this
  exact this
theorem symsK_mem {ls : List Int} {k i : Nat} : i ∈ symsK ls k ↔ i < k ∧ 0 < ls.getD i 0 := by
  simp [symsK]
theorem symsK_inc (ls : List Int) (k : Nat) : (symsK ls k).Pairwise (· < ·) := List.pairwise_lt_range.sublist List.filter_sublist
theorem ord_len (ls : List Int) : (ord ls).length = (symsK ls ls.length).length := isort_len _
end Go.Huf
namespace Go.Huf
section
variable {key : Nat → Int}
theorem srtd_get {l : List Nat} (h : srtd key l) {i j : Nat} (hij : i < j) (hj : j < l.length) : lexlt key (l.getD i 0) (l.getD j 0) := by
  have := List.pairwise_iff_getElem.1 h i j (by omega) hj hij
  simpa [List.getD, hj, show i < l.length by omega] using this
theorem srtd_le {l : List Nat} (h : srtd key l) {i j : Nat} (hij : i ≤ j) (hj : j < l.length) : lexlt key (l.getD i 0) (l.getD j 0) ∨ l.getD i 0 = l.getD j 0 := by
  rcases Nat.lt_or_eq_of_le hij with h1 | rfl
  · exact .inl (srtd_get h h1 hj)
  · exact .inr rfl
theorem lex_le_trans {x y z : Nat} (h1 : lexlt key x y ∨ x = y) (h2 : lexlt key y z) : lexlt key x z := by
  rcases h1 with h1 | rfl
  · exact lex_trans h1 h2
  · exact h2
theorem lex_trans_le {x y z : Nat} (h1 : lexlt key x y) (h2 : lexlt key y z ∨ y = z) : lexlt key x z := by
  rcases h2 with h2 | rfl
  · exact lex_trans h1 h2
  · exact h1
theorem take_getD {l : List Nat} {s : Nat} {x : Nat} (h : x ∈ l.take s) : ∃ i, i < s ∧ i < l.length ∧ x = l.getD i 0 := by
  obtain ⟨i, hi, rfl⟩ := List.mem_iff_getElem.1 h
  rw [List.length_take] at hi
  exact ⟨i, by omega, by omega, by simp [List.getD, show i < l.length by omega]⟩
theorem drop_getD {l : List Nat} {s : Nat} {x : Nat} (h : x ∈ l.drop s) : ∃ i, s ≤ i ∧ i < l.length ∧ x = l.getD i 0 := by
  obtain ⟨i, hi, rfl⟩ := List.mem_iff_getElem.1 h
  rw [List.length_drop] at hi
  exact ⟨s + i, by omega, by omega, by simp [List.getD, show s + i < l.length by omega]⟩
theorem getD_mem {l : List Nat} {i : Nat} (h : i < l.length) : l.getD i 0 ∈ l := by simp [List.getD, h]
theorem sym_nodup {A B : List Nat} (hA : srtd key A) (hB : srtd key B) (hlt : ∀ x ∈ A, ∀ y ∈ B, x < y) : (A ++ B).Nodup :=
  List.nodup_append.2 ⟨srtd_nodup hA, srtd_nodup hB, fun a ha b hb => by have := hlt a ha b hb; omega⟩
theorem split_perm (A B : List Nat) (s e : Nat) : (A.take s ++ B.take e ++ (A.drop s ++ B.drop e)).Perm (A ++ B) := by
  have h1 : (A.take s ++ B.take e ++ (A.drop s ++ B.drop e)).Perm (A.take s ++ A.drop s ++ (B.take e ++ B.drop e)) := by
    rw [List.append_assoc, List.append_assoc]
    refine List.Perm.append_left _ ?_
    rw [← List.append_assoc, ← List.append_assoc]
    exact List.Perm.append_right _ List.perm_append_comm
  rwa [List.take_append_drop, List.take_append_drop] at h1
theorem sym_split {A B : List Nat} (hA : srtd key A) (hB : srtd key B) (hlt : ∀ x ∈ A, ∀ y ∈ B, x < y) {s e : Nat} (hs : s ≤ A.length) (he : e ≤ B.length)
    (h1 : 0 < s → e < B.length → ¬ lexlt key (B.getD e 0) (A.getD (s - 1) 0)) (h2 : 0 < e → s < A.length → lexlt key (B.getD (e - 1) 0) (A.getD s 0)) :
    isort key (A ++ B) = isort key (A.take s ++ B.take e) ++ isort key (A.drop s ++ B.drop e) := by
  have hnd := sym_nodup hA hB hlt
  have hp := split_perm A B s e
  rw [← isort_of_perm (hp.nodup_iff.2 hnd) hp]
  refine isort_append (hp.nodup_iff.2 hnd) (fun x hx y hy => ?_)
  rcases List.mem_append.1 hx with hx | hx
  · obtain ⟨i, hi, hi2, rfl⟩ := take_getD hx
    rcases List.mem_append.1 hy with hy | hy
    · obtain ⟨j, hj, hj2, rfl⟩ := drop_getD hy
      exact srtd_get hA (by omega) hj2
    · obtain ⟨j, hj, hj2, rfl⟩ := drop_getD hy
      have h3 := h1 (by omega) (by omega)
      have hne : A.getD (s - 1) 0 < B.getD e 0 := hlt _ (getD_mem (by omega)) _ (getD_mem (by omega))
      have h4 : lexlt key (A.getD (s - 1) 0) (B.getD e 0) := (lex_total (key := key) (by omega)).resolve_right h3
      exact lex_le_trans (srtd_le hA (by omega) (by omega)) (lex_trans_le h4 (srtd_le hB hj hj2))
  · obtain ⟨i, hi, hi2, rfl⟩ := take_getD hx
    rcases List.mem_append.1 hy with hy | hy
    · obtain ⟨j, hj, hj2, rfl⟩ := drop_getD hy
      have h3 := h2 (by omega) (by omega)
      exact lex_le_trans (srtd_le hB (by omega) (by omega)) (lex_trans_le h3 (srtd_le hA hj hj2))
    · obtain ⟨j, hj, hj2, rfl⟩ := drop_getD hy
      exact srtd_get hB (by omega) hj2
/-- while the split is searched -/
def SS (key : Nat → Int) (A B : List Nat) (mid lo hi st r : Nat) : Prop :=
  lo ≤ st ∧ st ≤ r ∧ r ≤ hi ∧ (∀ c, lo ≤ c → c < st → ¬ lexlt key (B.getD (mid - 1 - c) 0) (A.getD c 0)) ∧ ∀ c, r ≤ c → c < hi → lexlt key (B.getD (mid - 1 - c) 0) (A.getD c 0)
theorem ss_mono {A B : List Nat} (hA : srtd key A) (hB : srtd key B) {mid c c' : Nat} (hcc : c' ≤ c) (hc : c < A.length) (hcm : c < mid) (hb : mid - 1 - c' < B.length)
    (h : lexlt key (B.getD (mid - 1 - c') 0) (A.getD c' 0)) : lexlt key (B.getD (mid - 1 - c) 0) (A.getD c 0) :=
  lex_le_trans (srtd_le hB (by omega) hb) (lex_trans_le h (srtd_le hA hcc hc))
theorem SS.up {A B : List Nat} {mid lo hi st r : Nat} (h : SS key A B mid lo hi st r) (hA : srtd key A) (hB : srtd key B) (hhi : hi ≤ A.length ∧ hi ≤ mid) (hlo : mid ≤ lo + B.length) {c : Nat} (h1 : st ≤ c) (h2 : c < r)
    (hc : ¬ lexlt key (B.getD (mid - 1 - c) 0) (A.getD c 0)) : SS key A B mid lo hi (c + 1) r := by
  obtain ⟨a1, a2, a3, a4, a5⟩ := h
  refine ⟨by omega, by omega, a3, fun c' h3 h4 hl => hc (ss_mono hA hB (by omega) (by omega) (by omega) (by omega) hl), a5⟩
theorem SS.down {A B : List Nat} {mid lo hi st r : Nat} (h : SS key A B mid lo hi st r) (hA : srtd key A) (hB : srtd key B) (hhi : hi ≤ A.length ∧ hi ≤ mid) (hlo : mid ≤ lo + B.length) {c : Nat} (h1 : st ≤ c) (h2 : c < r)
    (hc : lexlt key (B.getD (mid - 1 - c) 0) (A.getD c 0)) : SS key A B mid lo hi st c := by
  obtain ⟨a1, a2, a3, a4, a5⟩ := h
  refine ⟨a1, by omega, by omega, a4, fun c' h3 h4 => ss_mono hA hB h3 (by omega) (by omega) (by omega) hc⟩
theorem SS.done {A B : List Nat} {mid lo hi s : Nat} (h : SS key A B mid lo hi s s) (hA : srtd key A) (hB : srtd key B) (hlt : ∀ x ∈ A, ∀ y ∈ B, x < y) (hhi : hi = min mid A.length) (hlo : lo = mid - B.length) :
    isort key (A ++ B) = isort key (A.take s ++ B.take (mid - s)) ++ isort key (A.drop s ++ B.drop (mid - s)) := by
  obtain ⟨a1, a2, a3, a4, a5⟩ := h
  refine sym_split hA hB hlt (by omega) (by omega) (fun h1 h2 => ?_) (fun h1 h2 => ?_)
  · have := a4 (s - 1) (by omega) (by omega)
    rwa [show mid - 1 - (s - 1) = mid - s by omega] at this
  · have := a5 s (by omega) (by omega)
    rwa [show mid - 1 - s = mid - s - 1 by omega] at this
/-- one against a row: it goes in at i -/
theorem one_in {x : Nat} {B : List Nat} (hB : srtd key B) (hn : x ∉ B) {i : Nat} (hi : i ≤ B.length) (h1 : ∀ k, k < i → lexlt key (B.getD k 0) x) (h2 : ∀ k, i ≤ k → k < B.length → ¬ lexlt key (B.getD k 0) x) (l : List Nat) (hl : l.Perm (x :: B)) :
    isort key l = B.take i ++ x :: B.drop i := by
  symm
  refine isort_eq ?_ ?_
  · have hs : srtd key (B.take i ++ B.drop i) := by rw [List.take_append_drop]; exact hB
    have h := List.pairwise_append.1 hs
    refine List.pairwise_append.2 ⟨h.1, List.pairwise_cons.2 ⟨fun y hy => ?_, h.2.1⟩, fun a ha b hb => ?_⟩
    · have hm := List.mem_of_mem_drop hy
      obtain ⟨j, hj, hj2, rfl⟩ := drop_getD hy
      exact (lex_total (key := key) (fun e => hn (by rw [e]; exact hm))).resolve_right (h2 j hj hj2)
    · rcases List.mem_cons.1 hb with rfl | hb
      · obtain ⟨j, hj, hj2, rfl⟩ := take_getD ha
        exact h1 j hj
      · exact h.2.2 a ha b hb
  · refine List.perm_middle.trans ?_
    rw [List.take_append_drop]
    exact hl.symm
end
end Go.Huf
namespace Go.Huf
section
variable (key : Nat → Int)
def sb (s : Nat) (l : List Nat) : List Nat :=
  if h : 0 < s ∧ l ≠ [] then isort key (l.take s) ++ sb s (l.drop s) else []
termination_by l.length
decreasing_by
  have := List.length_pos_iff.2 h.2
  simp only [List.length_drop]
  omega
variable {key}
theorem sb_nil (s : Nat) : sb key s [] = [] := by rw [sb]; simp
theorem sb_cons {s : Nat} {l : List Nat} (hs : 0 < s) (hl : l ≠ []) : sb key s l = isort key (l.take s) ++ sb key s (l.drop s) := by
  rw [sb, dif_pos ⟨hs, hl⟩]
theorem sb_small {s : Nat} {l : List Nat} (hs : 0 < s) (hl : l.length ≤ s) : sb key s l = isort key l := by
  cases l with
  | nil => rw [sb_nil]; rfl
  | cons x l =>
    rw [sb_cons hs (by simp), List.take_of_length_le hl, List.drop_of_length_le hl, sb_nil, List.append_nil]
theorem sb_app {s : Nat} (hs : 0 < s) : ∀ (k : Nat) (x y : List Nat), x.length = k * s → sb key s (x ++ y) = sb key s x ++ sb key s y
  | 0, x, y, h => by
    have : x = [] := List.eq_nil_of_length_eq_zero (by simpa using h)
    subst this
    rw [sb_nil]; rfl
  | k + 1, x, y, h => by
    have h1 : s ≤ x.length := by rw [h, Nat.add_mul]; omega
    have hx : x ≠ [] := fun e => by subst e; simp at h1; omega
    rw [sb_cons hs (by simp [hx]), sb_cons hs hx, List.take_append_of_le_length h1, List.drop_append_of_le_length h1, sb_app hs k (x.drop s) y (by rw [List.length_drop, h, Nat.add_mul]; omega), List.append_assoc]
theorem take_two (l : List Nat) (a s : Nat) : l.take (a + s) = l.take a ++ (l.drop a).take s := List.take_add
theorem sb_len {s : Nat} (hs : 0 < s) (l : List Nat) : (sb key s l).length = l.length := by
  by_cases hl : l = []
  · subst hl; rw [sb_nil]
  · rw [sb_cons hs hl, List.length_append, isort_len, sb_len hs (l.drop s), List.length_take, List.length_drop]
    omega
termination_by l.length
decreasing_by
  have := List.length_pos_iff.2 hl
  simp only [List.length_drop]
  omega
/-- one block more -/
theorem sb_next {s k : Nat} (hs : 0 < s) {l : List Nat} (h : k * s ≤ l.length) : sb key s (l.take (k * s + s)) = sb key s (l.take (k * s)) ++ isort key ((l.drop (k * s)).take s) := by
  rw [take_two, sb_app hs k _ _ (by rw [List.length_take]; omega), sb_small (l := (l.drop (k * s)).take s) hs (by rw [List.length_take]; omega)]
theorem sb_rest {s k : Nat} (hs : 0 < s) {l : List Nat} (h : k * s ≤ l.length) (h2 : l.length ≤ k * s + s) : sb key s l = sb key s (l.take (k * s)) ++ isort key (l.drop (k * s)) := by
  conv => lhs; rw [← List.take_append_drop (k * s) l]
  rw [sb_app hs k _ _ (by rw [List.length_take]; omega), sb_small (l := l.drop (k * s)) hs (by rw [List.length_drop]; omega)]
/-- two blocks at the head -/
theorem sb_two {s : Nat} (hs : 0 < s) {l : List Nat} (h : s < l.length) : sb key s l = isort key (l.take s) ++ isort key ((l.drop s).take s) ++ sb key s (l.drop (s + s)) := by
  rw [sb_cons hs (fun e => by subst e; simp at h), sb_cons (l := l.drop s) hs (fun e => by have := congrArg List.length e; rw [List.length_drop] at this; simp at this; omega), List.drop_drop, List.append_assoc]
theorem isort_two {X Y : List Nat} (hn : (X ++ Y).Nodup) : isort key (isort key X ++ isort key Y) = isort key (X ++ Y) :=
  isort_of_perm (((isort_perm X).append (isort_perm Y)).nodup_iff.2 hn) ((isort_perm X).append (isort_perm Y))
end
end Go.Huf
