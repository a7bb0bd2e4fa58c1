/- Sorted rows of numbers under a key: on lists alone. Equal keys: by the number itself, so it is a strict total order. -/
import Derived.WalkKit
set_option linter.unusedVariables false
set_option linter.unusedSimpArgs false
namespace Go.Huf
section
variable (key : Nat → Int)
/-- x stands ahead of y -/
def lexlt (x y : Nat) : Prop := key x < key y ∨ key x = key y ∧ x < y
instance (x y : Nat) : Decidable (lexlt key x y) := by unfold lexlt; infer_instance
theorem lex_irrefl (x : Nat) : ¬ lexlt key x x := by unfold lexlt; omega
variable {key}
theorem lex_trans {x y z : Nat} (h1 : lexlt key x y) (h2 : lexlt key y z) : lexlt key x z := by unfold lexlt at *; omega
theorem lex_asymm {x y : Nat} (h1 : lexlt key x y) : ¬ lexlt key y x := by unfold lexlt at *; omega
theorem lex_total {x y : Nat} (h : x ≠ y) : lexlt key x y ∨ lexlt key y x := by unfold lexlt; omega
/-- a later one stands ahead of an earlier one just where its key is less -/
theorem lex_late {x y : Nat} (h : y < x) : lexlt key x y ↔ key x < key y := by unfold lexlt; omega
variable (key)
def ins (x : Nat) : List Nat → List Nat
  | [] => [x]
  | y :: l => if lexlt key x y then x :: y :: l else y :: ins x l
def isort : List Nat → List Nat
  | [] => []
  | x :: l => ins key x (isort l)
/-- sorted, strictly -/
def srtd (l : List Nat) : Prop := l.Pairwise (lexlt key)
variable {key}
theorem ins_perm (x : Nat) : ∀ l, (ins key x l).Perm (x :: l)
  | [] => .refl _
  | y :: l => by
    rw [ins]
    split
    · exact .refl _
    · exact ((ins_perm x l).cons y).trans (List.Perm.swap x y l)
theorem isort_perm : ∀ l, (isort key l).Perm l
  | [] => .refl _
  | x :: l => by
    rw [isort]
    exact (ins_perm x _).trans ((isort_perm l).cons x)
theorem ins_srtd {x : Nat} : ∀ {l}, srtd key l → x ∉ l → srtd key (ins key x l)
  | [], _, _ => by simp [ins, srtd]
  | y :: l, h, hx => by
    rw [ins]
    have h' := List.pairwise_cons.1 h
    split
    · rename_i hlt
      refine List.pairwise_cons.2 ⟨fun z hz => ?_, h⟩
      rcases List.mem_cons.1 hz with rfl | hz
      · exact hlt
      · exact lex_trans hlt (h'.1 z hz)
    · rename_i hlt
      have hxy : x ≠ y := fun e => hx (by simp [e])
      refine List.pairwise_cons.2 ⟨fun z hz => ?_, ins_srtd h'.2 (fun hm => hx (by simp [hm]))⟩
      rcases List.mem_cons.1 ((ins_perm x l).mem_iff.1 hz) with rfl | hz
      · rcases lex_total (key := key) hxy with h1 | h1
        · exact absurd h1 hlt
        · exact h1
      · exact h'.1 z hz
theorem isort_srtd : ∀ {l : List Nat}, l.Nodup → srtd key (isort key l)
  | [], _ => List.Pairwise.nil
  | x :: l, h => by
    have h' := List.nodup_cons.1 h
    rw [isort]
    exact ins_srtd (isort_srtd h'.2) (fun hm => h'.1 ((isort_perm l).mem_iff.1 hm))
theorem srtd_nodup {l : List Nat} (h : srtd key l) : l.Nodup := List.Pairwise.imp (fun {a b} hab => by intro e; subst e; exact lex_irrefl key a hab) h
/-- there is one sorted row of the same numbers -/
theorem srtd_unique : ∀ {l l' : List Nat}, srtd key l → srtd key l' → l.Perm l' → l = l'
  | [], l', _, _, hp => (List.nil_perm.1 hp).symm
  | x :: l, l', h, h', hp => by
    cases l' with
    | nil => exact absurd (List.perm_nil.1 hp) (by simp)
    | cons y l' =>
      have a := List.pairwise_cons.1 h
      have b := List.pairwise_cons.1 h'
      have hxy : x = y := by
        have h1 : x ∈ y :: l' := hp.mem_iff.1 (by simp)
        have h2 : y ∈ x :: l := hp.mem_iff.2 (by simp)
        rcases List.mem_cons.1 h1 with h1 | h1
        · exact h1
        · rcases List.mem_cons.1 h2 with h2 | h2
          · exact h2.symm
          · exact absurd (a.1 y h2) (lex_asymm (b.1 x h1))
      subst hxy
      rw [srtd_unique a.2 b.2 (List.Perm.cons_inv hp)]
theorem isort_eq {l l' : List Nat} (h : srtd key l) (hp : l.Perm l') : l = isort key l' :=
  srtd_unique h (isort_srtd (hp.nodup_iff.1 (srtd_nodup h))) (hp.trans (isort_perm l').symm)
theorem isort_len (l : List Nat) : (isort key l).length = l.length := (isort_perm l).length_eq
theorem isort_id {l : List Nat} (h : srtd key l) : isort key l = l := (isort_eq h (.refl _)).symm
theorem srtd_append {l l' : List Nat} (h : srtd key l) (h' : srtd key l') (hx : ∀ x ∈ l, ∀ y ∈ l', lexlt key x y) : srtd key (l ++ l') := List.pairwise_append.2 ⟨h, h', hx⟩
/-- two rows, the one wholly ahead of the other -/
theorem isort_append {l l' : List Nat} (hn : (l ++ l').Nodup) (hx : ∀ x ∈ l, ∀ y ∈ l', lexlt key x y) : isort key (l ++ l') = isort key l ++ isort key l' := by
  have hn' := List.nodup_append.1 hn
  symm
  refine isort_eq (srtd_append (isort_srtd hn'.1) (isort_srtd hn'.2.1) (fun x h y h' => hx x ((isort_perm l).mem_iff.1 h) y ((isort_perm l').mem_iff.1 h'))) ?_
  exact List.Perm.append (isort_perm l) (isort_perm l')
theorem isort_of_perm {l l' : List Nat} (hn : l.Nodup) (hp : l.Perm l') : isort key l = isort key l' :=
  isort_eq (isort_srtd hn) ((isort_perm l).trans hp)
end
end Go.Huf
