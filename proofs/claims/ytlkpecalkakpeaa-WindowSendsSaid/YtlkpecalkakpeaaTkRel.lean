/- Two rows of related payloads go the same way through ttake. -/
import Derived.Test.YtlkpecalkakpeaaTkPure
set_option linter.unusedVariables false
set_option linter.unusedSimpArgs false
namespace Go.Sal
section
variable {α β : Type} {R : α → β → Prop}
def LR (R : α → β → Prop) : List (Int × α) → List (Int × β) → Prop
  | [], [] => True
  | a :: l, b :: p => a.1 = b.1 ∧ R a.2 b.2 ∧ LR R l p
  | _, _ => False
theorem LR.len : ∀ {l : List (Int × α)} {p : List (Int × β)}, LR R l p → l.length = p.length
  | [], [], _ => rfl
  | _ :: l, _ :: p, h => by simp [LR.len (l := l) (p := p) h.2.2]
  | [], _ :: _, h => h.elim
  | _ :: _, [], h => h.elim
theorem LR.get : ∀ {l : List (Int × α)} {p : List (Int × β)}, LR R l p → ∀ k (h : k < l.length) (h' : k < p.length), l[k].1 = p[k].1 ∧ R l[k].2 p[k].2
  | [], [], _, k, h, _ => by simp at h
  | a :: l, b :: p, h, 0, _, _ => ⟨h.1, h.2.1⟩
  | a :: l, b :: p, h, k + 1, h1, h2 => by
    have := LR.get (l := l) (p := p) h.2.2 k (by simpa using h1) (by simpa using h2)
    simpa using this
  | [], _ :: _, h, _, _, _ => h.elim
  | _ :: _, [], h, _, _, _ => h.elim
theorem LR.mono {R' : α → β → Prop} (hR : ∀ a b, R a b → R' a b) : ∀ {l : List (Int × α)} {p : List (Int × β)}, LR R l p → LR R' l p
  | [], [], _ => trivial
  | _ :: l, _ :: p, h => ⟨h.1, hR _ _ h.2.1, LR.mono hR (l := l) (p := p) h.2.2⟩
  | [], _ :: _, h => h.elim
  | _ :: _, [], h => h.elim
theorem LR.append : ∀ {l l' : List (Int × α)} {p p' : List (Int × β)}, LR R l p → LR R l' p' → LR R (l ++ l') (p ++ p')
  | [], _, [], _, _, h => h
  | _ :: l, _, _ :: p, _, h, h' => ⟨h.1, h.2.1, LR.append (l := l) (p := p) h.2.2 h'⟩
  | [], _, _ :: _, _, h, _ => h.elim
  | _ :: _, _, [], _, h, _ => h.elim
theorem LR.one {n : Int} {a : α} {b : β} (h : R a b) : LR R [(n, a)] [(n, b)] := ⟨rfl, h, trivial⟩
theorem LR.drop (k : Int) : ∀ {l : List (Int × α)} {p : List (Int × β)}, LR R l p → LR R (mdrop l k) (mdrop p k)
  | [], [], _ => trivial
  | a :: l, b :: p, h => by
    unfold mdrop
    rw [List.eraseP_cons, List.eraseP_cons]
    have e := h.1
    by_cases hk : a.1 = k
    · have h1 : (a.1 == k) = true := by simpa using hk
      have h2 : (b.1 == k) = true := by rw [← e]; exact h1
      rw [h1, h2]
      exact h.2.2
    · have h1 : (a.1 == k) = false := by simpa using hk
      have h2 : (b.1 == k) = false := by rw [← e]; exact h1
      rw [h1, h2]
      exact ⟨h.1, h.2.1, LR.drop k (l := l) (p := p) h.2.2⟩
  | [], _ :: _, h => h.elim
  | _ :: _, [], h => h.elim
theorem LR.look (k : Int) : ∀ {l : List (Int × α)} {p : List (Int × β)}, LR R l p → (mlook l k = none ∧ mlook p k = none) ∨ ∃ a b, mlook l k = some a ∧ mlook p k = some b ∧ R a b
  | [], [], _ => .inl ⟨rfl, rfl⟩
  | a :: l, b :: p, h => by
    have e := h.1
    by_cases hk : a.1 = k
    · have h1 : (a.1 == k) = true := by simpa using hk
      have h2 : (b.1 == k) = true := by rw [← e]; exact h1
      exact .inr ⟨a.2, b.2, by simp [mlook, List.find?_cons, h1], by simp [mlook, List.find?_cons, h2], h.2.1⟩
    · have h1 : (a.1 == k) = false := by simpa using hk
      have h2 : (b.1 == k) = false := by rw [← e]; exact h1
      have := LR.look k (l := l) (p := p) h.2.2
      simpa [mlook, List.find?_cons, h1, h2] using this
  | [], _ :: _, h => h.elim
  | _ :: _, [], h => h.elim
theorem LR.drain : ∀ (n : Nat) (wt : Int) {l o : List (Int × α)} {p q : List (Int × β)}, LR R l p → LR R o q →
    (tdrain n wt l o).1 = (tdrain n wt p q).1 ∧ LR R (tdrain n wt l o).2.1 (tdrain n wt p q).2.1 ∧ LR R (tdrain n wt l o).2.2 (tdrain n wt p q).2.2
  | 0, _, _, _, _, _, h, h' => ⟨rfl, h, h'⟩
  | n + 1, wt, l, o, p, q, h, h' => by
    rcases h.look wt with ⟨h1, h2⟩ | ⟨a, b, h1, h2, h3⟩
    · rw [tdrain_stop h1, tdrain_stop h2]
      exact ⟨rfl, h, h'⟩
    · rw [tdrain_step h1, tdrain_step h2]
      exact LR.drain n (wt + 1) (h.drop wt) (h'.append (LR.one h3))
theorem LR.take {sz wt N : Int} {l : List (Int × α)} {p : List (Int × β)} {v : α} {b : β} (h : LR R l p) (hv : R v b) :
    (ttake sz wt l N v).1 = (ttake sz wt p N b).1 ∧ (ttake sz wt l N v).2.1 = (ttake sz wt p N b).2.1 ∧ LR R (ttake sz wt l N v).2.2.1 (ttake sz wt p N b).2.2.1 ∧ LR R (ttake sz wt l N v).2.2.2 (ttake sz wt p N b).2.2.2 := by
  have hs : (mlook l N).isSome = (mlook p N).isSome := by
    rcases h.look N with ⟨h1, h2⟩ | ⟨a, b, h1, h2, _⟩ <;> rw [h1, h2] <;> rfl
  unfold ttake
  rw [hs]
  split
  · exact ⟨rfl, rfl, h, trivial⟩
  · split
    · exact ⟨rfl, rfl, h, trivial⟩
    · rw [h.len]
      have := LR.drain (p.length + 1) wt (h.append (LR.one (n := N) hv)) (o := []) (q := []) trivial
      exact ⟨rfl, this.1, this.2.1, this.2.2⟩
end
/-- what ttake keeps: the numbers are small, waits grows by what is handed on -/
theorem mem_drop {α : Type} {l : List (Int × α)} {k : Int} {q : Int × α} (h : q ∈ mdrop l k) : q ∈ l := List.mem_of_mem_eraseP h
theorem drain_bound {α : Type} : ∀ (n : Nat) (wt : Int) (l o : List (Int × α)), l.length ≤ n →
    (tdrain n wt l o).1 + (tdrain n wt l o).2.1.length = wt + l.length ∧ wt ≤ (tdrain n wt l o).1 ∧ (∀ q ∈ (tdrain n wt l o).2.1, q ∈ l) ∧ (tdrain n wt l o).2.2.length + (tdrain n wt l o).2.1.length = o.length + l.length
  | 0, wt, l, o, h => ⟨rfl, Int.le_refl _, fun _ hq => hq, rfl⟩
  | n + 1, wt, l, o, h => by
    cases hm : mlook l wt with
    | none =>
      rw [tdrain_stop hm]
      exact ⟨rfl, Int.le_refl _, fun _ hq => hq, rfl⟩
    | some v =>
      rw [tdrain_step hm]
      have hl := mdrop_len (l := l) (k := wt) (by rw [hm]; rfl)
      obtain ⟨h1, h2, h3, h4⟩ := drain_bound n (wt + 1) (mdrop l wt) (o ++ [(wt, v)]) (by omega)
      refine ⟨by omega, by omega, fun q hq => mem_drop (h3 q hq), ?_⟩
      rw [h4]
      simp
      omega
theorem take_bound {α : Type} {sz wt N : Int} {l : List (Int × α)} {v : α} (hw : 1 ≤ wt) (hs1 : 1 ≤ sz) (hs : sz ≤ 64) (hk : ∀ q ∈ l, 0 ≤ q.1 ∧ q.1 ≤ wt + 64) :
    wt ≤ (ttake sz wt l N v).2.1 ∧ (ttake sz wt l N v).2.1 + (ttake sz wt l N v).2.2.1.length ≤ wt + l.length + 1 ∧ (ttake sz wt l N v).2.2.1.length ≤ l.length + 1 ∧ (ttake sz wt l N v).2.2.2.length ≤ l.length + 1 ∧
      ∀ q ∈ (ttake sz wt l N v).2.2.1, 0 ≤ q.1 ∧ q.1 ≤ (ttake sz wt l N v).2.1 + 64 := by
  unfold ttake
  split
  · exact ⟨Int.le_refl _, by show wt + (l.length : Int) ≤ _; omega, by show l.length ≤ _; omega, by simp, hk⟩
  · split
    · exact ⟨Int.le_refl _, by show wt + (l.length : Int) ≤ _; omega, by show l.length ≤ _; omega, by simp, hk⟩
    · rename_i h1 h2
      obtain ⟨a1, a2, a3, a4⟩ := drain_bound (l.length + 1) wt (l ++ [(N, v)]) [] (by simp)
      simp only [List.length_append, List.length_singleton, List.length_nil] at a1 a4
      refine ⟨a2, ?_, ?_, ?_, ?_⟩
      · show (tdrain _ _ _ _).1 + ((tdrain (l.length + 1) wt (l ++ [(N, v)]) []).2.1.length : Int) ≤ _
        omega
      · show (tdrain _ _ _ _).2.1.length ≤ _
        omega
      · show (tdrain _ _ _ _).2.2.length ≤ _
        omega
      · intro q hq
        show 0 ≤ q.1 ∧ q.1 ≤ (tdrain _ _ _ _).1 + 64
        have hq' := a3 q hq
        rcases List.mem_append.1 hq' with hq' | hq'
        · have := hk q hq'
          omega
        · simp at hq'
          subst hq'
          show 0 ≤ N ∧ N ≤ _
          omega
end Go.Sal
