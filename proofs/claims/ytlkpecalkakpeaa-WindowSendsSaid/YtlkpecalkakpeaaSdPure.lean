/- What a sender computes, on lists alone. -/
import Derived.Test.YtlkpecalkakpeaaSd1
import Derived.Test.YtlkpecalkakpeaaTkRel
set_option linter.unusedVariables false
set_option linter.unusedSimpArgs false
namespace Go.Sal
section
variable {α β : Type} {R : α → β → Prop}
def dueB (ag now : Int) (x : Snt α) : Bool := !x.done && (!x.out || decide (ag ≤ now - x.tm))
def upd (ag now : Int) (x : Snt α) : Snt α := if dueB ag now x = true then { x with out := true, tm := now } else x
def dueL (ag now : Int) (k : Nat) (l : List (Snt α)) : List (Snt α) := (l.take k).map (upd ag now) ++ l.drop k
def dueO (ag now bse : Int) : List (Snt α) → Nat → List (Int × α)
  | [], _ => []
  | x :: r, i => if dueB ag now x = true then (bse + i, x.b) :: dueO ag now bse r (i + 1) else dueO ag now bse r (i + 1)
def dueM (ag now bse : Int) : List (Snt α) → Nat → Int → Int
  | [], _, m => m
  | x :: r, i, m => dueM ag now bse r (i + 1) (if dueB ag now x = true then max m (bse + i) else m)
theorem dueL_len {ag now : Int} {k : Nat} {l : List (Snt α)} : (dueL ag now k l).length = l.length := by
  unfold dueL; simp; omega
theorem dueL_zero {ag now : Int} {l : List (Snt α)} : dueL ag now 0 l = l := by simp [dueL]
theorem dueL_at {ag now : Int} {k : Nat} {l : List (Snt α)} (hk : k < l.length) (h : k < (dueL ag now k l).length) : (dueL ag now k l)[k] = l[k] := by
  apply Option.some.inj
  rw [← List.getElem?_eq_getElem h, ← List.getElem?_eq_getElem hk]
  unfold dueL
  rw [List.getElem?_append_right (by simp; omega)]
  simp
  congr 1
  omega
theorem dueL_set {ag now : Int} {k : Nat} {l : List (Snt α)} (hk : k < l.length) : (dueL ag now k l).set k (upd ag now l[k]) = dueL ag now (k + 1) l := by
  unfold dueL
  rw [List.set_append_right _ _ (by simp; omega)]
  have e : k - (List.map (upd ag now) (List.take k l)).length = 0 := by simp; omega
  rw [e, List.drop_eq_getElem_cons hk, List.set_cons_zero, List.take_succ_eq_append_getElem hk, List.map_append, List.append_assoc]
  rfl
theorem dueL_skip {ag now : Int} {k : Nat} {l : List (Snt α)} (hk : k < l.length) (h : dueB ag now l[k] = false) : dueL ag now (k + 1) l = dueL ag now k l := by
  rw [← dueL_set hk]
  have : upd ag now l[k] = l[k] := by simp [upd, h]
  rw [this]
  apply List.ext_getElem (by simp)
  intro i h1 h2
  rw [List.getElem_set]
  split
  · rename_i hi
    subst hi
    rw [dueL_at hk h2]
  · rfl
theorem dueO_snoc {ag now bse : Int} : ∀ (l : List (Snt α)) (x : Snt α) (i : Nat), dueO ag now bse (l ++ [x]) i = dueO ag now bse l i ++ (if dueB ag now x = true then [(bse + (i + l.length : Nat), x.b)] else [])
  | [], x, i => by simp [dueO]
  | y :: l, x, i => by
    simp only [List.cons_append, dueO, List.length_cons]
    rw [dueO_snoc l x (i + 1)]
    have e : i + 1 + l.length = i + (l.length + 1) := by omega
    rw [e]
    split <;> simp
theorem dueO_take {ag now bse : Int} {k : Nat} {l : List (Snt α)} (hk : k < l.length) : dueO ag now bse (l.take (k + 1)) 0 = dueO ag now bse (l.take k) 0 ++ (if dueB ag now l[k] = true then [(bse + (k : Nat), l[k].b)] else []) := by
  rw [List.take_succ_eq_append_getElem hk, dueO_snoc]
  simp [Nat.min_eq_left (Nat.le_of_lt hk)]
theorem dueM_snoc {ag now bse : Int} : ∀ (l : List (Snt α)) (x : Snt α) (i : Nat) (m : Int), dueM ag now bse (l ++ [x]) i m = (if dueB ag now x = true then max (dueM ag now bse l i m) (bse + (i + l.length : Nat)) else dueM ag now bse l i m)
  | [], x, i, m => by simp [dueM]
  | y :: l, x, i, m => by
    simp only [List.cons_append, dueM, List.length_cons]
    rw [dueM_snoc l x (i + 1)]
    have e : i + 1 + l.length = i + (l.length + 1) := by omega
    rw [e]
theorem dueM_take {ag now bse m : Int} {k : Nat} {l : List (Snt α)} (hk : k < l.length) : dueM ag now bse (l.take (k + 1)) 0 m = (if dueB ag now l[k] = true then max (dueM ag now bse (l.take k) 0 m) (bse + (k : Nat)) else dueM ag now bse (l.take k) 0 m) := by
  rw [List.take_succ_eq_append_getElem hk, dueM_snoc]
  simp [Nat.min_eq_left (Nat.le_of_lt hk)]
theorem dueO_len {ag now bse : Int} : ∀ (l : List (Snt α)) (i : Nat), (dueO ag now bse l i).length ≤ l.length
  | [], i => by simp [dueO]
  | x :: l, i => by
    have := dueO_len (ag := ag) (now := now) (bse := bse) l (i + 1)
    simp only [dueO]
    split <;> simp <;> omega
theorem dueM_bound {ag now bse : Int} : ∀ (l : List (Snt α)) (i : Nat) (m : Int), m ≤ dueM ag now bse l i m ∧ (dueM ag now bse l i m = m ∨ dueM ag now bse l i m ≤ bse + (i + l.length : Nat) - 1)
  | [], i, m => ⟨Int.le_refl _, .inl rfl⟩
  | x :: l, i, m => by
    simp only [dueM, List.length_cons]
    split
    · obtain ⟨h1, h2⟩ := dueM_bound (ag := ag) (now := now) (bse := bse) l (i + 1) (max m (bse + i))
      refine ⟨by omega, ?_⟩
      rcases h2 with h2 | h2
      · rw [h2]
        rcases Int.le_total m (bse + i) with h3 | h3
        · right; rw [Int.max_eq_right h3]; omega
        · left; rw [Int.max_eq_left h3]
      · right; omega
    · obtain ⟨h1, h2⟩ := dueM_bound (ag := ag) (now := now) (bse := bse) l (i + 1) m
      refine ⟨h1, ?_⟩
      rcases h2 with h2 | h2
      · exact .inl h2
      · right; omega
/-- two rows alike but for what stands for the bytes -/
def SR (R : α → β → Prop) : List (Snt α) → List (Snt β) → Prop
  | [], [] => True
  | a :: l, b :: p => (a.out = b.out ∧ a.tm = b.tm ∧ a.done = b.done ∧ R a.b b.b) ∧ SR R l p
  | _, _ => False
theorem SR.len : ∀ {l : List (Snt α)} {p : List (Snt β)}, SR R l p → l.length = p.length
  | [], [], _ => rfl
  | _ :: l, _ :: p, h => by simp [SR.len (l := l) (p := p) h.2]
  | [], _ :: _, h => h.elim
  | _ :: _, [], h => h.elim
theorem SR.get : ∀ {l : List (Snt α)} {p : List (Snt β)}, SR R l p → ∀ k (h : k < l.length) (h' : k < p.length), l[k].out = p[k].out ∧ l[k].tm = p[k].tm ∧ l[k].done = p[k].done ∧ R l[k].b p[k].b
  | [], [], _, k, h, _ => by simp at h
  | a :: l, b :: p, h, 0, _, _ => h.1
  | a :: l, b :: p, h, k + 1, h1, h2 => by
    have := SR.get (l := l) (p := p) h.2 k (by simpa using h1) (by simpa using h2)
    simpa using this
  | [], _ :: _, h, _, _, _ => h.elim
  | _ :: _, [], h, _, _, _ => h.elim
theorem SR.mono {R' : α → β → Prop} (hR : ∀ a b, R a b → R' a b) : ∀ {l : List (Snt α)} {p : List (Snt β)}, SR R l p → SR R' l p
  | [], [], _ => trivial
  | _ :: l, _ :: p, h => ⟨⟨h.1.1, h.1.2.1, h.1.2.2.1, hR _ _ h.1.2.2.2⟩, SR.mono hR (l := l) (p := p) h.2⟩
  | [], _ :: _, h => h.elim
  | _ :: _, [], h => h.elim
theorem SR.append : ∀ {l l' : List (Snt α)} {p p' : List (Snt β)}, SR R l p → SR R l' p' → SR R (l ++ l') (p ++ p')
  | [], _, [], _, _, h => h
  | _ :: l, _, _ :: p, _, h, h' => ⟨h.1, SR.append (l := l) (p := p) h.2 h'⟩
  | [], _, _ :: _, _, h, _ => h.elim
  | _ :: _, _, [], _, h, _ => h.elim
theorem SR.drop : ∀ (k : Nat) {l : List (Snt α)} {p : List (Snt β)}, SR R l p → SR R (l.drop k) (p.drop k)
  | 0, _, _, h => h
  | k + 1, [], [], _ => trivial
  | k + 1, _ :: l, _ :: p, h => SR.drop k (l := l) (p := p) h.2
  | _ + 1, [], _ :: _, h => h.elim
  | _ + 1, _ :: _, [], h => h.elim
theorem SR.take : ∀ (k : Nat) {l : List (Snt α)} {p : List (Snt β)}, SR R l p → SR R (l.take k) (p.take k)
  | 0, _, _, _ => trivial
  | k + 1, [], [], _ => trivial
  | k + 1, _ :: l, _ :: p, h => ⟨h.1, SR.take k (l := l) (p := p) h.2⟩
  | _ + 1, [], _ :: _, h => h.elim
  | _ + 1, _ :: _, [], h => h.elim
theorem SR.map {f : Snt α → Snt α} {g : Snt β → Snt β} (hfg : ∀ a b, (a.out = b.out ∧ a.tm = b.tm ∧ a.done = b.done ∧ R a.b b.b) → ((f a).out = (g b).out ∧ (f a).tm = (g b).tm ∧ (f a).done = (g b).done ∧ R (f a).b (g b).b)) :
    ∀ {l : List (Snt α)} {p : List (Snt β)}, SR R l p → SR R (l.map f) (p.map g)
  | [], [], _ => trivial
  | a :: l, b :: p, h => ⟨hfg a b h.1, SR.map hfg (l := l) (p := p) h.2⟩
  | [], _ :: _, h => h.elim
  | _ :: _, [], h => h.elim
theorem dueB_rel {ag now : Int} {a : Snt α} {b : Snt β} (h : a.out = b.out ∧ a.tm = b.tm ∧ a.done = b.done ∧ R a.b b.b) : dueB ag now a = dueB ag now b := by
  unfold dueB; rw [h.1, h.2.1, h.2.2.1]
theorem SR.due {ag now : Int} {k : Nat} {l : List (Snt α)} {p : List (Snt β)} (h : SR R l p) : SR R (dueL ag now k l) (dueL ag now k p) := by
  unfold dueL
  refine (SR.map (fun a b hab => ?_) (h.take k)).append (h.drop k)
  unfold upd
  rw [dueB_rel hab]
  split
  · exact ⟨rfl, rfl, hab.2.2.1, hab.2.2.2⟩
  · exact hab
theorem SR.dueM {ag now bse : Int} : ∀ {l : List (Snt α)} {p : List (Snt β)} (i : Nat) (m : Int), SR R l p → dueM ag now bse l i m = Go.Sal.dueM ag now bse p i m
  | [], [], _, _, _ => rfl
  | a :: l, b :: p, i, m, h => by
    simp only [Go.Sal.dueM]
    rw [dueB_rel h.1, SR.dueM (l := l) (p := p) (i + 1) _ h.2]
  | [], _ :: _, _, _, h => h.elim
  | _ :: _, [], _, _, h => h.elim
end
end Go.Sal
