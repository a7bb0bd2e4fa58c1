/- What a sender and a taker do together, on lists alone: what is handed on is a beginning of what was pushed. -/
import Derived.Test.YtlkpecalkakpeaaSdPure2
set_option linter.unusedVariables false
set_option linter.unusedSimpArgs false
namespace Go.Sal
/-- payloads numbered from i + 1 on -/
def pay : Nat → List (List UInt8) → List (Int × List UInt8)
  | _, [] => []
  | i, b :: r => ((i : Int) + 1, b) :: pay (i + 1) r
theorem pay_len : ∀ (i : Nat) (P : List (List UInt8)), (pay i P).length = P.length
  | _, [] => rfl
  | i, b :: r => by simp [pay, pay_len (i + 1) r]
theorem pay_append : ∀ (i : Nat) (P Q : List (List UInt8)), pay i (P ++ Q) = pay i P ++ pay (i + P.length) Q
  | _, [], _ => by simp [pay]
  | i, b :: r, Q => by
    simp only [List.cons_append, pay, pay_append (i + 1) r Q, List.length_cons]
    rw [show i + 1 + r.length = i + (r.length + 1) by omega]
theorem pay_take : ∀ (i k : Nat) (P : List (List UInt8)), pay i (P.take k) = (pay i P).take k
  | _, k, [] => by simp [pay]
  | _, 0, _ => by simp [pay]
  | i, k + 1, b :: r => by simp [pay, pay_take (i + 1) k r]
structure OSt where
  now : Int
  d : Nat
  m : Int
  op : Int
  q : List (Snt (List UInt8))
  g : Nat
  pt : List (Int × List UInt8)
  P : List (List UInt8)
  W : List (Int × List UInt8)
structure OP (sz : Int) (K : Nat) (s : OSt) : Prop where
  now0 : 0 ≤ s.now
  now1 : s.now ≤ 1099511627776
  dg : s.d ≤ s.g
  gm : (s.g : Int) ≤ s.m
  mP : s.m ≤ s.P.length
  qP : s.q.map (·.b) = s.P.drop s.d
  done : ∀ i (h : i < s.q.length), s.q[i].done = true → s.d + i + 1 ≤ s.g ∨ ∃ e ∈ s.pt, e.1 = ((s.d + i : Nat) : Int) + 1
  nod : (s.pt.map (·.1)).Nodup
  keys : ∀ e ∈ s.pt, ∃ k : Nat, e.1 = (k : Int) + 1 ∧ s.g < k ∧ (k : Int) < s.m ∧ s.P[k]? = some e.2
  way : ∀ e ∈ s.W, ∃ k : Nat, e.1 = (k : Int) + 1 ∧ (k : Int) < s.m ∧ (k : Int) < s.d + sz ∧ s.P[k]? = some e.2
  op0 : -100 * (K : Int) ≤ s.op
  op1 : s.op ≤ K
  tms : ∀ x ∈ s.q, 0 ≤ x.tm ∧ x.tm ≤ s.now
  PK : s.P.length ≤ K
  P80 : s.P.length ≤ 80
  bl : ∀ b ∈ s.P, b.length ≤ 50
  WK : s.W.length ≤ 64 * K
  ptK : s.g + s.pt.length ≤ K
section
variable {sz : Int} {K : Nat} {s : OSt}
theorem OP.later (h : OP sz K s) : OP sz (K + 1) s :=
  { h with op0 := by have := h.op0; omega, op1 := by have := h.op1; omega, PK := by have := h.PK; omega, WK := by have := h.WK; omega, ptK := by have := h.ptK; omega }
theorem OP.qlen (h : OP sz K s) : s.d + s.q.length = s.P.length := by
  have h1 := congrArg List.length h.qP
  simp at h1
  have := h.dg; have := h.gm; have := h.mP
  omega
theorem OP.start : OP sz 0 ⟨0, 0, 0, 0, [], 0, [], [], []⟩ :=
  ⟨by decide, by decide, by decide, by decide, by decide, rfl, by simp, by simp, by simp, by simp, by decide, by decide, by simp, by decide, by decide, by simp, by decide, by decide⟩
theorem OP.push (h : OP sz K s) {b : List UInt8} (hb : b.length ≤ 50) (hK : K < 80 := by omega) : OP sz (K + 1) { s with P := s.P ++ [b], q := s.q ++ [⟨b, false, 0, false⟩], op := s.op + 1 } := by
  have hl := h.qlen
  have hget : ∀ (k : Nat) (x : List UInt8), s.P[k]? = some x → (s.P ++ [b])[k]? = some x := fun k x hk => by
    rw [List.getElem?_append_left (List.getElem?_eq_some_iff.1 hk).1]; exact hk
  refine ⟨h.now0, h.now1, h.dg, h.gm, ?_, ?_, ?_, h.nod, ?_, ?_, ?_, ?_, ?_, ?_, ?_, ?_, ?_, ?_⟩
  · have := h.mP; simp; omega
  · dsimp only
    rw [List.drop_append_of_le_length (by omega), List.map_append, h.qP]; rfl
  · intro i hi hd
    dsimp only at hi hd
    rcases Nat.lt_or_ge i s.q.length with h1 | h1
    · rw [List.getElem_append_left h1] at hd
      exact h.done i h1 hd
    · have : i = s.q.length := by simp at hi; omega
      subst this
      simp at hd
  · intro e he
    obtain ⟨k, h1, h2, h3, h4⟩ := h.keys e he
    exact ⟨k, h1, h2, h3, hget _ _ h4⟩
  · intro e he
    obtain ⟨k, h1, h2, h3, h4⟩ := h.way e he
    exact ⟨k, h1, h2, h3, hget _ _ h4⟩
  · have := h.op0; dsimp only; omega
  · have := h.op1; dsimp only; omega
  · intro x hx
    rcases List.mem_append.1 hx with hx | hx
    · exact h.tms x hx
    · simp at hx; subst hx; exact ⟨Int.le_refl _, h.now0⟩
  · have := h.PK; simp; omega
  · have := h.PK; simp; omega
  · intro x hx
    rcases List.mem_append.1 hx with hx | hx
    · exact h.bl x hx
    · simp at hx; subst hx; exact hb
  · have := h.WK; dsimp only; omega
  · have := h.ptK; dsimp only; omega
theorem dueO_mem {α : Type} {ag now bse : Int} : ∀ (l : List (Snt α)) (i : Nat) (m : Int) (e : Int × α), e ∈ dueO ag now bse l i → ∃ j, ∃ h : j < l.length, e = (bse + (i + j : Nat), l[j].b) ∧ bse + (i + j : Nat) ≤ dueM ag now bse l i m
  | [], _, _, e, h => by simp [dueO] at h
  | x :: l, i, m, e, h => by
    simp only [dueO] at h
    simp only [dueM]
    have hrec : ∀ m', e ∈ dueO ag now bse l (i + 1) → ∃ j, ∃ h : j < (x :: l).length, e = (bse + (i + j : Nat), (x :: l)[j].b) ∧ bse + (i + j : Nat) ≤ dueM ag now bse l (i + 1) m' := fun m' h => by
      obtain ⟨j, hj, h1, h2⟩ := dueO_mem l (i + 1) m' e h
      refine ⟨j + 1, by simpa using hj, ?_, ?_⟩
      · rw [h1]; simp; omega
      · rw [show i + (j + 1) = i + 1 + j by omega]; exact h2
    split at h
    · rename_i hb
      rw [if_pos hb]
      rcases List.mem_cons.1 h with rfl | h
      · refine ⟨0, by simp, by simp, ?_⟩
        have := (dueM_bound (ag := ag) (now := now) (bse := bse) l (i + 1) (max m (bse + i))).1
        simp
        omega
      · exact hrec _ h
    · rename_i hb
      rw [if_neg hb]
      exact hrec _ h
theorem upd_b {α : Type} {ag now : Int} (x : Snt α) : (upd ag now x).b = x.b := by unfold upd; split <;> rfl
theorem upd_done {α : Type} {ag now : Int} (x : Snt α) : (upd ag now x).done = x.done := by unfold upd; split <;> rfl
theorem dueL_b {α : Type} {ag now : Int} {k : Nat} {l : List (Snt α)} : (dueL ag now k l).map (·.b) = l.map (·.b) := by
  unfold dueL
  rw [List.map_append, List.map_map]
  have : ((fun x : Snt α => x.b) ∘ upd ag now) = fun x => x.b := funext fun x => upd_b x
  rw [this, ← List.map_append, List.take_append_drop]
theorem dueL_done {α : Type} {ag now : Int} {k : Nat} {l : List (Snt α)} : (dueL ag now k l).map (·.done) = l.map (·.done) := by
  unfold dueL
  rw [List.map_append, List.map_map]
  have : ((fun x : Snt α => x.done) ∘ upd ag now) = fun x => x.done := funext fun x => upd_done x
  rw [this, ← List.map_append, List.take_append_drop]
theorem dueL_tm {ag now now0 : Int} {k : Nat} {l : List (Snt (List UInt8))} (h : ∀ x ∈ l, 0 ≤ x.tm ∧ x.tm ≤ now0) (h0 : now0 ≤ now) (h1 : 0 ≤ now) : ∀ x ∈ dueL ag now k l, 0 ≤ x.tm ∧ x.tm ≤ now := by
  intro x hx
  unfold dueL at hx
  rcases List.mem_append.1 hx with hx | hx
  · obtain ⟨y, hy, rfl⟩ := List.mem_map.1 hx
    have := h y (List.mem_of_mem_take hy)
    unfold upd
    split
    · exact ⟨h1, Int.le_refl _⟩
    · omega
  · have := h x (List.mem_of_mem_drop hx)
    omega
theorem OP.due (h : OP sz K s) {ag now : Int} {k : Nat} (h0 : s.now ≤ now) (h1 : now ≤ 1099511627776) (hk : k ≤ 64) (hk2 : (k : Int) ≤ sz) (hk3 : k ≤ s.q.length) :
    OP sz (K + 1) { s with now := now, m := dueM ag now ((s.d : Int) + 1) (s.q.take k) 0 s.m, q := dueL ag now k s.q, W := s.W ++ dueO ag now ((s.d : Int) + 1) (s.q.take k) 0 } := by
  have hl := h.qlen
  obtain ⟨m1, m2⟩ := dueM_bound (ag := ag) (now := now) (bse := (s.d : Int) + 1) (s.q.take k) 0 s.m
  have hlen : (s.q.take k).length = k := by rw [List.length_take]; omega
  refine ⟨by have := h.now0; dsimp only; omega, h1, h.dg, ?_, ?_, ?_, ?_, h.nod, ?_, ?_, ?_, ?_, ?_, ?_, h.P80, h.bl, ?_, ?_⟩
  · have := h.gm; dsimp only; omega
  · have := h.mP
    dsimp only
    rw [hlen] at m2
    omega
  · dsimp only
    rw [dueL_b]; exact h.qP
  · intro i hi hd
    dsimp only at hi hd ⊢
    have hi' : i < s.q.length := by rw [dueL_len] at hi; exact hi
    refine h.done i hi' ?_
    have e := congrArg (fun l => l[i]?) (dueL_done (ag := ag) (now := now) (k := k) (l := s.q))
    simp only [List.getElem?_map, List.getElem?_eq_getElem hi, List.getElem?_eq_getElem hi', Option.map_some] at e
    injection e with e
    rw [← e]; exact hd
  · intro e he
    obtain ⟨k, x1, x2, x3, x4⟩ := h.keys e he
    exact ⟨k, x1, x2, by dsimp only; omega, x4⟩
  · intro e he
    dsimp only
    rcases List.mem_append.1 he with he | he
    · obtain ⟨k, x1, x2, x3, x4⟩ := h.way e he
      exact ⟨k, x1, by omega, x3, x4⟩
    · obtain ⟨j, hj, x1, x2⟩ := dueO_mem _ _ s.m _ he
      have hj' : j < k := by omega
      refine ⟨s.d + j, by rw [x1]; simp; omega, by simp at x2 ⊢; omega, by omega, ?_⟩
      have e := congrArg (fun l => l[j]?) h.qP
      simp only [List.getElem?_map, List.getElem?_eq_getElem (show j < s.q.length by omega), List.getElem?_drop, Option.map_some] at e
      rw [← e, x1]
      simp
  · have := h.op0; dsimp only; omega
  · have := h.op1; dsimp only; omega
  · exact dueL_tm h.tms h0 (by have := h.now0; omega)
  · have := h.PK; dsimp only; omega
  · have := h.WK
    have := dueO_len (ag := ag) (now := now) (bse := (s.d : Int) + 1) (s.q.take k) 0
    simp
    omega
  · have := h.ptK; dsimp only; omega
theorem mem_mdrop_ne {α : Type} {k : Int} : ∀ {l : List (Int × α)} {e : Int × α}, (l.map (·.1)).Nodup → e ∈ mdrop l k → e.1 ≠ k
  | [], e, _, h => by simp [mdrop] at h
  | x :: l, e, hn, h => by
    unfold mdrop at h
    rw [List.eraseP_cons] at h
    simp only [List.map_cons, List.nodup_cons] at hn
    by_cases hx : x.1 = k
    · rw [show (x.1 == k) = true by simpa using hx] at h
      simp only [cond_true] at h
      intro he
      exact hn.1 (by rw [hx, ← he]; exact List.mem_map_of_mem h)
    · rw [show (x.1 == k) = false by simpa using hx] at h
      simp only [cond_false] at h
      rcases List.mem_cons.1 h with rfl | h
      · exact hx
      · exact mem_mdrop_ne hn.2 h
theorem mem_mdrop_of {α : Type} {k : Int} {l : List (Int × α)} {e : Int × α} (he : e ∈ l) (hk : e.1 ≠ k) : e ∈ mdrop l k := by
  unfold mdrop
  exact (List.mem_eraseP_of_neg (by simpa using hk)).2 he
theorem mdrop_nodup {α : Type} {k : Int} {l : List (Int × α)} (h : (l.map (·.1)).Nodup) : ((mdrop l k).map (·.1)).Nodup := List.Nodup.sublist (List.Sublist.map _ List.eraseP_sublist) h
theorem mlook_mem {α : Type} {k : Int} {l : List (Int × α)} {v : α} (h : mlook l k = some v) : (k, v) ∈ l := by
  unfold mlook at h
  rw [Option.map_eq_some_iff] at h
  obtain ⟨a, h1, h2⟩ := h
  have := List.mem_of_find?_eq_some h1
  have h3 := List.find?_some h1
  obtain ⟨a1, a2⟩ := a
  simp at h2 h3
  subst h2; subst h3
  exact this
theorem drain_spec (P : List (List UInt8)) (m : Int) : ∀ (n g : Nat) (l out : List (Int × List UInt8)), l.length ≤ n → (l.map (·.1)).Nodup → (g : Int) ≤ m →
    (∀ e ∈ l, ∃ k : Nat, e.1 = (k : Int) + 1 ∧ g ≤ k ∧ (k : Int) < m ∧ P[k]? = some e.2) →
    ∃ (g' : Nat) (l' : List (Int × List UInt8)), g ≤ g' ∧ (g' : Int) ≤ m ∧ tdrain n ((g : Int) + 1) l out = ((g' : Int) + 1, l', out ++ pay g ((P.take g').drop g)) ∧ (l'.map (·.1)).Nodup ∧
      (∀ e ∈ l', e ∈ l ∧ (g' : Int) + 1 < e.1) ∧ (∀ e ∈ l, e.1 ≤ g' ∨ e ∈ l') ∧ g' + l'.length = g + l.length
  | 0, g, l, out, hl, hn, hm, hk => by
    have : l = [] := by simpa using hl
    subst this
    exact ⟨g, [], Nat.le_refl _, hm, by simp [tdrain, pay], by simp, by simp, by simp, rfl⟩
  | n + 1, g, l, out, hl, hn, hm, hk => by
    cases h : mlook l ((g : Int) + 1) with
    | none =>
      rw [tdrain_stop h]
      refine ⟨g, l, Nat.le_refl _, hm, by simp [pay], hn, fun e he => ⟨he, ?_⟩, fun e he => .inr he, rfl⟩
      have := look_none.1 h e he
      obtain ⟨k, h1, h2, _⟩ := hk e he
      omega
    | some v =>
      rw [tdrain_step h]
      have hv := mlook_mem h
      obtain ⟨k, h1, h2, h3, h4⟩ := hk _ hv
      have hkg : k = g := by simp at h1; omega
      subst hkg
      have hlen := mdrop_len (l := l) (k := (k : Int) + 1) (by rw [h]; rfl)
      obtain ⟨g', l', c1, c2, c3, c4, c5, c6, c7⟩ := drain_spec P m n (k + 1) (mdrop l ((k : Int) + 1)) (out ++ [((k : Int) + 1, v)]) (by omega) (mdrop_nodup hn) (by omega) (fun e he => by
        obtain ⟨j, x1, x2, x3, x4⟩ := hk e (mem_drop he)
        have := mem_mdrop_ne hn he
        exact ⟨j, x1, by omega, x3, x4⟩)
      have hlt := (List.getElem?_eq_some_iff.1 h4).1
      refine ⟨g', l', by omega, c2, ?_, c4, fun e he => ⟨mem_drop (c5 e he).1, (c5 e he).2⟩, fun e he => ?_, by omega⟩
      · rw [show ((k : Int) + 1 + 1) = ((k + 1 : Nat) : Int) + 1 by omega, c3]
        have h5 : (P.take g').drop k = v :: (P.take g').drop (k + 1) := by
          rw [List.drop_eq_getElem_cons (by rw [List.length_take]; omega)]
          congr 1
          rw [List.getElem_take]
          rw [List.getElem?_eq_getElem hlt] at h4
          injection h4
        rw [h5]
        simp [pay]
      · by_cases hek : e.1 = (k : Int) + 1
        · left; omega
        · rcases c6 e (mem_mdrop_of he hek) with h6 | h6
          · exact .inl h6
          · exact .inr h6
/-- number n has come -/
def arr (g : Nat) (pt : List (Int × List UInt8)) (n : Int) : Prop := n ≤ g ∨ ∃ x ∈ pt, x.1 = n
theorem nodup_range : ∀ (B : Nat) (a : Int) (l : List Int), l.Nodup → (∀ x ∈ l, a < x ∧ x ≤ a + B) → l.length ≤ B
  | 0, a, l, _, h => by
    cases l with
    | nil => simp
    | cons x l => have := h x (by simp); omega
  | B + 1, a, l, hn, h => by
    have h1 := nodup_range B a (l.erase (a + (B + 1 : Nat))) (hn.erase _) (fun x hx => by
      rw [hn.mem_erase_iff] at hx
      have := h x hx.2
      omega)
    rw [List.length_erase] at h1
    split at h1 <;> omega
theorem OP.ptl (h : OP sz K s) : s.g + s.pt.length ≤ s.P.length := by
  have h1 := h.gm
  have h2 := h.mP
  have := nodup_range (s.m - s.g).toNat s.g (s.pt.map (·.1)) h.nod (fun x hx => by
    obtain ⟨e, he, rfl⟩ := List.mem_map.1 hx
    obtain ⟨k, h3, h4, h5, _⟩ := h.keys e he
    omega)
  rw [List.length_map] at this
  omega
theorem OP.take2 (h : OP sz K s) (hs : 1 ≤ sz) {e : Int × List UInt8} (he : e ∈ s.W) :
    ∃ (g' : Nat) (pt' out : List (Int × List UInt8)), ttake sz ((s.g : Int) + 1) s.pt e.1 e.2 = (0, (g' : Int) + 1, pt', out) ∧ OP sz (K + 1) { s with g := g', pt := pt' } ∧ pay 0 (s.P.take s.g) ++ out = pay 0 (s.P.take g') ∧ (∀ n, arr s.g s.pt n → arr g' pt' n) ∧ arr g' pt' e.1 := by
  obtain ⟨k, h1, h2, h3, h4⟩ := h.way e he
  have hdg := h.dg
  unfold ttake
  rw [if_neg (by omega)]
  by_cases hc : e.1 < (s.g : Int) + 1 ∨ (mlook s.pt e.1).isSome = true
  · rw [if_pos hc]
    refine ⟨s.g, s.pt, [], rfl, h.later, by simp, fun n h => h, ?_⟩
    rcases hc with hc | hc
    · left; omega
    · obtain ⟨v, hv⟩ := Option.isSome_iff_exists.1 hc
      exact .inr ⟨_, mlook_mem hv, rfl⟩
  · rw [if_neg hc]
    obtain ⟨hc1, hc2⟩ : ¬ e.1 < (s.g : Int) + 1 ∧ mlook s.pt e.1 = none := ⟨fun h => hc (.inl h), by
      cases hh : mlook s.pt e.1 with
      | none => rfl
      | some v => exact absurd (.inr (by rw [hh]; rfl)) hc⟩
    have hno := look_none.1 hc2
    obtain ⟨g', l', c1, c2, c3, c4, c5, c6, c7⟩ := drain_spec s.P s.m (s.pt.length + 1) s.g (s.pt ++ [(e.1, e.2)]) [] (by simp) (by
        rw [List.map_append, List.nodup_append]
        refine ⟨h.nod, by simp, ?_⟩
        intro a ha b hb
        obtain ⟨p, hp, rfl⟩ := List.mem_map.1 ha
        simp at hb
        subst hb
        exact hno p hp) h.gm (fun x hx => by
      rcases List.mem_append.1 hx with hx | hx
      · obtain ⟨j, y1, y2, y3, y4⟩ := h.keys x hx
        exact ⟨j, y1, by omega, y3, y4⟩
      · simp at hx
        subst hx
        exact ⟨k, h1, by omega, h2, h4⟩)
    have hgP : (g' : Int) ≤ s.P.length := Int.le_trans c2 h.mP
    refine ⟨g', l', pay s.g ((s.P.take g').drop s.g), by rw [c3]; simp, ?_, ?_, ?_, ?_⟩
    · refine ⟨h.now0, h.now1, by dsimp only; omega, c2, h.mP, h.qP, ?_, c4, ?_, h.way, ?_, ?_, h.tms, ?_, h.P80, h.bl, ?_, ?_⟩
      · intro i hi hd
        dsimp only
        rcases h.done i hi hd with h5 | ⟨x, hx, h5⟩
        · left; omega
        · rcases c6 x (List.mem_append_left _ hx) with h6 | h6
          · left; omega
          · exact .inr ⟨x, h6, h5⟩
      · intro x hx
        dsimp only
        obtain ⟨hx1, hx2⟩ := c5 x hx
        rcases List.mem_append.1 hx1 with hx1 | hx1
        · obtain ⟨j, y1, y2, y3, y4⟩ := h.keys x hx1
          exact ⟨j, y1, by omega, y3, y4⟩
        · simp at hx1
          subst hx1
          exact ⟨k, h1, by simp at hx2; omega, h2, h4⟩
      · have := h.op0; dsimp only; omega
      · have := h.op1; dsimp only; omega
      · have := h.PK; dsimp only; omega
      · have := h.WK; dsimp only; omega
      · have := h.ptK
        simp at c7
        dsimp only
        omega
    · have e1 : s.P.take g' = s.P.take s.g ++ (s.P.take g').drop s.g := by
        have : s.P.take s.g = (s.P.take g').take s.g := by rw [List.take_take, Nat.min_eq_left c1]
        rw [this, List.take_append_drop]
      conv => rhs; rw [e1]
      rw [pay_append, Nat.zero_add, List.length_take, Nat.min_eq_left (by omega)]
    · rintro n (hn | ⟨x, hx, hn⟩)
      · left; omega
      · rcases c6 x (List.mem_append_left _ hx) with h6 | h6
        · left; omega
        · exact .inr ⟨x, h6, hn⟩
    · rcases c6 (e.1, e.2) (List.mem_append_right _ (by simp)) with h6 | h6
      · exact .inl h6
      · exact .inr ⟨_, h6, rfl⟩
theorem OP.take (h : OP sz K s) (hs : 1 ≤ sz) {e : Int × List UInt8} (he : e ∈ s.W) :
    ∃ (g' : Nat) (pt' out : List (Int × List UInt8)), ttake sz ((s.g : Int) + 1) s.pt e.1 e.2 = (0, (g' : Int) + 1, pt', out) ∧ OP sz (K + 1) { s with g := g', pt := pt' } ∧ pay 0 (s.P.take s.g) ++ out = pay 0 (s.P.take g') := by
  obtain ⟨g', pt', out, h1, h2, h3, _⟩ := h.take2 hs he
  exact ⟨g', pt', out, h1, h2, h3⟩
theorem ackR_get {α : Type} {all : Int} {M : Nat} : ∀ (l : List (Snt α)) (n : Int) (i : Nat) (h : i < (ackR all M l n).length) (h' : i < l.length), (ackR all M l n)[i] = ackU all M (n + i) l[i]
  | [], _, i, _, h => by simp at h
  | x :: l, n, 0, _, _ => by simp [ackR]
  | x :: l, n, i + 1, h, h' => by
    simp only [ackR, List.getElem_cons_succ]
    rw [ackR_get l (n + 1) i _ (by simpa using h')]
    congr 1
    omega
theorem ackU_b {α : Type} {all n : Int} {M : Nat} (x : Snt α) : (ackU all M n x).b = x.b := by unfold ackU; split <;> rfl
theorem ackU_tm {α : Type} {all n : Int} {M : Nat} (x : Snt α) : (ackU all M n x).tm = x.tm := by unfold ackU; split <;> rfl
theorem ackU_done {α : Type} {all n : Int} {M : Nat} (x : Snt α) (h : (ackU all M n x).done = true) : x.done = true ∨ hitB all M n = true := by
  unfold ackU at h
  split at h
  · rename_i h1; exact .inr h1
  · exact .inl h
theorem ackR_b {α : Type} {all : Int} {M : Nat} : ∀ (l : List (Snt α)) (n : Int), (ackR all M l n).map (·.b) = l.map (·.b)
  | [], _ => rfl
  | x :: l, n => by simp [ackR, ackU_b, ackR_b l (n + 1)]
theorem ackR_tm {α : Type} {all : Int} {M : Nat} : ∀ (l : List (Snt α)) (n : Int), (ackR all M l n).map (·.tm) = l.map (·.tm)
  | [], _ => rfl
  | x :: l, n => by simp [ackR, ackU_tm, ackR_tm l (n + 1)]
theorem hitB_true {all n : Int} {M : Nat} (h : hitB all M n = true) : n ≤ all ∨ ∃ k : Nat, k < 64 ∧ n = all + 2 + k ∧ M.testBit k = true := by
  simp only [hitB, Bool.or_eq_true, Bool.and_eq_true, decide_eq_true_eq] at h
  rcases h with h | ⟨⟨h1, h2⟩, h3⟩
  · exact .inl h
  · exact .inr ⟨(n - all - 2).toNat, by omega, by omega, h3⟩
theorem doneN_done {α : Type} : ∀ (l : List (Snt α)) (i : Nat) (h : i < l.length), i < doneN l → l[i].done = true
  | [], i, h, _ => by simp at h
  | x :: l, i, h, hd => by
    unfold doneN at hd
    rw [List.takeWhile_cons] at hd
    split at hd
    · rename_i hx
      cases i with
      | zero => exact hx
      | succ i =>
        simp only [List.getElem_cons_succ]
        exact doneN_done l i _ (by unfold doneN; simpa using hd)
    · simp at hd
theorem OP.ack (h : OP sz K s) (hK : K ≤ 4000) {M : Nat} (hM : ∀ k : Nat, M.testBit k = true → ∃ e ∈ s.pt, e.1 = (s.g : Int) + 1 + 1 + k) :
    OP sz (K + 1) { s with q := (ackR s.g M s.q ((s.d : Int) + 1)).drop (doneN (ackR s.g M s.q ((s.d : Int) + 1))), d := s.d + doneN (ackR s.g M s.q ((s.d : Int) + 1)), op := s.op - (ackF s.g M s.q ((s.d : Int) + 1) : Nat) } := by
  have hl := h.qlen
  have hlen := ackR_len (all := s.g) (M := M) s.q ((s.d : Int) + 1)
  have hF := ackF_le (all := s.g) (M := M) s.q ((s.d : Int) + 1)
  have hdn := doneN_le (l := ackR s.g M s.q ((s.d : Int) + 1))
  have hdone : ∀ i (hi : i < (ackR s.g M s.q ((s.d : Int) + 1)).length), (ackR s.g M s.q ((s.d : Int) + 1))[i].done = true → s.d + i + 1 ≤ s.g ∨ ∃ e ∈ s.pt, e.1 = ((s.d + i : Nat) : Int) + 1 := by
    intro i hi hd
    rw [ackR_get _ _ _ hi (by omega)] at hd
    rcases ackU_done _ hd with h1 | h1
    · exact h.done i (by omega) h1
    · rcases hitB_true h1 with h2 | ⟨k, h2, h3, h4⟩
      · left; omega
      · obtain ⟨e, he, h5⟩ := hM k h4
        exact .inr ⟨e, he, by omega⟩
  have hdg : s.d + doneN (ackR s.g M s.q ((s.d : Int) + 1)) ≤ s.g := by
    apply Classical.byContradiction
    intro hc
    have := h.dg
    have h1 := hdone (s.g - s.d) (by omega) (doneN_done _ _ _ (by omega))
    rcases h1 with h1 | ⟨e, he, h1⟩
    · omega
    · obtain ⟨k, h2, h3, _⟩ := h.keys e he
      omega
  have hPK := h.PK
  have hP80 := h.P80
  refine ⟨h.now0, h.now1, hdg, h.gm, h.mP, ?_, ?_, h.nod, h.keys, ?_, ?_, ?_, ?_, ?_, h.P80, h.bl, ?_, ?_⟩
  · dsimp only
    rw [List.map_drop, ackR_b, h.qP, List.drop_drop]
  · intro i hi hd
    dsimp only at hi hd ⊢
    rw [List.length_drop] at hi
    rw [List.getElem_drop] at hd
    rcases hdone _ (by omega) hd with h1 | ⟨e, he, h1⟩
    · left; omega
    · exact .inr ⟨e, he, by omega⟩
  · intro e he
    obtain ⟨k, h1, h2, h3, h4⟩ := h.way e he
    exact ⟨k, h1, h2, by dsimp only; omega, h4⟩
  · have := h.op0; dsimp only; omega
  · have := h.op1; dsimp only; omega
  · intro x hx
    have hx' : x.tm ∈ (ackR s.g M s.q ((s.d : Int) + 1)).map (·.tm) := List.mem_map_of_mem (List.mem_of_mem_drop hx)
    rw [ackR_tm] at hx'
    obtain ⟨y, hy, e⟩ := List.mem_map.1 hx'
    rw [← e]
    exact h.tms y hy
  · dsimp only; omega
  · have := h.WK; dsimp only; omega
  · have := h.ptK; dsimp only; omega
theorem OP.way_sub (h : OP sz K s) {W' : List (Int × List UInt8)} (hs : ∀ e ∈ W', e ∈ s.W) (hl : W'.length ≤ s.W.length) : OP sz K { s with W := W' } :=
  { h with way := fun e he => h.way e (hs e he), WK := by have := h.WK; dsimp only; omega }
theorem OP.more (h : OP sz K s) {K' : Nat} (hK : K ≤ K') : OP sz K' s :=
  { h with op0 := by have := h.op0; omega, op1 := by have := h.op1; omega, PK := by have := h.PK; omega, WK := by have := h.WK; omega, ptK := by have := h.ptK; omega }
/-- all that is in the window has come: then it has been handed on -/
theorem OP.reach (h : OP sz K s) {k : Nat} (hk : k ≤ s.q.length) (ha : ∀ i (hi : i < s.q.length), i < k → s.q[i].done = true ∨ arr s.g s.pt ((s.d : Int) + 1 + i)) : s.d + k ≤ s.g := by
  apply Classical.byContradiction
  intro hc
  have hd := h.dg
  have h1 : arr s.g s.pt ((s.g : Int) + 1) := by
    rcases ha (s.g - s.d) (by omega) (by omega) with h1 | h1
    · rcases h.done _ (by omega) h1 with h2 | ⟨x, hx, h2⟩
      · omega
      · exact .inr ⟨x, hx, by omega⟩
    · rw [show (s.d : Int) + 1 + ((s.g - s.d : Nat) : Int) = (s.g : Int) + 1 by omega] at h1
      exact h1
  rcases h1 with h1 | ⟨x, hx, h1⟩
  · omega
  · obtain ⟨j, h2, h3, _⟩ := h.keys x hx
    omega
theorem doneN_ge {α : Type} : ∀ (l : List (Snt α)) (j : Nat), j ≤ l.length → (∀ i (h : i < l.length), i < j → l[i].done = true) → j ≤ doneN l
  | [], j, hj, _ => by simp at hj; omega
  | x :: l, 0, _, _ => Nat.zero_le _
  | x :: l, j + 1, hj, h => by
    have h0 := h 0 (by simp) (by omega)
    simp at h0
    have ih := doneN_ge l j (by simpa using hj) (fun i hi hij => h (i + 1) (by simpa using hi) (by omega))
    unfold doneN at ih ⊢
    rw [List.takeWhile_cons, h0, if_pos rfl]
    simpa using ih
theorem ack_reach {g : Nat} {M : Nat} {d k : Nat} {q : List (Snt (List UInt8))} (hk : k ≤ q.length) (hg : d + k ≤ g) : k ≤ doneN (ackR g M q ((d : Int) + 1)) := by
  have hl := ackR_len (all := g) (M := M) q ((d : Int) + 1)
  refine doneN_ge _ _ (by omega) (fun i hi hik => ?_)
  rw [ackR_get _ _ _ hi (by omega)]
  unfold ackU
  rw [if_pos]
  unfold hitB
  have : ((d : Int) + 1 + i ≤ g) := by omega
  simp [this]
/-- all that is in the window and not acknowledged is due -/
theorem dueO_all {α : Type} {ag now bse : Int} : ∀ (l : List (Snt α)) (i : Nat), (∀ x ∈ l, x.out = true → x.tm + ag ≤ now) → ∀ j (h : j < l.length), l[j].done = true ∨ (bse + (i + j : Nat), l[j].b) ∈ dueO ag now bse l i
  | [], _, _, j, h => by simp at h
  | x :: l, i, hx, 0, _ => by
    simp only [List.getElem_cons_zero, dueO]
    cases hd : x.done with
    | true => exact .inl rfl
    | false =>
      right
      have hb : dueB ag now x = true := by
        unfold dueB
        rw [hd]
        cases ho : x.out with
        | false => rfl
        | true => have := hx x (by simp) ho; simp; omega
      rw [if_pos hb]
      simp
  | x :: l, i, hx, j + 1, h => by
    simp only [List.getElem_cons_succ, dueO]
    rcases dueO_all l (i + 1) (fun y hy => hx y (by simp [hy])) j (by simpa using h) with h1 | h1
    · exact .inl h1
    · right
      rw [show i + (j + 1) = i + 1 + j by omega]
      split
      · exact List.mem_cons_of_mem _ h1
      · exact h1
theorem dueL_next {ag now : Int} {k : Nat} {l : List (Snt (List UInt8))} (h : ∀ x ∈ l, x.out = true → x.tm + ag ≤ now) (ha : 0 ≤ ag) : ∀ x ∈ dueL ag now k l, x.out = true → x.tm + ag ≤ now + ag := by
  intro x hx ho
  unfold dueL at hx
  rcases List.mem_append.1 hx with hx | hx
  · obtain ⟨y, hy, rfl⟩ := List.mem_map.1 hx
    have := h y (List.mem_of_mem_take hy)
    unfold upd at ho ⊢
    split
    · exact Int.le_refl _
    · rename_i h1
      rw [if_neg h1] at ho
      have := this ho
      omega
  · have := h x (List.mem_of_mem_drop hx) ho
    omega
theorem ackR_next {ag now all n : Int} {M : Nat} {l : List (Snt (List UInt8))} (h : ∀ x ∈ l, x.out = true → x.tm + ag ≤ now) : ∀ x ∈ ackR all M l n, x.out = true → x.tm + ag ≤ now := by
  induction l generalizing n with
  | nil => simp [ackR]
  | cons y l ih =>
    intro x hx ho
    simp only [ackR] at hx
    rcases List.mem_cons.1 hx with rfl | hx
    · have e : (ackU all M n y).out = y.out := by unfold ackU; split <;> rfl
      rw [ackU_tm]
      exact h y (by simp) (by rw [← e]; exact ho)
    · exact ih (fun z hz => h z (by simp [hz])) x hx ho
end
end Go.Sal
