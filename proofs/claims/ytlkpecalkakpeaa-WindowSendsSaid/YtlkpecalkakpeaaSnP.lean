/- The program's sender and the reference's, on lists alone: they answer alike. -/
import Derived.Test.YtlkpecalkakpeaaSr6
set_option linter.unusedVariables false
set_option linter.unusedSimpArgs false
namespace Go.Sal
section
variable {α β : Type} {R : α → β → Prop}
/-! ### two rows of the reference, alike but for what stands for the bytes -/
def RR (R : α → β → Prop) : List (Snr α) → List (Snr β) → Prop
  | [], [] => True
  | a :: l, b :: p => (a.done = b.done ∧ a.tm = b.tm ∧ R a.b b.b) ∧ RR R l p
  | _, _ => False
theorem RR.len : ∀ {l : List (Snr α)} {p : List (Snr β)}, RR R l p → l.length = p.length
  | [], [], _ => rfl
  | _ :: l, _ :: p, h => by simp [RR.len (l := l) (p := p) h.2]
  | [], _ :: _, h => h.elim
  | _ :: _, [], h => h.elim
theorem RR.mono {R' : α → β → Prop} (hR : ∀ a b, R a b → R' a b) : ∀ {l : List (Snr α)} {p : List (Snr β)}, RR R l p → RR R' l p
  | [], [], _ => trivial
  | _ :: l, _ :: p, h => ⟨⟨h.1.1, h.1.2.1, hR _ _ h.1.2.2⟩, RR.mono hR (l := l) (p := p) h.2⟩
  | [], _ :: _, h => h.elim
  | _ :: _, [], h => h.elim
theorem RR.append : ∀ {l l' : List (Snr α)} {p p' : List (Snr β)}, RR R l p → RR R l' p' → RR R (l ++ l') (p ++ p')
  | [], _, [], _, _, h => h
  | _ :: l, _, _ :: p, _, h, h' => ⟨h.1, RR.append (l := l) (p := p) h.2 h'⟩
  | [], _, _ :: _, _, h, _ => h.elim
  | _ :: _, _, [], _, h, _ => h.elim
theorem RR.drop : ∀ (k : Nat) {l : List (Snr α)} {p : List (Snr β)}, RR R l p → RR R (l.drop k) (p.drop k)
  | 0, _, _, h => by simpa using h
  | k + 1, [], [], _ => by simp [RR]
  | k + 1, _ :: l, _ :: p, h => RR.drop k (l := l) (p := p) h.2
  | _ + 1, [], _ :: _, h => h.elim
  | _ + 1, _ :: _, [], h => h.elim
theorem RR.take : ∀ (k : Nat) {l : List (Snr α)} {p : List (Snr β)}, RR R l p → RR R (l.take k) (p.take k)
  | 0, _, _, _ => by simp [RR]
  | k + 1, [], [], _ => by simp [RR]
  | k + 1, _ :: l, _ :: p, h => ⟨h.1, RR.take k (l := l) (p := p) h.2⟩
  | _ + 1, [], _ :: _, h => h.elim
  | _ + 1, _ :: _, [], h => h.elim
theorem RR.map {f : Snr α → Snr α} {g : Snr β → Snr β} (hfg : ∀ a b, (a.done = b.done ∧ a.tm = b.tm ∧ R a.b b.b) → ((f a).done = (g b).done ∧ (f a).tm = (g b).tm ∧ R (f a).b (g b).b)) :
    ∀ {l : List (Snr α)} {p : List (Snr β)}, RR R l p → RR R (l.map f) (p.map g)
  | [], [], _ => trivial
  | a :: l, b :: p, h => ⟨hfg a b h.1, RR.map hfg (l := l) (p := p) h.2⟩
  | [], _ :: _, h => h.elim
  | _ :: _, [], h => h.elim
theorem RR.rdone : ∀ {l : List (Snr α)} {p : List (Snr β)}, RR R l p → Go.Sal.rdone l = Go.Sal.rdone p
  | [], [], _ => rfl
  | a :: l, b :: p, h => by
    have := RR.rdone (l := l) (p := p) h.2
    unfold Go.Sal.rdone at *
    rw [List.takeWhile_cons, List.takeWhile_cons, h.1.1]
    split <;> simp [this]
  | [], _ :: _, h => h.elim
  | _ :: _, [], h => h.elim
theorem RR.tms : ∀ {l : List (Snr α)} {p : List (Snr β)}, RR R l p → l.map (·.tm) = p.map (·.tm)
  | [], [], _ => rfl
  | a :: l, b :: p, h => by simp [h.1.2.1, RR.tms (l := l) (p := p) h.2]
  | [], _ :: _, h => h.elim
  | _ :: _, [], h => h.elim
theorem sentN_tms {l : List (Snr α)} {p : List (Snr β)} (h : l.map (·.tm) = p.map (·.tm)) : ∀ k, sentN l k = sentN p k
  | 0 => rfl
  | k + 1 => by
    have e : l[k]?.map (·.tm) = p[k]?.map (·.tm) := by rw [← List.getElem?_map, ← List.getElem?_map, h]
    unfold sentN
    rw [e, sentN_tms h k]
theorem RR.sent {l : List (Snr α)} {p : List (Snr β)} (h : RR R l p) : sentN l l.length = sentN p p.length := by
  rw [h.len]; exact sentN_tms h.tms _
theorem rdueB_rel {ag now : Int} {a : Snr α} {b : Snr β} (h : a.done = b.done ∧ a.tm = b.tm ∧ R a.b b.b) : rdueB ag now a = rdueB ag now b := by
  unfold rdueB; rw [h.1, h.2.1]
theorem rupd_rel {ag now : Int} {a : Snr α} {b : Snr β} (h : a.done = b.done ∧ a.tm = b.tm ∧ R a.b b.b) : (rupd ag now a).done = (rupd ag now b).done ∧ (rupd ag now a).tm = (rupd ag now b).tm ∧ R (rupd ag now a).b (rupd ag now b).b := by
  unfold rupd
  rw [rdueB_rel h]
  split
  · exact ⟨h.1, rfl, h.2.2⟩
  · exact h
theorem RR.due {ag now : Int} {d k : Nat} {l : List (Snr α)} {p : List (Snr β)} (h : RR R l p) : RR R (rdueL ag now d k l) (rdueL ag now d k p) :=
  (h.take d).append ((((h.drop d).take k).map (fun _ _ => rupd_rel)).append ((h.drop d).drop k))
theorem RR.dueO {ag now bse : Int} : ∀ {l : List (Snr α)} {p : List (Snr β)} (i : Nat), RR R l p → LR R (rdueO ag now bse l i) (rdueO ag now bse p i)
  | [], [], _, _ => trivial
  | a :: l, b :: p, i, h => by
    have ih := RR.dueO (ag := ag) (now := now) (bse := bse) (l := l) (p := p) (i + 1) h.2
    simp only [rdueO]
    rw [rdueB_rel h.1]
    split
    · exact ⟨rfl, h.1.2.2, ih⟩
    · exact ih
  | [], _ :: _, _, h => h.elim
  | _ :: _, [], _, h => h.elim
theorem RR.ack {all : Int} {M : Nat} : ∀ {l : List (Snr α)} {p : List (Snr β)} (n : Int), RR R l p → RR R (rackR all M l n) (rackR all M p n)
  | [], [], _, _ => trivial
  | a :: l, b :: p, n, h => by
    refine ⟨?_, RR.ack (l := l) (p := p) (n + 1) h.2⟩
    unfold rackU
    split
    · exact ⟨rfl, h.1.2⟩
    · exact h.1
  | [], _ :: _, _, h => h.elim
  | _ :: _, [], _, h => h.elim
theorem RR.ackF {all : Int} {M : Nat} : ∀ {l : List (Snr α)} {p : List (Snr β)} (n : Int), RR R l p → rackF all M l n = rackF all M p n
  | [], [], _, _ => rfl
  | a :: l, b :: p, n, h => by
    simp only [Go.Sal.rackF]
    rw [RR.ackF (l := l) (p := p) (n + 1) h.2, h.1.1]
  | [], _ :: _, _, h => h.elim
  | _ :: _, [], _, h => h.elim
theorem RR.void {z : α} {z' : β} (hz : R z z') {l : List (Snr α)} {p : List (Snr β)} (h : RR R l p) : RR R (l.map (rvoid z)) (p.map (rvoid z')) :=
  h.map (fun a b h => by
    unfold rvoid
    rw [h.1]
    split
    · exact h
    · exact ⟨rfl, h.2.1, hz⟩)
theorem SR.void {z : α} {z' : β} (hz : R z z') {l : List (Snt α)} {p : List (Snt β)} (h : SR R l p) : SR R (l.map (svoid z)) (p.map (svoid z')) :=
  h.map (fun a b h => by
    unfold svoid
    rw [h.2.2.1]
    split
    · exact h
    · exact ⟨h.1, h.2.1, rfl, hz⟩)
/-! ### the two rows -/
def conv (x : Snt α) : Snr α := ⟨x.b, x.done, if x.out = true then x.tm else -1⟩
theorem sentN_spec {l : List (Snr α)} : ∀ n, n ≤ l.length → (∀ k (h : k < l.length), k < n → sentN l n ≤ k → l[k].tm < 0) ∧ (sentN l n = 0 ∨ ∃ h : sentN l n - 1 < l.length, 0 ≤ l[sentN l n - 1].tm)
  | 0, _ => ⟨fun k h hk => by omega, .inl rfl⟩
  | n + 1, hn => by
    obtain ⟨h1, h2⟩ := sentN_spec (l := l) n (by omega)
    by_cases ht : 0 ≤ l[n].tm
    · rw [sentN_yes (by omega) ht]
      exact ⟨fun k h hk hs => by omega, .inr ⟨by omega, ht⟩⟩
    · rw [sentN_no (by omega) ht]
      refine ⟨fun k h hk hs => ?_, h2⟩
      rcases Nat.lt_succ_iff_lt_or_eq.1 hk with h3 | rfl
      · exact h1 k h h3 hs
      · omega
theorem sentN_unique {l : List (Snr α)} {s : Nat} (hs : s ≤ l.length) (h1 : ∀ k (h : k < l.length), s ≤ k → l[k].tm < 0) (h2 : s = 0 ∨ ∃ h : s - 1 < l.length, 0 ≤ l[s - 1].tm) : sentN l l.length = s := by
  obtain ⟨g1, g2⟩ := sentN_spec (l := l) l.length (Nat.le_refl _)
  have g3 := sentN_le l l.length
  rcases Nat.lt_trichotomy (sentN l l.length) s with h | h | h
  · rcases h2 with h2 | ⟨h3, h2⟩
    · omega
    · have := g1 (s - 1) h3 h3 (by omega); omega
  · exact h
  · rcases g2 with g2 | ⟨g4, g2⟩
    · omega
    · have := h1 _ g4 (by omega); omega
theorem sentN_app {l : List (Snr α)} {x : Snr α} : ∀ k, k ≤ l.length → sentN (l ++ [x]) k = sentN l k
  | 0, _ => rfl
  | k + 1, h => by
    unfold sentN
    rw [List.getElem?_append_left (by omega), sentN_app k (by omega)]
theorem dueM_att {ag now bse : Int} : ∀ (l : List (Snt α)) (i : Nat) (m : Int), dueM ag now bse l i m = m ∨ ∃ j, ∃ h : j < l.length, dueB ag now l[j] = true ∧ dueM ag now bse l i m = bse + (i + j : Nat)
  | [], i, m => .inl rfl
  | x :: l, i, m => by
    simp only [dueM]
    have hrec : ∀ m', (∃ j, ∃ h : j < l.length, dueB ag now l[j] = true ∧ dueM ag now bse l (i + 1) m' = bse + (i + 1 + j : Nat)) → ∃ j, ∃ h : j < (x :: l).length, dueB ag now (x :: l)[j] = true ∧ dueM ag now bse l (i + 1) m' = bse + (i + j : Nat) := fun m' ⟨j, h, h1, h2⟩ =>
      ⟨j + 1, by simpa using h, by simpa using h1, by rw [h2]; omega⟩
    split
    · rename_i hb
      rcases dueM_att (ag := ag) (now := now) (bse := bse) l (i + 1) (max m (bse + i)) with h | h
      · rcases Int.le_total m (bse + i) with h3 | h3
        · right
          exact ⟨0, by simp, by simpa using hb, by rw [h, Int.max_eq_right h3]; simp⟩
        · left
          rw [h, Int.max_eq_left h3]
      · exact .inr (hrec _ h)
    · rcases dueM_att (ag := ag) (now := now) (bse := bse) l (i + 1) m with h | h
      · exact .inl h
      · exact .inr (hrec _ h)
theorem dueM_ge {ag now bse : Int} : ∀ (l : List (Snt α)) (i : Nat) (m : Int) (j : Nat) (h : j < l.length), dueB ag now l[j] = true → bse + (i + j : Nat) ≤ dueM ag now bse l i m
  | [], _, _, j, h, _ => by simp at h
  | x :: l, i, m, 0, h, hb => by
    simp only [dueM]
    rw [if_pos (by simpa using hb)]
    have := (dueM_bound (ag := ag) (now := now) (bse := bse) l (i + 1) (max m (bse + i))).1
    simp
    omega
  | x :: l, i, m, j + 1, h, hb => by
    simp only [dueM]
    have := dueM_ge (ag := ag) (now := now) (bse := bse) l (i + 1) (if dueB ag now x = true then max m (bse + i) else m) j (by simpa using h) (by simpa using hb)
    rw [show i + (j + 1) = i + 1 + j by omega]
    exact this
theorem conv_due {ag now : Int} {x : Snt α} (h : 0 ≤ x.tm) : rdueB ag now (conv x) = dueB ag now x := by
  unfold rdueB dueB conv
  cases x.done <;> cases x.out <;> simp [h]
  rw [Bool.eq_iff_iff]
  simp
theorem conv_upd {ag now : Int} {x : Snt α} (h : 0 ≤ x.tm) : rupd ag now (conv x) = conv (upd ag now x) := by
  unfold rupd upd
  rw [conv_due h]
  split
  · simp [conv]
  · rfl
theorem conv_dueO {ag now bse : Int} : ∀ (l : List (Snt α)) (i : Nat), (∀ x ∈ l, 0 ≤ x.tm) → rdueO ag now bse (l.map conv) i = dueO ag now bse l i
  | [], _, _ => rfl
  | x :: l, i, h => by
    simp only [List.map_cons, rdueO, dueO]
    rw [conv_due (h x (by simp)), conv_dueO l (i + 1) (fun y hy => h y (by simp [hy]))]
    rfl
theorem conv_map {ag now : Int} : ∀ (l : List (Snt α)), (∀ x ∈ l, 0 ≤ x.tm) → (l.map conv).map (rupd ag now) = (l.map (upd ag now)).map conv
  | [], _ => rfl
  | x :: l, h => by
    simp only [List.map_cons]
    rw [conv_upd (h x (by simp)), conv_map l (fun y hy => h y (by simp [hy]))]
theorem conv_ack {all : Int} {M : Nat} : ∀ (l : List (Snt α)) (n : Int), rackR all M (l.map conv) n = (ackR all M l n).map conv
  | [], _ => rfl
  | x :: l, n => by
    simp only [List.map_cons, rackR, ackR]
    rw [conv_ack l (n + 1)]
    congr 1
    unfold rackU ackU
    split <;> rfl
theorem conv_ackF {all : Int} {M : Nat} : ∀ (l : List (Snt α)) (n : Int), rackF all M (l.map conv) n = ackF all M l n
  | [], _ => rfl
  | x :: l, n => by
    simp only [List.map_cons, rackF, ackF]
    rw [conv_ackF l (n + 1)]
    rfl
theorem rackR_append {all : Int} {M : Nat} : ∀ (a b : List (Snr α)) (n : Int), rackR all M (a ++ b) n = rackR all M a n ++ rackR all M b (n + a.length)
  | [], b, n => by simp [rackR]
  | x :: a, b, n => by
    simp only [List.cons_append, rackR, List.length_cons]
    rw [rackR_append a b (n + 1)]
    congr 3
    omega
theorem rackF_append {all : Int} {M : Nat} : ∀ (a b : List (Snr α)) (n : Int), rackF all M (a ++ b) n = rackF all M a n + rackF all M b (n + a.length)
  | [], b, n => by simp [rackF]
  | x :: a, b, n => by
    simp only [List.cons_append, rackF, List.length_cons]
    rw [rackF_append a b (n + 1), show n + 1 + (a.length : Int) = n + ((a.length + 1 : Nat) : Int) by omega]
    omega
theorem rackF_done {all : Int} {M : Nat} : ∀ (a : List (Snr α)) (n : Int), (∀ x ∈ a, x.done = true) → rackF all M a n = 0
  | [], _, _ => rfl
  | x :: a, n, h => by
    simp only [rackF]
    rw [rackF_done a (n + 1) (fun y hy => h y (by simp [hy])), h x (by simp)]
    simp
theorem rackR_done {all : Int} {M : Nat} : ∀ (a : List (Snr α)) (n : Int), (∀ x ∈ a, x.done = true) → rackR all M a n = a
  | [], _, _ => rfl
  | x :: a, n, h => by
    simp only [rackR]
    rw [rackR_done a (n + 1) (fun y hy => h y (by simp [hy]))]
    congr 1
    unfold rackU
    split
    · have := h x (by simp)
      cases x; simp at this; simp [this]
    · rfl
theorem rackR_tm {all : Int} {M : Nat} : ∀ (l : List (Snr α)) (n : Int), (rackR all M l n).map (·.tm) = l.map (·.tm)
  | [], _ => rfl
  | x :: l, n => by
    simp only [rackR, List.map_cons, rackR_tm l (n + 1)]
    congr 1
    unfold rackU; split <;> rfl
theorem rackR_b {all : Int} {M : Nat} : ∀ (l : List (Snr α)) (n : Int), (rackR all M l n).map (·.b) = l.map (·.b)
  | [], _ => rfl
  | x :: l, n => by
    simp only [rackR, List.map_cons, rackR_b l (n + 1)]
    congr 1
    unfold rackU; split <;> rfl
theorem doneN_stop : ∀ (l : List (Snt α)) (h : doneN l < l.length), l[doneN l].done = false
  | [], h => by simp at h
  | x :: l, h => by
    by_cases hx : x.done = true
    · have e : doneN (x :: l) = doneN l + 1 := by unfold doneN; rw [List.takeWhile_cons, hx]; simp
      have ih := doneN_stop l (by rw [e] at h; simpa using h)
      simp only [e, List.getElem_cons_succ]
      exact ih
    · have e : doneN (x :: l) = 0 := by unfold doneN; rw [List.takeWhile_cons, if_neg hx]; rfl
      simp only [e, List.getElem_cons_zero]
      simpa using hx
end
structure SP (K : Nat) (now : Int) (d : Nat) (m op : Int) (q : List (Snt (List UInt8))) (lr : List (Snr (List UInt8))) : Prop where
  now0 : 0 ≤ now
  now1 : now ≤ 1099511627776
  len : d + q.length = lr.length
  pre : ∀ x ∈ lr.take d, x.done = true
  rel : lr.drop d = q.map conv
  head : ∀ h : 0 < q.length, q[0].done = false
  tms : ∀ x ∈ q, 0 ≤ x.tm ∧ x.tm ≤ now
  hm : m = (sentN lr lr.length : Nat)
  op0 : -100 * (K : Int) ≤ op
  op1 : op ≤ K
  LK : lr.length ≤ K
  bl : ∀ x ∈ lr, x.b.length ≤ 50
  tmr : ∀ x ∈ lr, -1 ≤ x.tm ∧ x.tm ≤ 1099511627776
section
variable {K : Nat} {now : Int} {d : Nat} {m op : Int} {q : List (Snt (List UInt8))} {lr : List (Snr (List UInt8))}
theorem SP.later (h : SP K now d m op q lr) : SP (K + 1) now d m op q lr :=
  { h with op0 := by have := h.op0; omega, op1 := by have := h.op1; omega, LK := by have := h.LK; omega }
theorem SP.start : SP 0 0 0 0 0 [] [] :=
  ⟨by decide, by decide, rfl, by simp, rfl, by simp, by simp, rfl, by decide, by decide, by decide, by simp, by simp⟩
theorem SP.rd (h : SP K now d m op q lr) : rdone lr = d := by
  have hl := h.len
  refine rdone_of (by omega) (fun i hi hid => ?_) (fun hd => ?_)
  · refine h.pre _ ?_
    rw [List.mem_iff_getElem]
    exact ⟨i, by rw [List.length_take]; omega, by rw [List.getElem_take]⟩
  · have e := congrArg (fun l => l[0]?) h.rel
    have h0 : 0 < q.length := by omega
    simp only [List.getElem?_drop, List.getElem?_map, List.getElem?_eq_getElem h0, Option.map_some, Nat.add_zero, List.getElem?_eq_getElem hd] at e
    injection e with e
    rw [e]
    exact h.head h0
theorem SP.split (h : SP K now d m op q lr) : lr = lr.take d ++ q.map conv := by
  rw [← h.rel, List.take_append_drop]
theorem SP.push (h : SP K now d m op q lr) {b : List UInt8} (hb : b.length ≤ 50) : SP (K + 1) now d m (op + 1) (q ++ [⟨b, false, 0, false⟩]) (lr ++ [⟨b, false, -1⟩]) := by
  have hl := h.len
  refine ⟨h.now0, h.now1, by simp; omega, ?_, ?_, ?_, ?_, ?_, ?_, ?_, ?_, ?_, ?_⟩
  · rw [List.take_append_of_le_length (by omega)]; exact h.pre
  · rw [List.drop_append_of_le_length (by omega), h.rel, List.map_append]; rfl
  · intro h0
    by_cases hq : 0 < q.length
    · rw [List.getElem_append_left hq]; exact h.head hq
    · have : q = [] := List.eq_nil_of_length_eq_zero (by omega)
      subst this
      rfl
  · intro x hx
    rcases List.mem_append.1 hx with hx | hx
    · exact h.tms x hx
    · simp at hx; subst hx; exact ⟨Int.le_refl _, h.now0⟩
  · rw [List.length_append, List.length_singleton, sentN_no (by simp) (by simp), sentN_app _ (Nat.le_refl _)]
    exact h.hm
  · have := h.op0; omega
  · have := h.op1; omega
  · have := h.LK; simp; omega
  · intro x hx
    rcases List.mem_append.1 hx with hx | hx
    · exact h.bl x hx
    · simp at hx; subst hx; exact hb
  · intro x hx
    rcases List.mem_append.1 hx with hx | hx
    · exact h.tmr x hx
    · simp at hx; subst hx; exact ⟨Int.le_refl _, by show (-1 : Int) ≤ 1099511627776; omega⟩
theorem SP.due (h : SP K now d m op q lr) {ag now' : Int} {k : Nat} (h0 : now ≤ now') (h1 : now' ≤ 1099511627776) (hk : k ≤ q.length) :
    SP (K + 1) now' d (dueM ag now' ((d : Int) + 1) (q.take k) 0 m) op (dueL ag now' k q) (rdueL ag now' d k lr) ∧ rdueO ag now' ((d : Int) + 1) ((lr.drop d).take k) 0 = dueO ag now' ((d : Int) + 1) (q.take k) 0 := by
  have hl := h.len
  have hn0 := h.now0
  have htm : ∀ x ∈ q, 0 ≤ x.tm := fun x hx => (h.tms x hx).1
  have htake : (rdueL ag now' d k lr).take d = lr.take d := by
    unfold rdueL
    rw [List.take_append_of_le_length (by simp; omega), List.take_take, Nat.min_self]
  have hdrop : (rdueL ag now' d k lr).drop d = (dueL ag now' k q).map conv := by
    unfold rdueL
    rw [List.drop_append_of_le_length (by simp; omega), List.drop_eq_nil_of_le (by simp; omega), List.nil_append, h.rel]
    unfold mapK dueL
    rw [← List.map_take, conv_map _ (fun x hx => htm x (List.mem_of_mem_take hx)), List.map_append, List.map_drop]
  have hO : rdueO ag now' ((d : Int) + 1) ((lr.drop d).take k) 0 = dueO ag now' ((d : Int) + 1) (q.take k) 0 := by
    rw [h.rel, ← List.map_take]
    exact conv_dueO _ _ (fun x hx => htm x (List.mem_of_mem_take hx))
  have hlr : (rdueL ag now' d k lr).length = lr.length := rdueL_len (by omega)
  have hqd : ∀ i (hi : i < q.length), (dueL ag now' k q)[i]'(by rw [dueL_len]; exact hi) = if i < k then upd ag now' q[i] else q[i] := by
    intro i hi
    have hi' : i < (dueL ag now' k q).length := by rw [dueL_len]; exact hi
    have e : (dueL ag now' k q)[i]? = some (if i < k then upd ag now' q[i] else q[i]) := by
      unfold dueL
      by_cases hik : i < k
      · rw [List.getElem?_append_left (by simp; omega), if_pos hik]
        simp [hik, hi]
      · rw [List.getElem?_append_right (by simp; omega), if_neg hik]
        simp only [List.length_map, List.length_take, Nat.min_eq_left hk, List.getElem?_drop]
        rw [show k + (i - k) = i by omega, List.getElem?_eq_getElem hi]
    exact Option.some.inj ((List.getElem?_eq_getElem hi').symm.trans e)
  have hdone : ∀ i (hi : i < q.length), ((dueL ag now' k q)[i]'(by rw [dueL_len]; exact hi)).done = q[i].done := fun i hi => by
    rw [hqd i hi]; split
    · exact upd_done _
    · rfl
  -- where the reference's row stands
  have hat : ∀ i (hi : i < q.length), (rdueL ag now' d k lr)[d + i]'(by omega) = conv ((dueL ag now' k q)[i]'(by rw [dueL_len]; exact hi)) := fun i hi => by
    have e := congrArg (fun l => l[i]?) hdrop
    have hi' : i < (dueL ag now' k q).length := by rw [dueL_len]; exact hi
    have hd' : d + i < (rdueL ag now' d k lr).length := by omega
    simp only [List.getElem?_drop, List.getElem?_map, List.getElem?_eq_getElem hi', Option.map_some, List.getElem?_eq_getElem hd'] at e
    exact Option.some.inj e
  have hatl : ∀ i (hi : i < q.length), lr[d + i]'(by omega) = conv q[i] := fun i hi => by
    have e := congrArg (fun l => l[i]?) h.rel
    have hd' : d + i < lr.length := by omega
    simp only [List.getElem?_drop, List.getElem?_map, List.getElem?_eq_getElem hi, Option.map_some, List.getElem?_eq_getElem hd'] at e
    exact Option.some.inj e
  have hlow : ∀ i (hi : i < d), (rdueL ag now' d k lr)[i]'(by omega) = lr[i]'(by omega) := fun i hi => by
    have e := congrArg (fun l => l[i]?) htake
    have h1 : i < (rdueL ag now' d k lr).length := by omega
    have h2 : i < lr.length := by omega
    simp only [List.getElem?_take, hi, if_true, List.getElem?_eq_getElem h1, List.getElem?_eq_getElem h2] at e
    exact Option.some.inj e
  refine ⟨⟨by omega, h1, by rw [dueL_len, hlr]; exact hl, by rw [htake]; exact h.pre, hdrop, ?_, dueL_tm h.tms h0 (by omega), ?_, by have := h.op0; omega, by have := h.op1; omega, by have := h.LK; omega, ?_, ?_⟩, hO⟩
  · intro h0
    have h0' : 0 < q.length := by rw [dueL_len] at h0; exact h0
    rw [hdone 0 h0']
    exact h.head h0'
  · -- the greatest number that was sent
    have hge := (dueM_bound (ag := ag) (now := now') (bse := (d : Int) + 1) (q.take k) 0 m).1
    obtain ⟨s1, s2⟩ := sentN_spec (l := lr) lr.length (Nat.le_refl _)
    have hsl := sentN_le lr lr.length
    have hm := h.hm
    have hatt := dueM_att (ag := ag) (now := now') (bse := (d : Int) + 1) (q.take k) 0 m
    have hdg := dueM_ge (ag := ag) (now := now') (bse := (d : Int) + 1) (q.take k) 0 m
    obtain ⟨M, hM⟩ : ∃ M : Nat, dueM ag now' ((d : Int) + 1) (q.take k) 0 m = (M : Int) := ⟨(dueM ag now' ((d : Int) + 1) (q.take k) 0 m).toNat, by omega⟩
    rw [hM] at hge hatt
    have hdg2 : ∀ j (hj : j < q.length), j < k → dueB ag now' q[j] = true → d + 1 + j ≤ M := fun j hj hjk hb => by
      have := hdg j (by rw [List.length_take]; omega) (by rw [List.getElem_take]; exact hb)
      rw [hM] at this
      omega
    rw [hM, ← sentN_unique (l := rdueL ag now' d k lr) (s := M) ?_ ?_ ?_]
    · rcases hatt with hatt | ⟨j, hj, _, hatt⟩
      · omega
      · rw [List.length_take] at hj; omega
    · intro i hi hMi
      rcases Nat.lt_or_ge i d with hid | hid
      · rw [hlow i hid]
        exact s1 i (by omega) (by omega) (by omega)
      · obtain ⟨j, rfl⟩ : ∃ j, i = d + j := ⟨i - d, by omega⟩
        have hj : j < q.length := by omega
        rw [hat j hj, hqd j hj]
        have hold := s1 (d + j) (by omega) (by omega) (by omega)
        rw [hatl j hj] at hold
        by_cases hjk : j < k
        · rw [if_pos hjk]
          unfold upd
          split
          · rename_i hb
            have := hdg2 j hj hjk hb
            omega
          · exact hold
        · rw [if_neg hjk]; exact hold
    · have hup : ∀ i (hi : i < lr.length), 0 ≤ lr[i].tm → 0 ≤ ((rdueL ag now' d k lr)[i]'(by omega)).tm := fun i hi ht => by
        rcases Nat.lt_or_ge i d with hid | hid
        · rw [hlow i hid]; exact ht
        · obtain ⟨j, rfl⟩ : ∃ j, i = d + j := ⟨i - d, by omega⟩
          have hj : j < q.length := by omega
          rw [hat j hj, hqd j hj]
          rw [hatl j hj] at ht
          split
          · unfold upd
            split
            · show 0 ≤ (if true = true then now' else -1)
              simp
              omega
            · exact ht
          · exact ht
      rcases hatt with hatt | ⟨j, hj, hb, hatt⟩
      · have hMs : M = sentN lr lr.length := by omega
        rw [hMs]
        rcases s2 with s2 | ⟨s3, s2⟩
        · exact .inl s2
        · exact .inr ⟨by omega, hup _ s3 s2⟩
      · right
        rw [List.length_take] at hj
        rw [List.getElem_take] at hb
        have hj' : j < q.length := by omega
        have e : M - 1 = d + j := by omega
        refine ⟨by omega, ?_⟩
        simp only [e]
        rw [hat j hj', hqd j hj', if_pos (by omega)]
        unfold upd
        rw [if_pos hb]
        show 0 ≤ (if true = true then now' else -1)
        simp
        omega
  · intro x hx
    obtain ⟨i, hi, rfl⟩ := List.mem_iff_getElem.1 hx
    rcases Nat.lt_or_ge i d with hid | hid
    · rw [hlow i hid]; exact h.bl _ (List.getElem_mem _)
    · obtain ⟨j, rfl⟩ : ∃ j, i = d + j := ⟨i - d, by omega⟩
      have hj : j < q.length := by omega
      rw [hat j hj, hqd j hj]
      have hb := h.bl _ (List.getElem_mem (show d + j < lr.length by omega))
      rw [hatl j hj] at hb
      split
      · show (upd ag now' q[j]).b.length ≤ 50
        rw [upd_b]; exact hb
      · exact hb
  · intro x hx
    obtain ⟨i, hi, rfl⟩ := List.mem_iff_getElem.1 hx
    rcases Nat.lt_or_ge i d with hid | hid
    · rw [hlow i hid]; exact h.tmr _ (List.getElem_mem _)
    · obtain ⟨j, rfl⟩ : ∃ j, i = d + j := ⟨i - d, by omega⟩
      have hj : j < q.length := by omega
      rw [hat j hj]
      have := dueL_tm (ag := ag) (k := k) h.tms h0 (by omega) _ (List.getElem_mem (show j < (dueL ag now' k q).length by rw [dueL_len]; exact hj))
      unfold conv
      dsimp only
      split <;> omega
theorem SP.ack (h : SP K now d m op q lr) (hK : K ≤ 80) {all : Int} {M : Nat} :
    SP (K + 1) now (d + doneN (ackR all M q ((d : Int) + 1))) m (op - (ackF all M q ((d : Int) + 1) : Nat)) ((ackR all M q ((d : Int) + 1)).drop (doneN (ackR all M q ((d : Int) + 1)))) (rackR all M lr 1) ∧ rackF all M lr 1 = ackF all M q ((d : Int) + 1) := by
  have hl := h.len
  have hsp := h.split
  have hdl : (lr.take d).length = d := by rw [List.length_take]; omega
  have hR : rackR all M lr 1 = lr.take d ++ (ackR all M q ((d : Int) + 1)).map conv := by
    conv => lhs; rw [hsp]
    rw [rackR_append, rackR_done _ _ h.pre, hdl, conv_ack, Int.add_comm]
  have hF : rackF all M lr 1 = ackF all M q ((d : Int) + 1) := by
    conv => lhs; rw [hsp]
    rw [rackF_append, rackF_done _ _ h.pre, hdl, conv_ackF, Int.add_comm, Nat.zero_add]
  have hql := ackR_len (all := all) (M := M) q ((d : Int) + 1)
  have hdn := doneN_le (l := ackR all M q ((d : Int) + 1))
  have hff := ackF_le (all := all) (M := M) q ((d : Int) + 1)
  have hLK := h.LK
  refine ⟨⟨h.now0, h.now1, ?_, ?_, ?_, ?_, ?_, ?_, ?_, ?_, ?_, ?_, ?_⟩, hF⟩
  · rw [hR, List.length_append, List.length_map, hdl, List.length_drop]; omega
  · rw [hR, List.take_append, hdl, List.take_of_length_le (by omega), Nat.add_sub_cancel_left]
    intro x hx
    rcases List.mem_append.1 hx with hx | hx
    · exact h.pre x hx
    · rw [← List.map_take] at hx
      obtain ⟨y, hy, rfl⟩ := List.mem_map.1 hx
      obtain ⟨i, hi, rfl⟩ := List.mem_iff_getElem.1 hy
      rw [List.getElem_take]
      rw [List.length_take] at hi
      exact doneN_done _ _ _ (by omega)
  · rw [hR, List.drop_append, hdl, List.drop_eq_nil_of_le (by omega), List.nil_append, Nat.add_sub_cancel_left, List.map_drop]
  · intro h0
    rw [List.length_drop] at h0
    rw [List.getElem_drop]
    exact doneN_stop _ (by omega)
  · intro x hx
    have hx' : x.tm ∈ (ackR all M q ((d : Int) + 1)).map (·.tm) := List.mem_map_of_mem (List.mem_of_mem_drop hx)
    rw [ackR_tm] at hx'
    obtain ⟨y, hy, e⟩ := List.mem_map.1 hx'
    rw [← e]
    exact h.tms y hy
  · rw [rackR_len, sentN_tms (rackR_tm lr 1)]; exact h.hm
  · have := h.op0; omega
  · have := h.op1; omega
  · rw [rackR_len]; omega
  · intro x hx
    have hx' : x.b ∈ (rackR all M lr 1).map (·.b) := List.mem_map_of_mem hx
    rw [rackR_b] at hx'
    obtain ⟨y, hy, e⟩ := List.mem_map.1 hx'
    rw [← e]
    exact h.bl y hy
  · intro x hx
    have hx' : x.tm ∈ (rackR all M lr 1).map (·.tm) := List.mem_map_of_mem hx
    rw [rackR_tm] at hx'
    obtain ⟨y, hy, e⟩ := List.mem_map.1 hx'
    rw [← e]
    exact h.tmr y hy
theorem svoid_done {α : Type} {z : α} (x : Snt α) : (svoid z x).done = x.done := by unfold svoid; split <;> rfl
theorem svoid_tm {α : Type} {z : α} (x : Snt α) : (svoid z x).tm = x.tm := by unfold svoid; split <;> rfl
theorem rvoid_done {α : Type} {z : α} (x : Snr α) : (rvoid z x).done = x.done := by unfold rvoid; split <;> rfl
theorem rvoid_tm {α : Type} {z : α} (x : Snr α) : (rvoid z x).tm = x.tm := by unfold rvoid; split <;> rfl
theorem conv_void {α : Type} {z : α} (x : Snt α) : rvoid z (conv x) = conv (svoid z x) := by
  unfold rvoid svoid conv
  dsimp only
  split <;> rfl
theorem SP.void (h : SP K now d m op q lr) : SP (K + 1) now d m op (q.map (svoid [])) (lr.map (rvoid [])) := by
  refine ⟨h.now0, h.now1, by simpa using h.len, ?_, ?_, ?_, ?_, ?_, by have := h.op0; omega, by have := h.op1; omega, by have := h.LK; simp; omega, ?_, ?_⟩
  · rw [← List.map_take]
    intro x hx
    obtain ⟨y, hy, rfl⟩ := List.mem_map.1 hx
    rw [rvoid_done]; exact h.pre y hy
  · rw [← List.map_drop, h.rel, List.map_map, List.map_map]
    congr 1
    funext x
    exact conv_void x
  · intro h0
    rw [List.getElem_map, svoid_done]
    exact h.head _
  · intro x hx
    obtain ⟨y, hy, rfl⟩ := List.mem_map.1 hx
    rw [svoid_tm]; exact h.tms y hy
  · rw [List.length_map, sentN_tms (p := lr) (by rw [List.map_map]; congr 1; funext x; exact rvoid_tm x)]
    exact h.hm
  · intro x hx
    obtain ⟨y, hy, rfl⟩ := List.mem_map.1 hx
    unfold rvoid
    split
    · exact h.bl y hy
    · simp
  · intro x hx
    obtain ⟨y, hy, rfl⟩ := List.mem_map.1 hx
    rw [rvoid_tm]; exact h.tmr y hy
end
end Go.Sal
