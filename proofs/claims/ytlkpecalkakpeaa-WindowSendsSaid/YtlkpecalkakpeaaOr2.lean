/- The acts of a sender and a taker side by side: Push, Due, Take, Acks, Ack, and rows lengthened. -/
import Derived.Test.YtlkpecalkakpeaaOr1
set_option linter.unusedVariables false
set_option linter.unusedSimpArgs false
namespace Go.Proofs.Ytlkpecalkakpeaa
open Go.RowKit Go.Sal
section
variable {base : Nat} {sz ag : Int} {s : OSt} {w wr : World} {vP vG vW : Value} {lP lG lW : List (Int × Value)} {pP pG pW : List (Int × List UInt8)} {lv : Value} {lq : List (Snt Value)} {lp : List (Int × Value)} {es : Array MapEntry} {cl K : Nat}

theorem OW.push (h : OW base sz ag s w wr vP vG vW lP lG lW pP pG pW lv lq lp es cl) (ho : OP sz K s) (hK : K ≤ 4000) (hs : 1 ≤ sz) {v : Value} {b : List UInt8} (hv : Reads base 5 wr v b) (hbl : b.length ≤ 50) :
    Calls Try.prog 18 #[.pointer (some ⟨base, 0, none⟩), v] wr fun e w' => e = .returned (.tuple #[.int .i64 ((s.P.length : Int) + 1), .int .i64 0]) ∧ ∃ lv' lq',
      OW base sz ag { s with q := s.q ++ [⟨b, false, 0, false⟩], op := s.op + 1 } w w' vP vG vW lP lG lW pP pG pW lv' lq' lp es cl ∧ Keep (base :: lv.ownBlock.toList) wr w' := by
  have h1 := ho.qlen
  have h2 := h.q.len
  have h3 := ho.P80
  have h4 := ho.op0
  have h5 := ho.op1
  refine (push_any base base sz ag s.now ((s.d : Int) + 1) s.m s.op lv lq v b wr h.S h.Q hv h.size (by omega) hs (by omega) (by omega) (by omega) (by omega) (by omega) (Nat.le_refl _)).mono ?_
  rintro e w' ⟨v', lv', rfl, hr, hS, hQ, hk⟩
  refine ⟨by rw [show (s.d : Int) + 1 + lq.length = (s.P.length : Int) + 1 by omega], lv', _, h.snd hk (s' := { s with q := s.q ++ [⟨b, false, 0, false⟩], op := s.op + 1 }) hS hQ ?_ rfl rfl, hk⟩
  exact (h.q.mono (fun a b x => x.keep hk h.noS)).append ⟨⟨rfl, rfl, rfl, hr⟩, trivial⟩

theorem OW.due (h : OW base sz ag s w wr vP vG vW lP lG lW pP pG pW lv lq lp es cl) (ho : OP sz K s) (hK : K ≤ 4000) (hs : 1 ≤ sz ∧ sz ≤ 64) {now : Int} (hn : s.now ≤ now) (hn2 : now ≤ 1099511627776) :
    Calls Try.prog 20 #[.pointer (some ⟨base, 0, none⟩), .int .i64 now] wr fun e w' => ∃ (A : Option Addr) (c k : Nat) (out : List (Int × Value)), e = .returned (.tuple #[.slice A out.length c, .int .i64 0]) ∧ (out.length : Int) ≤ sz ∧ k ≤ s.q.length ∧ (k : Int) = min sz (s.q.length : Int) ∧
      OW base sz ag { s with now := now, m := dueM ag now ((s.d : Int) + 1) (s.q.take k) 0 s.m, q := dueL ag now k s.q } w w' vP vG vW lP lG lW pP pG pW lv (dueL ag now k lq) lp es cl ∧
      w'.ownsRow wr.heap.size 33 2 (.slice A out.length c) out.length (flat out) ∧ LR (Reads base 5 w') out (dueO ag now ((s.d : Int) + 1) (s.q.take k) 0) ∧ Keep (base :: lv.ownBlock.toList) wr w' := by
  have h1 := ho.qlen
  have h2 := h.q.len
  have h3 := ho.P80
  have h4 := ho.now0
  have h5 := ho.gm
  have h6 := ho.mP
  obtain ⟨k, hk⟩ : ∃ k : Nat, min sz (lq.length : Int) = k := ⟨(min sz (lq.length : Int)).toNat, by omega⟩
  have hbl : ∀ x ∈ s.q, x.b.length ≤ 140737488355328 := fun x hx => by
    have e : x.b ∈ s.q.map (·.b) := List.mem_map_of_mem hx
    rw [ho.qP] at e
    have := ho.bl _ (List.mem_of_mem_drop e)
    omega
  have htm : ∀ x ∈ s.q, -4611686018427387904 ≤ x.tm ∧ x.tm ≤ 4611686018427387904 := fun x hx => by
    have := ho.tms x hx
    have := ho.now1
    omega
  have ho' := ho.due (ag := ag) (k := k) hn hn2 (by omega) (by omega) (by omega)
  refine (due_any base base sz ag s.now ((s.d : Int) + 1) s.m s.op now lv lq s.q k wr h.S h.Q h.q h.size hbl hs.1 ⟨h4, hn, hn2⟩ (by omega) (by omega) (by omega) (Nat.le_refl _) htm hk ⟨by omega, by omega⟩).mono ?_
  rintro e w' ⟨ro, out, rfl, hS, hQ, hq, hro, hout, hkp⟩
  obtain ⟨A, c, rfl, _⟩ := own_slice hro
  have hol := hout.len
  have hdl := dueO_len (ag := ag) (now := now) (bse := (s.d : Int) + 1) (s.q.take k) 0
  have htl : (s.q.take k).length ≤ k := by rw [List.length_take]; omega
  refine ⟨A, c, k, out, rfl, by omega, by omega, by omega, ?_, hro, hout, hkp⟩
  refine h.snd hkp (s' := { s with now := now, m := dueM ag now ((s.d : Int) + 1) (s.q.take k) 0 s.m, q := dueL ag now k s.q }) hS ?_ hq rfl rfl
  rw [dueL_len]
  exact hQ

theorem OW.take2 (h : OW base sz ag s w wr vP vG vW lP lG lW pP pG pW lv lq lp es cl) (ho : OP sz K s) (hK : K ≤ 4000) (hs : 1 ≤ sz ∧ sz ≤ 64) {v : Value} {e : Int × List UInt8} (he : e ∈ s.W) (hv : Reads base 5 wr v e.2) :
    Calls Try.prog 12 #[.pointer (some ⟨base + 1 + 1, 0, none⟩), .agg #[.int .i64 e.1, v]] wr fun r w' => ∃ (A : Option Addr) (c g' : Nat) (pt' po : List (Int × List UInt8)) (out lp' : List (Int × Value)) (es' : Array MapEntry) (cl' : Nat), r = .returned (.tuple #[.slice A out.length c, .int .i64 0]) ∧
      OP sz (K + 1) { s with g := g', pt := pt' } ∧ pay 0 (s.P.take s.g) ++ po = pay 0 (s.P.take g') ∧ (∀ n, arr s.g s.pt n → arr g' pt' n) ∧ arr g' pt' e.1 ∧
      OW base sz ag { s with g := g', pt := pt' } w w' vP vG vW lP lG lW pP pG pW lv lq lp' es' cl' ∧
      w'.ownsRow wr.heap.size 33 2 (.slice A out.length c) out.length (flat out) ∧ LR (Reads base 5 w') out po ∧ Keep [base + 1 + 1, base + 1] wr w' := by
  obtain ⟨g', pt', po, ht, ho', hpay, ha1, ha2⟩ := ho.take2 hs.1 he
  obtain ⟨kk, hk1, hk2, hk3, hk4⟩ := ho.way e he
  have hbe := ho.bl e.2 (by
    rw [List.getElem?_eq_some_iff] at hk4
    obtain ⟨hl, hk4⟩ := hk4
    rw [← hk4]
    exact List.getElem_mem hl)
  have h1 := ho.ptl
  have h2 := h.p.len
  have h3 := ho.P80
  have h4 := ho.mP
  refine (take_any base (base + 1 + 1) (base + 1) sz ((s.g : Int) + 1) lp es cl e.1 v e.2 wr h.T h.M hv h.size (by omega) hs.1 hs.2 (by omega) (by omega) (by omega) (by omega) h.p.sl (by omega) (by omega) (by omega)).mono ?_
  rintro r w' ⟨v', ro, es', cl', hr, rfl, hT, hM, hro, hkp⟩
  have hl' : LR (Reads base 5 w') lp s.pt := h.p.mono (fun a b x => x.keep hkp h.noT)
  obtain ⟨q1, q2, q3, q4⟩ := hl'.take (sz := sz) (wt := (s.g : Int) + 1) (N := e.1) hr
  rw [ht] at q1 q2 q3 q4
  rw [q1]
  rw [q2] at hT
  obtain ⟨A, c, rfl, _⟩ := own_slice hro
  exact ⟨A, c, g', pt', po, _, _, es', cl', rfl, ho', hpay, ha1, ha2, h.tkr hkp hT hM q3, hro, q4, hkp⟩
theorem OW.take (h : OW base sz ag s w wr vP vG vW lP lG lW pP pG pW lv lq lp es cl) (ho : OP sz K s) (hK : K ≤ 4000) (hs : 1 ≤ sz ∧ sz ≤ 64) {v : Value} {e : Int × List UInt8} (he : e ∈ s.W) (hv : Reads base 5 wr v e.2) :
    Calls Try.prog 12 #[.pointer (some ⟨base + 1 + 1, 0, none⟩), .agg #[.int .i64 e.1, v]] wr fun r w' => ∃ (A : Option Addr) (c g' : Nat) (pt' po : List (Int × List UInt8)) (out lp' : List (Int × Value)) (es' : Array MapEntry) (cl' : Nat), r = .returned (.tuple #[.slice A out.length c, .int .i64 0]) ∧
      OP sz (K + 1) { s with g := g', pt := pt' } ∧ pay 0 (s.P.take s.g) ++ po = pay 0 (s.P.take g') ∧
      OW base sz ag { s with g := g', pt := pt' } w w' vP vG vW lP lG lW pP pG pW lv lq lp' es' cl' ∧
      w'.ownsRow wr.heap.size 33 2 (.slice A out.length c) out.length (flat out) ∧ LR (Reads base 5 w') out po ∧ Keep [base + 1 + 1, base + 1] wr w' := by
  refine (h.take2 ho hK hs he hv).mono ?_
  rintro r w' ⟨A, c, g', pt', po, out, lp', es', cl', h1, h2, h3, _, _, h4⟩
  exact ⟨A, c, g', pt', po, out, lp', es', cl', h1, h2, h3, h4⟩

theorem OW.acks (h : OW base sz ag s w wr vP vG vW lP lG lW pP pG pW lv lq lp es cl) (ho : OP sz K s) (hK : K ≤ 4000) (hs : 1 ≤ sz) :
    Calls Try.prog 14 #[.pointer (some ⟨base + 1 + 1, 0, none⟩)] wr fun r w' => ∃ M : Nat, r = .returned (.tuple #[.int .i64 (s.g : Int), .int .u64 (M : Int)]) ∧ M < 18446744073709551616 ∧ (∀ k : Nat, M.testBit k = true → k < 64 ∧ ∃ e ∈ s.pt, e.1 = (s.g : Int) + 1 + 1 + k) ∧ Keep [] wr w' := by
  have h3 := ho.P80
  have h4 := ho.mP
  have h5 := ho.gm
  refine (acks_any (base + 1 + 1) (base + 1) sz ((s.g : Int) + 1) lp es cl wr h.T h.M hs (by omega) (by omega) (fun p hp => ?_)).mono ?_
  · obtain ⟨q, hq, e⟩ := h.p.keys.1 ⟨p, hp, rfl⟩
    obtain ⟨kk, x1, x2, x3, x4⟩ := ho.keys q hq
    omega
  · rintro r w' ⟨M, hM, rfl, hkp⟩
    refine ⟨M, by rw [show (s.g : Int) + 1 - 1 = s.g by omega], hM.1, fun k hk => ?_, hkp⟩
    obtain ⟨a, b⟩ := (hM.2 k).1 hk
    exact ⟨a, h.p.keys.1 b⟩

theorem _root_.Go.Sal.OP.named (ho : OP sz K s) {M : Nat} (hM : ∀ k : Nat, M.testBit k = true → k < 64 ∧ ∃ e ∈ s.pt, e.1 = (s.g : Int) + 1 + 1 + k) : Named s.m s.g M :=
  ⟨by omega, ho.gm, fun k _ hk => by
    obtain ⟨_, e, he, h1⟩ := hM k hk
    obtain ⟨kk, x1, x2, x3, x4⟩ := ho.keys e he
    omega⟩

theorem OW.ack (h : OW base sz ag s w wr vP vG vW lP lG lW pP pG pW lv lq lp es cl) (ho : OP sz K s) (hK : K ≤ 4000) (hs : 1 ≤ sz) {M : Nat} (hM64 : M < 18446744073709551616) (hM : ∀ k : Nat, M.testBit k = true → k < 64 ∧ ∃ e ∈ s.pt, e.1 = (s.g : Int) + 1 + 1 + k) :
    Calls Try.prog 21 #[.pointer (some ⟨base, 0, none⟩), .int .i64 (s.g : Int), .int .u64 (M : Int)] wr fun r w' => ∃ (f : Int) (lv' : Value) (lq' : List (Snt Value)), r = .returned (.tuple #[.int .i64 f, .int .i64 0]) ∧
      OW base sz ag { s with q := (ackR s.g M s.q ((s.d : Int) + 1)).drop (doneN (ackR s.g M s.q ((s.d : Int) + 1))), d := s.d + doneN (ackR s.g M s.q ((s.d : Int) + 1)), op := s.op - (ackF s.g M s.q ((s.d : Int) + 1) : Nat) } w w' vP vG vW lP lG lW pP pG pW lv' lq' lp es cl ∧
      Keep (base :: lv.ownBlock.toList) wr w' := by
  have h1 := ho.qlen
  have h2 := h.q.len
  have h3 := ho.P80
  have h4 := ho.op0
  have h5 := ho.op1
  have h6 := ho.mP
  have h7 := ho.gm
  refine (ack_any base base sz ag s.now ((s.d : Int) + 1) s.m s.op s.g M lv lq s.q wr h.S h.Q h.q h.size hs hM64 ⟨by omega, by omega⟩ (by omega) (by omega) (by omega) (Nat.le_refl _) (by omega) (by omega)).mono ?_
  rintro r w' (⟨hno, _⟩ | ⟨_, lv', rfl, hS, hQ, hq, hkp⟩)
  · exact absurd (ho.named hM) hno
  · have e1 := h.q.ackF (all := s.g) (M := M) ((s.d : Int) + 1)
    have e2 := (h.q.ack (all := s.g) (M := M) ((s.d : Int) + 1)).doneN
    rw [e1, e2] at hS
    refine ⟨_, lv', _, rfl, h.snd hkp (s' := { s with q := (ackR s.g M s.q ((s.d : Int) + 1)).drop (doneN (ackR s.g M s.q ((s.d : Int) + 1))), d := s.d + doneN (ackR s.g M s.q ((s.d : Int) + 1)), op := s.op - (ackF s.g M s.q ((s.d : Int) + 1) : Nat) }) ?_ hQ hq rfl rfl, hkp⟩
    have e3 : ((s.d + doneN (ackR (↑s.g) M s.q (↑s.d + 1)) : Nat) : Int) + 1 = (s.d : Int) + 1 + (doneN (ackR (↑s.g) M s.q (↑s.d + 1)) : Nat) := by omega
    dsimp only
    rw [e3]
    exact hS

theorem fresh_ne {w : World} {base n : Nat} {e : TypeId} {v v1 : Value} {xs : List Value} (h : w.ownsRow base e 2 v1 n xs) {o : Option Nat} (hv : v.ownBlock = o ∨ v.ownBlock = some w.heap.size) (ho : ∀ i, o = some i → v1.ownBlock ≠ some i) : ∀ i, v.ownBlock = some i → v1.ownBlock ≠ some i := by
  intro i hi h1
  rcases hv with hv | hv
  · exact ho i (by rw [← hv]; exact hi) h1
  · have h2 := (h.lt i h1).2
    rw [hv] at hi
    injection hi with hi
    omega
theorem OW.addP (h : OW base sz ag s w wr vP vG vW lP lG lW pP pG pW lv lq lp es cl) {A : Option Addr} {n c : Nat} {l : List (Int × Value)} {p : List (Int × List UInt8)} (hs : Src wr 2 A n (flat l)) (hl : LR (Reads base 5 wr) l p) (hn : lP.length + l.length ≤ 1000000) :
    ∃ A' m' c' w', m' = lP.length + l.length ∧ (Builtin.append_ #[22, 22] 22 #[vP, .slice A n c]).run Try.prog wr = .ok (.slice A' m' c') w' ∧ Keep vP.ownBlock.toList wr w' ∧
      OW base sz ag s w w' (.slice A' m' c') vG vW (lP ++ l) lG lW (pP ++ p) pG pW lv lq lp es cl := by
  obtain ⟨v', w', hrun, hown, hk, hat⟩ := row_append (c := c) h.rP hs hl.sl hn h.size
  obtain ⟨⟨x1, x2, x3, x4, x5, x6⟩, hr, hlr, hkp⟩ := h.row h.rP hk
  obtain ⟨A', c', rfl, _⟩ := own_slice hown
  rw [List.length_append] at hown hrun hat
  refine ⟨A', _, c', w', rfl, hrun, hk, ⟨h.hb, x1, x2, x3, x4, x5, x6, by rw [List.length_append]; exact hown, hr h.rG h.nPG, hr h.rW h.nPW, (hlr h.oP).append (hlr hl), hlr h.oG, hlr h.oW, fresh_ne h.rG hat h.nPG, fresh_ne h.rW hat h.nPW, h.nGW, hkp⟩⟩
theorem OW.addG (h : OW base sz ag s w wr vP vG vW lP lG lW pP pG pW lv lq lp es cl) {A : Option Addr} {n c : Nat} {l : List (Int × Value)} {p : List (Int × List UInt8)} (hs : Src wr 2 A n (flat l)) (hl : LR (Reads base 5 wr) l p) (hn : lG.length + l.length ≤ 1000000) :
    ∃ A' m' c' w', m' = lG.length + l.length ∧ (Builtin.append_ #[22, 22] 22 #[vG, .slice A n c]).run Try.prog wr = .ok (.slice A' m' c') w' ∧ Keep vG.ownBlock.toList wr w' ∧
      OW base sz ag s w w' vP (.slice A' m' c') vW lP (lG ++ l) lW pP (pG ++ p) pW lv lq lp es cl := by
  obtain ⟨v', w', hrun, hown, hk, hat⟩ := row_append (c := c) h.rG hs hl.sl hn h.size
  obtain ⟨⟨x1, x2, x3, x4, x5, x6⟩, hr, hlr, hkp⟩ := h.row h.rG hk
  obtain ⟨A', c', rfl, _⟩ := own_slice hown
  rw [List.length_append] at hown hrun hat
  have hgp : ∀ i, vG.ownBlock = some i → vP.ownBlock ≠ some i := fun i h1 h2 => h.nPG i h2 h1
  have hnew := fresh_ne h.rP hat hgp
  refine ⟨A', _, c', w', rfl, hrun, hk, ⟨h.hb, x1, x2, x3, x4, x5, x6, hr h.rP hgp, by rw [List.length_append]; exact hown, hr h.rW h.nGW, hlr h.oP, (hlr h.oG).append (hlr hl), hlr h.oW, fun i h1 h2 => hnew i h2 h1, h.nPW, fresh_ne h.rW hat h.nGW, hkp⟩⟩
theorem OW.addW (h : OW base sz ag s w wr vP vG vW lP lG lW pP pG pW lv lq lp es cl) {A : Option Addr} {n c : Nat} {l : List (Int × Value)} {p : List (Int × List UInt8)} (hs : Src wr 2 A n (flat l)) (hl : LR (Reads base 5 wr) l p) (hn : lW.length + l.length ≤ 1000000) :
    ∃ A' m' c' w', m' = lW.length + l.length ∧ (Builtin.append_ #[22, 22] 22 #[vW, .slice A n c]).run Try.prog wr = .ok (.slice A' m' c') w' ∧ Keep vW.ownBlock.toList wr w' ∧
      OW base sz ag s w w' vP vG (.slice A' m' c') lP lG (lW ++ l) pP pG (pW ++ p) lv lq lp es cl := by
  obtain ⟨v', w', hrun, hown, hk, hat⟩ := row_append (c := c) h.rW hs hl.sl hn h.size
  obtain ⟨⟨x1, x2, x3, x4, x5, x6⟩, hr, hlr, hkp⟩ := h.row h.rW hk
  obtain ⟨A', c', rfl, _⟩ := own_slice hown
  rw [List.length_append] at hown hrun hat
  have hwp : ∀ i, vW.ownBlock = some i → vP.ownBlock ≠ some i := fun i h1 h2 => h.nPW i h2 h1
  have hwg : ∀ i, vW.ownBlock = some i → vG.ownBlock ≠ some i := fun i h1 h2 => h.nGW i h2 h1
  have hn1 := fresh_ne h.rP hat hwp
  have hn2 := fresh_ne h.rG hat hwg
  refine ⟨A', _, c', w', rfl, hrun, hk, ⟨h.hb, x1, x2, x3, x4, x5, x6, hr h.rP hwp, hr h.rG hwg, by rw [List.length_append]; exact hown, hlr h.oP, hlr h.oG, (hlr h.oW).append (hlr hl), h.nPG, fun i h1 h2 => hn1 i h2 h1, fun i h1 h2 => hn2 i h2 h1, hkp⟩⟩
theorem own_le {w : World} {base base' size n : Nat} {e : TypeId} {v : Value} {xs : List Value} (h : w.ownsRow base e size v n xs) (hb : base' ≤ base) : w.ownsRow base' e size v n xs := by
  refine ⟨h.1, ?_⟩
  rcases h.2 with h | ⟨g, cap, cur, h1, h2, h3⟩
  · exact .inl h
  · exact .inr ⟨g, cap, cur, h1, by omega, h3⟩
theorem _root_.Go.Sal.LR.tk {α β : Type} {R : α → β → Prop} : ∀ {l : List (Int × α)} {p : List (Int × β)} (k : Nat), LR R l p → LR R (l.take k) (p.take k)
  | [], [], k, _ => by simp [LR]
  | _ :: _, _ :: _, 0, _ => by simp [LR]
  | _ :: l, _ :: p, k + 1, h => ⟨h.1, h.2.1, Go.Sal.LR.tk (l := l) (p := p) k h.2.2⟩
  | [], _ :: _, _, h => h.elim
  | _ :: _, [], _, h => h.elim
theorem _root_.Go.Sal.LR.dr {α β : Type} {R : α → β → Prop} : ∀ {l : List (Int × α)} {p : List (Int × β)} (k : Nat), LR R l p → LR R (l.drop k) (p.drop k)
  | [], [], k, _ => by simp [LR]
  | _ :: _, _ :: _, 0, h => h
  | _ :: l, _ :: p, k + 1, h => Go.Sal.LR.dr (l := l) (p := p) k h.2.2
  | [], _ :: _, _, h => h.elim
  | _ :: _, [], _, h => h.elim
/-- one of the third row's payloads taken out -/
theorem OW.cutW {AW : Option Addr} {nW cW i : Nat} (h : OW base sz ag s w wr vP vG (.slice AW nW cW) lP lG lW pP pG pW lv lq lp es cl) (hi : i < nW) (hn : nW ≤ 1000000) :
    ∃ (AV AT AB : Option Addr) (cV cB mm mc m' : Nat) (wb wc : World), (∀ W, (Instr.slice 22 (.slice AW nW cW) none (some (.int .i64 (i : Int))) none).run Try.prog W = .ok (.slice AW i cW) W) ∧
      (∀ W, (Instr.slice 22 (.slice AW nW cW) (some (.int .i64 ((i : Int) + 1))) none none).run Try.prog W = .ok (.slice AT mm mc) W) ∧
      (Builtin.append_ #[22, 22] 22 #[.slice (some ⟨wr.heap.size, 0, none⟩) 0 0, .slice AW i cW]).run Try.prog (wr.drew.alloc (.cells #[] 33)) = .ok (.slice AV i cV) wb ∧
      (Builtin.append_ #[22, 22] 22 #[.slice AV i cV, .slice AT mm mc]).run Try.prog wb = .ok (.slice AB m' cB) wc ∧ m' = i + mm ∧ Keep [] wr wb ∧ Keep [] wr wc ∧
      OW base sz ag s w wc vP vG (.slice AB m' cB) lP lG (lW.take i ++ lW.drop (i + 1)) pP pG (pW.take i ++ pW.drop (i + 1)) lv lq lp es cl := by
  obtain ⟨_, _, hW, hcW⟩ := own_slice h.rW
  injection hW with e1 hW e3
  subst e3
  subst hW
  have hlt := fun i => h.rW.lt i
  have hsrc := Src.of_own h.rW
  have hone := h.oW.sl
  have hA : ∀ a, AW = some a → a.block < wr.heap.size := fun a ha => by subst ha; exact (h.rW.lt a.block rfl).2
  have hka : Keep [] wr (wr.drew.alloc (.cells #[] 33)) := ((Keep.refl [] wr).drew).alloc _
  have hha : ((Keep.refl [] wr).drew : Keep [] wr wr.drew).size = (Keep.refl [] wr).size := rfl
  have hf1 : flat (lW.take i) = (flat lW).take (i * 2) := rf_take (f := fun p : Int × Value => [.int .i64 p.1, p.2]) (size := 2) (fun _ => rfl) lW i
  have hf2 : flat (lW.drop (i + 1)) = (flat lW).drop ((i + 1) * 2) := rf_drop (f := fun p : Int × Value => [.int .i64 p.1, p.2]) (size := 2) (fun _ => rfl) lW (i + 1)
  have s1 : Src (wr.drew.alloc (.cells #[] 33)) 2 AW i (flat (lW.take i)) := by
    rw [hf1]
    exact ((hsrc.head (k := i) (by omega)).keep hka (fun a ha => ⟨hA a ha, by simp⟩))
  have hsz : wr.drew.heap.size = wr.heap.size := rfl
  have own0 : (wr.drew.alloc (.cells #[] 33)).ownsRow wr.heap.size 33 2 (.slice (some ⟨wr.heap.size, 0, none⟩) 0 0) ([] : List (Int × Value)).length (flat []) :=
    World.ownsRow_made wr.drew #[] 0 (Nat.le_refl _) (by simp [maxLen]) (by simp)
  obtain ⟨v1, wb, hr1, ho1, hk1, ha1⟩ := row_append (c := cW) own0 s1 (fun p hp => hone p (List.mem_of_mem_take hp)) (by rw [List.length_take]; simp; omega) (by simp [hsz])
  obtain ⟨AV, cV, rfl, _⟩ := own_slice ho1
  have hkb : Keep [] wr wb := hka.step hk1 (by
    intro j hj
    simp [Value.ownBlock] at hj
    right
    omega)
  have s2 : Src wb 2 (if cW = i + 1 then AW else AW.map (·.add ((i + 1) * 2))) (lW.length - (i + 1)) (flat (lW.drop (i + 1))) := by
    rw [hf2]
    have h2 := hsrc.tail (k := i + 1) (cap := cW) (by omega) (by omega)
    refine h2.keep hkb (fun a ha => ⟨?_, by simp⟩)
    split at ha
    · exact hA a ha
    · cases AW with
      | none => cases ha
      | some a0 =>
        simp at ha
        subst ha
        rw [add_block]
        exact hA a0 rfl
  obtain ⟨v2, wc, hr2, ho2, hk2, ha2⟩ := row_append (c := cW - (i + 1)) ho1 s2 (fun p hp => hone p (List.mem_of_mem_drop hp)) (by simp; omega) (by have := hkb.size; omega)
  obtain ⟨AB, cB, rfl, _⟩ := own_slice ho2
  have hl1 : ([] ++ lW.take i).length = i := by simp; omega
  have hl2 : ([] ++ lW.take i ++ lW.drop (i + 1)).length = i + (lW.length - (i + 1)) := by simp; omega
  have hkc : Keep [] wr wc := hkb.step hk2 (by
    intro j hj
    right
    exact (ho1.lt j (by simpa using hj)).1)
  rw [hl1] at hr1 hr2
  rw [hl2] at hr2
  have h3 := h.keep hkc
  have hge : ∀ j, (Value.slice AB ([] ++ lW.take i ++ lW.drop (i + 1)).length cB).ownBlock = some j → wr.heap.size ≤ j := fun j hj => (ho2.lt j hj).1
  refine ⟨AV, _, AB, cV, cB, _, _, _, wb, wc, fun W => slice_head (P := Try.prog) 22 33 Try.underlying22 AW lW.length cW i (by omega) W 2 (by kernel_rfl), fun W => ?_, hr1, hr2, rfl, hkb, hkc,
    ⟨h.hb, h3.S, h3.Q, h3.q, h3.T, h3.M, h3.p, h3.rP, h3.rG, ?_, h3.oP, h3.oG, ?_, h.nPG, ?_, ?_, h3.kp⟩⟩
  · have h9 := slice_tail (P := Try.prog) 22 33 Try.underlying22 AW lW.length cW (i + 1) (by omega) W 2 (by kernel_rfl)
    rw [Int.natCast_add] at h9
    exact h9
  · have := own_le ho2 h.size
    rw [hl2] at this
    rw [List.nil_append] at this
    rw [show (lW.take i ++ lW.drop (i + 1)).length = i + (lW.length - (i + 1)) by simpa using hl2]
    exact this
  · have h4 := h3.oW
    exact (h4.tk i).append (h4.dr (i + 1))
  · intro j hj hj2
    have := (h.rP.lt j hj).2
    have := hge j (by rw [hl2]; exact hj2)
    omega
  · intro j hj hj2
    have := (h.rG.lt j hj).2
    have := hge j (by rw [hl2]; exact hj2)
    omega
end

def OI (base : Nat) (sz ag : Int) (w : World) (K : Nat) (vP vG vW : Value) (now : Int) (wr : World) : Prop :=
  ∃ s lP lG lW lv lq lp es cl, s.now = now ∧ OP sz K s ∧ OW base sz ag s w wr vP vG vW lP lG lW (pay 0 s.P) (pay 0 (s.P.take s.g)) s.W lv lq lp es cl
theorem OI.keep {base K : Nat} {sz ag now : Int} {w wr w' : World} {vP vG vW : Value} (h : OI base sz ag w K vP vG vW now wr) (k : Keep [] wr w') : OI base sz ag w K vP vG vW now w' := by
  obtain ⟨s, lP, lG, lW, lv, lq, lp, es, cl, h1, h2, h3⟩ := h
  exact ⟨s, lP, lG, lW, lv, lq, lp, es, cl, h1, h2, h3.keep k⟩
theorem OI.later {base K : Nat} {sz ag now : Int} {w wr : World} {vP vG vW : Value} (h : OI base sz ag w K vP vG vW now wr) : OI base sz ag w (K + 1) vP vG vW now wr := by
  obtain ⟨s, lP, lG, lW, lv, lq, lp, es, cl, h1, h2, h3⟩ := h
  exact ⟨s, lP, lG, lW, lv, lq, lp, es, cl, h1, h2.later, h3⟩
/-- what is asked behind each act -/
theorem OI.check {base K nP cP nG cG : Nat} {AP AG : Option Addr} {sz ag now : Int} {w wr : World} {vW : Value} (h : OI base sz ag w K (.slice AP nP cP) (.slice AG nG cG) vW now wr) (hK : K ≤ 4000) :
    nG ≤ nP ∧ nG ≤ cP ∧
      Calls Try.prog 16 #[.slice AG nG cG, .slice AP nG cP] wr fun e w' => e = .returned (.bool true) ∧ ∃ k, w' = wr.drewN k := by
  obtain ⟨s, lP, lG, lW, lv, lq, lp, es, cl, h1, ho, h⟩ := h
  have e1 := h.oP.len
  have e2 := h.oG.len
  rw [pay_len] at e1 e2
  rw [List.length_take] at e2
  obtain ⟨_, _, hP, hcP⟩ := own_slice h.rP
  obtain ⟨_, _, hG, _⟩ := own_slice h.rG
  injection hP with _ hP _
  injection hG with _ hG _
  have h3 := ho.P80
  have h4 := ho.gm
  have h5 := ho.mP
  have hle : nG ≤ nP := by omega
  have hcap : nG ≤ cP := by
    obtain ⟨A', c', x1, x2⟩ := own_slice h.rP
    injection x1 with _ _ x1
    subst x1
    omega
  refine ⟨hle, hcap, ?_⟩
  subst hG
  have hsP : Src wr 2 AP lG.length (flat (lP.take lG.length)) := by
    have h8 := h.rP
    rw [← hP] at h8
    have := (Src.of_own h8).head hle
    rw [show flat (lP.take lG.length) = (flat lP).take (lG.length * 2) from rf_take (f := fun p : Int × Value => [.int .i64 p.1, p.2]) (size := 2) (fun _ => rfl) lP lG.length]
    exact this
  have hrel : PR base wr (lP.take lG.length) ((pay 0 s.P).take lG.length) := by
    refine ⟨by rw [List.length_take, List.length_take, h.oP.len], fun k a b => ?_⟩
    rw [List.getElem_take, List.getElem_take]
    exact h.oP.get k _ _
  rw [← pay_take] at hrel
  have hP2 := h.rP
  rw [← hP] at hP2
  refine (same_any base lG (lP.take lG.length) (pay 0 (s.P.take s.g)) (pay 0 (s.P.take lG.length)) AG AP _ _ _ _ wr (Src.of_own h.rG) hsP h.oG.pr hrel (own_spot h.rG) (own_spot hP2) (by omega) (by omega)).mono ?_
  rintro e w' ⟨rfl, k, rfl⟩
  refine ⟨?_, k, rfl⟩
  rw [decide_eq_true]
  rw [show lG.length = s.g by omega]
end Go.Proofs.Ytlkpecalkakpeaa
