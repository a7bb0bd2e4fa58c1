/- WindowAll's acts on a sender and a taker side by side: push, due, take, acknowledge. -/
import Derived.Test.YtlkpecalkakpeaaOr2
set_option linter.unusedVariables false
set_option linter.unusedSimpArgs false
namespace Go.Proofs.Ytlkpecalkakpeaa
open Go.RowKit Go.Sal
theorem OW.re2 {base : Nat} {sz ag : Int} {s s' : OSt} {w wr : World} {vP vG vW : Value} {lP lG lW : List (Int × Value)} {pP pG pW : List (Int × List UInt8)} {lv : Value} {lq : List (Snt Value)} {lp : List (Int × Value)} {es : Array MapEntry} {cl : Nat}
    (h : OW base sz ag s w wr vP vG vW lP lG lW pP pG pW lv lq lp es cl) (h1 : s'.now = s.now) (h2 : s'.d = s.d) (h3 : s'.m = s.m) (h4 : s'.op = s.op) (h5 : s'.q = s.q) (h6 : s'.g = s.g) (h7 : s'.pt = s.pt) : OW base sz ag s' w wr vP vG vW lP lG lW pP pG pW lv lq lp es cl :=
  ⟨h.hb, by rw [h1, h2, h3, h4]; exact h.S, h.Q, by rw [h5]; exact h.q, by rw [h6]; exact h.T, h.M, by rw [h7]; exact h.p, h.rP, h.rG, h.rW, h.oP, h.oG, h.oW, h.nPG, h.nPW, h.nGW, h.kp⟩
/-- a sender and a taker, and no rows -/
def OW0 (base : Nat) (sz ag : Int) (s : OSt) (w wr : World) (lv : Value) (lq : List (Snt Value)) (lp : List (Int × Value)) (es : Array MapEntry) (cl : Nat) : Prop :=
  OW base sz ag s w wr (.slice none 0 0) (.slice none 0 0) (.slice none 0 0) [] [] [] [] [] [] lv lq lp es cl

/-- the pushes: i of them are done -/
def PI (base : Nat) (sz ag : Int) (w : World) (i : Nat) (wr : World) : Prop :=
  ∃ s lv lq lp es cl, OP sz i s ∧ OW0 base sz ag s w wr lv lq lp es cl ∧ s.P.length = i ∧ s.now = 0 ∧ (∀ x ∈ s.q, x.out = false) ∧ s.g = 0
theorem pi_start {sz ag : Int} {w : World} : PI w.heap.size sz ag w 0
    (((w.alloc (.cells #[.int .i64 sz, .int .i64 ag, .int .i64 0, .int .i64 1, .int .i64 0, .slice none 0 0, .int .i64 0] 77 (0, 0))).alloc (.map #[] 0)).alloc (.cells #[.int .i64 sz, .int .i64 1, .map (some (w.heap.size + 1))] 81 (0, 0))) := by
  refine ⟨⟨0, 0, 0, 0, [], 0, [], [], []⟩, .slice none 0 0, [], [], #[], 0, OP.start, ⟨rfl, ?_, World.ownsRow_nil _ _ _ _, trivial, ?_, ?_, trivial, World.ownsRow_nil _ _ _ _, World.ownsRow_nil _ _ _ _, World.ownsRow_nil _ _ _ _, trivial, trivial, trivial,
    by simp [Value.ownBlock], by simp [Value.ownBlock], by simp [Value.ownBlock], (((Keep.refl [] w).alloc _).alloc _).alloc _⟩, rfl, rfl, by simp, rfl⟩
  · exact ((Blk.new w 77 #[.int .i64 sz, .int .i64 ag, .int .i64 0, .int .i64 1, .int .i64 0, .slice none 0 0, .int .i64 0]).alloc _).alloc _
  · have := Blk.new ((w.alloc (.cells #[.int .i64 sz, .int .i64 ag, .int .i64 0, .int .i64 1, .int .i64 0, .slice none 0 0, .int .i64 0] 77 (0, 0))).alloc (.map #[] 0)) 81 #[.int .i64 sz, .int .i64 1, .map (some (w.heap.size + 1))]
    simpa using this
  · have := (MapIs.made (w.alloc (.cells #[.int .i64 sz, .int .i64 ag, .int .i64 0, .int .i64 1, .int .i64 0, .slice none 0 0, .int .i64 0] 77 (0, 0)))).alloc (.cells #[.int .i64 sz, .int .i64 1, .map (some (w.heap.size + 1))] 81 (0, 0))
    simpa using this
section
variable {base : Nat} {sz ag : Int} {w wr : World} {K n i : Nat} {N : Int} {D got : Nat}
theorem PI.kp (h : PI base sz ag w i wr) : Keep [] w wr := by obtain ⟨s, lv, lq, lp, es, cl, h1, h2, _⟩ := h; exact h2.kp
theorem PI.hb (h : PI base sz ag w i wr) : base = w.heap.size := by obtain ⟨s, lv, lq, lp, es, cl, h1, h2, _⟩ := h; exact h2.hb
theorem PI.push (h : PI base sz ag w i wr) (hi : i < 40) (hs : 1 ≤ sz) {v : Value} {b : List UInt8} (hv : Reads base 5 wr v b) (hbl : b.length ≤ 50) :
    Calls Try.prog 18 #[.pointer (some ⟨base, 0, none⟩), v] wr fun e w' => e = .returned (.tuple #[.int .i64 ((i : Int) + 1), .int .i64 0]) ∧ PI base sz ag w (i + 1) w' := by
  obtain ⟨s, lv, lq, lp, es, cl, ho, hw, hP, hn, hx, hg⟩ := h
  refine (OW.push hw ho (by omega) hs hv hbl).mono ?_
  rintro e w' ⟨rfl, lv', lq', hw', hk⟩
  refine ⟨by rw [hP], { s with P := s.P ++ [b], q := s.q ++ [⟨b, false, 0, false⟩], op := s.op + 1 }, lv', lq', lp, es, cl, ho.push hbl, OW.re2 hw' rfl rfl rfl rfl rfl rfl rfl, by simp [hP], hn, ?_, hg⟩
  intro x hx'
  rcases List.mem_append.1 hx' with hx' | hx'
  · exact hx x hx'
  · simp at hx'; subst hx'; rfl
/-- between rounds -/
def AI (base : Nat) (sz ag : Int) (w : World) (K n : Nat) (N : Int) (D got : Nat) (wr : World) : Prop :=
  ∃ s lv lq lp es cl, OP sz K s ∧ OW0 base sz ag s w wr lv lq lp es cl ∧ s.P.length = n ∧ s.now ≤ N ∧ (∀ x ∈ s.q, x.out = true → x.tm + ag ≤ N) ∧ D ≤ s.d ∧ s.g = got
theorem PI.ai (h : PI base sz ag w i wr) : AI base sz ag w i i 0 0 0 wr := by
  obtain ⟨s, lv, lq, lp, es, cl, ho, hw, hP, hn, hx, hg⟩ := h
  exact ⟨s, lv, lq, lp, es, cl, ho, hw, hP, by omega, fun x h1 h2 => absurd h2 (by rw [hx x h1]; simp), Nat.zero_le _, hg⟩
theorem AI.kp (h : AI base sz ag w K n N D got wr) : Keep [] w wr := by obtain ⟨s, lv, lq, lp, es, cl, h1, h2, _⟩ := h; exact h2.kp
theorem AI.more {K' : Nat} (h : AI base sz ag w K n N D got wr) (hK : K ≤ K') : AI base sz ag w K' n N D got wr := by
  obtain ⟨s, lv, lq, lp, es, cl, h1, h2⟩ := h; exact ⟨s, lv, lq, lp, es, cl, h1.more hK, h2⟩
theorem AI.less {D' : Nat} (h : AI base sz ag w K n N D got wr) (hD : D' ≤ D) : AI base sz ag w K n N D' got wr := by
  obtain ⟨s, lv, lq, lp, es, cl, h1, h2, h3, h4, h5, h6, h7⟩ := h; exact ⟨s, lv, lq, lp, es, cl, h1, h2, h3, h4, h5, by omega, h7⟩
theorem AI.got_le (h : AI base sz ag w K n N D got wr) : got ≤ n := by
  obtain ⟨s, lv, lq, lp, es, cl, h1, h2, h3, h4, h5, h6, h7⟩ := h
  have := h1.gm; have := h1.mP; omega
/-- what is said of the state behind a Due -/
def SF (sz ag : Int) (n : Nat) (N : Int) (D : Nat) (s1 : OSt) : Prop :=
  s1.P.length = n ∧ s1.now ≤ N ∧ (∀ x ∈ s1.q, x.out = true → x.tm + ag ≤ N + ag) ∧ D ≤ s1.d ∧
    ∃ kk : Nat, kk ≤ s1.q.length ∧ (kk : Int) = min sz (s1.q.length : Int) ∧ s1.W.length ≤ kk ∧ ∀ i (hi : i < s1.q.length), i < kk → s1.q[i].done = true ∨ ∃ b, ((s1.d : Int) + 1 + i, b) ∈ s1.W
/-- k of what is due have gone their way -/
def LI (base : Nat) (sz ag : Int) (w : World) (K : Nat) (s1 : OSt) (lv : Value) (lq : List (Snt Value)) (A : Option Addr) (c : Nat) (out : List (Int × Value)) (full : Bool) (k got : Nat) (wr : World) : Prop :=
  ∃ g pt lp es cl, OP sz (K + k) { s1 with g := g, pt := pt } ∧ OW0 base sz ag { s1 with g := g, pt := pt } w wr lv lq lp es cl ∧ g = got ∧
    wr.ownsRow base 33 2 (.slice A out.length c) out.length (flat out) ∧ LR (Reads base 5 wr) out s1.W ∧ (full = true → ∀ j (h : j < s1.W.length), j < k → arr g pt s1.W[j].1)
theorem AI.due (h : AI base sz ag w K n N D got wr) (hK : K ≤ 3900) (hs : 1 ≤ sz ∧ sz ≤ 64) (ha : 0 ≤ ag) (hN : N ≤ 1099511627776) (full : Bool) :
    Calls Try.prog 20 #[.pointer (some ⟨base, 0, none⟩), .int .i64 N] wr fun e w' => ∃ (A : Option Addr) (c : Nat) (out : List (Int × Value)) (s1 : OSt) (lv : Value) (lq : List (Snt Value)), e = .returned (.tuple #[.slice A out.length c, .int .i64 0]) ∧
      out.length ≤ 64 ∧ SF sz ag n N D s1 ∧ LI base sz ag w (K + 1) s1 lv lq A c out full 0 got w' := by
  obtain ⟨s, lv, lq, lp, es, cl, ho, hw, hP, hn, hx, hD, hg⟩ := h
  refine (OW.due hw ho (by omega) hs hn hN).mono ?_
  rintro e w' ⟨A, c, kk, out, rfl, hol, hkq, hkk, hw', hown, hout, hk⟩
  have ho' := ho.due (ag := ag) (k := kk) hn hN (by omega) (by omega) hkq
  have hdo := dueO_len (ag := ag) (now := N) (bse := (s.d : Int) + 1) (s.q.take kk) 0
  rw [List.length_take] at hdo
  refine ⟨A, c, out, { s with now := N, m := dueM ag N ((s.d : Int) + 1) (s.q.take kk) 0 s.m, q := dueL ag N kk s.q, W := dueO ag N ((s.d : Int) + 1) (s.q.take kk) 0 }, lv, dueL ag N kk lq, rfl, by omega, ?_, ?_⟩
  · refine ⟨hP, Int.le_refl _, dueL_next hx ha, hD, kk, by rw [dueL_len]; exact hkq, by rw [dueL_len]; exact hkk, by dsimp only; omega, fun i hi hik => ?_⟩
    have hi' : i < s.q.length := by rw [dueL_len] at hi; exact hi
    have e := congrArg (fun l => l[i]?) (dueL_done (ag := ag) (now := N) (k := kk) (l := s.q))
    simp only [List.getElem?_map, List.getElem?_eq_getElem hi, List.getElem?_eq_getElem hi', Option.map_some] at e
    injection e with e
    rw [e]
    rcases dueO_all (ag := ag) (now := N) (bse := (s.d : Int) + 1) (s.q.take kk) 0 (fun x h1 h2 => hx x (List.mem_of_mem_take h1) h2) i (by rw [List.length_take]; omega) with h1 | h1
    · left
      rw [List.getElem_take] at h1
      exact h1
    · right
      rw [Nat.zero_add] at h1
      exact ⟨_, h1⟩
  · refine ⟨s.g, s.pt, lp, es, cl, ?_, OW.re2 hw' rfl rfl rfl rfl rfl rfl rfl, hg, own_le hown (OW.size hw), hout, fun _ j _ hj => by omega⟩
    exact ho'.way_sub (fun e he => List.mem_append_right _ he) (by dsimp only; rw [List.length_append]; omega)
section
variable {s1 : OSt} {lv : Value} {lq : List (Snt Value)} {A : Option Addr} {c k : Nat} {out : List (Int × Value)} {full : Bool}
theorem LI.len (h : LI base sz ag w K s1 lv lq A c out full k got wr) : out.length = s1.W.length := by
  obtain ⟨g, pt, lp, es, cl, ho, hw, hg, hown, hout, hf⟩ := h
  exact hout.len
theorem LI.drew (h : LI base sz ag w K s1 lv lq A c out full k got wr) {w' : World} (kp : Keep [] wr w') : LI base sz ag w K s1 lv lq A c out full k got w' := by
  obtain ⟨g, pt, lp, es, cl, ho, hw, hg, hown, hout, hf⟩ := h
  exact ⟨g, pt, lp, es, cl, ho, OW.keep hw kp, hg, ownsRow_keep hown kp (by simp), hout.mono (fun a b x => x.keep kp noByte_nil), hf⟩
theorem LI.kp (h : LI base sz ag w K s1 lv lq A c out full k got wr) : Keep [] w wr := by
  obtain ⟨g, pt, lp, es, cl, ho, hw, hg, hown, hout, hf⟩ := h
  exact OW.kp hw
theorem LI.skip (h : LI base sz ag w K s1 lv lq A c out false k got wr) : LI base sz ag w K s1 lv lq A c out false (k + 1) got wr := by
  obtain ⟨g, pt, lp, es, cl, ho, hw, hg, hown, hout, hf⟩ := h
  exact ⟨g, pt, lp, es, cl, ho.more (by omega), hw, hg, hown, hout, fun e => by cases e⟩
theorem LI.take (h : LI base sz ag w K s1 lv lq A c out full k got wr) (hk : k < out.length) (hK : K + k ≤ 4000) (hs : 1 ≤ sz ∧ sz ≤ 64) :
    ∃ (ga : Nat) (e : Int) (Av : Option Addr) (nv cv : Nat), A = some ⟨ga, 0, none⟩ ∧ wr.cell? ⟨ga, k * 2, none⟩ = some (.int .i64 e) ∧ wr.cell? ⟨ga, k * 2 + 1, none⟩ = some (.slice Av nv cv) ∧
      Calls Try.prog 12 #[.pointer (some ⟨base + 1 + 1, 0, none⟩), .agg #[.int .i64 e, .slice Av nv cv]] wr fun r w' => ∃ (A' : Option Addr) (m' c' : Nat), r = .returned (.tuple #[.slice A' m' c', .int .i64 0]) ∧
        LI base sz ag w K s1 lv lq A c out full (k + 1) (got + m') w' := by
  obtain ⟨g, pt, lp, es, cl, ho, hw, hg, hown, hout, hf⟩ := h
  obtain ⟨ga, rfl, hg1, hg2⟩ := own_some hown (by omega)
  have hkW : k < s1.W.length := by rw [← hout.len]; exact hk
  obtain ⟨q1, q2⟩ := hout.get k hk hkW
  have y0 := (ownsRow_cell hown (flat_get out k hk).1).1
  have y1 := (ownsRow_cell hown (flat_get out k hk).2).1
  obtain ⟨Av, cv, q3, _⟩ := id q2
  rw [q3] at y1 q2
  rw [q1] at y0
  refine ⟨ga, s1.W[k].1, Av, _, cv, rfl, y0, y1, ?_⟩
  refine (OW.take2 hw ho hK hs (e := s1.W[k]) (List.getElem_mem hkW) q2).mono ?_
  rintro r w' ⟨A', c', g', pt', po, out', lp', es', cl', rfl, ho', hpay, ha1, ha2, hw', hown', hout', hkp⟩
  have hpl := congrArg List.length hpay
  have hl' := hout'.len
  rw [List.length_append, pay_len, pay_len, List.length_take, List.length_take] at hpl
  have b1 := ho.gm
  have b2 := ho.mP
  have b3 := ho'.gm
  have b4 := ho'.mP
  dsimp only at hpl b1 b2 b3 b4
  refine ⟨A', out'.length, c', rfl, g', pt', lp', es', cl', ho', hw', by omega, ?_, hout.mono (fun a b x => x.keep hkp (OW.noT hw)), fun hfu j hj hjk => ?_⟩
  · refine ownsRow_keep hown hkp ?_
    intro i hi
    simp only [List.mem_cons, List.not_mem_nil, or_false, not_or]
    exact ⟨fun e => own_ne_blk hown (OW.T hw) (by decide) (e ▸ hi), fun e => own_ne_map hown (OW.M hw).heap (e ▸ hi)⟩
  · rcases Nat.lt_succ_iff_lt_or_eq.1 hjk with h1 | rfl
    · exact ha1 _ (hf hfu j hj h1)
    · exact ha2
theorem LI.next (h : LI base sz ag w K s1 lv lq A c out full k got wr) (hF : SF sz ag n N D s1) (ha : 0 ≤ ag) : AI base sz ag w (K + k) n (N + ag) D got wr := by
  obtain ⟨g, pt, lp, es, cl, ho, hw, hg, hown, hout, hf⟩ := h
  obtain ⟨f1, f2, f3, f4, _⟩ := hF
  exact ⟨_, lv, lq, lp, es, cl, ho, hw, f1, by dsimp only; omega, f3, f4, hg⟩
theorem LI.acks (h : LI base sz ag w K s1 lv lq A c out true k got wr) (hK : K + k ≤ 3990) (hs : 1 ≤ sz ∧ sz ≤ 64) (hF : SF sz ag n N D s1) (hk : out.length ≤ k) (ha : 0 ≤ ag) {D' : Nat} (hD1 : (D' : Int) ≤ D + sz) (hD2 : D' ≤ n) :
    Calls Try.prog 14 #[.pointer (some ⟨base + 1 + 1, 0, none⟩)] wr fun r w' => ∃ M : Nat, r = .returned (.tuple #[.int .i64 (got : Int), .int .u64 (M : Int)]) ∧
      Calls Try.prog 21 #[.pointer (some ⟨base, 0, none⟩), .int .i64 (got : Int), .int .u64 (M : Int)] w' fun r w'' => ∃ f : Int, r = .returned (.tuple #[.int .i64 f, .int .i64 0]) ∧ AI base sz ag w (K + k + 1) n (N + ag) D' got w'' := by
  obtain ⟨g, pt, lp, es, cl, ho, hw, rfl, hown, hout, hf⟩ := h
  obtain ⟨f1, f2, f3, f4, kk, f5, f6, f7, f8⟩ := hF
  refine (OW.acks hw ho (by omega) hs.1).mono ?_
  rintro r w' ⟨M, rfl, hM1, hM2, hkp⟩
  refine ⟨M, rfl, ?_⟩
  refine (OW.ack (OW.keep hw hkp) ho (by omega) hs.1 hM1 hM2).mono ?_
  rintro r w'' ⟨f, lv3, lq3, rfl, hw3, hk3⟩
  have ho3 := ho.ack (by omega) (M := M) (fun k hk => (hM2 k hk).2)
  have hreach := ho.reach (k := kk) f5 (fun i hi hik => by
    rcases f8 i hi hik with h1 | ⟨b, h1⟩
    · exact .inl h1
    · right
      obtain ⟨j, hj, h2⟩ := List.mem_iff_getElem.1 h1
      have h3 := hf rfl j hj (by have := hout.len; omega)
      rw [h2] at h3
      exact h3)
  have hql := ho.qlen
  have har := ack_reach (M := M) (d := s1.d) (k := kk) (g := g) f5 hreach
  dsimp only at hql
  refine ⟨f, rfl, _, lv3, lq3, lp, es, cl, ho3, hw3, f1, by dsimp only; omega, ?_, ?_, rfl⟩
  · intro x hx ho
    exact ackR_next f3 x (List.mem_of_mem_drop hx) ho
  · dsimp only
    omega
end
/-- the end: all is acknowledged -/
theorem AI.state (h : AI base sz ag w K n N n got wr) (hs : 1 ≤ sz) :
    got = n ∧ Calls Try.prog 22 #[.pointer (some ⟨base, 0, none⟩)] wr fun r w' => r = .returned (.tuple #[.int .i64 ((n : Int) + 1), .int .i64 (n : Int)]) ∧ Keep [] w w' := by
  obtain ⟨s, lv, lq, lp, es, cl, ho, hw, hP, hn, hx, hD, rfl⟩ := h
  have b1 := ho.gm
  have b2 := ho.mP
  have b3 := ho.dg
  have b4 := ho.qlen
  have b5 := (OW.q hw).len
  have b6 := ho.P80
  have hS := OW.S hw
  obtain ⟨AL, cL, rfl, _⟩ := own_slice (OW.Q hw)
  refine ⟨by omega, (sstate_any base sz ag s.now ((s.d : Int) + 1) s.m AL lq.length cL s.op wr hS hs (by omega) (by omega) (by omega)).mono ?_⟩
  rintro r w' ⟨rfl, nn, rfl⟩
  refine ⟨?_, (OW.kp hw).drewN nn⟩
  rw [show (s.d : Int) + 1 + lq.length - 1 = (n : Int) by omega, show (s.d : Int) + 1 = (n : Int) + 1 by omega]
end
end Go.Proofs.Ytlkpecalkakpeaa
