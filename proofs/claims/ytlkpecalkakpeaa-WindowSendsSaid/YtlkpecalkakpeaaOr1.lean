/- The sender made; a moment; a sender, a taker and three rows of payloads side by side in memory. -/
import Derived.Test.YtlkpecalkakpeaaSd4
import Derived.Test.YtlkpecalkakpeaaAl
import Derived.Test.YtlkpecalkakpeaaOrP
import Derived.Lib.MinMax
set_option linter.unusedVariables false
set_option linter.unusedSimpArgs false
namespace Go.Proofs.Ytlkpecalkakpeaa
open Go.RowKit Go.Sal

theorem wnewSender_ok (sz ag : Int) (w : World) (h : 1 ≤ sz ∧ sz ≤ 64) (h' : 1 ≤ ag ∧ ag ≤ 1048576) :
    Calls Try.prog 17 #[.int .i64 sz, .int .i64 ag] w fun e w' => e = .returned (.tuple #[.pointer (some ⟨w.heap.size, 0, none⟩), .int .i64 0]) ∧
      w' = w.alloc (.cells #[.int .i64 sz, .int .i64 ag, .int .i64 0, .int .i64 1, .int .i64 0, .slice none 0 0, .int .i64 0] 77 (0, 0)) := by
  obtain ⟨h1, h2⟩ := h
  obtain ⟨h3, h4⟩ := h'
  have d1 : decide (sz < 1) = false := by simp; omega
  have d2 : decide (64 < sz) = false := by simp; omega
  have d3 : decide (ag < 1) = false := by simp; omega
  have d4 : decide (1048576 < ag) = false := by simp; omega
  go_enter Try.func17, Try.ntmps17
  go_wp2
  go_ret2
  exact ⟨rfl, rfl⟩
theorem wnewSender_bad (sz ag : Int) (w : World) (h : ¬ (1 ≤ sz ∧ sz ≤ 64 ∧ 1 ≤ ag ∧ ag ≤ 1048576)) :
    Calls Try.prog 17 #[.int .i64 sz, .int .i64 ag] w fun e w' => e = .returned (.tuple #[.pointer none, .int .i64 190]) ∧ w = w' := by
  by_cases h1 : sz < 1
  · go_enter Try.func17, Try.ntmps17
    go_wp2
    go_ret2
    exact ⟨rfl, rfl⟩
  · by_cases h2 : 64 < sz
    · go_enter Try.func17, Try.ntmps17
      go_wp2
      go_ret2
      exact ⟨rfl, rfl⟩
    · by_cases h3 : ag < 1
      · go_enter Try.func17, Try.ntmps17
        go_wp2
        go_ret2
        exact ⟨rfl, rfl⟩
      · have h4 : 1048576 < ag := by omega
        go_enter Try.func17, Try.ntmps17
        go_wp2
        go_ret2
        exact ⟨rfl, rfl⟩

/-- the moment of an act -/
def mom (now x : Int) : Int := if x < 0 then now - 1 else if 1099511627776 - now < x then 1099511627776 else now + x
theorem moment_any (now x : Int) (w : World) (h : 0 ≤ now ∧ now ≤ 1099511627776) (hx : x ≤ 9223372036854775807) :
    Calls Try.prog 19 #[.int .i64 now, .int .i64 x] w fun e w' => e = .returned (.int .i64 (mom now x)) ∧ w = w' := by
  obtain ⟨h1, h2⟩ := h
  have hw1 : IntKind.i64.wrap (now - 1) = now - 1 := by rw [IntKind.wrap_i64]; omega
  have hw2 : IntKind.i64.wrap (1099511627776 - now) = 1099511627776 - now := by rw [IntKind.wrap_i64]; omega
  by_cases hx0 : x < 0
  · have e : Hid (mom now x = now - 1) := Lib.hid (by unfold mom; rw [if_pos hx0])
    go_enter Try.func19, Try.ntmps19
    go_wp2
    go_ret
    exact ⟨by rw [e.out]; rfl, rfl⟩
  · by_cases hx1 : 1099511627776 - now < x
    · have e : Hid (mom now x = 1099511627776) := Lib.hid (by unfold mom; rw [if_neg hx0, if_pos hx1])
      go_enter Try.func19, Try.ntmps19
      go_wp2
      go_ret
      exact ⟨by rw [e.out]; rfl, rfl⟩
    · have e : Hid (mom now x = now + x) := Lib.hid (by unfold mom; rw [if_neg hx0, if_neg hx1])
      have hw3 : IntKind.i64.wrap (now + x) = now + x := by rw [IntKind.wrap_i64]; omega
      go_enter Try.func19, Try.ntmps19
      go_wp2
      go_ret
      exact ⟨by rw [e.out]; rfl, rfl⟩
theorem mom_bound {now x : Int} (h : 0 ≤ now ∧ now ≤ 1099511627776) (hx : 0 ≤ x) : now ≤ mom now x ∧ mom now x ≤ 1099511627776 := by
  unfold mom
  rw [if_neg (by omega)]
  split <;> omega

theorem own_ne_own {b b' n n' size size' : Nat} {e e' : TypeId} {v v' : Value} {xs xs' : List Value} {w : World} (h : w.ownsRow b e size v n xs) (h' : w.ownsRow b' e' size' v' n' xs') (hne : e ≠ e') {g : Nat} (hg : v.ownBlock = some g) : v'.ownBlock ≠ some g := by
  intro hg'
  rcases h.2 with ⟨rfl, _⟩ | ⟨g1, cap, cur, rfl, _, hh, _⟩
  · simp [Value.ownBlock] at hg
  · rcases h'.2 with ⟨rfl, _⟩ | ⟨g2, cap', cur', rfl, _, hh', _⟩
    · simp [Value.ownBlock] at hg'
    · simp [Value.ownBlock] at hg hg'
      subst hg
      subst hg'
      rw [hh] at hh'
      injection hh' with hh'
      injection hh' with _ hh'
      exact hne hh'

/-- a sender, a taker and three rows of payloads, side by side; w is the world of the call -/
structure OW (base : Nat) (sz ag : Int) (s : OSt) (w wr : World) (vP vG vW : Value) (lP lG lW : List (Int × Value)) (pP pG pW : List (Int × List UInt8)) (lv : Value) (lq : List (Snt Value)) (lp : List (Int × Value)) (es : Array MapEntry) (cl : Nat) : Prop where
  hb : base = w.heap.size
  S : SBlk base sz ag s.now ((s.d : Int) + 1) s.m lv s.op wr
  Q : wr.ownsRow base 91 4 lv lq.length (lq.flatMap scells)
  q : SR (Reads base 5 wr) lq s.q
  T : Blk wr (base + 1 + 1) 81 #[.int .i64 sz, .int .i64 ((s.g : Int) + 1), .map (some (base + 1))]
  M : MapIs wr (base + 1) lp es cl
  p : LR (Reads base 5 wr) lp s.pt
  rP : wr.ownsRow base 33 2 vP lP.length (flat lP)
  rG : wr.ownsRow base 33 2 vG lG.length (flat lG)
  rW : wr.ownsRow base 33 2 vW lW.length (flat lW)
  oP : LR (Reads base 5 wr) lP pP
  oG : LR (Reads base 5 wr) lG pG
  oW : LR (Reads base 5 wr) lW pW
  nPG : ∀ i, vP.ownBlock = some i → vG.ownBlock ≠ some i
  nPW : ∀ i, vP.ownBlock = some i → vW.ownBlock ≠ some i
  nGW : ∀ i, vG.ownBlock = some i → vW.ownBlock ≠ some i
  kp : Keep [] w wr
section
variable {base : Nat} {sz ag : Int} {s : OSt} {w wr w' : World} {vP vG vW : Value} {lP lG lW : List (Int × Value)} {pP pG pW : List (Int × List UInt8)} {lv : Value} {lq : List (Snt Value)} {lp : List (Int × Value)} {es : Array MapEntry} {cl : Nat} {F : List Nat}
theorem OW.size (h : OW base sz ag s w wr vP vG vW lP lG lW pP pG pW lv lq lp es cl) : base ≤ wr.heap.size := by rw [h.hb]; exact h.kp.size
theorem OW.keep (h : OW base sz ag s w wr vP vG vW lP lG lW pP pG pW lv lq lp es cl) (k : Keep [] wr w') : OW base sz ag s w w' vP vG vW lP lG lW pP pG pW lv lq lp es cl :=
  ⟨h.hb, h.S.keep k (by simp), ownsRow_keep h.Q k (by simp), h.q.mono (fun a b x => x.keep k noByte_nil), h.T.keep k (by simp), h.M.keep k (by simp), h.p.mono (fun a b x => x.keep k noByte_nil),
    ownsRow_keep h.rP k (by simp), ownsRow_keep h.rG k (by simp), ownsRow_keep h.rW k (by simp), h.oP.mono (fun a b x => x.keep k noByte_nil), h.oG.mono (fun a b x => x.keep k noByte_nil), h.oW.mono (fun a b x => x.keep k noByte_nil), h.nPG, h.nPW, h.nGW, h.kp.trans k⟩
theorem OW.noS (h : OW base sz ag s w wr vP vG vW lP lG lW pP pG pW lv lq lp es cl) : NoByte base 5 wr (base :: lv.ownBlock.toList) :=
  noByte_cons h.S (by decide) (Nat.le_refl _) (by simpa using noByte_own (F := []) h.Q (Nat.le_refl _) (by decide) noByte_nil)
theorem OW.noT (h : OW base sz ag s w wr vP vG vW lP lG lW pP pG pW lv lq lp es cl) : NoByte base 5 wr [base + 1 + 1, base + 1] :=
  noByte_cons h.T (by decide) (by omega) (noByte_map h.M.heap (by omega) noByte_nil)
/-- the sender's answer -/
theorem OW.snd (h : OW base sz ag s w wr vP vG vW lP lG lW pP pG pW lv lq lp es cl) (k : Keep (base :: lv.ownBlock.toList) wr w') {s' : OSt} {lv' : Value} {lq' : List (Snt Value)}
    (S' : SBlk base sz ag s'.now ((s'.d : Int) + 1) s'.m lv' s'.op w') (Q' : w'.ownsRow base 91 4 lv' lq'.length (lq'.flatMap scells)) (q' : SR (Reads base 5 w') lq' s'.q) (hg : s'.g = s.g) (hp : s'.pt = s.pt) :
    OW base sz ag s' w w' vP vG vW lP lG lW pP pG pW lv' lq' lp es cl := by
  have hno := h.noS
  have hrow : ∀ {v : Value} {n : Nat} {xs : List Value}, wr.ownsRow base 33 2 v n xs → w'.ownsRow base 33 2 v n xs := fun hr => ownsRow_keep hr k (by
    intro i hi
    simp only [List.mem_cons, Option.mem_toList, not_or]
    exact ⟨fun e => own_ne_blk hr h.S (by decide) (e ▸ hi), fun e => own_ne_own hr h.Q (by decide) hi (by simpa using e)⟩)
  refine ⟨h.hb, S', Q', q', ?_, h.M.keep k ?_, ?_, hrow h.rP, hrow h.rG, hrow h.rW, h.oP.mono (fun a b x => x.keep k hno), h.oG.mono (fun a b x => x.keep k hno), h.oW.mono (fun a b x => x.keep k hno), h.nPG, h.nPW, h.nGW, h.kp.step k ?_⟩
  · rw [hg]
    refine h.T.keep k ?_
    have := own_ne_blk h.Q h.T (by decide)
    simp only [List.mem_cons, Option.mem_toList, not_or]
    exact ⟨by omega, by simpa using this⟩
  · have := own_ne_map h.Q h.M.heap
    simp only [List.mem_cons, Option.mem_toList, not_or]
    exact ⟨by omega, by simpa using this⟩
  · rw [hp]
    exact h.p.mono (fun a b x => x.keep k hno)
  · intro i hi
    simp only [List.mem_cons, Option.mem_toList] at hi
    right
    rw [← h.hb]
    rcases hi with rfl | hi
    · exact Nat.le_refl _
    · exact (h.Q.lt i (by simpa using hi)).1
/-- the taker's answer -/
theorem OW.tkr (h : OW base sz ag s w wr vP vG vW lP lG lW pP pG pW lv lq lp es cl) (k : Keep [base + 1 + 1, base + 1] wr w') {g' : Nat} {pt' : List (Int × List UInt8)} {lp' : List (Int × Value)} {es' : Array MapEntry} {cl' : Nat}
    (T' : Blk w' (base + 1 + 1) 81 #[.int .i64 sz, .int .i64 ((g' : Int) + 1), .map (some (base + 1))]) (M' : MapIs w' (base + 1) lp' es' cl') (p' : LR (Reads base 5 w') lp' pt') :
    OW base sz ag { s with g := g', pt := pt' } w w' vP vG vW lP lG lW pP pG pW lv lq lp' es' cl' := by
  have hno := h.noT
  have hrow : ∀ {e : TypeId} {sz n : Nat} {v : Value} {xs : List Value}, e ≠ 81 → wr.ownsRow base e sz v n xs → w'.ownsRow base e sz v n xs := fun he hr => ownsRow_keep hr k (by
    intro i hi
    simp only [List.mem_cons, List.not_mem_nil, or_false, not_or]
    exact ⟨fun e => own_ne_blk hr h.T he (e ▸ hi), fun e => own_ne_map hr h.M.heap (e ▸ hi)⟩)
  refine ⟨h.hb, h.S.keep k (by simp; omega), hrow (by decide) h.Q, h.q.mono (fun a b x => x.keep k hno), T', M', p', hrow (by decide) h.rP, hrow (by decide) h.rG, hrow (by decide) h.rW, h.oP.mono (fun a b x => x.keep k hno), h.oG.mono (fun a b x => x.keep k hno), h.oW.mono (fun a b x => x.keep k hno), h.nPG, h.nPW, h.nGW, h.kp.step k ?_⟩
  intro i hi
  simp at hi
  right
  rw [← h.hb]
  omega
/-- what a row of payloads that is written leaves -/
theorem OW.row (h : OW base sz ag s w wr vP vG vW lP lG lW pP pG pW lv lq lp es cl) {v : Value} {n : Nat} {xs : List Value} (hv : wr.ownsRow base 33 2 v n xs) (k : Keep v.ownBlock.toList wr w') :
    (SBlk base sz ag s.now ((s.d : Int) + 1) s.m lv s.op w' ∧ w'.ownsRow base 91 4 lv lq.length (lq.flatMap scells) ∧ SR (Reads base 5 w') lq s.q ∧
      Blk w' (base + 1 + 1) 81 #[.int .i64 sz, .int .i64 ((s.g : Int) + 1), .map (some (base + 1))] ∧ MapIs w' (base + 1) lp es cl ∧ LR (Reads base 5 w') lp s.pt) ∧
    (∀ {v1 : Value} {n1 : Nat} {ys : List Value}, wr.ownsRow base 33 2 v1 n1 ys → (∀ i, v.ownBlock = some i → v1.ownBlock ≠ some i) → w'.ownsRow base 33 2 v1 n1 ys) ∧
    (∀ {l : List (Int × Value)} {p : List (Int × List UInt8)}, LR (Reads base 5 wr) l p → LR (Reads base 5 w') l p) ∧ Keep [] w w' := by
  have hno : NoByte base 5 wr v.ownBlock.toList := by simpa using noByte_own (F := []) hv (Nat.le_refl _) (by decide) noByte_nil
  refine ⟨⟨h.S.keep k ?_, ownsRow_keep h.Q k ?_, h.q.mono (fun a b x => x.keep k hno), h.T.keep k ?_, h.M.keep k ?_, h.p.mono (fun a b x => x.keep k hno)⟩, ?_, fun hl => hl.mono (fun a b x => x.keep k hno), h.kp.step k ?_⟩
  · have := own_ne_blk hv h.S (by decide)
    simpa using this
  · intro i hi
    have := own_ne_own h.Q hv (by decide) hi
    simpa using this
  · have := own_ne_blk hv h.T (by decide)
    simpa using this
  · have := own_ne_map hv h.M.heap
    simpa using this
  · intro v1 n1 ys h1 hne
    exact ownsRow_keep h1 k (by
      intro i hi hm
      exact hne i (by simpa using hm) hi)
  · intro i hi
    right
    rw [← h.hb]
    exact (hv.lt i (by simpa using hi)).1
end
theorem _root_.Go.Sal.Reads.cut {base : Nat} {tb : TypeId} {w : World} {A : Option Addr} {c : Nat} {bs : List UInt8} (h : Reads base tb w (.slice A bs.length c) bs) (k : Nat) : Reads base tb w (.slice A (min bs.length k) c) (bs.take k) := by
  obtain ⟨A', c', h0, h1, h2, h3⟩ := h
  injection h0 with e1 e2 e3
  subst e1; subst e3
  refine ⟨A, c, by rw [List.length_take, Nat.min_comm], by rw [List.length_take]; omega, h2, fun hne => ?_⟩
  obtain ⟨a, ha, hb, hc⟩ := h3 (fun e => by subst e; simp at hne)
  refine ⟨a, ha, hb, fun i hi => ?_⟩
  rw [List.length_take] at hi
  rw [hc i (by omega), List.getElem_take]

theorem _root_.Go.Sal.LR.sl {base : Nat} {w : World} : ∀ {l : List (Int × Value)} {p : List (Int × List UInt8)}, LR (Reads base 5 w) l p → ∀ q ∈ l, IsSl q.2
  | [], _, _, q, hq => by simp at hq
  | a :: l, b :: p, h, q, hq => by
    rcases List.mem_cons.1 hq with rfl | hq
    · obtain ⟨A, c, e, _⟩ := h.2.1
      exact ⟨A, _, c, e⟩
    · exact Go.Sal.LR.sl (l := l) (p := p) h.2.2 q hq
  | _ :: _, [], h, _, _ => h.elim
theorem _root_.Go.Sal.LR.keys {α β : Type} {R : α → β → Prop} {x : Int} : ∀ {l : List (Int × α)} {p : List (Int × β)}, LR R l p → ((∃ q ∈ l, q.1 = x) ↔ ∃ q ∈ p, q.1 = x)
  | [], [], _ => by simp
  | a :: l, b :: p, h => by
    have ih := Go.Sal.LR.keys (x := x) (l := l) (p := p) h.2.2
    simp only [List.mem_cons, exists_eq_or_imp, h.1, ih]
  | [], _ :: _, h => h.elim
  | _ :: _, [], h => h.elim
theorem _root_.Go.Sal.LR.pr {base : Nat} {w : World} {l : List (Int × Value)} {p : List (Int × List UInt8)} (h : LR (Reads base 5 w) l p) : PR base w l p := ⟨h.len, h.get⟩
theorem bits_eq {wt : Int} {l l' : List (Int × Value)} {p : List (Int × List UInt8)} {R R' : Value → List UInt8 → Prop} {M M' : Nat} (h : LR R l p) (h' : LR R' l' p) (hM : AckBits wt l M) (hM' : AckBits wt l' M') : M = M' := by
  apply Nat.eq_of_testBit_eq
  intro k
  have h1 := hM.2 k
  have h2 := hM'.2 k
  rw [h.keys] at h1
  rw [h'.keys] at h2
  rw [Bool.eq_iff_iff, h1, h2]

theorem own_spot {base n size c : Nat} {e : TypeId} {A : Option Addr} {xs : List Value} {w : World} (h : w.ownsRow base e size (.slice A n c) n xs) : ∀ a, A = some a → a.spot = none := by
  intro a ha
  rcases h.2 with ⟨h0, _⟩ | ⟨g, cap, cur, h0, _⟩
  · injection h0 with h0; rw [h0] at ha; cases ha
  · injection h0 with h0; rw [h0] at ha; injection ha with ha; subst ha; rfl

/-- a row of payloads, and others behind it -/
theorem row_append {base n c : Nat} {A : Option Addr} {w : World} {v : Value} {l l' : List (Int × Value)} (hown : w.ownsRow base 33 2 v l.length (flat l)) (hs : Src w 2 A n (flat l')) (h1 : ∀ p ∈ l', IsSl p.2) (hn : l.length + l'.length ≤ 1000000) (hB : base ≤ w.heap.size) :
    ∃ v' w', (Builtin.append_ #[22, 22] 22 #[v, .slice A n c]).run Try.prog w = .ok v' w' ∧ w'.ownsRow base 33 2 v' (l ++ l').length (flat (l ++ l')) ∧ Keep v.ownBlock.toList w w' ∧ (v'.ownBlock = v.ownBlock ∨ v'.ownBlock = some w.heap.size) := by
  obtain ⟨rfl, _⟩ := flat_src hs
  obtain ⟨v', w', hrun, h2, h3, h5⟩ := run_append_src (P := Try.prog) w 22 22 33 _ 2 32 base Try.underlying22 payinfo rfl (by omega) v _ _ hown A _ c _ hs (flat_one h1) (by unfold maxLen; omega) (by omega) hB
  refine ⟨v', w', hrun, by rw [flat_append, List.length_append]; exact h2, ?_, h5⟩
  exact (Keep.refl _ w).grown h3 (fun k hk => .inl (by simp [hk]))
end Go.Proofs.Ytlkpecalkakpeaa
