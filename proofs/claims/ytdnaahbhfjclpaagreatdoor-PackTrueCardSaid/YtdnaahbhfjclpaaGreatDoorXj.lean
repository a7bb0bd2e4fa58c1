/- A head out of the bytes that are left: a region that draws, by what holds at every stage. -/
import Derived.Test.YtdnaahbhfjclpaaGreatDoorXi
set_option linter.unusedVariables false
set_option linter.unusedSimpArgs false
namespace Go.Proofs.YtdnaahbhfjclpaaGreatDoor
open Go.RowKit Go.Sal Go.Pck Go.Huf Go.Cod
def upd (l : Nat → Bool) (i : Nat) : Nat → Bool := fun j => cond (Nat.beq j i) true (l j)
theorem upd_set {L : Array Bool} {i : Nat} (hi : i < L.size) : (fun j => (L.setIfInBounds i true).getD j false) = upd (fun j => L.getD j false) i := by
  funext j
  unfold upd
  by_cases h : j = i
  · subst h
    simp [hi]
  · rw [getD_set_ne false (fun e => h e.symm), show Nat.beq j i = false by rw [← Bool.not_eq_true, Nat.beq_eq]; exact h]
    rfl
theorem getD_tf {L : Array Bool} {i : Nat} (h : L.getD i true = false) : L.getD i false = false := by
  rcases Nat.lt_or_ge i L.size with h' | h'
  · simpa [h'] using h
  · simp [Array.getElem?_eq_none h']
section
variable {P : Program} {ops : Array Oper} {Q : Exit → Act → World → Prop}
theorem wp_region_invF {id : Nat} {a : Act} {w : World} (Inv : (Nat → Bool) → Act → World → Prop) (hm : P.follows .mixedOrders = true) (hB : aheadB ops = true)
    (h0 : Inv (fun _ => false) a w.drew)
    (step : ∀ l a w i oi, Inv l a w → ops[i]? = some oi → l i = false → (∀ e ∈ oi.after, Region.binds .any e = true → l e.on = true) →
      Region.wanted oi (yielded ops a.tmps) = true ∧ oi.wp P a w (fun a' w' => Inv (upd l i) a' w') Q)
    (fin : ∀ l a w, (∀ i, i < ops.size → l i = true) → Inv l a w → Q .normal a w) : (Code.region id ops true).wp P Q a w := by
  refine wp_region_inv (fun L a w => Inv (fun j => L.getD j false) a w) hm hB ?_ ?_ (fun L a w hall hI => fin _ a w hall hI)
  · have e : (fun j => (Array.replicate ops.size false).getD j false) = fun _ => false := by
      funext j
      rcases Nat.lt_or_ge j ops.size with h | h
      · simp [h]
      · simp [Array.getElem?_eq_none, h]
    show Inv (fun j => (Array.replicate ops.size false).getD j false) a w.drew
    rw [e]
    exact h0
  · intro L a w i oi hs hI hoi hun hall
    have hi : i < L.size := by rw [hs]; exact (Array.getElem?_eq_some_iff.1 hoi).1
    obtain ⟨h1, h2⟩ := step (fun j => L.getD j false) a w i oi hI hoi (getD_tf hun) hall
    refine ⟨h1, Oper.wp_mono (fun a' w' h => ?_) h2⟩
    show Inv (fun j => (L.setIfInBounds i true).getD j false) a' w'
    rw [upd_set hi]
    exact h
end
theorem wp_build_as {P : Program} {o : Oper} {a : Act} {w : World} {K : Act → World → Prop} {Q : Exit → Act → World → Prop} (t : TypeId) (parts : Array (Nat × Operand)) (ho : o.op = .build t parts)
    (V : Array Value) (hf : P.built t (parts.map fun (i, x) => (i, a.eval x)).toList = some V) (h : K (a.put o.dst (.agg V)) w) : o.wp P a w K Q :=
  wp_build t parts ho (by rw [hf]; rfl) (by rw [hf]; exact h)
theorem info58 : (Tryz.prog.info? 58).map (fun i => (i.zero, i.size)) = some (some (.agg (headC 0 0 (List.replicate 32 0)).toArray), 34) := by kernel_rfl
theorem zero58 (w : World) : (zeroValue 58).run Tryz.prog w = .ok (.agg (headC 0 0 (List.replicate 32 0)).toArray) w := (zero_of_info info58).1 w
def H0 : List Nat := List.replicate 32 0
theorem built58 (r k : Nat) : Tryz.prog.built 58 [(0, .int .i64 (r : Int)), (1, .int .i64 (k : Int))] = some (headC r k H0).toArray := by kernel_rfl
def F23 (p0 p1 p2 p3 p5 p6 p7 p8 p9 p10 p11 p12 p13 p14 p15 p16 p17 p18 p19 p20 v4 v21 v22 v23 v24 v25 v26 v27 v28 v29 : Value) : Act := ⟨#[p0, p1, p2, p3, v4, p5, p6, p7, p8, p9, p10, p11, p12, p13, p14, p15, p16, p17, p18, p19, p20, v21, v22, v23, v24, v25, v26, v27, v28, v29, undef, undef, undef, undef, undef, undef, undef, undef, undef, undef, undef, undef, undef, undef, undef, undef, undef, undef, undef, undef, undef, undef, undef, undef, undef, undef], []⟩
def ops23 : Array Oper := #[{ dst := some 21, op := Go.Op.move (Go.Operand.tmp 0), type := 52, pos := "pack.go:92", after := #[], guard := none },
  { dst := some 22, op := Go.Op.nilCheck (Go.Operand.tmp 21), type := 0, pos := "pack.go:92", after := #[{ on := 0, ground := Go.Ground.data }], guard := none },
  { dst := some 23, op := Go.Op.fieldAddr 56 (Go.Operand.tmp 22) 0, type := 0, pos := "pack.go:92", after := #[{ on := 1, ground := Go.Ground.data }], guard := none },
  { dst := some 24, op := Go.Op.call { callee := Go.Callee.value (Go.Operand.func 25), args := #[Go.Operand.tmp 23, Go.Operand.const (Go.Value.int Go.IntKind.i64 16)], argTypes := #[54, 3] }, type := 3, pos := "pack.go:92", after := #[{ on := 2, ground := Go.Ground.data }], guard := none },
  { dst := some 25, op := Go.Op.move (Go.Operand.tmp 0), type := 52, pos := "pack.go:92", after := #[], guard := none },
  { dst := some 26, op := Go.Op.nilCheck (Go.Operand.tmp 25), type := 0, pos := "pack.go:92", after := #[{ on := 4, ground := Go.Ground.data }], guard := none },
  { dst := some 27, op := Go.Op.fieldAddr 56 (Go.Operand.tmp 26) 0, type := 0, pos := "pack.go:92", after := #[{ on := 5, ground := Go.Ground.data }], guard := none },
  { dst := some 28, op := Go.Op.call { callee := Go.Callee.value (Go.Operand.func 25), args := #[Go.Operand.tmp 27, Go.Operand.const (Go.Value.int Go.IntKind.i64 16)], argTypes := #[54, 3] }, type := 3, pos := "pack.go:92", after := #[{ on := 6, ground := Go.Ground.data }, { on := 3, ground := Go.Ground.chain }], guard := none },
  { dst := some 29, op := Go.Op.build 58 #[(0, Go.Operand.tmp 24), (1, Go.Operand.tmp 28)], type := 58, pos := "pack.go:92", after := #[{ on := 3, ground := Go.Ground.data }, { on := 7, ground := Go.Ground.data }], guard := none },
  { dst := some 4, op := Go.Op.alloc 58, type := 0, pos := "pack.go:92", after := #[], guard := none },
  { dst := none, op := Go.Op.store 58 (Go.Operand.tmp 4) (Go.Operand.tmp 29), type := 0, pos := "pack.go:92", after := #[{ on := 9, ground := Go.Ground.data }, { on := 8, ground := Go.Ground.data }, { on := 7, ground := Go.Ground.chain }, { on := 0, ground := Go.Ground.phase }, { on := 1, ground := Go.Ground.phase }, { on := 2, ground := Go.Ground.phase }, { on := 3, ground := Go.Ground.phase }, { on := 4, ground := Go.Ground.phase }, { on := 5, ground := Go.Ground.phase }, { on := 6, ground := Go.Ground.phase }, { on := 7, ground := Go.Ground.phase }, { on := 8, ground := Go.Ground.phase }, { on := 9, ground := Go.Ground.phase }], guard := none }]
structure S23 (w0 : World) (g B : Nat) (b : List Nat) (l : Nat → Bool) (v4 v21 v22 v23 v24 v25 v26 v27 v28 v29 : Value) (W : World) : Prop where
  kp : Keep [g] w0 W
  c0 : l 0 = true → v21 = pt g
  c1 : l 1 = true → v22 = pt g
  c2 : l 2 = true → v23 = pt g
  c4 : l 4 = true → v25 = pt g
  c5 : l 5 = true → v26 = pt g
  c6 : l 6 = true → v27 = pt g
  n3 : l 3 = false → LfS W g B (b.drop 4)
  c3 : l 3 = true → v24 = .int .i64 (numP 2 ((b.drop 4).take 2) : Nat)
  n7 : l 3 = true → l 7 = false → LfS W g B (b.drop 6)
  c7 : l 7 = true → l 3 = true ∧ v28 = .int .i64 (numP 2 ((b.drop 6).take 2) : Nat) ∧ LfS W g B (b.drop 8)
  c8 : l 8 = true → v29 = .agg (headC (numP 2 ((b.drop 4).take 2)) (numP 2 ((b.drop 6).take 2)) H0).toArray
  c9 : l 9 = true → ∃ h cs, v4 = pt h ∧ w0.heap.size ≤ h ∧ h ≠ g ∧ Blk W h 58 cs ∧ cs.size = 34 ∧ (l 10 = true → cs = (headC (numP 2 ((b.drop 4).take 2)) (numP 2 ((b.drop 6).take 2)) H0).toArray)
  e10 : l 10 = true → l 9 = true
def I23 (w0 : World) (g B : Nat) (b : List Nat) (p0 p1 p2 p3 p5 p6 p7 p8 p9 p10 p11 p12 p13 p14 p15 p16 p17 p18 p19 p20 : Value) (l : Nat → Bool) (a : Act) (W : World) : Prop :=
  ∃ v4 v21 v22 v23 v24 v25 v26 v27 v28 v29, a = F23 p0 p1 p2 p3 p5 p6 p7 p8 p9 p10 p11 p12 p13 p14 p15 p16 p17 p18 p19 p20 v4 v21 v22 v23 v24 v25 v26 v27 v28 v29 ∧ S23 w0 g B b l v4 v21 v22 v23 v24 v25 v26 v27 v28 v29 W
theorem I23.mk {w0 W : World} {g B : Nat} {b : List Nat} {l : Nat → Bool} {p0 p1 p2 p3 p5 p6 p7 p8 p9 p10 p11 p12 p13 p14 p15 p16 p17 p18 p19 p20 v4 v21 v22 v23 v24 v25 v26 v27 v28 v29 : Value} (h : S23 w0 g B b l v4 v21 v22 v23 v24 v25 v26 v27 v28 v29 W) : I23 w0 g B b p0 p1 p2 p3 p5 p6 p7 p8 p9 p10 p11 p12 p13 p14 p15 p16 p17 p18 p19 p20 l (F23 p0 p1 p2 p3 p5 p6 p7 p8 p9 p10 p11 p12 p13 p14 p15 p16 p17 p18 p19 p20 v4 v21 v22 v23 v24 v25 v26 v27 v28 v29) W := ⟨_, _, _, _, _, _, _, _, _, _, rfl, h⟩
section
variable {w0 W : World} {g B : Nat} {b : List Nat} {l : Nat → Bool} {v4 v21 v22 v23 v24 v25 v26 v27 v28 v29 : Value}
theorem S23.s3 (h : S23 w0 g B b l v4 v21 v22 v23 v24 v25 v26 v27 v28 v29 W) (hg : g < w0.heap.size) (hl : 44 ≤ b.length) (hn : l 3 = false) {W2 : World} (hL : LfS W2 g B ((b.drop 4).drop 2)) (k : Keep [g] W W2) :
    S23 w0 g B b (upd l 3) v4 v21 v22 v23 (.int .i64 (numP 2 ((b.drop 4).take 2) : Nat)) v25 v26 v27 v28 v29 W2 := by
  have e : (b.drop 4).drop 2 = b.drop 6 := by rw [List.drop_drop]
  rw [e] at hL
  refine ⟨h.kp.trans k, h.c0, h.c1, h.c2, h.c4, h.c5, h.c6, fun hx => (by cases hx), fun _ => rfl, fun _ _ => hL, fun h7 => ?_, fun h8 => ?_, fun h9 => ?_, h.e10⟩
  · have := (h.c7 h7).1
    rw [hn] at this; cases this
  · exact h.c8 h8
  · obtain ⟨q, cs, q1, q2, q3, q4, q5⟩ := h.c9 h9
    exact ⟨q, cs, q1, q2, q3, q4.keep k (by simp; exact q3), q5⟩
theorem S23.s7 (h : S23 w0 g B b l v4 v21 v22 v23 v24 v25 v26 v27 v28 v29 W) (hn : l 3 = true) {W2 : World} (hL : LfS W2 g B ((b.drop 6).drop 2)) (k : Keep [g] W W2) :
    S23 w0 g B b (upd l 7) v4 v21 v22 v23 v24 v25 v26 v27 (.int .i64 (numP 2 ((b.drop 6).take 2) : Nat)) v29 W2 := by
  have e : (b.drop 6).drop 2 = b.drop 8 := by rw [List.drop_drop]
  rw [e] at hL
  refine ⟨h.kp.trans k, h.c0, h.c1, h.c2, h.c4, h.c5, h.c6, fun hx => ?_, h.c3, fun _ hx => (by cases hx), fun _ => ⟨hn, rfl, hL⟩, h.c8, fun h9 => ?_, h.e10⟩
  · have hx : l 3 = false := hx
    rw [hn] at hx; cases hx
  · obtain ⟨q, cs, q1, q2, q3, q4, q5⟩ := h.c9 h9
    exact ⟨q, cs, q1, q2, q3, q4.keep k (by simp; exact q3), q5⟩
theorem S23.s8 (h : S23 w0 g B b l v4 v21 v22 v23 v24 v25 v26 v27 v28 v29 W) : S23 w0 g B b (upd l 8) v4 v21 v22 v23 v24 v25 v26 v27 v28 (.agg (headC (numP 2 ((b.drop 4).take 2)) (numP 2 ((b.drop 6).take 2)) H0).toArray) W :=
  ⟨h.kp, h.c0, h.c1, h.c2, h.c4, h.c5, h.c6, h.n3, h.c3, h.n7, h.c7, fun _ => rfl, h.c9, h.e10⟩
theorem S23.s9 (h : S23 w0 g B b l v4 v21 v22 v23 v24 v25 v26 v27 v28 v29 W) (hg : g < w0.heap.size) (hn : l 10 = false) {Z : Array Value} (hZ : Z.size = 34) :
    S23 w0 g B b (upd l 9) (pt W.heap.size) v21 v22 v23 v24 v25 v26 v27 v28 v29 (W.alloc (.cells Z 58)) := by
  have k : Keep [] W (W.alloc (.cells Z 58)) := (Keep.refl _ W).alloc _
  have hs := h.kp.size
  refine ⟨h.kp.alloc _, h.c0, h.c1, h.c2, h.c4, h.c5, h.c6, fun hx => (h.n3 hx).keep0 k, h.c3, fun h1 h2 => (h.n7 h1 h2).keep0 k, fun h7 => ?_, h.c8, fun _ => ?_, fun _ => rfl⟩
  · obtain ⟨q1, q2, q3⟩ := h.c7 h7
    exact ⟨q1, q2, q3.keep0 k⟩
  · refine ⟨_, _, rfl, hs, by omega, Blk.new W 58 Z, hZ, fun hx => ?_⟩
    have hx : l 10 = true := hx
    rw [hn] at hx; cases hx
theorem S23.s10 (hB : B ≤ w0.heap.size) (h : S23 w0 g B b l v4 v21 v22 v23 v24 v25 v26 v27 v28 v29 W) (h9 : l 9 = true) (h7 : l 7 = true) :
    ∃ q cs, v4 = pt q ∧ Blk W q 58 cs ∧ cs.size = 34 ∧ S23 w0 g B b (upd l 10) v4 v21 v22 v23 v24 v25 v26 v27 v28 v29 (W.setRow q (headC (numP 2 ((b.drop 4).take 2)) (numP 2 ((b.drop 6).take 2)) H0).toArray) := by
  obtain ⟨q, cs, q1, q2, q3, q4, q5, q6⟩ := h.c9 h9
  obtain ⟨e3, e7, hL⟩ := h.c7 h7
  have kq : Keep [q] W (W.setRow q (headC (numP 2 ((b.drop 4).take 2)) (numP 2 ((b.drop 6).take 2)) H0).toArray) :=
    ⟨rfl, rfl, rfl, by simp, fun k hk hn => setRow_other W q k _ (fun e => hn (by simp [e]))⟩
  have hL2 : LfS (W.setRow q (headC (numP 2 ((b.drop 4).take 2)) (numP 2 ((b.drop 6).take 2)) H0).toArray) g B (b.drop 8) := by
    obtain ⟨A, c, l1, l2, l3, l4⟩ := hL
    refine ⟨A, c, l1.keep kq (by simp; exact fun e => q3 e.symm), ?_, l3, l4⟩
    refine ⟨fun i hi => ?_, l2.2⟩
    obtain ⟨ga, o, ea, hga, hc⟩ := l2.1 i hi
    refine ⟨ga, o, ea, by simpa using hga, ?_⟩
    refine (kq.cell hga ?_).trans hc
    intro hm
    have hm : ga = q := by simpa using hm
    have := (l3 _ ea).2
    have this : ga < B := this
    omega
  refine ⟨q, cs, q1, q4, q5, ⟨h.kp.step kq (fun i hi => by simp at hi; omega), h.c0, h.c1, h.c2, h.c4, h.c5, h.c6, fun hx => ?_, h.c3, fun _ hx => ?_, fun _ => ⟨e3, e7, hL2⟩, h.c8, fun _ => ?_, fun _ => h9⟩⟩
  · have hx : l 3 = false := hx
    rw [e3] at hx; cases hx
  · have hx : l 7 = false := hx
    rw [h7] at hx; cases hx
  · exact ⟨q, _, q1, q2, q3, blk_same q4, by rw [List.size_toArray, headC_len (by rfl)], fun _ => rfl⟩
end
set_option maxRecDepth 20000 in
set_option maxHeartbeats 2000000 in
theorem region23 (w0 : World) (g B : Nat) (b : List Nat) (hB : B ≤ w0.heap.size) (hg : g < w0.heap.size) (hl : 44 ≤ b.length) (hL : LfS w0 g B (b.drop 4)) (p0 p1 p2 p3 p5 p6 p7 p8 p9 p10 p11 p12 p13 p14 p15 p16 p17 p18 p19 p20 : Value) (hp : p0 = pt g)
    {Q : Exit → Act → World → Prop}
    (hQ : ∀ q W, w0.heap.size ≤ q → q ≠ g → Blk W q 58 (headC (numP 2 ((b.drop 4).take 2)) (numP 2 ((b.drop 6).take 2)) H0).toArray → LfS W g B (b.drop 8) → Keep [g] w0 W →
      Q .normal (F23 p0 p1 p2 p3 p5 p6 p7 p8 p9 p10 p11 p12 p13 p14 p15 p16 p17 p18 p19 p20 (pt q) (pt g) (pt g) (pt g) (.int .i64 (numP 2 ((b.drop 4).take 2) : Nat)) (pt g) (pt g) (pt g) (.int .i64 (numP 2 ((b.drop 6).take 2) : Nat)) (.agg (headC (numP 2 ((b.drop 4).take 2)) (numP 2 ((b.drop 6).take 2)) H0).toArray)) W) :
    (Code.region 3 ops23 true).wp Tryz.prog Q (F23 p0 p1 p2 p3 p5 p6 p7 p8 p9 p10 p11 p12 p13 p14 p15 p16 p17 p18 p19 p20 undef undef undef undef undef undef undef undef undef undef) w0 := by
  subst hp
  refine wp_region_invF (I23 w0 g B b (pt g) p1 p2 p3 p5 p6 p7 p8 p9 p10 p11 p12 p13 p14 p15 p16 p17 p18 p19 p20) (by kernel_rfl) (by kernel_rfl) ?_ ?_ ?_
  · exact I23.mk ⟨(Keep.refl [g] w0).drew, fun h => (by cases h), fun h => (by cases h), fun h => (by cases h), fun h => (by cases h), fun h => (by cases h), fun h => (by cases h), fun _ => hL.keep0 (Keep.refl [] w0).drew, fun h => (by cases h), fun h => (by cases h), fun h => (by cases h), fun h => (by cases h), fun h => (by cases h), fun h => (by cases h)⟩
  · rintro l a W i oi ⟨v4, v21, v22, v23, v24, v25, v26, v27, v28, v29, rfl, hS⟩ hoi hun hall
    have z := zero58 W
    rcases i with _ | _ | _ | _ | _ | _ | _ | _ | _ | _ | _ | i <;> simp only [ops23, List.getElem?_toArray, List.getElem?_cons_succ, List.getElem?_cons_zero, Option.some.injEq, Nat.zero_add, Nat.reduceAdd] at hoi
    · subst hoi
      refine ⟨rfl, ?_⟩
      have HI := Lib.hid (I23.mk (p0 := pt g) (p1 := p1) (p2 := p2) (p3 := p3) (p5 := p5) (p6 := p6) (p7 := p7) (p8 := p8) (p9 := p9) (p10 := p10) (p11 := p11) (p12 := p12) (p13 := p13) (p14 := p14) (p15 := p15) (p16 := p16) (p17 := p17) (p18 := p18) (p19 := p19) (p20 := p20) (show S23 w0 g B b (upd l 0) v4 (pt g) v22 v23 v24 v25 v26 v27 v28 v29 W from ⟨hS.kp, fun _ => rfl, hS.c1, hS.c2, hS.c4, hS.c5, hS.c6, hS.n3, hS.c3, hS.n7, hS.c7, hS.c8, hS.c9, hS.e10⟩))
      simp only [F23, pt] at HI ⊢
      go_simp
      exact HI.out
    · subst hoi
      refine ⟨rfl, ?_⟩
      have q := hS.c0 (hall ⟨0, .data⟩ (by simp) rfl)
      subst q
      have HI := Lib.hid (I23.mk (p0 := pt g) (p1 := p1) (p2 := p2) (p3 := p3) (p5 := p5) (p6 := p6) (p7 := p7) (p8 := p8) (p9 := p9) (p10 := p10) (p11 := p11) (p12 := p12) (p13 := p13) (p14 := p14) (p15 := p15) (p16 := p16) (p17 := p17) (p18 := p18) (p19 := p19) (p20 := p20) (show S23 w0 g B b (upd l 1) v4 (pt g) (pt g) v23 v24 v25 v26 v27 v28 v29 W from ⟨hS.kp, hS.c0, fun _ => rfl, hS.c2, hS.c4, hS.c5, hS.c6, hS.n3, hS.c3, hS.n7, hS.c7, hS.c8, hS.c9, hS.e10⟩))
      have hgw := Nat.lt_of_lt_of_le hg hS.kp.size
      simp only [F23, pt] at HI ⊢
      go_simp
      exact HI.out
    · subst hoi
      refine ⟨rfl, ?_⟩
      have q := hS.c1 (hall ⟨1, .data⟩ (by simp) rfl)
      subst q
      have HI := Lib.hid (I23.mk (p0 := pt g) (p1 := p1) (p2 := p2) (p3 := p3) (p5 := p5) (p6 := p6) (p7 := p7) (p8 := p8) (p9 := p9) (p10 := p10) (p11 := p11) (p12 := p12) (p13 := p13) (p14 := p14) (p15 := p15) (p16 := p16) (p17 := p17) (p18 := p18) (p19 := p19) (p20 := p20) (show S23 w0 g B b (upd l 2) v4 v21 (pt g) (pt g) v24 v25 v26 v27 v28 v29 W from ⟨hS.kp, hS.c0, hS.c1, fun _ => rfl, hS.c4, hS.c5, hS.c6, hS.n3, hS.c3, hS.n7, hS.c7, hS.c8, hS.c9, hS.e10⟩))
      have hgw := Nat.lt_of_lt_of_le hg hS.kp.size
      simp only [F23, pt] at HI ⊢
      go_simp
      exact HI.out
    · subst hoi
      refine ⟨rfl, ?_⟩
      have q := hS.c2 (hall ⟨2, .data⟩ (by simp) rfl)
      subst q
      have HI : Hid (∀ w', LfS w' g B ((b.drop 4).drop 2) → Keep [g] W w' → I23 w0 g B b (pt g) p1 p2 p3 p5 p6 p7 p8 p9 p10 p11 p12 p13 p14 p15 p16 p17 p18 p19 p20 (upd l 3) (F23 (pt g) p1 p2 p3 p5 p6 p7 p8 p9 p10 p11 p12 p13 p14 p15 p16 p17 p18 p19 p20 v4 v21 v22 (pt g) (.int .i64 (numP 2 ((b.drop 4).take 2) : Nat)) v25 v26 v27 v28 v29) w') := Lib.hid (fun w' h1 h2 => I23.mk (hS.s3 hg hl hun h1 h2))
      have HC := Lib.hid (lnumber_any 2 g B (b.drop 4) W (hS.n3 hun) (.inl rfl) (by rw [List.length_drop]; omega))
      have HC2 : Hid (Calls Tryz.prog 25 #[.pointer (some ⟨g, 0, none⟩), .int .i64 16] W fun e w' => e = .returned (.int .i64 (numP 2 ((b.drop 4).take 2) : Nat)) ∧ LfS w' g B ((b.drop 4).drop 2) ∧ Keep [g] W w') := HC
      clear HC hS
      generalize numP 2 ((b.drop 4).take 2) = x at *
      simp only [F23, pt] at HI ⊢
      go_simp
      go_at_call 25
      refine HC2.out.mono ?_
      rintro e w' ⟨rfl, h1, h2⟩
      exact HI.out w' h1 h2
    · subst hoi
      refine ⟨rfl, ?_⟩
      have HI := Lib.hid (I23.mk (p0 := pt g) (p1 := p1) (p2 := p2) (p3 := p3) (p5 := p5) (p6 := p6) (p7 := p7) (p8 := p8) (p9 := p9) (p10 := p10) (p11 := p11) (p12 := p12) (p13 := p13) (p14 := p14) (p15 := p15) (p16 := p16) (p17 := p17) (p18 := p18) (p19 := p19) (p20 := p20) (show S23 w0 g B b (upd l 4) v4 v21 v22 v23 v24 (pt g) v26 v27 v28 v29 W from ⟨hS.kp, hS.c0, hS.c1, hS.c2, fun _ => rfl, hS.c5, hS.c6, hS.n3, hS.c3, hS.n7, hS.c7, hS.c8, hS.c9, hS.e10⟩))
      simp only [F23, pt] at HI ⊢
      go_simp
      exact HI.out
    · subst hoi
      refine ⟨rfl, ?_⟩
      have q := hS.c4 (hall ⟨4, .data⟩ (by simp) rfl)
      subst q
      have HI := Lib.hid (I23.mk (p0 := pt g) (p1 := p1) (p2 := p2) (p3 := p3) (p5 := p5) (p6 := p6) (p7 := p7) (p8 := p8) (p9 := p9) (p10 := p10) (p11 := p11) (p12 := p12) (p13 := p13) (p14 := p14) (p15 := p15) (p16 := p16) (p17 := p17) (p18 := p18) (p19 := p19) (p20 := p20) (show S23 w0 g B b (upd l 5) v4 v21 v22 v23 v24 (pt g) (pt g) v27 v28 v29 W from ⟨hS.kp, hS.c0, hS.c1, hS.c2, hS.c4, fun _ => rfl, hS.c6, hS.n3, hS.c3, hS.n7, hS.c7, hS.c8, hS.c9, hS.e10⟩))
      have hgw := Nat.lt_of_lt_of_le hg hS.kp.size
      simp only [F23, pt] at HI ⊢
      go_simp
      exact HI.out
    · subst hoi
      refine ⟨rfl, ?_⟩
      have q := hS.c5 (hall ⟨5, .data⟩ (by simp) rfl)
      subst q
      have HI := Lib.hid (I23.mk (p0 := pt g) (p1 := p1) (p2 := p2) (p3 := p3) (p5 := p5) (p6 := p6) (p7 := p7) (p8 := p8) (p9 := p9) (p10 := p10) (p11 := p11) (p12 := p12) (p13 := p13) (p14 := p14) (p15 := p15) (p16 := p16) (p17 := p17) (p18 := p18) (p19 := p19) (p20 := p20) (show S23 w0 g B b (upd l 6) v4 v21 v22 v23 v24 v25 (pt g) (pt g) v28 v29 W from ⟨hS.kp, hS.c0, hS.c1, hS.c2, hS.c4, hS.c5, fun _ => rfl, hS.n3, hS.c3, hS.n7, hS.c7, hS.c8, hS.c9, hS.e10⟩))
      have hgw := Nat.lt_of_lt_of_le hg hS.kp.size
      simp only [F23, pt] at HI ⊢
      go_simp
      exact HI.out
    · subst hoi
      refine ⟨rfl, ?_⟩
      have q := hS.c6 (hall ⟨6, .data⟩ (by simp) rfl)
      subst q
      have l3 : l 3 = true := hall ⟨3, .chain⟩ (by simp) rfl
      have HI : Hid (∀ w', LfS w' g B ((b.drop 6).drop 2) → Keep [g] W w' → I23 w0 g B b (pt g) p1 p2 p3 p5 p6 p7 p8 p9 p10 p11 p12 p13 p14 p15 p16 p17 p18 p19 p20 (upd l 7) (F23 (pt g) p1 p2 p3 p5 p6 p7 p8 p9 p10 p11 p12 p13 p14 p15 p16 p17 p18 p19 p20 v4 v21 v22 v23 v24 v25 v26 (pt g) (.int .i64 (numP 2 ((b.drop 6).take 2) : Nat)) v29) w') := Lib.hid (fun w' h1 h2 => I23.mk (hS.s7 l3 h1 h2))
      have HC := Lib.hid (lnumber_any 2 g B (b.drop 6) W (hS.n7 l3 hun) (.inl rfl) (by rw [List.length_drop]; omega))
      have HC2 : Hid (Calls Tryz.prog 25 #[.pointer (some ⟨g, 0, none⟩), .int .i64 16] W fun e w' => e = .returned (.int .i64 (numP 2 ((b.drop 6).take 2) : Nat)) ∧ LfS w' g B ((b.drop 6).drop 2) ∧ Keep [g] W w') := HC
      clear HC hS
      generalize numP 2 ((b.drop 6).take 2) = x at *
      simp only [F23, pt] at HI ⊢
      go_simp
      go_at_call 25
      refine HC2.out.mono ?_
      rintro e w' ⟨rfl, h1, h2⟩
      exact HI.out w' h1 h2
    · subst hoi
      refine ⟨rfl, ?_⟩
      have q := hS.c3 (hall ⟨3, .data⟩ (by simp) rfl)
      subst q
      have q := (hS.c7 (hall ⟨7, .data⟩ (by simp) rfl)).2.1
      subst q
      have HI := Lib.hid (I23.mk (p0 := pt g) (p1 := p1) (p2 := p2) (p3 := p3) (p5 := p5) (p6 := p6) (p7 := p7) (p8 := p8) (p9 := p9) (p10 := p10) (p11 := p11) (p12 := p12) (p13 := p13) (p14 := p14) (p15 := p15) (p16 := p16) (p17 := p17) (p18 := p18) (p19 := p19) (p20 := p20) hS.s8)
      have hb := built58 (numP 2 ((b.drop 4).take 2)) (numP 2 ((b.drop 6).take 2))
      clear hS
      generalize numP 2 ((b.drop 4).take 2) = x at *
      generalize numP 2 ((b.drop 6).take 2) = y at *
      generalize (headC x y H0).toArray = C at *
      have e1 : (F23 (pt g) p1 p2 p3 p5 p6 p7 p8 p9 p10 p11 p12 p13 p14 p15 p16 p17 p18 p19 p20 v4 v21 v22 v23 (.int .i64 x) v25 v26 v27 (.int .i64 y) v29).eval (.tmp 24) = .int .i64 x := by kernel_rfl
      have e2 : (F23 (pt g) p1 p2 p3 p5 p6 p7 p8 p9 p10 p11 p12 p13 p14 p15 p16 p17 p18 p19 p20 v4 v21 v22 v23 (.int .i64 x) v25 v26 v27 (.int .i64 y) v29).eval (.tmp 28) = .int .i64 y := by kernel_rfl
      have hp : (F23 (pt g) p1 p2 p3 p5 p6 p7 p8 p9 p10 p11 p12 p13 p14 p15 p16 p17 p18 p19 p20 v4 v21 v22 v23 (.int .i64 x) v25 v26 v27 (.int .i64 y) v29).put (some 29) (.agg C) = F23 (pt g) p1 p2 p3 p5 p6 p7 p8 p9 p10 p11 p12 p13 p14 p15 p16 p17 p18 p19 p20 v4 v21 v22 v23 (.int .i64 x) v25 v26 v27 (.int .i64 y) (.agg C) := by kernel_rfl
      generalize F23 (pt g) p1 p2 p3 p5 p6 p7 p8 p9 p10 p11 p12 p13 p14 p15 p16 p17 p18 p19 p20 v4 v21 v22 v23 (.int .i64 x) v25 v26 v27 (.int .i64 y) v29 = a at *
      refine wp_build_as (P := Tryz.prog) 58 _ rfl C ?_ ?_
      · simp only [List.map_toArray, List.map_cons, List.map_nil, e1, e2]
        exact hb
      · show I23 _ _ _ _ _ _ _ _ _ _ _ _ _ _ _ _ _ _ _ _ _ _ _ _ _ (a.put (some 29) (.agg C)) _
        rw [hp]
        exact HI.out
    · subst hoi
      refine ⟨rfl, ?_⟩
      have l10 : l 10 = false := by
        cases h : l 10 with
        | false => rfl
        | true => have := hS.e10 h; rw [hun] at this; cases this
      have HI := Lib.hid (I23.mk (p0 := pt g) (p1 := p1) (p2 := p2) (p3 := p3) (p5 := p5) (p6 := p6) (p7 := p7) (p8 := p8) (p9 := p9) (p10 := p10) (p11 := p11) (p12 := p12) (p13 := p13) (p14 := p14) (p15 := p15) (p16 := p16) (p17 := p17) (p18 := p18) (p19 := p19) (p20 := p20) (hS.s9 hg l10 (show (headC 0 0 (List.replicate 32 0)).toArray.size = 34 from rfl)))
      clear hS
      generalize (headC 0 0 (List.replicate 32 0)).toArray = Z at *
      simp only [F23, pt] at HI ⊢
      go_simp
      exact HI.out
    · subst hoi
      refine ⟨rfl, ?_⟩
      have q := hS.c8 (hall ⟨8, .data⟩ (by simp) rfl)
      subst q
      obtain ⟨q, cs, e4, hbk, hn, h2⟩ := hS.s10 hB (hall ⟨9, .data⟩ (by simp) rfl) (hall ⟨7, .chain⟩ (by simp) rfl)
      subst e4
      have HI := I23.mk (p0 := pt g) (p1 := p1) (p2 := p2) (p3 := p3) (p5 := p5) (p6 := p6) (p7 := p7) (p8 := p8) (p9 := p9) (p10 := p10) (p11 := p11) (p12 := p12) (p13 := p13) (p14 := p14) (p15 := p15) (p16 := p16) (p17 := p17) (p18 := p18) (p19 := p19) (p20 := p20) h2
      have e5 : (F23 (pt g) p1 p2 p3 p5 p6 p7 p8 p9 p10 p11 p12 p13 p14 p15 p16 p17 p18 p19 p20 (pt q) v21 v22 v23 v24 v25 v26 v27 v28 (.agg (headC (numP 2 ((b.drop 4).take 2)) (numP 2 ((b.drop 6).take 2)) H0).toArray)).eval (.tmp 4) = pt q := by kernel_rfl
      have e20 : (F23 (pt g) p1 p2 p3 p5 p6 p7 p8 p9 p10 p11 p12 p13 p14 p15 p16 p17 p18 p19 p20 (pt q) v21 v22 v23 v24 v25 v26 v27 v28 (.agg (headC (numP 2 ((b.drop 4).take 2)) (numP 2 ((b.drop 6).take 2)) H0).toArray)).eval (.tmp 29) = .agg (headC (numP 2 ((b.drop 4).take 2)) (numP 2 ((b.drop 6).take 2)) H0).toArray := by kernel_rfl
      have hp : (F23 (pt g) p1 p2 p3 p5 p6 p7 p8 p9 p10 p11 p12 p13 p14 p15 p16 p17 p18 p19 p20 (pt q) v21 v22 v23 v24 v25 v26 v27 v28 (.agg (headC (numP 2 ((b.drop 4).take 2)) (numP 2 ((b.drop 6).take 2)) H0).toArray)).put none undef = F23 (pt g) p1 p2 p3 p5 p6 p7 p8 p9 p10 p11 p12 p13 p14 p15 p16 p17 p18 p19 p20 (pt q) v21 v22 v23 v24 v25 v26 v27 v28 (.agg (headC (numP 2 ((b.drop 4).take 2)) (numP 2 ((b.drop 6).take 2)) H0).toArray) := by kernel_rfl
      have hsz : (headC (numP 2 ((b.drop 4).take 2)) (numP 2 ((b.drop 6).take 2)) H0).toArray.size = 34 := by rw [List.size_toArray, headC_len (by rfl)]
      have hone := all_oneCell_toArray (headC_one (numP 2 ((b.drop 4).take 2)) (numP 2 ((b.drop 6).take 2)) H0)
      generalize (headC (numP 2 ((b.drop 4).take 2)) (numP 2 ((b.drop 6).take 2)) H0).toArray = C at *
      generalize F23 (pt g) p1 p2 p3 p5 p6 p7 p8 p9 p10 p11 p12 p13 p14 p15 p16 p17 p18 p19 p20 (pt q) v21 v22 v23 v24 v25 v26 v27 v28 (.agg C) = a at *
      refine wp_store_row (P := Tryz.prog) 58 (.tmp 4) (.tmp 29) rfl q C e5 e20 58 cs hbk (by rw [hsz]; exact size58) (by rw [hn, hsz]) hone ?_
      show I23 _ _ _ _ _ _ _ _ _ _ _ _ _ _ _ _ _ _ _ _ _ _ _ _ _ (a.put none undef) _
      rw [hp]
      exact HI
    · simp at hoi
  · rintro l a W hL ⟨v4, v21, v22, v23, v24, v25, v26, v27, v28, v29, rfl, hS⟩
    have l' := fun i (h : i < 11) => hL i h
    obtain ⟨q, cs, rfl, q2, q3, q4, q5, q6⟩ := hS.c9 (l' 9 (by decide))
    obtain rfl := q6 (l' 10 (by decide))
    obtain ⟨-, rfl, hL8⟩ := hS.c7 (l' 7 (by decide))
    obtain rfl := hS.c0 (l' 0 (by decide))
    obtain rfl := hS.c1 (l' 1 (by decide))
    obtain rfl := hS.c2 (l' 2 (by decide))
    obtain rfl := hS.c3 (l' 3 (by decide))
    obtain rfl := hS.c4 (l' 4 (by decide))
    obtain rfl := hS.c5 (l' 5 (by decide))
    obtain rfl := hS.c6 (l' 6 (by decide))
    obtain rfl := hS.c8 (l' 8 (by decide))
    exact hQ q W q2 q3 q4 hL8 hS.kp
end Go.Proofs.YtdnaahbhfjclpaaGreatDoor

