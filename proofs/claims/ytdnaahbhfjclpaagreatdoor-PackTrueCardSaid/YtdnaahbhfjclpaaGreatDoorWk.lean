/- A state behind a block, walked: the first region. -/
import Derived.Test.YtdnaahbhfjclpaaGreatDoorReg3
set_option linter.unusedVariables false
set_option linter.unusedSimpArgs false
namespace Go.Proofs.YtdnaahbhfjclpaaGreatDoor
open Go.RowKit Go.Sal Go.Pck Go.Huf Go.Cod
theorem blk_other {W : World} {g g' t : Nat} {cs c : Array Value} (h : Blk W g t cs) (hn : g ≠ g') : Blk (W.setRow g' c) g t cs := (heap_setRow_other W g' c hn).trans h
theorem blk_same {W : World} {g t : Nat} {cs c : Array Value} (h : Blk W g t cs) : Blk (W.setRow g c) g t c := setRow_heap W g cs c t (0, 0) h
def F76 (A0 A1 P0 P1 P2 v5 v6 v7 v19 v20 v21 v22 : Value) : Act := ⟨#[A0, A1, P0, P1, P2, v5, v6, v7, undef, undef, undef, undef, undef, undef, undef, undef, undef, undef, undef, v19, v20, v21, v22, undef, undef, undef, undef, undef, undef, undef, undef, undef, undef, undef, undef, undef, undef, undef, undef, undef, undef, undef, undef, undef, undef, undef, undef, undef, undef, undef, undef, undef, undef, undef, undef, undef, undef, undef, undef, undef, undef, undef, undef, undef, undef, undef, undef, undef, undef, undef, undef, undef, undef, undef, undef, undef, undef, undef, undef, undef, undef, undef, undef, undef, undef, undef, undef, undef, undef, undef, undef, undef, undef, undef, undef, undef, undef, undef, undef, undef, undef, undef, undef, undef, undef, undef, undef, undef, undef, undef, undef, undef, undef, undef], []⟩
def ops76 : Array Oper := #[{ dst := some 19, op := Go.Op.load 120 (Go.Operand.tmp 3), type := 120, pos := "sha.go:54", after := #[], guard := none },
  { dst := some 20, op := Go.Op.call { callee := Go.Callee.value (Go.Operand.func 121), args := #[Go.Operand.tmp 19], argTypes := #[120] }, type := 179, pos := "sha.go:54", after := #[{ on := 0, ground := Go.Ground.data }], guard := none },
  { dst := some 21, op := Go.Op.call { callee := Go.Callee.value (Go.Operand.func 122), args := #[], argTypes := #[] }, type := 179, pos := "sha.go:54", after := #[{ on := 1, ground := Go.Ground.chain }], guard := none },
  { dst := some 22, op := Go.Op.load 115 (Go.Operand.tmp 2), type := 115, pos := "sha.go:54", after := #[{ on := 8, ground := Go.Ground.gcOnly Go.Departure.lateStores }], guard := none },
  { dst := some 5, op := Go.Op.alloc 179, type := 0, pos := "sha.go:54", after := #[], guard := none },
  { dst := some 6, op := Go.Op.alloc 179, type := 0, pos := "sha.go:54", after := #[], guard := none },
  { dst := some 7, op := Go.Op.alloc 115, type := 0, pos := "sha.go:54", after := #[], guard := none },
  { dst := none, op := Go.Op.store 179 (Go.Operand.tmp 5) (Go.Operand.tmp 20), type := 0, pos := "sha.go:54", after := #[{ on := 4, ground := Go.Ground.data }, { on := 1, ground := Go.Ground.data }, { on := 2, ground := Go.Ground.chain }, { on := 0, ground := Go.Ground.phase }, { on := 1, ground := Go.Ground.phase }, { on := 2, ground := Go.Ground.textOnly Go.Departure.lateStoresUnsure }, { on := 3, ground := Go.Ground.textOnly Go.Departure.lateStores }, { on := 4, ground := Go.Ground.phase }, { on := 5, ground := Go.Ground.phase }, { on := 6, ground := Go.Ground.phase }], guard := none },
  { dst := none, op := Go.Op.store 179 (Go.Operand.tmp 6) (Go.Operand.tmp 21), type := 0, pos := "sha.go:54", after := #[{ on := 5, ground := Go.Ground.data }, { on := 2, ground := Go.Ground.data }, { on := 7, ground := Go.Ground.chain }, { on := 0, ground := Go.Ground.phase }, { on := 1, ground := Go.Ground.phase }, { on := 2, ground := Go.Ground.phase }, { on := 3, ground := Go.Ground.textOnly Go.Departure.lateStores }, { on := 4, ground := Go.Ground.phase }, { on := 5, ground := Go.Ground.phase }, { on := 6, ground := Go.Ground.phase }, { on := 7, ground := Go.Ground.phase }], guard := none },
  { dst := none, op := Go.Op.store 115 (Go.Operand.tmp 7) (Go.Operand.tmp 22), type := 0, pos := "sha.go:54", after := #[{ on := 6, ground := Go.Ground.data }, { on := 3, ground := Go.Ground.data }, { on := 8, ground := Go.Ground.chain }, { on := 0, ground := Go.Ground.phase }, { on := 1, ground := Go.Ground.phase }, { on := 2, ground := Go.Ground.phase }, { on := 3, ground := Go.Ground.phase }, { on := 4, ground := Go.Ground.phase }, { on := 5, ground := Go.Ground.phase }, { on := 6, ground := Go.Ground.phase }, { on := 7, ground := Go.Ground.phase }, { on := 8, ground := Go.Ground.phase }], guard := none }]
theorem op76_0 : ops76[0]? = some { dst := some 19, op := Go.Op.load 120 (Go.Operand.tmp 3), type := 120, pos := "sha.go:54", after := #[], guard := none } := rfl
theorem op76_1 : ops76[1]? = some { dst := some 20, op := Go.Op.call { callee := Go.Callee.value (Go.Operand.func 121), args := #[Go.Operand.tmp 19], argTypes := #[120] }, type := 179, pos := "sha.go:54", after := #[{ on := 0, ground := Go.Ground.data }], guard := none } := rfl
theorem op76_2 : ops76[2]? = some { dst := some 21, op := Go.Op.call { callee := Go.Callee.value (Go.Operand.func 122), args := #[], argTypes := #[] }, type := 179, pos := "sha.go:54", after := #[{ on := 1, ground := Go.Ground.chain }], guard := none } := rfl
theorem op76_3 : ops76[3]? = some { dst := some 22, op := Go.Op.load 115 (Go.Operand.tmp 2), type := 115, pos := "sha.go:54", after := #[{ on := 8, ground := Go.Ground.gcOnly Go.Departure.lateStores }], guard := none } := rfl
theorem op76_4 : ops76[4]? = some { dst := some 5, op := Go.Op.alloc 179, type := 0, pos := "sha.go:54", after := #[], guard := none } := rfl
theorem op76_5 : ops76[5]? = some { dst := some 6, op := Go.Op.alloc 179, type := 0, pos := "sha.go:54", after := #[], guard := none } := rfl
theorem op76_6 : ops76[6]? = some { dst := some 7, op := Go.Op.alloc 115, type := 0, pos := "sha.go:54", after := #[], guard := none } := rfl
theorem op76_7 : ops76[7]? = some { dst := none, op := Go.Op.store 179 (Go.Operand.tmp 5) (Go.Operand.tmp 20), type := 0, pos := "sha.go:54", after := #[{ on := 4, ground := Go.Ground.data }, { on := 1, ground := Go.Ground.data }, { on := 2, ground := Go.Ground.chain }, { on := 0, ground := Go.Ground.phase }, { on := 1, ground := Go.Ground.phase }, { on := 2, ground := Go.Ground.textOnly Go.Departure.lateStoresUnsure }, { on := 3, ground := Go.Ground.textOnly Go.Departure.lateStores }, { on := 4, ground := Go.Ground.phase }, { on := 5, ground := Go.Ground.phase }, { on := 6, ground := Go.Ground.phase }], guard := none } := rfl
theorem op76_8 : ops76[8]? = some { dst := none, op := Go.Op.store 179 (Go.Operand.tmp 6) (Go.Operand.tmp 21), type := 0, pos := "sha.go:54", after := #[{ on := 5, ground := Go.Ground.data }, { on := 2, ground := Go.Ground.data }, { on := 7, ground := Go.Ground.chain }, { on := 0, ground := Go.Ground.phase }, { on := 1, ground := Go.Ground.phase }, { on := 2, ground := Go.Ground.phase }, { on := 3, ground := Go.Ground.textOnly Go.Departure.lateStores }, { on := 4, ground := Go.Ground.phase }, { on := 5, ground := Go.Ground.phase }, { on := 6, ground := Go.Ground.phase }, { on := 7, ground := Go.Ground.phase }], guard := none } := rfl
theorem op76_9 : ops76[9]? = some { dst := none, op := Go.Op.store 115 (Go.Operand.tmp 7) (Go.Operand.tmp 22), type := 0, pos := "sha.go:54", after := #[{ on := 6, ground := Go.Ground.data }, { on := 3, ground := Go.Ground.data }, { on := 8, ground := Go.Ground.chain }, { on := 0, ground := Go.Ground.phase }, { on := 1, ground := Go.Ground.phase }, { on := 2, ground := Go.Ground.phase }, { on := 3, ground := Go.Ground.phase }, { on := 4, ground := Go.Ground.phase }, { on := 5, ground := Go.Ground.phase }, { on := 6, ground := Go.Ground.phase }, { on := 7, ground := Go.Ground.phase }, { on := 8, ground := Go.Ground.phase }], guard := none } := rfl
def pt (g : Nat) : Value := .pointer (some ⟨g, 0, none⟩)
structure S76 (w0 : World) (st b : List Nat) (L : Array Bool) (v5 v6 v7 v19 v20 v21 v22 : Value) (W : World) : Prop where
  kp : Keep [] w0 W
  c0 : L.getD 0 false = true → v19 = .agg (inB b).toArray
  c1 : L.getD 1 false = true → v20 = enc32 (sched b)
  c2 : L.getD 2 false = true → v21 = enc32 kTab
  c3 : L.getD 3 false = true → v22 = enc32 st
  c4 : L.getD 4 false = true → ∃ g cs, v5 = pt g ∧ w0.heap.size ≤ g ∧ Blk W g 179 cs ∧ cs.size = 64 ∧ (L.getD 7 false = true → cs = (inW (sched b)).toArray)
  c5 : L.getD 5 false = true → ∃ g cs, v6 = pt g ∧ w0.heap.size ≤ g ∧ Blk W g 179 cs ∧ cs.size = 64 ∧ (L.getD 8 false = true → cs = (inW kTab).toArray)
  c6 : L.getD 6 false = true → ∃ g cs, v7 = pt g ∧ w0.heap.size ≤ g ∧ Blk W g 115 cs ∧ cs.size = 8 ∧ (L.getD 9 false = true → cs = (inW st).toArray)
  d : L.getD 4 false = true → L.getD 5 false = true → v5 ≠ v6
  e4 : L.getD 7 false = true → L.getD 4 false = true
  e5 : L.getD 8 false = true → L.getD 5 false = true
  e6 : L.getD 9 false = true → L.getD 6 false = true
section
variable {w0 W W2 : World} {st b : List Nat} {L : Array Bool} {v5 v6 v7 v19 v20 v21 v22 : Value}
theorem S76.grow (h : S76 w0 st b L v5 v6 v7 v19 v20 v21 v22 W) (k : Keep [] W W2) : S76 w0 st b L v5 v6 v7 v19 v20 v21 v22 W2 := by
  refine ⟨h.kp.trans k, h.c0, h.c1, h.c2, h.c3, fun hl => ?_, fun hl => ?_, fun hl => ?_, h.d, h.e4, h.e5, h.e6⟩
  · obtain ⟨g, cs, h1, h2, h3, h4⟩ := h.c4 hl
    exact ⟨g, cs, h1, h2, h3.keep k (by simp), h4⟩
  · obtain ⟨g, cs, h1, h2, h3, h4⟩ := h.c5 hl
    exact ⟨g, cs, h1, h2, h3.keep k (by simp), h4⟩
  · obtain ⟨g, cs, h1, h2, h3, h4⟩ := h.c6 hl
    exact ⟨g, cs, h1, h2, h3.keep k (by simp), h4⟩
theorem gne (L : Array Bool) {i j : Nat} (h : i ≠ j) : (L.setIfInBounds i true).getD j false = L.getD j false := getD_set_ne false h
theorem unl_no {L : Array Bool} {i : Nat} (h : L.getD i true = false) : ¬ L.getD i false = true := by
  intro e
  rcases Nat.lt_or_ge i L.size with h' | h'
  · simp [h'] at h e; rw [h] at e; cases e
  · simp [Array.getElem?_eq_none h'] at h
theorem S76.s0 (h : S76 w0 st b L v5 v6 v7 v19 v20 v21 v22 W) : S76 w0 st b (L.setIfInBounds 0 true) v5 v6 v7 (.agg (inB b).toArray) v20 v21 v22 W := by
  refine ⟨h.kp, fun _ => rfl, ?_, ?_, ?_, ?_, ?_, ?_, ?_, ?_, ?_, ?_⟩ <;> simp only [gne L (show 0 ≠ 1 by decide), gne L (show 0 ≠ 2 by decide), gne L (show 0 ≠ 3 by decide), gne L (show 0 ≠ 4 by decide), gne L (show 0 ≠ 5 by decide), gne L (show 0 ≠ 6 by decide), gne L (show 0 ≠ 7 by decide), gne L (show 0 ≠ 8 by decide), gne L (show 0 ≠ 9 by decide)]
  · exact h.c1
  · exact h.c2
  · exact h.c3
  · exact h.c4
  · exact h.c5
  · exact h.c6
  · exact h.d
  · exact h.e4
  · exact h.e5
  · exact h.e6
theorem S76.s1 (h : S76 w0 st b L v5 v6 v7 v19 v20 v21 v22 W) : S76 w0 st b (L.setIfInBounds 1 true) v5 v6 v7 v19 (enc32 (sched b)) v21 v22 W := by
  refine ⟨h.kp, ?_, fun _ => rfl, ?_, ?_, ?_, ?_, ?_, ?_, ?_, ?_, ?_⟩ <;> simp only [gne L (show 1 ≠ 0 by decide), gne L (show 1 ≠ 2 by decide), gne L (show 1 ≠ 3 by decide), gne L (show 1 ≠ 4 by decide), gne L (show 1 ≠ 5 by decide), gne L (show 1 ≠ 6 by decide), gne L (show 1 ≠ 7 by decide), gne L (show 1 ≠ 8 by decide), gne L (show 1 ≠ 9 by decide)]
  · exact h.c0
  · exact h.c2
  · exact h.c3
  · exact h.c4
  · exact h.c5
  · exact h.c6
  · exact h.d
  · exact h.e4
  · exact h.e5
  · exact h.e6
theorem S76.s2 (h : S76 w0 st b L v5 v6 v7 v19 v20 v21 v22 W) : S76 w0 st b (L.setIfInBounds 2 true) v5 v6 v7 v19 v20 (enc32 kTab) v22 W := by
  refine ⟨h.kp, ?_, ?_, fun _ => rfl, ?_, ?_, ?_, ?_, ?_, ?_, ?_, ?_⟩ <;> simp only [gne L (show 2 ≠ 0 by decide), gne L (show 2 ≠ 1 by decide), gne L (show 2 ≠ 3 by decide), gne L (show 2 ≠ 4 by decide), gne L (show 2 ≠ 5 by decide), gne L (show 2 ≠ 6 by decide), gne L (show 2 ≠ 7 by decide), gne L (show 2 ≠ 8 by decide), gne L (show 2 ≠ 9 by decide)]
  · exact h.c0
  · exact h.c1
  · exact h.c3
  · exact h.c4
  · exact h.c5
  · exact h.c6
  · exact h.d
  · exact h.e4
  · exact h.e5
  · exact h.e6
theorem S76.s3 (h : S76 w0 st b L v5 v6 v7 v19 v20 v21 v22 W) : S76 w0 st b (L.setIfInBounds 3 true) v5 v6 v7 v19 v20 v21 (enc32 st) W := by
  refine ⟨h.kp, ?_, ?_, ?_, fun _ => rfl, ?_, ?_, ?_, ?_, ?_, ?_, ?_⟩ <;> simp only [gne L (show 3 ≠ 0 by decide), gne L (show 3 ≠ 1 by decide), gne L (show 3 ≠ 2 by decide), gne L (show 3 ≠ 4 by decide), gne L (show 3 ≠ 5 by decide), gne L (show 3 ≠ 6 by decide), gne L (show 3 ≠ 7 by decide), gne L (show 3 ≠ 8 by decide), gne L (show 3 ≠ 9 by decide)]
  · exact h.c0
  · exact h.c1
  · exact h.c2
  · exact h.c4
  · exact h.c5
  · exact h.c6
  · exact h.d
  · exact h.e4
  · exact h.e5
  · exact h.e6
theorem pt_ne {g g' : Nat} (h : g ≠ g') : pt g ≠ pt g' := by
  intro e; unfold pt at e; injection e with e; injection e with e; injection e with e; exact h e
theorem S76.s4 (h : S76 w0 st b L v5 v6 v7 v19 v20 v21 v22 W) {Z : Array Value} (hZ : Z.size = 64) (hu : L.getD 4 true = false) :
    S76 w0 st b (L.setIfInBounds 4 true) (pt W.heap.size) v6 v7 v19 v20 v21 v22 (W.alloc (.cells Z 179)) := by
  have h' := h.grow ((Keep.refl [] W).alloc (.cells Z 179))
  refine ⟨h'.kp, ?_, ?_, ?_, ?_, fun _ => ⟨_, Z, rfl, h.kp.size, Blk.new W 179 Z, hZ, ?_⟩, ?_, ?_, fun _ => ?_, ?_, ?_, ?_⟩ <;> simp only [gne L (show 4 ≠ 0 by decide), gne L (show 4 ≠ 1 by decide), gne L (show 4 ≠ 2 by decide), gne L (show 4 ≠ 3 by decide), gne L (show 4 ≠ 5 by decide), gne L (show 4 ≠ 6 by decide), gne L (show 4 ≠ 7 by decide), gne L (show 4 ≠ 8 by decide), gne L (show 4 ≠ 9 by decide)]
  · exact h'.c0
  · exact h'.c1
  · exact h'.c2
  · exact h'.c3
  · exact fun e => absurd (h.e4 e) (unl_no hu)
  · exact h'.c5
  · exact h'.c6
  · intro h5
    obtain ⟨g, cs, rfl, _, hb, _⟩ := h.c5 h5
    exact pt_ne (by have := hb.lt; omega)
  · exact fun e => absurd (h.e4 e) (unl_no hu)
  · exact h.e5
  · exact h.e6
theorem S76.s5 (h : S76 w0 st b L v5 v6 v7 v19 v20 v21 v22 W) {Z : Array Value} (hZ : Z.size = 64) (hu : L.getD 5 true = false) :
    S76 w0 st b (L.setIfInBounds 5 true) v5 (pt W.heap.size) v7 v19 v20 v21 v22 (W.alloc (.cells Z 179)) := by
  have h' := h.grow ((Keep.refl [] W).alloc (.cells Z 179))
  refine ⟨h'.kp, ?_, ?_, ?_, ?_, ?_, fun _ => ⟨_, Z, rfl, h.kp.size, Blk.new W 179 Z, hZ, ?_⟩, ?_, ?_, ?_, ?_, ?_⟩ <;> simp only [gne L (show 5 ≠ 0 by decide), gne L (show 5 ≠ 1 by decide), gne L (show 5 ≠ 2 by decide), gne L (show 5 ≠ 3 by decide), gne L (show 5 ≠ 4 by decide), gne L (show 5 ≠ 6 by decide), gne L (show 5 ≠ 7 by decide), gne L (show 5 ≠ 8 by decide), gne L (show 5 ≠ 9 by decide)]
  · exact h'.c0
  · exact h'.c1
  · exact h'.c2
  · exact h'.c3
  · exact h'.c4
  · exact fun e => absurd (h.e5 e) (unl_no hu)
  · exact h'.c6
  · intro h5 _
    obtain ⟨g, cs, rfl, _, hb, _⟩ := h.c4 h5
    exact pt_ne (by have := hb.lt; omega)
  · exact h.e4
  · exact fun e => absurd (h.e5 e) (unl_no hu)
  · exact h.e6
theorem S76.s6 (h : S76 w0 st b L v5 v6 v7 v19 v20 v21 v22 W) {Z : Array Value} (hZ : Z.size = 8) (hu : L.getD 6 true = false) :
    S76 w0 st b (L.setIfInBounds 6 true) v5 v6 (pt W.heap.size) v19 v20 v21 v22 (W.alloc (.cells Z 115)) := by
  have h' := h.grow ((Keep.refl [] W).alloc (.cells Z 115))
  refine ⟨h'.kp, ?_, ?_, ?_, ?_, ?_, ?_, fun _ => ⟨_, Z, rfl, h.kp.size, Blk.new W 115 Z, hZ, ?_⟩, ?_, ?_, ?_, ?_⟩ <;> simp only [gne L (show 6 ≠ 0 by decide), gne L (show 6 ≠ 1 by decide), gne L (show 6 ≠ 2 by decide), gne L (show 6 ≠ 3 by decide), gne L (show 6 ≠ 4 by decide), gne L (show 6 ≠ 5 by decide), gne L (show 6 ≠ 7 by decide), gne L (show 6 ≠ 8 by decide), gne L (show 6 ≠ 9 by decide)]
  · exact h'.c0
  · exact h'.c1
  · exact h'.c2
  · exact h'.c3
  · exact h'.c4
  · exact h'.c5
  · exact fun e => absurd (h.e6 e) (unl_no hu)
  · exact h'.d
  · exact h.e4
  · exact h.e5
  · exact fun e => absurd (h.e6 e) (unl_no hu)
theorem S76.s7 (h : S76 w0 st b L v5 v6 v7 v19 v20 v21 v22 W) (hl : L.getD 4 false = true) : ∃ g cs, v5 = pt g ∧ Blk W g 179 cs ∧ cs.size = 64 ∧
    S76 w0 st b (L.setIfInBounds 7 true) v5 v6 v7 v19 v20 v21 v22 (W.setRow g (inW (sched b)).toArray) := by
  obtain ⟨g, cs, rfl, hg, hb, hn, hc⟩ := h.c4 hl
  refine ⟨g, cs, rfl, hb, hn, keep_setRow h.kp hg hb, ?_, ?_, ?_, ?_, ?_, ?_, ?_, ?_, ?_, ?_, ?_⟩ <;> simp only [gne L (show 7 ≠ 0 by decide), gne L (show 7 ≠ 1 by decide), gne L (show 7 ≠ 2 by decide), gne L (show 7 ≠ 3 by decide), gne L (show 7 ≠ 4 by decide), gne L (show 7 ≠ 5 by decide), gne L (show 7 ≠ 6 by decide), gne L (show 7 ≠ 8 by decide), gne L (show 7 ≠ 9 by decide)]
  · exact h.c0
  · exact h.c1
  · exact h.c2
  · exact h.c3
  · exact fun _ => ⟨g, _, rfl, hg, blk_same hb, by simp [inW, sched_len], fun _ => rfl⟩
  · intro hl2
    obtain ⟨g2, cs2, e2, hg2, hb2, hn2⟩ := h.c5 hl2
    exact ⟨g2, cs2, e2, hg2, blk_other hb2 (fun e => h.d hl hl2 (by rw [e2, e])), hn2⟩
  · intro hl2
    obtain ⟨g2, cs2, e2, hg2, hb2, hn2⟩ := h.c6 hl2
    exact ⟨g2, cs2, e2, hg2, blk_other hb2 (hb2.ne_ hb (by decide)), hn2⟩
  · exact h.d
  · exact fun _ => hl
  · exact h.e5
  · exact h.e6
theorem S76.s8 (h : S76 w0 st b L v5 v6 v7 v19 v20 v21 v22 W) (hl : L.getD 5 false = true) : ∃ g cs, v6 = pt g ∧ Blk W g 179 cs ∧ cs.size = 64 ∧
    S76 w0 st b (L.setIfInBounds 8 true) v5 v6 v7 v19 v20 v21 v22 (W.setRow g (inW kTab).toArray) := by
  obtain ⟨g, cs, rfl, hg, hb, hn, hc⟩ := h.c5 hl
  refine ⟨g, cs, rfl, hb, hn, keep_setRow h.kp hg hb, ?_, ?_, ?_, ?_, ?_, ?_, ?_, ?_, ?_, ?_, ?_⟩ <;> simp only [gne L (show 8 ≠ 0 by decide), gne L (show 8 ≠ 1 by decide), gne L (show 8 ≠ 2 by decide), gne L (show 8 ≠ 3 by decide), gne L (show 8 ≠ 4 by decide), gne L (show 8 ≠ 5 by decide), gne L (show 8 ≠ 6 by decide), gne L (show 8 ≠ 7 by decide), gne L (show 8 ≠ 9 by decide)]
  · exact h.c0
  · exact h.c1
  · exact h.c2
  · exact h.c3
  · intro hl2
    obtain ⟨g2, cs2, e2, hg2, hb2, hn2⟩ := h.c4 hl2
    exact ⟨g2, cs2, e2, hg2, blk_other hb2 (fun e => h.d hl2 hl (by rw [e2, e])), hn2⟩
  · exact fun _ => ⟨g, _, rfl, hg, blk_same hb, rfl, fun _ => rfl⟩
  · intro hl2
    obtain ⟨g2, cs2, e2, hg2, hb2, hn2⟩ := h.c6 hl2
    exact ⟨g2, cs2, e2, hg2, blk_other hb2 (hb2.ne_ hb (by decide)), hn2⟩
  · exact h.d
  · exact h.e4
  · exact fun _ => hl
  · exact h.e6
theorem S76.s9 (h : S76 w0 st b L v5 v6 v7 v19 v20 v21 v22 W) (hl : L.getD 6 false = true) (hst : st.length = 8) : ∃ g cs, v7 = pt g ∧ Blk W g 115 cs ∧ cs.size = 8 ∧
    S76 w0 st b (L.setIfInBounds 9 true) v5 v6 v7 v19 v20 v21 v22 (W.setRow g (inW st).toArray) := by
  obtain ⟨g, cs, rfl, hg, hb, hn, hc⟩ := h.c6 hl
  refine ⟨g, cs, rfl, hb, hn, keep_setRow h.kp hg hb, ?_, ?_, ?_, ?_, ?_, ?_, ?_, ?_, ?_, ?_, ?_⟩ <;> simp only [gne L (show 9 ≠ 0 by decide), gne L (show 9 ≠ 1 by decide), gne L (show 9 ≠ 2 by decide), gne L (show 9 ≠ 3 by decide), gne L (show 9 ≠ 4 by decide), gne L (show 9 ≠ 5 by decide), gne L (show 9 ≠ 6 by decide), gne L (show 9 ≠ 7 by decide), gne L (show 9 ≠ 8 by decide)]
  · exact h.c0
  · exact h.c1
  · exact h.c2
  · exact h.c3
  · intro hl2
    obtain ⟨g2, cs2, e2, hg2, hb2, hn2⟩ := h.c4 hl2
    exact ⟨g2, cs2, e2, hg2, blk_other hb2 (hb2.ne_ hb (by decide)), hn2⟩
  · intro hl2
    obtain ⟨g2, cs2, e2, hg2, hb2, hn2⟩ := h.c5 hl2
    exact ⟨g2, cs2, e2, hg2, blk_other hb2 (hb2.ne_ hb (by decide)), hn2⟩
  · exact fun _ => ⟨g, _, rfl, hg, blk_same hb, by simp [inW, hst], fun _ => rfl⟩
  · exact h.d
  · exact h.e4
  · exact h.e5
  · exact fun _ => hl
end
end Go.Proofs.YtdnaahbhfjclpaaGreatDoor

namespace Go.Proofs.YtdnaahbhfjclpaaGreatDoor
open Go.RowKit Go.Sal Go.Pck Go.Huf Go.Cod
theorem size120 : (Tryz.prog.info? 120).map (·.size) = some 64 := by kernel_rfl
theorem size115 : (Tryz.prog.info? 115).map (·.size) = some 8 := by kernel_rfl
theorem put76_19 (A0 A1 P0 P1 P2 v5 v6 v7 v19 v20 v21 v22 v : Value) : (F76 A0 A1 P0 P1 P2 v5 v6 v7 v19 v20 v21 v22).put (some 19) v = F76 A0 A1 P0 P1 P2 v5 v6 v7 v v20 v21 v22 := by kernel_rfl
theorem put76_22 (A0 A1 P0 P1 P2 v5 v6 v7 v19 v20 v21 v22 v : Value) : (F76 A0 A1 P0 P1 P2 v5 v6 v7 v19 v20 v21 v22).put (some 22) v = F76 A0 A1 P0 P1 P2 v5 v6 v7 v19 v20 v21 v := by kernel_rfl
theorem put76_no (A0 A1 P0 P1 P2 v5 v6 v7 v19 v20 v21 v22 v : Value) : (F76 A0 A1 P0 P1 P2 v5 v6 v7 v19 v20 v21 v22).put none v = F76 A0 A1 P0 P1 P2 v5 v6 v7 v19 v20 v21 v22 := by kernel_rfl
theorem ev76_5 (A0 A1 P0 P1 P2 v5 v6 v7 v19 v20 v21 v22 : Value) : (F76 A0 A1 P0 P1 P2 v5 v6 v7 v19 v20 v21 v22).eval (.tmp 5) = v5 := by kernel_rfl
theorem ev76_6 (A0 A1 P0 P1 P2 v5 v6 v7 v19 v20 v21 v22 : Value) : (F76 A0 A1 P0 P1 P2 v5 v6 v7 v19 v20 v21 v22).eval (.tmp 6) = v6 := by kernel_rfl
theorem ev76_7 (A0 A1 P0 P1 P2 v5 v6 v7 v19 v20 v21 v22 : Value) : (F76 A0 A1 P0 P1 P2 v5 v6 v7 v19 v20 v21 v22).eval (.tmp 7) = v7 := by kernel_rfl
theorem ev76_20 (A0 A1 P0 P1 P2 v5 v6 v7 v19 v20 v21 v22 : Value) : (F76 A0 A1 P0 P1 P2 v5 v6 v7 v19 v20 v21 v22).eval (.tmp 20) = v20 := by kernel_rfl
theorem ev76_21 (A0 A1 P0 P1 P2 v5 v6 v7 v19 v20 v21 v22 : Value) : (F76 A0 A1 P0 P1 P2 v5 v6 v7 v19 v20 v21 v22).eval (.tmp 21) = v21 := by kernel_rfl
theorem ev76_22 (A0 A1 P0 P1 P2 v5 v6 v7 v19 v20 v21 v22 : Value) : (F76 A0 A1 P0 P1 P2 v5 v6 v7 v19 v20 v21 v22).eval (.tmp 22) = v22 := by kernel_rfl
def I76 (w0 : World) (st b : List Nat) (A0 A1 P0 P1 P2 : Value) (L : Array Bool) (a : Act) (W : World) : Prop :=
  ∃ v5 v6 v7 v19 v20 v21 v22, a = F76 A0 A1 P0 P1 P2 v5 v6 v7 v19 v20 v21 v22 ∧ S76 w0 st b L v5 v6 v7 v19 v20 v21 v22 W
theorem I76.mk {w0 W : World} {st b : List Nat} {L : Array Bool} {A0 A1 P0 P1 P2 v5 v6 v7 v19 v20 v21 v22 : Value} (h : S76 w0 st b L v5 v6 v7 v19 v20 v21 v22 W) : I76 w0 st b A0 A1 P0 P1 P2 L (F76 A0 A1 P0 P1 P2 v5 v6 v7 v19 v20 v21 v22) W := ⟨_, _, _, _, _, _, _, rfl, h⟩
set_option maxRecDepth 20000 in
set_option maxHeartbeats 4000000 in
theorem region76 (w0 : World) (b0 b1 : Nat) (A0 A1 P2 : Value) (st b : List Nat) (hb0 : Blk w0 b0 115 (inW st).toArray) (hb1 : Blk w0 b1 120 (inB b).toArray) (hst : st.length = 8) (hl : b.length = 64) (hb : ∀ x ∈ b, x < 256)
    {Q : Exit → Act → World → Prop}
    (hQ : ∀ g5 g6 g7 W, w0.heap.size ≤ g5 → w0.heap.size ≤ g6 → w0.heap.size ≤ g7 → Blk W g5 179 (inW (sched b)).toArray → Blk W g6 179 (inW kTab).toArray → Blk W g7 115 (inW st).toArray → Keep [] w0 W → g5 ≠ g6 →
      Q .normal (F76 A0 A1 (pt b0) (pt b1) P2 (pt g5) (pt g6) (pt g7) (.agg (inB b).toArray) (enc32 (sched b)) (enc32 kTab) (enc32 st)) W) :
    (Code.region 1 ops76 true).wp Tryz.prog Q (F76 A0 A1 (pt b0) (pt b1) P2 undef undef undef undef undef undef undef) w0 := by
  refine wp_region_inv (I76 w0 st b A0 A1 (pt b0) (pt b1) P2) (by kernel_rfl) (by kernel_rfl) ?_ ?_ ?_
  · refine I76.mk ⟨(Keep.refl [] w0).drew, ?_, ?_, ?_, ?_, ?_, ?_, ?_, ?_, ?_, ?_, ?_⟩ <;> (intro h; exact absurd h (by decide))
  · rintro L a W i oi hs ⟨v5, v6, v7, v19, v20, v21, v22, rfl, hS⟩ hoi hun hall
    have z := zero179
    have hZ : Z64.size = 64 := rfl
    generalize Z64 = Z at *
    rcases i with _ | _ | _ | _ | _ | _ | _ | _ | _ | _ | i
    · obtain rfl := Option.some.inj (hoi.symm.trans op76_0)
      refine ⟨rfl, ?_⟩
      refine wp_load_row 120 (.tmp 3) rfl b1 (by kernel_rfl) 120 _ (0, 0) _ (hb1.keep hS.kp (by simp)) Tryz.underlying120 rfl (by rw [size120]; simp [inB, hl]) ?_
      show I76 _ _ _ _ _ _ _ _ _ ((F76 _ _ _ _ _ _ _ _ _ _ _ _).put (some 19) _) _
      rw [put76_19]
      exact I76.mk hS.s0
    · obtain rfl := Option.some.inj (hoi.symm.trans op76_1)
      refine ⟨rfl, ?_⟩
      have q1 : L.getD 0 false = true := hall ⟨0, .data⟩ (by simp) rfl
      have q2 := hS.c0 q1
      subst q2
      have HI : Hid (∀ w', Keep [] W w' → I76 w0 st b A0 A1 (pt b0) (pt b1) P2 (L.setIfInBounds 1 true) (F76 A0 A1 (pt b0) (pt b1) P2 v5 v6 v7 (.agg (inB b).toArray) (enc32 (sched b)) v21 v22) w') := Lib.hid (fun w' k => I76.mk (hS.s1.grow k))
      simp only [F76] at HI ⊢
      go_simp
      go_at_call 121
      refine (sched_any b W hl hb).mono ?_
      rintro e w' ⟨rfl, hk⟩
      exact HI.out w' hk
    · obtain rfl := Option.some.inj (hoi.symm.trans op76_2)
      refine ⟨rfl, ?_⟩
      have HI : Hid (∀ w', Keep [] W w' → I76 w0 st b A0 A1 (pt b0) (pt b1) P2 (L.setIfInBounds 2 true) (F76 A0 A1 (pt b0) (pt b1) P2 v5 v6 v7 v19 v20 (enc32 kTab) v22) w') := Lib.hid (fun w' k => I76.mk (hS.s2.grow k))
      simp only [F76] at HI ⊢
      go_simp
      go_at_call 122
      refine (consts_any W).mono ?_
      rintro e w' ⟨rfl, hk⟩
      exact HI.out w' hk
    · obtain rfl := Option.some.inj (hoi.symm.trans op76_3)
      refine ⟨rfl, ?_⟩
      refine wp_load_row 115 (.tmp 2) rfl b0 (by kernel_rfl) 115 _ (0, 0) _ (hb0.keep hS.kp (by simp)) Tryz.underlying115 rfl (by rw [size115]; simp [inW, hst]) ?_
      show I76 _ _ _ _ _ _ _ _ _ ((F76 _ _ _ _ _ _ _ _ _ _ _ _).put (some 22) _) _
      rw [put76_22]
      exact I76.mk hS.s3
    · obtain rfl := Option.some.inj (hoi.symm.trans op76_4)
      refine ⟨rfl, ?_⟩
      have HI := Lib.hid (I76.mk (A0 := A0) (A1 := A1) (P0 := pt b0) (P1 := pt b1) (P2 := P2) (hS.s4 hZ hun))
      simp only [F76] at HI ⊢
      go_simp
      exact HI.out
    · obtain rfl := Option.some.inj (hoi.symm.trans op76_5)
      refine ⟨rfl, ?_⟩
      have HI := Lib.hid (I76.mk (A0 := A0) (A1 := A1) (P0 := pt b0) (P1 := pt b1) (P2 := P2) (hS.s5 hZ hun))
      simp only [F76] at HI ⊢
      go_simp
      exact HI.out
    · obtain rfl := Option.some.inj (hoi.symm.trans op76_6)
      refine ⟨rfl, ?_⟩
      have HI := Lib.hid (I76.mk (A0 := A0) (A1 := A1) (P0 := pt b0) (P1 := pt b1) (P2 := P2) (hS.s6 (Z := (inW (List.replicate 8 0)).toArray) rfl hun))
      simp only [F76] at HI ⊢
      go_simp
      exact HI.out
    · obtain rfl := Option.some.inj (hoi.symm.trans op76_7)
      refine ⟨rfl, ?_⟩
      have q1 : L.getD 1 false = true := hall ⟨1, .data⟩ (Array.mem_of_getElem? (i := 1) rfl) rfl
      have q2 := hS.c1 q1
      subst q2
      have q4 : L.getD 4 false = true := hall ⟨4, .data⟩ (Array.mem_of_getElem? (i := 0) rfl) rfl
      obtain ⟨g, cs, q6, hbk, hn, h2⟩ := hS.s7 q4
      subst q6
      have hsz : (inW (sched b)).toArray.size = 64 := by simp [inW, sched_len]
      have hone := all_oneCell_toArray (inW_one (sched b))
      have HI := I76.mk (A0 := A0) (A1 := A1) (P0 := pt b0) (P1 := pt b1) (P2 := P2) h2
      have e5 := ev76_5 A0 A1 (pt b0) (pt b1) P2 (pt g) v6 v7 v19 (enc32 (sched b)) v21 v22
      have e20 : (F76 A0 A1 (pt b0) (pt b1) P2 (pt g) v6 v7 v19 (enc32 (sched b)) v21 v22).eval (.tmp 20) = .agg (inW (sched b)).toArray := by rw [ev76_20]; rfl
      have hp := put76_no A0 A1 (pt b0) (pt b1) P2 (pt g) v6 v7 v19 (enc32 (sched b)) v21 v22 undef
      have hi : (Tryz.prog.info? 179).map (·.size) = some (inW (sched b)).toArray.size := by rw [hsz]; exact size179
      have ho : cs.size = (inW (sched b)).toArray.size := by rw [hn, hsz]
      generalize F76 A0 A1 (pt b0) (pt b1) P2 (pt g) v6 v7 v19 (enc32 (sched b)) v21 v22 = a at *
      refine wp_store_row (P := Tryz.prog) 179 (.tmp 5) (.tmp 20) rfl g _ e5 e20 179 cs hbk hi ho hone ?_
      show I76 _ _ _ _ _ _ _ _ _ (a.put none undef) _
      rw [hp]
      exact HI
    · obtain rfl := Option.some.inj (hoi.symm.trans op76_8)
      refine ⟨rfl, ?_⟩
      have q1 : L.getD 2 false = true := hall ⟨2, .data⟩ (Array.mem_of_getElem? (i := 1) rfl) rfl
      have q2 := hS.c2 q1
      subst q2
      have q4 : L.getD 5 false = true := hall ⟨5, .data⟩ (Array.mem_of_getElem? (i := 0) rfl) rfl
      obtain ⟨g, cs, q6, hbk, hn, h2⟩ := hS.s8 q4
      subst q6
      have hsz : (inW kTab).toArray.size = 64 := rfl
      have hone := all_oneCell_toArray (inW_one kTab)
      have HI := I76.mk (A0 := A0) (A1 := A1) (P0 := pt b0) (P1 := pt b1) (P2 := P2) h2
      have e5 := ev76_6 A0 A1 (pt b0) (pt b1) P2 v5 (pt g) v7 v19 v20 (enc32 kTab) v22
      have e20 : (F76 A0 A1 (pt b0) (pt b1) P2 v5 (pt g) v7 v19 v20 (enc32 kTab) v22).eval (.tmp 21) = .agg (inW kTab).toArray := by rw [ev76_21]; rfl
      have hp := put76_no A0 A1 (pt b0) (pt b1) P2 v5 (pt g) v7 v19 v20 (enc32 kTab) v22 undef
      have hi : (Tryz.prog.info? 179).map (·.size) = some (inW kTab).toArray.size := by rw [hsz]; exact size179
      have ho : cs.size = (inW kTab).toArray.size := by rw [hn, hsz]
      generalize F76 A0 A1 (pt b0) (pt b1) P2 v5 (pt g) v7 v19 v20 (enc32 kTab) v22 = a at *
      refine wp_store_row (P := Tryz.prog) 179 (.tmp 6) (.tmp 21) rfl g _ e5 e20 179 cs hbk hi ho hone ?_
      show I76 _ _ _ _ _ _ _ _ _ (a.put none undef) _
      rw [hp]
      exact HI
    · obtain rfl := Option.some.inj (hoi.symm.trans op76_9)
      refine ⟨rfl, ?_⟩
      have q1 : L.getD 3 false = true := hall ⟨3, .data⟩ (Array.mem_of_getElem? (i := 1) rfl) rfl
      have q2 := hS.c3 q1
      subst q2
      have q4 : L.getD 6 false = true := hall ⟨6, .data⟩ (Array.mem_of_getElem? (i := 0) rfl) rfl
      obtain ⟨g, cs, q6, hbk, hn, h2⟩ := hS.s9 q4 hst
      subst q6
      have hsz : (inW st).toArray.size = 8 := by simp [inW, hst]
      have hone := all_oneCell_toArray (inW_one st)
      have HI := I76.mk (A0 := A0) (A1 := A1) (P0 := pt b0) (P1 := pt b1) (P2 := P2) h2
      have e5 := ev76_7 A0 A1 (pt b0) (pt b1) P2 v5 v6 (pt g) v19 v20 v21 (enc32 st)
      have e20 : (F76 A0 A1 (pt b0) (pt b1) P2 v5 v6 (pt g) v19 v20 v21 (enc32 st)).eval (.tmp 22) = .agg (inW st).toArray := by rw [ev76_22]; rfl
      have hp := put76_no A0 A1 (pt b0) (pt b1) P2 v5 v6 (pt g) v19 v20 v21 (enc32 st) undef
      have hi : (Tryz.prog.info? 115).map (·.size) = some (inW st).toArray.size := by rw [hsz]; exact size115
      have ho : cs.size = (inW st).toArray.size := by rw [hn, hsz]
      generalize F76 A0 A1 (pt b0) (pt b1) P2 v5 v6 (pt g) v19 v20 v21 (enc32 st) = a at *
      refine wp_store_row (P := Tryz.prog) 115 (.tmp 7) (.tmp 22) rfl g _ e5 e20 115 cs hbk hi ho hone ?_
      show I76 _ _ _ _ _ _ _ _ _ (a.put none undef) _
      rw [hp]
      exact HI
    · cases hoi
  · rintro L a W hL ⟨v5, v6, v7, v19, v20, v21, v22, rfl, hS⟩
    have l := fun i (h : i < 10) => hL i h
    obtain ⟨g5, cs5, rfl, h5, hb5, _, hc5⟩ := hS.c4 (l 4 (by decide))
    obtain ⟨g6, cs6, rfl, h6, hb6, _, hc6⟩ := hS.c5 (l 5 (by decide))
    obtain ⟨g7, cs7, rfl, h7, hb7, _, hc7⟩ := hS.c6 (l 6 (by decide))
    obtain rfl := hc5 (l 7 (by decide))
    obtain rfl := hc6 (l 8 (by decide))
    obtain rfl := hc7 (l 9 (by decide))
    obtain rfl := hS.c0 (l 0 (by decide))
    obtain rfl := hS.c1 (l 1 (by decide))
    obtain rfl := hS.c2 (l 2 (by decide))
    obtain rfl := hS.c3 (l 3 (by decide))
    exact hQ g5 g6 g7 W h5 h6 h7 hb5 hb6 hb7 hS.kp (fun e => hS.d (l 4 (by decide)) (l 5 (by decide)) (by rw [e]))
end Go.Proofs.YtdnaahbhfjclpaaGreatDoor

