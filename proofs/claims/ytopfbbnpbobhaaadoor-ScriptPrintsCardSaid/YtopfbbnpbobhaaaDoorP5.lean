/- slices.Repeat of one byte. -/
import Derived.Test.YtopfbbnpbobhaaaDoorP1
import Derived.Test.YtopfbbnpbobhaaaDoorShelf
import Derived.Laws.CopyOwn
import Derived.Laws.CopyRow
import Derived.LoopTactic
import Derived.Deep.LoopGhost
import Derived.BigQuiet
set_option linter.unusedVariables false
set_option linter.unusedSimpArgs false
namespace Go.Proofs.YtopfbbnpbobhaaaDoor
open Go.RowKit Go.Sal

theorem info5 : (Tryd.prog.info? 5).map (fun i => (i.zero, i.size, i.bytes)) = some (some (.int .u8 0), 1, 1) := by kernel_rfl
theorem wp_copy2 {P : Program} {w w' : World} {o : Oper} {a : Act} {Q : Exit → Act → World → Prop} {v1 v2 r : Value} {t1 t2 : TypeId} {K : Act → World → Prop} (s x : Operand) (ho : o.op = .call { callee := .builtin .copy, args := #[s, x], argTypes := #[t1, t2] })
    (hs : a.eval s = v1) (hx : a.eval x = v2) (hrun : (Builtin.copy_ #[t1, t2] o.type #[v1, v2]).run P w = .ok r w') (h : K (a.put o.dst r) w') : o.wp P a w K Q := by
  unfold Oper.wp execOp
  simp only [ho, resolve, invoke, builtin, Sem.run_bind, Sem.run_pure, Result.andThen_ok, List.map_toArray, List.map_cons, List.map_nil, hs, hx, hrun]
  exact h
theorem info5p : ∃ i, Tryd.prog.info? 5 = some i ∧ i.zero = some (.int .u8 0) ∧ i.size = 1 ∧ i.bytes = 1 := by
  cases hx : Tryd.prog.info? 5 with
  | none => have := info5; rw [hx] at this; cases this
  | some i =>
    have := info5
    rw [hx] at this
    simp only [Option.map_some, Option.some.injEq, Prod.mk.injEq] at this
    exact ⟨i, rfl, this.1, this.2.1, this.2.2⟩
/-- make([]byte, n) -/
theorem wpList_make_bytes {w : World} {ops : Array Oper} {rest : List Oper} {o : Oper} {a : Act} {Q : Exit → Act → World → Prop} (n : Nat)
    (hg : o.guard = none) (l c : Operand) (hop : o.op = Op.makeSlice 22 l c) (hl : a.eval l = .int .i64 (n : Int)) (hc : a.eval c = .int .i64 (n : Int)) (hn : n ≤ 100000000)
    (hK : ∀ w' cur, w'.heap[w.heap.size]? = some (.cells cur 5 (0, 0)) → n ≤ cur.size → Keep [] w w' → w'.ownsRow w.heap.size 5 1 (.slice (some ⟨w.heap.size, 0, none⟩) n n) n (byteCells (List.replicate n 0)) → wpList Tryd.prog ops Q rest (a.put o.dst (.slice (some ⟨w.heap.size, 0, none⟩) n n)) w') :
    wpList Tryd.prog ops Q (o :: rest) a w := by
  obtain ⟨i, hi, hz, hs, hby⟩ := info5p
  refine wpList_make_full w hg l c 22 hop w.heap.size 5 i (.int .u8 0) 1 Tryd.underlying22 hi hz hs .i64 .i64 _ _ n hl hc rfl rfl (by rw [hby]; omega) (by unfold maxLen; omega) (Nat.le_refl _) ?_
  intro w' h1 h2
  have e : (madeCells (Value.int .u8 0).cells (n * 1)).toList = byteCells (List.replicate n 0) := by
    apply List.ext_getElem
    · simp [madeCells, byteCells, Value.cells]
    · intro i h1 h2
      simp [madeCells, byteCells, Value.cells, Nat.mod_one]
  rw [e] at h1
  obtain ⟨g', c', cur, hv, hb, hh, hnc, _, hsz, _⟩ : ∃ g' c' cur, Value.slice (some ⟨w.heap.size, 0, none⟩) n n = .slice (some ⟨g', 0, none⟩) n c' ∧ w.heap.size ≤ g' ∧ w'.heap[g']? = some (.cells cur 5 (0, 0)) ∧ n ≤ c' ∧ c' ≤ maxLen ∧ c' * 1 ≤ cur.size ∧ True := by
    rcases h1.2 with ⟨h0, _⟩ | ⟨g', c', cur, hv, hb, hh, h3, h4, h5, _⟩
    · cases h0
    · exact ⟨g', c', cur, hv, hb, hh, h3, h4, by omega, trivial⟩
  injection hv with hv1 _ hv2
  injection hv1 with hv1
  injection hv1 with hv1
  subst hv1
  exact hK w' cur hh (by omega) ((Keep.refl [] w).grown h2 (fun k hk => by cases hk)) h1
/-- the cells of the new row -/
structure Row (w : World) (g N k : Nat) (x : Value) (wr : World) (cur : Array Value) : Prop where
  heap : wr.heap[g]? = some (.cells cur 5 (0, 0))
  size : N ≤ cur.size
  old : ∀ j, j < k → cur[j]? = some x
  keep : Keep [] w wr
theorem Row.copy {w wr : World} {g N k : Nat} {x : Value} {cur : Array Value} (h : Row w g N k x wr cur) (hg : w.heap.size ≤ g) (m : Nat) (hm : k + m ≤ N) :
    Row w g N (k + m) x (wr.setRow g (cur.toList.take k ++ List.replicate m x ++ cur.toList.drop (k + (List.replicate m x).length)).toArray) (cur.toList.take k ++ List.replicate m x ++ cur.toList.drop (k + (List.replicate m x).length)).toArray := by
  have hs := h.size
  refine ⟨setRow_heap wr g _ _ 5 _ h.heap, ?_, fun j hj => ?_, ?_⟩
  · simp
    omega
  · have hl : (cur.toList.take k).length = k := by simp; omega
    rw [List.getElem?_toArray]
    rw [List.append_assoc]
    rcases Nat.lt_or_ge j k with h1 | h1
    · rw [List.getElem?_append_left (by omega), List.getElem?_take_of_lt h1]
      have := h.old j h1
      simpa using this
    · rw [List.getElem?_append_right (by omega), List.getElem?_append_left (by simp; omega)]
      rw [List.getElem?_replicate, if_pos (by omega)]
  · exact ⟨h.keep.os, h.keep.tape, h.keep.output, by simpa [World.setRow] using h.keep.size, fun i hi _ => (setRow_other wr g i _ (by omega)).trans (h.keep.block i hi (by simp))⟩
theorem Row.copy_run {w wr : World} {g N k : Nat} {x : Value} {cur : Array Value} (h : Row w g N k x wr cur) (hg : w.heap.size ≤ g) (m : Nat) (hm : k + m ≤ N) (hx : x.oneCell' = true) (dLen dCap : Nat) (a : Addr) (sLen sCap : Nat) (hmin : m = Nat.min sLen dLen)
    (hsrc : ∀ j, j < m → wr.cell? (a.add j) = some x) : ∃ w2 cur2, (Builtin.copy_ #[22, 22] 3 #[.slice (some ⟨g, k, none⟩) dLen dCap, .slice (some a) sLen sCap]).run Tryd.prog wr = .ok (.int .i64 (m : Int)) w2 ∧ Hid (Row w g N (k + m) x w2 cur2) := by
  have hs := h.size
  refine ⟨_, _, (run_copy_row (P := Tryd.prog) wr 22 22 3 5 g k dLen dCap a sLen sCap cur 5 (List.replicate m x) Tryd.underlying22 (by kernel_rfl) h.heap (by simpa using hmin) ?_ (by simp; omega) ?_).trans ?_, Lib.hid (h.copy hg m hm)⟩
  · intro j v hj
    rw [List.getElem?_replicate] at hj
    split at hj
    · cases hj
      exact hsrc j ‹_›
    · cases hj
  · intro v hv
    rw [(List.mem_replicate.1 hv).2]
    exact hx
  · simp [goInt]
theorem Row.cell {w wr : World} {g N k : Nat} {x : Value} {cur : Array Value} (h : Row w g N k x wr cur) {j : Nat} (hj : j < k) : wr.cell? ⟨g, j, none⟩ = some x := by
  rw [cell_of_row wr g j cur 5 (0, 0) h.heap]
  exact h.old j hj
theorem Row.drew {w wr : World} {g N k : Nat} {x : Value} {cur : Array Value} (h : Row w g N k x wr cur) : Row w g N k x wr.drew cur := ⟨h.heap, h.size, h.old, h.keep.drew⟩
set_option maxRecDepth 20000 in
set_option maxHeartbeats 4000000 in
theorem repeat_any (g o cp N : Nat) (x : UInt8) (w : World) (hcp : 1 ≤ cp) (hN : 1 ≤ N) (hN2 : N ≤ 10000000) (hc : w.cell? ⟨g, o, none⟩ = some (.int .u8 (x.toNat : Int))) :
    Calls Tryd.prog 39 #[.slice (some ⟨g, o, none⟩) 1 cp, .int .i64 N] w fun e w' => ∃ g', e = .returned (.slice (some ⟨g', 0, none⟩) N N) ∧ w.heap.size ≤ g' ∧ Keep [] w w' ∧ (∀ j, j < N → w'.cell? ⟨g', j, none⟩ = some (.int .u8 (x.toNat : Int))) := by
  have hge : ¬ (N : Int) < 0 := by omega
  have hm1 : (1 * N / 18446744073709551616 : Nat) = 0 := by omega
  have hm2 : (1 * N % 18446744073709551616 : Nat) = N := by omega
  have hlt : g < w.heap.size := World.block_lt_of_cell? _ _ hc
  have hwr : IntKind.u64.wrap (N : Int) = N := by rw [IntKind.wrap_u64]; omega
  have hwr2 : IntKind.i64.wrap (N : Int) = N := by rw [IntKind.wrap_i64]; omega
  have Hc := Lib.hid hc
  have Hlt := Lib.hid hlt
  clear hc hlt
  have hmul : ∀ W, Calls Tryd.prog 42 #[.int .u64 1, .int .u64 N] W fun e w' => e = .returned (.tuple #[.int .u64 0, .int .u64 N]) ∧ W = w' := fun W => by
    have := (Tryd.bits_Mul 1 N (by omega) (by omega) W).mono (fun e w2 (h : _ ∧ _) => (⟨h.1, h.2.symm⟩ : _ ∧ W = w2))
    rw [hm1, hm2] at this
    exact this
  have Hmul := Lib.hid hmul
  clear hmul hm1 hm2
  have hbig : ¬ (9223372036854775807 : Int) < (N : Int) := by omega
  go_enter Tryd.func39, Tryd.ntmps39
  go_wp2_with (first
    | (go_at_call 42; refine (Hmul.out _).mono ?_; rintro e w' ⟨rfl, rfl⟩)
    | (at_make; refine wpList_make_bytes N rfl (.tmp 29) (.tmp 29) rfl rfl rfl (by omega) ?_; intro w1 cur hh1 hsz1 hk1 hown1;
        obtain ⟨w2, cur2, hcp, hR⟩ := Row.copy_run (w := w) (wr := w1) (g := w.heap.size) (N := N) (k := 0) (x := .int .u8 (x.toNat : Int)) (cur := cur) ⟨hh1, hsz1, fun j hj => absurd hj (Nat.not_lt_zero j), hk1⟩ (Nat.le_refl _) 1 (by omega) rfl N N ⟨g, o, none⟩ 1 cp (by simp [Nat.min_def]; omega) (fun j hj => by
          obtain rfl : j = 0 := by omega
          exact (hk1.cell (p := ⟨g, o, none⟩) Hlt.out (by simp)).trans Hc.out); clear hh1 hsz1 hown1))
  clear hcp
  go_loopw [8] (fun n wr => ∃ (k : Nat) (cur : Array Value), n = .int .i64 k ∧ 1 ≤ k ∧ k ≤ N ∧ Hid (Row w w.heap.size N k (.int .u8 (x.toNat : Int)) wr cur)) (fun n _ => N - (intOf n).toNat)
  case atStart => exact ⟨1, cur2, rfl, by omega, by omega, hR⟩
  case round =>
    obtain ⟨k, cu, rfl, hk1', hk2', hR2⟩ := hrel
    rcases Nat.lt_or_ge k N with hlt | hge
    · have hlt' : (k : Int) < (N : Int) := by omega
      have hsl1 : ∀ W, (Instr.slice 22 (.slice (some ⟨w.heap.size, 0, none⟩) N N) (some (.int .i64 (k : Int))) none none).run Tryd.prog W = .ok (.slice (some ⟨w.heap.size, k, none⟩) (N - k) (N - k)) W := fun W => by
        rw [slice_tail (P := Tryd.prog) 22 5 Tryd.underlying22 (some ⟨w.heap.size, 0, none⟩) N N k hk2' W 1 (by kernel_rfl), if_neg (by omega)]
        simp [add_mk]
      have hsl2 : ∀ W, (Instr.slice 22 (.slice (some ⟨w.heap.size, 0, none⟩) N N) none (some (.int .i64 (k : Int))) none).run Tryd.prog W = .ok (.slice (some ⟨w.heap.size, 0, none⟩) k N) W := fun W =>
        slice_head (P := Tryd.prog) 22 5 Tryd.underlying22 (some ⟨w.heap.size, 0, none⟩) N N k hk2' W 1 (by kernel_rfl)
      obtain ⟨m, hm⟩ : ∃ m, m = Nat.min k (N - k) := ⟨_, rfl⟩
      have hm1 : 1 ≤ m := by rw [hm]; simp [Nat.min_def]; split <;> omega
      have hm2 : m ≤ k := by rw [hm]; exact Nat.min_le_left _ _
      have hm3 : k + m ≤ N := by
        have : m ≤ N - k := by rw [hm]; exact Nat.min_le_right _ _
        omega
      obtain ⟨w4, cur4, hcp, hR4⟩ := Row.copy_run hR2.out.drew (Nat.le_refl _) m hm3 rfl (N - k) (N - k) ⟨w.heap.size, 0, none⟩ k N hm (fun j hj => by
        rw [add_mk, Nat.zero_add]
        exact hR2.out.drew.cell (by omega))
      have hw : IntKind.i64.wrap ((k : Int) + (m : Int)) = (k : Int) + (m : Int) := by rw [IntKind.wrap_i64]; omega
      clear hm
      go_wp2
      refine wp_region_G (fun _ => True) [7] #[false, false, false, false, false, false, false, false, false, false] 10 (by kernel_rfl) (by kernel_rfl) (by kernel_rfl) ?_
      refine wpAnyG_take0 (i := 0) (oi := { dst := some 38, op := Go.Op.move (Go.Operand.tmp 8), type := 3, pos := "slices.go:528", after := #[], guard := none }) (v := ?vg1_0) rfl (by kernel_rfl) (by kernel_rfl) (by kernel_rfl) (by kernel_rfl) (fun _ _ _ h => h) (fun _ => trivial) (Or.inl ⟨by rfl, ?hg1_0⟩) ?_
      case hg1_0 => intro w _; go_simp; (try with_reducible rfl)
      try simp only [Act.put, List.setIfInBounds_toArray, List.set_cons_zero, List.set_cons_succ]
      refine wpAnyG_take0 (i := 1) (oi := { dst := some 39, op := Go.Op.move (Go.Operand.tmp 7), type := 22, pos := "slices.go:528", after := #[], guard := none }) (v := ?vg1_1) rfl (by kernel_rfl) (by kernel_rfl) (by kernel_rfl) (by kernel_rfl) (fun _ _ _ h => h) (fun _ => trivial) (Or.inl ⟨by rfl, ?hg1_1⟩) ?_
      case hg1_1 => intro w _; go_simp; (try with_reducible rfl)
      try simp only [Act.put, List.setIfInBounds_toArray, List.set_cons_zero, List.set_cons_succ]
      refine wpAnyG_take0 (i := 2) (oi := { dst := some 40, op := Go.Op.move (Go.Operand.tmp 8), type := 3, pos := "slices.go:528", after := #[], guard := none }) (v := ?vg1_2) rfl (by kernel_rfl) (by kernel_rfl) (by kernel_rfl) (by kernel_rfl) (fun _ _ _ h => h) (fun _ => trivial) (Or.inl ⟨by rfl, ?hg1_2⟩) ?_
      case hg1_2 => intro w _; go_simp; (try with_reducible rfl)
      try simp only [Act.put, List.setIfInBounds_toArray, List.set_cons_zero, List.set_cons_succ]
      refine wpAnyG_take0 (i := 3) (oi := { dst := some 41, op := Go.Op.slice 22 (Go.Operand.tmp 39) (some (Go.Operand.tmp 40)) none none, type := 22, pos := "slices.go:528", after := #[{ on := 1, ground := Go.Ground.data }, { on := 2, ground := Go.Ground.data }], guard := none }) (v := ?vg1_3) rfl (by kernel_rfl) (by kernel_rfl) (by kernel_rfl) (by kernel_rfl) (fun _ _ _ h => h) (fun _ => trivial) (Or.inl ⟨by rfl, ?hg1_3⟩) ?_
      case hg1_3 => intro w _; go_simp; (try with_reducible rfl)
      try simp only [Act.put, List.setIfInBounds_toArray, List.set_cons_zero, List.set_cons_succ]
      refine wpAnyG_take0 (i := 4) (oi := { dst := some 42, op := Go.Op.move (Go.Operand.tmp 7), type := 22, pos := "slices.go:528", after := #[], guard := none }) (v := ?vg1_4) rfl (by kernel_rfl) (by kernel_rfl) (by kernel_rfl) (by kernel_rfl) (fun _ _ _ h => h) (fun _ => trivial) (Or.inl ⟨by rfl, ?hg1_4⟩) ?_
      case hg1_4 => intro w _; go_simp; (try with_reducible rfl)
      try simp only [Act.put, List.setIfInBounds_toArray, List.set_cons_zero, List.set_cons_succ]
      refine wpAnyG_take0 (i := 5) (oi := { dst := some 43, op := Go.Op.move (Go.Operand.tmp 8), type := 3, pos := "slices.go:528", after := #[], guard := none }) (v := ?vg1_5) rfl (by kernel_rfl) (by kernel_rfl) (by kernel_rfl) (by kernel_rfl) (fun _ _ _ h => h) (fun _ => trivial) (Or.inl ⟨by rfl, ?hg1_5⟩) ?_
      case hg1_5 => intro w _; go_simp; (try with_reducible rfl)
      try simp only [Act.put, List.setIfInBounds_toArray, List.set_cons_zero, List.set_cons_succ]
      refine wpAnyG_take0 (i := 6) (oi := { dst := some 44, op := Go.Op.slice 22 (Go.Operand.tmp 42) none (some (Go.Operand.tmp 43)) none, type := 22, pos := "slices.go:528", after := #[{ on := 4, ground := Go.Ground.data }, { on := 5, ground := Go.Ground.data }], guard := none }) (v := ?vg1_6) rfl (by kernel_rfl) (by kernel_rfl) (by kernel_rfl) (by kernel_rfl) (fun _ _ _ h => h) (fun _ => trivial) (Or.inl ⟨by rfl, ?hg1_6⟩) ?_
      case hg1_6 => intro w _; go_simp; (try with_reducible rfl)
      try simp only [Act.put, List.setIfInBounds_toArray, List.set_cons_zero, List.set_cons_succ]
      refine wpAnyG_step (i := 7) (oi := { dst := some 45, op := Go.Op.call { callee := Go.Callee.builtin Go.Builtin.copy, args := #[Go.Operand.tmp 41, Go.Operand.tmp 44], argTypes := #[22, 22] }, type := 3, pos := "slices.go:528", after := #[{ on := 3, ground := Go.Ground.data }, { on := 6, ground := Go.Ground.data }], guard := none }) rfl (by kernel_rfl) (by rfl) (fun K hK => ?_)
      refine wp_copy2 (.tmp 41) (.tmp 44) rfl rfl rfl hcp ?_
      refine hK _ _ (fun h => absurd h (Bool.eq_false_iff.1 (by kernel_rfl))) (fun _ => ?_)
      clear hK
      try simp only [Act.put, List.setIfInBounds_toArray, List.set_cons_zero, List.set_cons_succ]
      refine wpAnyG_take0 (i := 8) (oi := { dst := some 46, op := Go.Op.binOp Go.BinOp.add 3 (Go.Operand.tmp 38) (Go.Operand.tmp 45) 3, type := 3, pos := "slices.go:528", after := #[{ on := 0, ground := Go.Ground.data }, { on := 7, ground := Go.Ground.data }], guard := none }) (v := ?vg1_8) rfl (by kernel_rfl) (by kernel_rfl) (by kernel_rfl) (by kernel_rfl) (fun _ _ _ h => h) (fun h => absurd h (Bool.eq_false_iff.1 (by kernel_rfl))) (Or.inl ⟨by rfl, ?hg1_8⟩) ?_
      case hg1_8 => intro w _; go_simp; (try with_reducible rfl)
      try simp only [Act.put, List.setIfInBounds_toArray, List.set_cons_zero, List.set_cons_succ]
      refine wpAnyG_take0 (i := 9) (oi := { dst := some 8, op := Go.Op.assign (Go.Operand.tmp 46), type := 3, pos := "slices.go:528", after := #[{ on := 8, ground := Go.Ground.data }, { on := 7, ground := Go.Ground.chain }, { on := 0, ground := Go.Ground.phase }, { on := 1, ground := Go.Ground.phase }, { on := 2, ground := Go.Ground.phase }, { on := 3, ground := Go.Ground.phase }, { on := 4, ground := Go.Ground.phase }, { on := 5, ground := Go.Ground.phase }, { on := 6, ground := Go.Ground.phase }, { on := 7, ground := Go.Ground.phase }, { on := 8, ground := Go.Ground.phase }], guard := none }) (v := ?vg1_9) rfl (by kernel_rfl) (by kernel_rfl) (by kernel_rfl) (by kernel_rfl) (fun _ _ _ h => h) (fun h => absurd h (Bool.eq_false_iff.1 (by kernel_rfl))) (Or.inl ⟨by rfl, ?hg1_9⟩) ?_
      case hg1_9 => intro w _; go_simp; (try with_reducible rfl)
      try simp only [Act.put, List.setIfInBounds_toArray, List.set_cons_zero, List.set_cons_succ]
      refine wpAnyG_done (by kernel_rfl) ?_ _
      go_wp2
      go_roundw
      case rel => exact ⟨k + m, cur4, by simp, by omega, by omega, hR4⟩
      case measure => simp [intOf]; omega
    · obtain rfl : k = N := by omega
      go_wp2
      go_ret
      exact ⟨w.heap.size, rfl, Nat.le_refl _, hR2.out.keep, fun j hj => hR2.out.cell hj⟩
end Go.Proofs.YtopfbbnpbobhaaaDoor
