/- A token's symbol, and its distance's. -/
import Derived.Test.YtdnaahbhfjclpaaGreatDoorWc
import Derived.Test.YtdnaahbhfjclpaaGreatDoorR3
import Derived.Test.YtdnaahbhfjclpaaGreatDoorShelf
import Derived.Laws.CopyOwn
import Derived.Laws.CopyRow
import Derived.LoopTactic
import Derived.Deep.LoopGhost
import Derived.BigQuiet
import Derived.Test.YtdnaahbhfjclpaaGreatDoorS5
import Derived.Test.YtdnaahbhfjclpaaGreatDoorCp1
import Derived.Laws.StructEq
set_option linter.unusedVariables false
set_option linter.unusedSimpArgs false
namespace Go.Proofs.YtdnaahbhfjclpaaGreatDoor
open Go.RowKit Go.Sal Go.Huf
theorem info3r : (Tryz.prog.info? 3).map (fun i => (i.zero, i.size, i.bytes)) = some (some (.int .i64 0), 1, 8) := by kernel_rfl
theorem wp_copy2 {P : Program} {w w' : World} {o : Oper} {a : Act} {Q : Exit → Act → World → Prop} {v1 v2 r : Value} {t1 t2 : TypeId} {K : Act → World → Prop} (s x : Operand) (ho : o.op = .call { callee := .builtin .copy, args := #[s, x], argTypes := #[t1, t2] })
    (hs : a.eval s = v1) (hx : a.eval x = v2) (hrun : (Builtin.copy_ #[t1, t2] o.type #[v1, v2]).run P w = .ok r w') (h : K (a.put o.dst r) w') : o.wp P a w K Q := by
  unfold Oper.wp execOp
  simp only [ho, resolve, invoke, builtin, Sem.run_bind, Sem.run_pure, Result.andThen_ok, List.map_toArray, List.map_cons, List.map_nil, hs, hx, hrun]
  exact h
theorem info3rp : ∃ i, Tryz.prog.info? 3 = some i ∧ i.zero = some (.int .i64 0) ∧ i.size = 1 ∧ i.bytes = 8 := by
  cases hx : Tryz.prog.info? 3 with
  | none => have := info3r; rw [hx] at this; cases this
  | some i =>
    have := info3r
    rw [hx] at this
    simp only [Option.map_some, Option.some.injEq, Prod.mk.injEq] at this
    exact ⟨i, rfl, this.1, this.2.1, this.2.2⟩
theorem wpList_make_bytes {w : World} {ops : Array Oper} {rest : List Oper} {o : Oper} {a : Act} {Q : Exit → Act → World → Prop} (n : Nat)
    (hg : o.guard = none) (l c : Operand) (hop : o.op = Op.makeSlice 140 l c) (hl : a.eval l = .int .i64 (n : Int)) (hc : a.eval c = .int .i64 (n : Int)) (hn : n ≤ 100000000)
    (hK : ∀ w' cur, w'.heap[w.heap.size]? = some (.cells cur 3 (0, 0)) → n ≤ cur.size → Keep [] w w' → w'.ownsRow w.heap.size 3 1 (.slice (some ⟨w.heap.size, 0, none⟩) n n) n (inI (List.replicate n 0)) → wpList Tryz.prog ops Q rest (a.put o.dst (.slice (some ⟨w.heap.size, 0, none⟩) n n)) w') :
    wpList Tryz.prog ops Q (o :: rest) a w := by
  obtain ⟨i, hi, hz, hs, hby⟩ := info3rp
  refine wpList_make_full w hg l c 140 hop w.heap.size 3 i (.int .i64 0) 1 Tryz.underlying140 hi hz hs .i64 .i64 _ _ n hl hc rfl rfl (by rw [hby]; omega) (by unfold maxLen; omega) (Nat.le_refl _) ?_
  intro w' h1 h2
  rw [made_ints] at h1
  obtain ⟨g', c', cur, hv, hb, hh, hnc, _, hsz, _⟩ : ∃ g' c' cur, Value.slice (some ⟨w.heap.size, 0, none⟩) n n = .slice (some ⟨g', 0, none⟩) n c' ∧ w.heap.size ≤ g' ∧ w'.heap[g']? = some (.cells cur 3 (0, 0)) ∧ n ≤ c' ∧ c' ≤ maxLen ∧ c' * 1 ≤ cur.size ∧ True := by
    rcases h1.2 with ⟨h0, _⟩ | ⟨g', c', cur, hv, hb, hh, h3, h4, h5, _⟩
    · cases h0
    · exact ⟨g', c', cur, hv, hb, hh, h3, h4, by omega, trivial⟩
  injection hv with hv1 _ hv2
  injection hv1 with hv1
  injection hv1 with hv1
  subst hv1
  exact hK w' cur hh (by omega) ((Keep.refl [] w).grown h2 (fun k hk => by cases hk)) h1
structure Row (w : World) (g N k : Nat) (x : Value) (wr : World) (cur : Array Value) : Prop where
  heap : wr.heap[g]? = some (.cells cur 3 (0, 0))
  size : N ≤ cur.size
  old : ∀ j, j < k → cur[j]? = some x
  keep : Keep [] w wr
theorem Row.copy {w wr : World} {g N k : Nat} {x : Value} {cur : Array Value} (h : Row w g N k x wr cur) (hg : w.heap.size ≤ g) (m : Nat) (hm : k + m ≤ N) :
    Row w g N (k + m) x (wr.setRow g (cur.toList.take k ++ List.replicate m x ++ cur.toList.drop (k + (List.replicate m x).length)).toArray) (cur.toList.take k ++ List.replicate m x ++ cur.toList.drop (k + (List.replicate m x).length)).toArray := by
  have hs := h.size
  refine ⟨setRow_heap wr g _ _ 3 _ h.heap, ?_, fun j hj => ?_, ?_⟩
  · simp
    omega
  · have hl : (cur.toList.take k).length = k := by simp; omega
    rw [List.getElem?_toArray]
    rw [List.append_assoc]
    rcases Nat.lt_or_ge j k with h1 | h1
    · rw [List.getElem?_append_left (by omega), List.getElem?_take_of_lt h1]
      have := h.old j h1
      simpa using this
    · rw [List.getElem?_append_right (by omega), List.getElem?_append_left (by simp; omega)]
      rw [List.getElem?_replicate, if_pos (by omega)]
  · exact ⟨h.keep.os, h.keep.tape, h.keep.output, by simpa [World.setRow] using h.keep.size, fun i hi _ => (setRow_other wr g i _ (by omega)).trans (h.keep.block i hi (by simp))⟩
theorem Row.copy_run {w wr : World} {g N k : Nat} {x : Value} {cur : Array Value} (h : Row w g N k x wr cur) (hg : w.heap.size ≤ g) (m : Nat) (hm : k + m ≤ N) (hx : x.oneCell' = true) (dLen dCap : Nat) (a : Addr) (sLen sCap : Nat) (hmin : m = Nat.min sLen dLen)
    (hsrc : ∀ j, j < m → wr.cell? (a.add j) = some x) : ∃ w2 cur2, (Builtin.copy_ #[140, 140] 3 #[.slice (some ⟨g, k, none⟩) dLen dCap, .slice (some a) sLen sCap]).run Tryz.prog wr = .ok (.int .i64 (m : Int)) w2 ∧ Hid (Row w g N (k + m) x w2 cur2) := by
  have hs := h.size
  refine ⟨_, _, (run_copy_row (P := Tryz.prog) wr 140 140 3 3 g k dLen dCap a sLen sCap cur 3 (List.replicate m x) Tryz.underlying140 (by kernel_rfl) h.heap (by simpa using hmin) ?_ (by simp; omega) ?_).trans ?_, Lib.hid (h.copy hg m hm)⟩
  · intro j v hj
    rw [List.getElem?_replicate] at hj
    split at hj
    · cases hj
      exact hsrc j ‹_›
    · cases hj
  · intro v hv
    rw [(List.mem_replicate.1 hv).2]
    exact hx
  · simp [goInt]
theorem Row.cell {w wr : World} {g N k : Nat} {x : Value} {cur : Array Value} (h : Row w g N k x wr cur) {j : Nat} (hj : j < k) : wr.cell? ⟨g, j, none⟩ = some x := by
  rw [cell_of_row wr g j cur 3 (0, 0) h.heap]
  exact h.old j hj
theorem Row.drew {w wr : World} {g N k : Nat} {x : Value} {cur : Array Value} (h : Row w g N k x wr cur) : Row w g N k x wr.drew cur := ⟨h.heap, h.size, h.old, h.keep.drew⟩
set_option maxRecDepth 20000 in
set_option maxHeartbeats 4000000 in
theorem repeat_any (g o cp N : Nat) (x : Int) (w : World) (hcp : 1 ≤ cp) (hN : 1 ≤ N) (hN2 : N ≤ 10000000) (hc : w.cell? ⟨g, o, none⟩ = some (.int .i64 x)) :
    Calls Tryz.prog 131 #[.slice (some ⟨g, o, none⟩) 1 cp, .int .i64 N] w fun e w' => ∃ g', e = .returned (.slice (some ⟨g', 0, none⟩) N N) ∧ w.heap.size ≤ g' ∧ Keep [] w w' ∧ (∀ j, j < N → w'.cell? ⟨g', j, none⟩ = some (.int .i64 x)) := by
  have hge : ¬ (N : Int) < 0 := by omega
  have hm1 : (1 * N / 18446744073709551616 : Nat) = 0 := by omega
  have hm2 : (1 * N % 18446744073709551616 : Nat) = N := by omega
  have hlt : g < w.heap.size := World.block_lt_of_cell? _ _ hc
  have hwr : IntKind.u64.wrap (N : Int) = N := by rw [IntKind.wrap_u64]; omega
  have hwr2 : IntKind.i64.wrap (N : Int) = N := by rw [IntKind.wrap_i64]; omega
  have Hc := Lib.hid hc
  have Hlt := Lib.hid hlt
  clear hc hlt
  have hmul : ∀ W, Calls Tryz.prog 152 #[.int .u64 1, .int .u64 N] W fun e w' => e = .returned (.tuple #[.int .u64 0, .int .u64 N]) ∧ W = w' := fun W => by
    have := (Tryz.bits_Mul 1 N (by omega) (by omega) W).mono (fun e w2 (h : _ ∧ _) => (⟨h.1, h.2.symm⟩ : _ ∧ W = w2))
    rw [hm1, hm2] at this
    exact this
  have Hmul := Lib.hid hmul
  clear hmul hm1 hm2
  have hbig : ¬ (9223372036854775807 : Int) < (N : Int) := by omega
  go_enter Tryz.func131, Tryz.ntmps131
  go_wp2_with (first
    | (go_at_call 152; refine (Hmul.out _).mono ?_; rintro e w' ⟨rfl, rfl⟩)
    | (at_make; refine wpList_make_bytes N rfl (.tmp 29) (.tmp 29) rfl rfl rfl (by omega) ?_; intro w1 cur hh1 hsz1 hk1 hown1;
        obtain ⟨w2, cur2, hcp, hR⟩ := Row.copy_run (w := w) (wr := w1) (g := w.heap.size) (N := N) (k := 0) (x := .int .i64 x) (cur := cur) ⟨hh1, hsz1, fun j hj => absurd hj (Nat.not_lt_zero j), hk1⟩ (Nat.le_refl _) 1 (by omega) rfl N N ⟨g, o, none⟩ 1 cp (by simp [Nat.min_def]; omega) (fun j hj => by
          obtain rfl : j = 0 := by omega
          exact (hk1.cell (p := ⟨g, o, none⟩) Hlt.out (by simp)).trans Hc.out); clear hh1 hsz1 hown1))
  clear hcp
  go_loopw [8] (fun n wr => ∃ (k : Nat) (cur : Array Value), n = .int .i64 k ∧ 1 ≤ k ∧ k ≤ N ∧ Hid (Row w w.heap.size N k (.int .i64 x) wr cur)) (fun n _ => N - (intOf n).toNat)
  case atStart => exact ⟨1, cur2, rfl, by omega, by omega, hR⟩
  case round =>
    obtain ⟨k, cu, rfl, hk1', hk2', hR2⟩ := hrel
    rcases Nat.lt_or_ge k N with hlt | hge
    · have hlt' : (k : Int) < (N : Int) := by omega
      have hsl1 : ∀ W, (Instr.slice 140 (.slice (some ⟨w.heap.size, 0, none⟩) N N) (some (.int .i64 (k : Int))) none none).run Tryz.prog W = .ok (.slice (some ⟨w.heap.size, k, none⟩) (N - k) (N - k)) W := fun W => by
        rw [slice_tail (P := Tryz.prog) 140 3 Tryz.underlying140 (some ⟨w.heap.size, 0, none⟩) N N k hk2' W 1 (by kernel_rfl), if_neg (by omega)]
        simp [add_mk]
      have hsl2 : ∀ W, (Instr.slice 140 (.slice (some ⟨w.heap.size, 0, none⟩) N N) none (some (.int .i64 (k : Int))) none).run Tryz.prog W = .ok (.slice (some ⟨w.heap.size, 0, none⟩) k N) W := fun W =>
        slice_head (P := Tryz.prog) 140 3 Tryz.underlying140 (some ⟨w.heap.size, 0, none⟩) N N k hk2' W 1 (by kernel_rfl)
      obtain ⟨m, hm⟩ : ∃ m, m = Nat.min k (N - k) := ⟨_, rfl⟩
      have hm1 : 1 ≤ m := by rw [hm]; simp [Nat.min_def]; split <;> omega
      have hm2 : m ≤ k := by rw [hm]; exact Nat.min_le_left _ _
      have hm3 : k + m ≤ N := by
        have : m ≤ N - k := by rw [hm]; exact Nat.min_le_right _ _
        omega
      obtain ⟨w4, cur4, hcp, hR4⟩ := Row.copy_run hR2.out.drew (Nat.le_refl _) m hm3 rfl (N - k) (N - k) ⟨w.heap.size, 0, none⟩ k N hm (fun j hj => by
        rw [add_mk, Nat.zero_add]
        exact hR2.out.drew.cell (by omega))
      have hw : IntKind.i64.wrap ((k : Int) + (m : Int)) = (k : Int) + (m : Int) := by rw [IntKind.wrap_i64]; omega
      clear hm
      go_wp2
      refine wp_region_G (fun _ => True) [7] #[false, false, false, false, false, false, false, false, false, false] 10 (by kernel_rfl) (by kernel_rfl) (by kernel_rfl) ?_
      refine wpAnyG_take0 (i := 0) (oi := ⟨_, _, _, _, _, _⟩) (v := ?vg1_0) rfl (by kernel_rfl) (by kernel_rfl) (by kernel_rfl) (by kernel_rfl) (fun _ _ _ h => h) (fun _ => trivial) (Or.inl ⟨by rfl, ?hg1_0⟩) ?_
      case hg1_0 => intro w _; go_simp; (try with_reducible rfl)
      try simp only [Act.put, List.setIfInBounds_toArray, List.set_cons_zero, List.set_cons_succ]
      refine wpAnyG_take0 (i := 1) (oi := ⟨_, _, _, _, _, _⟩) (v := ?vg1_1) rfl (by kernel_rfl) (by kernel_rfl) (by kernel_rfl) (by kernel_rfl) (fun _ _ _ h => h) (fun _ => trivial) (Or.inl ⟨by rfl, ?hg1_1⟩) ?_
      case hg1_1 => intro w _; go_simp; (try with_reducible rfl)
      try simp only [Act.put, List.setIfInBounds_toArray, List.set_cons_zero, List.set_cons_succ]
      refine wpAnyG_take0 (i := 2) (oi := ⟨_, _, _, _, _, _⟩) (v := ?vg1_2) rfl (by kernel_rfl) (by kernel_rfl) (by kernel_rfl) (by kernel_rfl) (fun _ _ _ h => h) (fun _ => trivial) (Or.inl ⟨by rfl, ?hg1_2⟩) ?_
      case hg1_2 => intro w _; go_simp; (try with_reducible rfl)
      try simp only [Act.put, List.setIfInBounds_toArray, List.set_cons_zero, List.set_cons_succ]
      refine wpAnyG_take0 (i := 3) (oi := ⟨_, _, _, _, _, _⟩) (v := ?vg1_3) rfl (by kernel_rfl) (by kernel_rfl) (by kernel_rfl) (by kernel_rfl) (fun _ _ _ h => h) (fun _ => trivial) (Or.inl ⟨by rfl, ?hg1_3⟩) ?_
      case hg1_3 => intro w _; go_simp; (try with_reducible rfl)
      try simp only [Act.put, List.setIfInBounds_toArray, List.set_cons_zero, List.set_cons_succ]
      refine wpAnyG_take0 (i := 4) (oi := ⟨_, _, _, _, _, _⟩) (v := ?vg1_4) rfl (by kernel_rfl) (by kernel_rfl) (by kernel_rfl) (by kernel_rfl) (fun _ _ _ h => h) (fun _ => trivial) (Or.inl ⟨by rfl, ?hg1_4⟩) ?_
      case hg1_4 => intro w _; go_simp; (try with_reducible rfl)
      try simp only [Act.put, List.setIfInBounds_toArray, List.set_cons_zero, List.set_cons_succ]
      refine wpAnyG_take0 (i := 5) (oi := ⟨_, _, _, _, _, _⟩) (v := ?vg1_5) rfl (by kernel_rfl) (by kernel_rfl) (by kernel_rfl) (by kernel_rfl) (fun _ _ _ h => h) (fun _ => trivial) (Or.inl ⟨by rfl, ?hg1_5⟩) ?_
      case hg1_5 => intro w _; go_simp; (try with_reducible rfl)
      try simp only [Act.put, List.setIfInBounds_toArray, List.set_cons_zero, List.set_cons_succ]
      refine wpAnyG_take0 (i := 6) (oi := ⟨_, _, _, _, _, _⟩) (v := ?vg1_6) rfl (by kernel_rfl) (by kernel_rfl) (by kernel_rfl) (by kernel_rfl) (fun _ _ _ h => h) (fun _ => trivial) (Or.inl ⟨by rfl, ?hg1_6⟩) ?_
      case hg1_6 => intro w _; go_simp; (try with_reducible rfl)
      try simp only [Act.put, List.setIfInBounds_toArray, List.set_cons_zero, List.set_cons_succ]
      refine wpAnyG_step (i := 7) (oi := ⟨_, _, _, _, _, _⟩) rfl (by kernel_rfl) (by rfl) (fun K hK => ?_)
      refine wp_copy2 (.tmp 41) (.tmp 44) rfl rfl rfl hcp ?_
      refine hK _ _ (fun h => absurd h (Bool.eq_false_iff.1 (by kernel_rfl))) (fun _ => ?_)
      clear hK
      try simp only [Act.put, List.setIfInBounds_toArray, List.set_cons_zero, List.set_cons_succ]
      refine wpAnyG_take0 (i := 8) (oi := ⟨_, _, _, _, _, _⟩) (v := ?vg1_8) rfl (by kernel_rfl) (by kernel_rfl) (by kernel_rfl) (by kernel_rfl) (fun _ _ _ h => h) (fun h => absurd h (Bool.eq_false_iff.1 (by kernel_rfl))) (Or.inl ⟨by rfl, ?hg1_8⟩) ?_
      case hg1_8 => intro w _; go_simp; (try with_reducible rfl)
      try simp only [Act.put, List.setIfInBounds_toArray, List.set_cons_zero, List.set_cons_succ]
      refine wpAnyG_take0 (i := 9) (oi := ⟨_, _, _, _, _, _⟩) (v := ?vg1_9) rfl (by kernel_rfl) (by kernel_rfl) (by kernel_rfl) (by kernel_rfl) (fun _ _ _ h => h) (fun h => absurd h (Bool.eq_false_iff.1 (by kernel_rfl))) (Or.inl ⟨by rfl, ?hg1_9⟩) ?_
      case hg1_9 => intro w _; go_simp; (try with_reducible rfl)
      try simp only [Act.put, List.setIfInBounds_toArray, List.set_cons_zero, List.set_cons_succ]
      refine wpAnyG_done (by kernel_rfl) ?_ _
      go_wp2
      go_roundw
      case rel => exact ⟨k + m, cur4, by simp, by omega, by omega, hR4⟩
      case measure => simp [intOf]; omega
    · obtain rfl : k = N := by omega
      go_wp2
      go_ret
      exact ⟨w.heap.size, rfl, Nat.le_refl _, hR2.out.keep, fun j hj => hR2.out.cell hj⟩
end Go.Proofs.YtdnaahbhfjclpaaGreatDoor

namespace Go.Proofs.YtdnaahbhfjclpaaGreatDoor
open Go.RowKit Go.Sal Go.Huf Go.Cod
def LenR (w : World) (T gl bit : Nat) (r : Option (List Int × List Nat)) (e : Ending) (w' : World) : Prop := match r with
  | some (ls, rest) => ∃ A c, e = .returned (.slice A ls.length c) ∧ w'.ownsRow w.heap.size 3 1 (.slice A ls.length c) ls.length (inI ls) ∧ LF T gl rest bit w' ∧ Keep [gl] w w'
  | none => e = .panicked PN ∧ Keep [gl] w w'
theorem LenR.no {w w' : World} {T gl bit : Nat} {r : Option (List Int × List Nat)} (h : r = none) (k : Keep [gl] w w') : LenR w T gl bit r (.panicked PN) w' := by
  subst h
  exact ⟨rfl, k⟩
theorem LF.keep {T gl bit : Nat} {bl : List Nat} {w w' : World} (h : LF T gl bl bit w) {F : List Nat} (k : Keep F w w') (hg : ∀ i ∈ F, gl < i) : LF T gl bl bit w' := by
  obtain ⟨A, c, h1, h2, h3, h4⟩ := h
  exact ⟨A, c, h1.keep k (fun hm => Nat.lt_irrefl _ (hg _ hm)), h2.keep k (fun a ha hm => by have := hg _ hm; have := h4 a ha; omega), h3, h4⟩
theorem LF.keep0 {T gl bit : Nat} {bl : List Nat} {w w' : World} (h : LF T gl bl bit w) (k : Keep [] w w') : LF T gl bl bit w' := h.keep k (by simp)
theorem rep_append {base n c g' N : Nat} {A : Option Addr} {f : List Int} {x : Int} {w : World} (h : w.ownsRow base 3 1 (.slice A n c) n (inI f)) (hr : ∀ j, j < N → w.cell? ⟨g', j, none⟩ = some (.int .i64 x)) (hn : n + N ≤ 1000000) (hB : base ≤ w.heap.size) :
    ∃ A' c' w', (Builtin.append_ #[140, 140] 140 #[.slice A n c, .slice (some ⟨g', 0, none⟩) N N]).run Tryz.prog w = .ok (.slice A' (n + N) c') w' ∧
      w'.ownsRow base 3 1 (.slice A' (n + N) c') (n + N) (inI (f ++ List.replicate N x)) ∧ Keep (Value.slice A n c).ownBlock.toList w w' := by
  have hs : Src w 1 (some ⟨g', 0, none⟩) N (inI (List.replicate N x)) := by
    refine ⟨by simp [inI], fun _ => ⟨_, rfl, fun j u hu => ?_⟩⟩
    have hj : j < N := by
      have := (List.getElem?_eq_some_iff.1 hu).1
      simpa [inI] using this
    rw [add_mk, Nat.zero_add, hr j hj]
    simpa [inI, hj] using hu
  obtain ⟨v', w', hrun, hown, hg, hat⟩ := run_append_src (P := Tryz.prog) w 140 140 3 (.int .i64 0) 1 8 base Tryz.underlying140 intinfo rfl (by omega) (.slice A n c) n (inI f) h
    (some ⟨g', 0, none⟩) N N _ hs (by intro u hu; obtain ⟨k, _, rfl⟩ := List.mem_map.1 hu; rfl) (by unfold maxLen; omega) (by omega) hB
  obtain ⟨A', c', rfl, _⟩ := own_slice hown
  exact ⟨A', c', w', hrun, by simpa [inI] using hown, (Keep.refl _ w).grown hg (fun k hk => .inl (by simp [hk]))⟩
structure LnS (w : World) (T gl bit n : Nat) (bl0 : List Nat) (out : List Int) (b : List Nat) (A : Option Addr) (m c : Nat) (wr : World) : Prop where
  len : m = out.length
  le : out.length ≤ n
  pure_ : lenP n bl0 = lenF (n - out.length + 1) n out b
  left : LF T gl b bit wr
  own : wr.ownsRow w.heap.size 3 1 (.slice A m c) m (inI out)
  kp : Keep [gl] w wr
  size : b.length ≤ bl0.length
theorem lenF_more : ∀ (f g n : Nat) (out : List Int) (b : List Nat), out.length ≤ n → n - out.length < f → n - out.length < g → lenF f n out b = lenF g n out b
  | 0, _, _, _, _, _, h, _ => by omega
  | f + 1, 0, _, _, _, _, _, h => by omega
  | f + 1, g + 1, n, out, b, h0, hf, hg => by
    unfold lenF
    split
    · cases b with
      | nil => rfl
      | cons x b1 =>
        simp only
        cases rdV 0 b1 with
        | none => rfl
        | some p =>
          obtain ⟨k, u⟩ := p
          simp only
          split
          · rfl
          · rename_i h1 h2
            exact lenF_more f g n _ _ (by simp; omega) (by simp; omega) (by simp; omega)
    · rfl
theorem lf_one {T gl x bit : Nat} {b1 : List Nat} {w : World} (h : LF T gl (x :: b1) bit w) :
    ∃ g o c N A', N = (x :: b1).length ∧ w.cell? ⟨gl, 0, none⟩ = some (.slice (some ⟨g, o, none⟩) N c) ∧ w.frozen? ⟨gl, 0, none⟩ = false ∧ w.cell? ⟨g, o, none⟩ = some (.int .u8 (x : Nat)) ∧ x < 256 ∧
      (∀ W, (Instr.slice 22 (.slice (some ⟨g, o, none⟩) N c) (some (.int .i64 1)) none none).run Tryz.prog W = .ok (.slice A' (N - 1) (c - 1)) W) ∧
      LF T gl b1 bit (w.setCell ⟨gl, 0, none⟩ (.slice A' (N - 1) (c - 1))) ∧ Keep [gl] w (w.setCell ⟨gl, 0, none⟩ (.slice A' (N - 1) (c - 1))) := by
  obtain ⟨A, c, hb, hs, hc, hne⟩ := h
  obtain ⟨g, o, rfl, hg, d0⟩ := hs.1 0 (by simp)
  obtain ⟨t1, t2, t3, t4⟩ := bsrc_tail (k := 1) hs (by simp) hc
  have hst : ∀ W, _ := fun W => slice_tail (P := Tryz.prog) 22 5 Tryz.underlying22 (some ⟨g, o, none⟩) (x :: b1).length c 1 (by simp) W 1 (by kernel_rfl)
  refine ⟨g, o, c, _, _, rfl, hb.cell 0, hb.free 0, by simpa using d0, hs.2 x (by simp), hst, ?_⟩
  generalize (if c = 1 then some (⟨g, o, none⟩ : Addr) else Option.map (fun x : Addr => x.add (1 * 1)) (some ⟨g, o, none⟩)) = A' at *
  have hn' : ∀ a, A' = some a → a.block < gl := fun a ha => by
    obtain ⟨a', h1, h2⟩ := t4 a ha
    rw [h2]
    exact hne a' h1
  have hk : Keep [gl] w (w.setCell ⟨gl, 0, none⟩ (.slice A' ((x :: b1).length - 1) (c - 1))) := (Keep.refl [gl] w).setCell (.inl (by simp)) _
  refine ⟨⟨A', c - 1, ?_, t1.keep hk (fun a ha hm => Nat.ne_of_lt (hn' a ha) (by simpa using hm)), t3, hn'⟩, hk⟩
  have := hb.set_ 0 (.slice A' ((x :: b1).length - 1) (c - 1))
  simpa using this
theorem LF.lt {T gl bit : Nat} {bl : List Nat} {w : World} (h : LF T gl bl bit w) : gl < w.heap.size := by
  obtain ⟨A, c, hb, _⟩ := h
  exact hb.lt
theorem LnS.step {w wr w2 w3 : World} {T gl bit n m c k x u : Nat} {bl0 b1 : List Nat} {out : List Int} {A : Option Addr} {g' : Nat} (h : LnS w T gl bit n bl0 out (x :: b1) A m c wr) (hT : T ≠ 3) (h0 : gl < w.heap.size) (hm : m < n) (hn : n ≤ 512)
    (hr : rdV 0 b1 = some (k, u)) (hk1 : 1 ≤ k) (hk2 : k ≤ n - m) (hl : LF T gl (b1.drop u) bit w2) (hw2 : Keep [gl] wr w2) (hw3 : Keep [] w2 w3) (hc : ∀ j, j < k → w3.cell? ⟨g', j, none⟩ = some (.int .i64 (x : Nat))) :
    ∃ A' c' w4, (Builtin.append_ #[140, 140] 140 #[.slice A m c, .slice (some ⟨g', 0, none⟩) k k]).run Tryz.prog w3 = .ok (.slice A' (m + k) c') w4 ∧ LnS w T gl bit n bl0 (out ++ List.replicate k (x : Int)) (b1.drop u) A' (m + k) c' w4 := by
  have h3 : Keep [gl] wr w3 := hw2.step hw3 (by simp)
  have far := own_far h.own
  have hown := ownsRow_keep h.own h3 (fun g hg hm => by
    have := far g (by rw [hg]; simp)
    simp at hm
    omega)
  obtain ⟨A', c', w4, hrun, hown4, hk4⟩ := rep_append hown hc (by omega) (Nat.le_trans h.kp.size h3.size)
  have hl3 := hl.keep0 hw3
  refine ⟨A', c', w4, hrun, ⟨by rw [h.len]; simp, by have := h.len; simp; omega, ?_, ?_, hown4, ?_, by have := h.size; simp at this ⊢; omega⟩⟩
  · rw [h.pure_, lenF, if_pos (by have := h.len; omega)]
    simp only [hr]
    rw [if_neg (by have := h.len; omega)]
    exact lenF_more _ _ _ _ _ (by have := h.len; simp; omega) (by have := h.len; simp; omega) (by have := h.len; simp)
  · exact hl3.keep hk4 (fun i hi => by have := far i hi; omega)
  · exact (h.kp.trans h3).step hk4 (fun j hj => .inr (far j hj))
set_option maxRecDepth 20000 in
set_option maxHeartbeats 8000000 in
theorem lengths_left (T gl n : Nat) (bl0 : List Nat) (bit : Nat) (w : World) (h : LF T gl bl0 bit w) (hT : T ≠ 3) (hl : bl0.length ≤ 1000000) (hn : n ≤ 512) :
    Calls Tryz.prog 91 #[.pointer (some ⟨gl, 0, none⟩), .int .i64 (n : Nat)] w fun e w' => LenR w T gl bit (lenP n bl0) e w' := by
  have H0 : Hid (LnS w T gl bit n bl0 [] bl0 none 0 0 w ∧ gl < w.heap.size) := Lib.hid ⟨⟨rfl, by simp, by simp [lenP], h, World.ownsRow_nil _ _ _ _, Keep.refl _ _, Nat.le_refl _⟩, h.lt⟩
  clear h
  go_enter Tryz.func91, Tryz.ntmps91
  go_wp2
  go_loopg [5] n (fun gk v5 wr => ∃ (m : Nat) (A : Option Addr) (c : Nat), v5 = .slice A m c ∧ m ≤ n ∧ n ≤ m + gk ∧ Hid (∃ out b, LnS w T gl bit n bl0 out b A m c wr))
  case atStart => exact ⟨0, none, 0, rfl, by omega, by omega, Lib.hid ⟨[], bl0, H0.out.1⟩⟩
  case round =>
    obtain ⟨m, A, c, rfl, hm, hgk, hI⟩ := hrel
    obtain ⟨out, b, hS⟩ := hI.out
    have Hgl := Lib.hid H0.out.2
    clear H0 hI
    rcases Nat.lt_or_ge m n with hmn | hmn
    · have hmi : (m : Int) < n := by omega
      cases b with
      | nil =>
        obtain ⟨A0, c0, hb0, -, -, -⟩ := hS.left
        have m0 : wr.cell? ⟨gl, 0, none⟩ = some (.slice A0 0 c0) := hb0.cell 0
        have HE : Hid (lenP n bl0 = none ∧ Keep [gl] w wr) := Lib.hid ⟨by rw [hS.pure_, lenF, if_pos (by have := hS.len; omega)], hS.kp⟩
        clear hS hb0
        go_wp2_with (first
          | (go_at_call 58; refine (must_no _).mono ?_; rintro e w' ⟨rfl, hk⟩; have Hk := Lib.hid hk; clear hk))
        exact ⟨rfl, LenR.no HE.out.1 (HE.out.2.trans (Hk.out.mono (by simp)))⟩
      | cons x b1 =>
        obtain ⟨g, o, c1, N, A1, hN, m0, f0, d0, hx, hsl, hl1, hk1⟩ := lf_one hS.left
        have hbl : b1.length ≤ 1000000 := by have := hS.size; simp at this; omega
        obtain ⟨d, hd⟩ : ∃ d, d = n - m := ⟨_, rfl⟩
        have hw1 : IntKind.i64.wrap ((n : Int) - (m : Int)) = (d : Int) := by rw [IntKind.wrap_i64]; omega
        have hw2 : IntKind.u64.wrap (d : Int) = (d : Int) := by rw [IntKind.wrap_u64]; omega
        have hw3 : IntKind.i64.wrap (x : Int) = (x : Int) := by rw [IntKind.wrap_i64]; omega
        have hN0 : (0 : Int) < N := by rw [hN]; simp
        have hN1 : 0 < N := by rw [hN]; simp
        have hgt : decide ((N : Int) > 0) = true := decide_eq_true hN0
        clear hN
        rcases hr : rdV 0 b1 with _ | ⟨k, u⟩
        · have HV := Lib.hid (varint_no T gl b1 bit d _ hl1 hbl (by omega) (fun a b h => by rw [hr] at h; cases h))
          have HE : Hid (lenP n bl0 = none ∧ Keep [gl] w wr) := Lib.hid ⟨by rw [hS.pure_, lenF, if_pos (by have := hS.len; omega)]; simp [hr], hS.kp⟩
          clear hS hl1 hr hbl hd
          have Hk1 := Lib.hid hk1
          clear hk1
          go_wp2_with (first
            | (go_at_call 58; refine (must_yes _).mono ?_; rintro e w' ⟨rfl, rfl⟩)
            | (go_at_call 88; refine HV.out.mono ?_; rintro e w' ⟨rfl, hk⟩; have Hk := Lib.hid hk; clear hk))
          exact ⟨rfl, LenR.no HE.out.1 ((HE.out.2.trans Hk1.out).trans (Hk.out.mono (by simp)))⟩
        · rcases Nat.lt_or_ge d k with hkd | hkd
          · have HV := Lib.hid (varint_no T gl b1 bit d _ hl1 hbl (by omega) (fun a b h => by rw [hr] at h; injection h with h; injection h with h1 h2; omega))
            have HE : Hid (lenP n bl0 = none ∧ Keep [gl] w wr) := Lib.hid ⟨by rw [hS.pure_, lenF, if_pos (by have := hS.len; omega)]; simp only [hr]; rw [if_pos (by have := hS.len; omega)], hS.kp⟩
            clear hS hl1 hr hbl hd hkd
            have Hk1 := Lib.hid hk1
            clear hk1
            go_wp2_with (first
              | (go_at_call 58; refine (must_yes _).mono ?_; rintro e w' ⟨rfl, rfl⟩)
              | (go_at_call 88; refine HV.out.mono ?_; rintro e w' ⟨rfl, hk⟩; have Hk := Lib.hid hk; clear hk))
            exact ⟨rfl, LenR.no HE.out.1 ((HE.out.2.trans Hk1.out).trans (Hk.out.mono (by simp)))⟩
          · have HV := Lib.hid (varint_ok T gl b1 bit d k u _ hl1 hbl (by omega) hr hkd)
            have Hk1 := Lib.hid hk1
            rcases Nat.eq_zero_or_pos k with hk0 | hk0
            · have HE : Hid (lenP n bl0 = none ∧ Keep [gl] w wr) := Lib.hid ⟨by rw [hS.pure_, lenF, if_pos (by have := hS.len; omega)]; simp only [hr]; rw [if_pos (by omega)], hS.kp⟩
              subst hk0
              clear hS hl1 hr hbl hd hkd hk1
              go_wp2_with (first
                | (go_at_call 58; refine (must_yes _).mono ?_; rintro e w' ⟨rfl, rfl⟩)
                | (go_at_call 58; refine (must_no _).mono ?_; rintro e w' ⟨rfl, hk⟩; have Hk := Lib.hid hk; clear hk)
                | (go_at_call 88; refine HV.out.mono ?_; rintro e w' ⟨rfl, -, hk⟩; have Hk2 := Lib.hid hk; clear hk))
              exact ⟨rfl, LenR.no HE.out.1 (((HE.out.2.trans Hk1.out).trans Hk2.out).trans (Hk.out.mono (by simp)))⟩
            · have HSt := Lib.hid (fun (w2 w3 : World) (g' : Nat) (hl : LF T gl (b1.drop u) bit w2) (hw2 : Keep [gl] wr w2) (hw3 : Keep [] w2 w3) (hc : ∀ j, j < k → w3.cell? ⟨g', j, none⟩ = some (.int .i64 (x : Nat))) => hS.step hT Hgl.out hmn hn hr hk0 (by omega) hl hw2 hw3 hc)
              have Hrp := Lib.hid (fun (w2 : World) => repeat_any w2.heap.size 0 1 k (x : Int) (w2.alloc (.cells #[.int .i64 (x : Int)] 3)) (Nat.le_refl _) hk0 (by omega) ((Blk.new w2 3 #[.int .i64 (x : Int)]).cell 0))
              have hkb : decide ((k : Int) > 0) = true := decide_eq_true (by omega)
              have hki : (0 : Int) < k := by omega
              have Hkd := Lib.hid (show k ≤ n - m by omega)
              clear hS hl1 hr hbl hd hkd hk1
              go_wp2_with (first
                | (go_at_call 58; refine (must_yes _).mono ?_; rintro e w' ⟨rfl, rfl⟩)
                | (go_at_call 88; refine HV.out.mono ?_; rintro e w2 ⟨rfl, hlf, hk⟩; have HL := Lib.hid hlf; have Hk2 := Lib.hid hk; clear hk hlf)
                | (go_at_call 131; refine (Hrp.out _).mono ?_; rintro e w3 ⟨g', rfl, -, hk, hcs⟩; obtain ⟨A', c', w4, hap, hN⟩ := HSt.out w2 w3 g' HL.out (Hk1.out.trans Hk2.out) (((Keep.refl [] w2).alloc _).trans hk) hcs; have HN := Lib.hid hN; clear hN hk hcs)
                | (at_builtin; refine wpList_append2 (v1 := .slice A m c) (v2 := .slice (some ⟨g', 0, none⟩) k k) rfl (.tmp 44) (.tmp 48) rfl rfl rfl hap ?_))
              have HE := Lib.hid Hkd.out
              go_roundg (gk - 1)
              case rel => exact ⟨_, A', c', rfl, by have := HE.out; omega, by omega, Lib.hid ⟨_, _, HN.out⟩⟩
              case measure => omega
    · obtain rfl : m = n := by omega
      have hlm : out.length = m := hS.len.symm
      have HC := Lib.hid (check_any out A c wr (ISrc.of_own hS.own) (by omega))
      rw [hlm] at HC
      have HS := Lib.hid hS
      clear hS
      by_cases hok : okL out
      · have hE : (chkE out == 0) = true := by simpa [chkE] using hok
        have HE : Hid (lenP m bl0 = some (out, b)) := Lib.hid (by rw [HS.out.pure_]; unfold lenF; rw [if_neg (by omega), if_pos hok])
        clear hok
        go_wp2_with (first
          | (go_at_call 58; refine (must_yes _).mono ?_; rintro e w' ⟨rfl, rfl⟩)
          | (go_at_call 132; refine HC.out.mono ?_; rintro e w' ⟨rfl, hk⟩; have Hk := Lib.hid hk; clear hk))
        go_ret
        have hS := HS.out
        show LenR w T gl bit (lenP m bl0) _ _
        rw [HE.out]
        rw [← hlm]
        exact ⟨A, c, rfl, by have := ownsRow_keep hS.own Hk.out (by simp); rw [hlm]; exact this, hS.left.keep0 Hk.out, hS.kp.trans (Hk.out.mono (by simp))⟩
      · have hE : (chkE out == 0) = false := by simp [chkE, hok]
        have HE : Hid (lenP m bl0 = none) := Lib.hid (by rw [HS.out.pure_]; unfold lenF; rw [if_neg (by omega), if_neg hok])
        clear hok
        go_wp2_with (first
          | (go_at_call 58; refine (must_no _).mono ?_; rintro e w' ⟨rfl, hk⟩; have Hk2 := Lib.hid hk; clear hk)
          | (go_at_call 132; refine HC.out.mono ?_; rintro e w' ⟨rfl, hk⟩; have Hk := Lib.hid hk; clear hk))
        exact ⟨rfl, LenR.no HE.out (((HS.out.kp).trans (Hk.out.mono (by simp))).trans (Hk2.out.mono (by simp)))⟩
end Go.Proofs.YtdnaahbhfjclpaaGreatDoor

namespace Go.Sal
open Go.RowKit
structure KeyLaw (P : Program) (K : TypeId) {κ : Type} [DecidableEq κ] (key : κ → Value) : Prop where
  same : ∀ a, Instr.sameBits 10000 (key a) (key a) = true
  eq : ∀ a b w, (Op.equal K (key a) (key b)).run P w = .ok (decide (a = b)) w
  chk : ∀ e a w, (Instr.checkKey e 10000 K (key a)).run P w = .ok () w
  desc : ∃ d, P.underlying K = some d ∧ ∀ a v, Instr.sameNow d (key a) v = none
section
variable {P : Program} {K t E : TypeId} {κ : Type} [DecidableEq κ] {key : κ → Value}
def klook (l : List (κ × Value)) (a : κ) : Option Value := (l.find? fun p => decide (p.1 = a)).map (·.2)
def kupd (a : κ) (v : Value) : List (κ × Value) → List (κ × Value)
  | [] => [(a, v)]
  | p :: l => if p.1 = a then (a, v) :: l else p :: kupd a v l
theorem klook_upd (a b : κ) (v : Value) : ∀ l, klook (kupd a v l) b = if b = a then some v else klook l b
  | [] => by
    by_cases h : b = a
    · subst h; simp [kupd, klook]
    · have h' : ¬ a = b := fun e => h e.symm
      simp [kupd, klook, h, h']
  | p :: l => by
    have ih := klook_upd a b v l
    unfold klook at ih ⊢
    rw [kupd]
    by_cases h : p.1 = a
    · rw [if_pos h]
      by_cases hb : b = a
      · subst hb; simp
      · rw [if_neg hb, List.find?_cons, List.find?_cons]
        have h' : ¬ a = b := fun e => hb e.symm
        have h2 : ¬ p.1 = b := fun e => h' (h.symm.trans e)
        simp [h', h2]
    · rw [if_neg h, List.find?_cons, List.find?_cons]
      by_cases hb : p.1 = b
      · have : b ≠ a := fun e => h (hb.trans e)
        simp [hb, this]
      · simp [hb]
        exact ih
def kidx (l : List (κ × Value)) (a : κ) : Option Nat := l.findIdx? fun p => decide (p.1 = a)
theorem kidx_look (l : List (κ × Value)) (a : κ) : (kidx l a).isSome = (klook l a).isSome := by
  unfold kidx klook
  induction l with
  | nil => rfl
  | cons p l ih =>
    simp only [List.findIdx?_cons, List.find?_cons]
    by_cases hp : p.1 = a
    · simp [hp]
    · simp only [hp, decide_false, Bool.false_eq_true, if_false, Option.isSome_map]
      rw [ih, Option.isSome_map]
theorem kupd_none {a : κ} {v : Value} : ∀ {l : List (κ × Value)}, kidx l a = none → kupd a v l = l ++ [(a, v)]
  | [], _ => rfl
  | p :: l, h => by
    unfold kidx at h
    rw [List.findIdx?_cons] at h
    by_cases hp : p.1 = a
    · simp [hp] at h
    · simp only [hp, decide_false, Bool.false_eq_true, if_false, Option.map_eq_none_iff] at h
      rw [kupd, if_neg hp, kupd_none h]; rfl
theorem kupd_some {a : κ} {v : Value} : ∀ {l : List (κ × Value)} {j : Nat}, kidx l a = some j → kupd a v l = l.modify j (fun _ => (a, v))
  | [], _, h => by simp [kidx] at h
  | p :: l, j, h => by
    unfold kidx at h
    rw [List.findIdx?_cons] at h
    by_cases hp : p.1 = a
    · simp [hp] at h
      subst h
      rw [kupd, if_pos hp]; rfl
    · simp only [hp, decide_false, Bool.false_eq_true, if_false, Option.map_eq_some_iff] at h
      obtain ⟨j', hj', rfl⟩ := h
      rw [kupd, if_neg hp, kupd_some hj']; rfl
def MapF (key : κ → Value) (w : World) (b : Nat) (f : κ → Option Value) : Prop :=
  ∃ (l : List (κ × Value)) (es : Array MapEntry) (cl : Nat), w.heap[b]? = some (.map es cl) ∧ es.toList.map (fun e => (e.key, e.val)) = l.map (fun p => (key p.1, p.2)) ∧ ∀ a, klook l a = f a
theorem MapF.keep {F : List Nat} {w w' : World} {b : Nat} {f : κ → Option Value} (h : MapF key w b f) (k : Keep F w w') (hn : b ∉ F) : MapF key w' b f := by
  obtain ⟨l, es, cl, h1, h2, h3⟩ := h
  exact ⟨l, es, cl, (k.block b (lt_of_some h1) hn).trans h1, h2, h3⟩
theorem MapF.lt {w : World} {b : Nat} {f : κ → Option Value} (h : MapF key w b f) : b < w.heap.size := by
  obtain ⟨l, es, cl, h1, _⟩ := h
  exact lt_of_some h1
theorem MapF.ne_blk {w : World} {b g : Nat} {f : κ → Option Value} {ty : TypeId} {cs : Array Value} (h : MapF key w b f) (hb : Blk w g ty cs) : g ≠ b := by
  rintro rfl
  obtain ⟨l, es, cl, h1, _⟩ := h
  unfold Blk at hb
  rw [hb] at h1
  cases h1
theorem MapF.ne_own {w : World} {b base size n : Nat} {f : κ → Option Value} {e : TypeId} {v : Value} {xs : List Value} (h : MapF key w b f) (ho : w.ownsRow base e size v n xs) : v.ownBlock ≠ some b := by
  obtain ⟨l, es, cl, h1, _⟩ := h
  exact own_ne_map ho h1
theorem kfindAsking (H : KeyLaw P K key) (a : κ) (w : World) : ∀ (es : List MapEntry) (l : List (κ × Value)) (i : Nat), es.map (fun e => (e.key, e.val)) = l.map (fun p => (key p.1, p.2)) →
    (Instr.findAsking K (key a) es i).run P w = .ok ((kidx l a).map fun j => (i + j, (klook l a).getD undef)) w
  | [], [], i, _ => by simp [Instr.findAsking, kidx]
  | [], _ :: _, _, h => by simp at h
  | _ :: _, [], _, h => by simp at h
  | e :: es, p :: l, i, h => by
    simp only [List.map_cons, List.cons.injEq, Prod.mk.injEq] at h
    obtain ⟨⟨hk, hv⟩, ht⟩ := h
    have ih := kfindAsking H a w es l (i + 1) ht
    unfold Instr.findAsking
    rw [hk]
    simp only [Sem.run_bind, H.eq, Result.andThen_ok]
    by_cases hp : a = p.1
    · subst hp
      simp [kidx, klook, List.findIdx?_cons, hv]
    · simp only [hp, decide_false, Bool.false_eq_true, if_false]
      rw [ih]
      have hp' : ¬ p.1 = a := fun e => hp e.symm
      simp only [kidx, klook, List.findIdx?_cons, List.find?_cons, hp', decide_false, Bool.false_eq_true, if_false]
      cases List.findIdx? (fun p => decide (p.1 = a)) l
      · simp
      · simp; omega
theorem kfindKey (H : KeyLaw P K key) (a : κ) (w : World) (es : List MapEntry) (l : List (κ × Value)) (h : es.map (fun e => (e.key, e.val)) = l.map (fun p => (key p.1, p.2))) :
    (Instr.findKey K (key a) es).run P w = .ok ((kidx l a).map fun j => (j, (klook l a).getD undef)) w := by
  obtain ⟨d, hd, hs⟩ := H.desc
  unfold Instr.findKey
  cases es with
  | nil =>
    cases l with
    | nil => simp [run_underlying hd, Instr.findNow, kidx]
    | cons p l => simp at h
  | cons e es =>
    have hn : Instr.findNow d (key a) (e :: es) 0 = none := by unfold Instr.findNow; rw [hs]
    simp only [Sem.run_bind, run_underlying hd, Result.andThen_ok, hn]
    have := kfindAsking H a w (e :: es) l 0 h
    simpa using this
theorem klookup_ok (H : KeyLaw P K key) (ht : P.underlying t = some (.map K E)) {w : World} {b : Nat} {f : κ → Option Value} (z : Value) (hz : (zeroValue E).run P w = .ok z w) (h : MapF key w b f) (a : κ) :
    (Instr.lookup t (.map (some b)) (key a) true).run P w = .ok (.tuple #[(f a).getD z, .bool (f a).isSome]) w := by
  obtain ⟨l, es, cl, hh, hr, hf⟩ := h
  have hfk := kfindKey H a w es.toList l hr
  have hi := kidx_look l a
  rw [hf a] at hfk hi
  unfold Instr.lookup
  cases hl : f a with
  | none =>
    rw [hl] at hi
    have hn : kidx l a = none := by simpa using hi
    rw [hn] at hfk
    simp [run_underlying ht, hh, H.chk, hfk, hz, getObj, Sem.run]
  | some v =>
    rw [hl] at hi
    obtain ⟨j, hj⟩ := Option.isSome_iff_exists.1 hi
    rw [hj, hl] at hfk
    simp [run_underlying ht, hh, H.chk, hfk, getObj, Sem.run]
theorem kmapUpdate (H : KeyLaw P K key) (ht : P.underlying t = some (.map K E)) {w : World} {b : Nat} {f : κ → Option Value} (h : MapF key w b f) (a : κ) (v : Value) :
    ∃ w', (Instr.mapUpdate t (.map (some b)) (key a) v).run P w = .ok () w' ∧ MapF key w' b (fun x => if x = a then some v else f x) ∧ Keep [b] w w' ∧ w'.heap.size = w.heap.size := by
  obtain ⟨l, es, cl, hh, hr, hf⟩ := h
  have hfk := kfindKey H a w es.toList l hr
  have hlt := lt_of_some hh
  have hkeep : ∀ o, Keep [b] w { w with heap := w.heap.setIfInBounds b o } := fun o => ⟨rfl, rfl, rfl, by simp, fun i hi hn => by simp at hn; simp [Ne.symm hn]⟩
  have hlook : ∀ x, klook (kupd a v l) x = if x = a then some v else f x := fun x => by rw [klook_upd, hf]
  cases hk : kidx l a with
  | none =>
    rw [hk] at hfk
    refine ⟨{ w with heap := w.heap.setIfInBounds b (.map (es.push { key := key a, val := v, born := cl }) (cl + 1)) }, ?_, ⟨kupd a v l, es.push { key := key a, val := v, born := cl }, cl + 1, by simp [hlt], ?_, hlook⟩, hkeep _, by simp⟩
    · unfold Instr.mapUpdate
      simp [run_underlying ht, hh, H.chk, hfk, getObj, setObj, Sem.run]
    · rw [kupd_none hk]
      simp [hr]
  | some j =>
    rw [hk] at hfk
    have hjl : j < l.length := by
      unfold kidx at hk
      exact (List.findIdx?_eq_some_iff_getElem.1 hk).1
    have hja : l[j].1 = a := by
      unfold kidx at hk
      have := (List.findIdx?_eq_some_iff_getElem.1 hk).2.1
      simpa using this
    have hjs : j < es.size := by
      have := congrArg List.length hr
      simp at this
      omega
    have hold : es[j].key = key a := by
      have h1 := congrArg (fun x : List (Value × Value) => x[j]?) hr
      simp [hjs, hjl] at h1
      rw [h1.1, hja]
    refine ⟨{ w with heap := w.heap.setIfInBounds b (.map (es.modify j fun e => { e with key := key a, val := v }) cl) }, ?_, ⟨kupd a v l, es.modify j fun e => { e with key := key a, val := v }, cl, by simp [hlt], ?_, hlook⟩, hkeep _, by simp⟩
    · unfold Instr.mapUpdate
      simp [run_underlying ht, hh, H.chk, hfk, getObj, setObj, Sem.run, hjs, hold, Instr.keyThatStays, H.same]
    · rw [kupd_some hk, Array.toList_modify]
      apply List.ext_getElem?
      intro i
      have h1 := congrArg (fun x : List (Value × Value) => x[i]?) hr
      simp only [List.getElem?_map, List.getElem?_modify] at h1 ⊢
      by_cases hij : j = i
      · subst hij
        simp [hjs, hjl]
      · simp only [hij, if_false]
        simpa using h1
end
end Go.Sal

namespace Go.Proofs.YtdnaahbhfjclpaaGreatDoor
open Go.RowKit Go.Sal Go.Huf Go.Cod
def tcells (t : Tk) : List Value := [.int .i64 t.1, .int .i64 t.2.1, .int .u8 (t.2.2 : Nat)]
theorem symbol_lit (n : Int) (x : Nat) (w : World) (hx : x < 256) :
    Calls Tryz.prog 107 #[.agg #[.int .i64 0, .int .i64 n, .int .u8 (x : Nat)]] w fun e w' => e = .returned (.int .i64 (x : Nat)) ∧ Keep [] w w' := by
  have hwx : IntKind.i64.wrap (x : Int) = (x : Int) := by rw [IntKind.wrap_i64]; omega
  go_enter Tryz.func107, Tryz.ntmps107
  go_wp2
  go_ret
  exact ⟨rfl, (Keep.refl [] _).alloc _⟩
theorem symbol_copy (d n : Int) (x : Nat) (w : World) (hd : 1 ≤ d) (hn : 4 ≤ n) (hn2 : n ≤ 258) :
    Calls Tryz.prog 107 #[.agg #[.int .i64 d, .int .i64 n, .int .u8 (x : Nat)]] w fun e w' => e = .returned (.int .i64 (252 + n)) ∧ Keep [] w w' := by
  have hdf : (d == 0) = false := by simp; omega
  have hwn : IntKind.i64.wrap (252 + n) = 252 + n := by rw [IntKind.wrap_i64]; omega
  go_enter Tryz.func107, Tryz.ntmps107
  go_wp2
  go_ret
  exact ⟨rfl, (Keep.refl [] _).alloc _⟩
end Go.Proofs.YtdnaahbhfjclpaaGreatDoor

