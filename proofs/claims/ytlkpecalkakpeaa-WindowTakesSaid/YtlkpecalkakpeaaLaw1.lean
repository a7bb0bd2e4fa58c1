/- WindowTakes, walked. -/
import Derived.Test.YtlkpecalkakpeaaAl
import Derived.Test.YtlkpecalkakpeaaTkRel
set_option linter.unusedVariables false
set_option linter.unusedSimpArgs false
namespace Go.Proofs.Ytlkpecalkakpeaa
open Go.RowKit Go.Sal

theorem rtake_any (base br : Nat) (sz wt : Int) (l : List (Int × Value)) (lv : Value) (N : Int) (v : Value) (b : List UInt8) (w : World)
    (hT : Blk w br 86 #[.int .i64 sz, .int .i64 wt, lv]) (hown : w.ownsRow base 33 2 lv l.length (flat l)) (hv : Reads base 5 w v b) (hB : base ≤ w.heap.size) (hbl : b.length ≤ 140737488355328)
    (hs1 : 1 ≤ sz) (hs2 : sz ≤ 64) (hN1 : -9223372036854775808 ≤ N) (hN2 : N ≤ 9223372036854775807) (hwt : 1 ≤ wt) (hwl : wt + l.length ≤ 4611686018427387904) (hone : ∀ p ∈ l, IsSl p.2) (hll : l.length ≤ 1000) (hbr : base ≤ br) :
    Calls Try.prog 13 #[.pointer (some ⟨br, 0, none⟩), .agg #[.int .i64 N, v]] w (RTkPost base br sz wt l lv N b w) := by
  by_cases h1 : N < 1 ∨ wt ≤ N - sz
  · exact rtake_err base br sz wt l lv N v b w hT hown hv hs1 hs2 hN1 hN2 h1
  · by_cases h2 : N < wt ∨ (mlook l N).isSome = true
    · exact rtake_skip base br sz wt l lv N v b w hT hown hv hs1 hs2 (by omega) hN2 (by omega) h2 hll
    · refine rtake_main base br sz wt l lv N v b w hT hown hv hB hbl hs1 hs2 (by omega) hN2 (by omega) (by omega) ?_ hwt hwl hone hll hbr
      cases h : mlook l N with
      | none => rfl
      | some x => exact absurd (.inr (by rw [h]; rfl)) h2

theorem rnewTaker_bad (a : Int) (w : World) (h : a < 1 ∨ 64 < a) :
    Calls Try.prog 9 #[.int .i64 a] w fun e w' => e = .returned (.tuple #[.pointer none, .int .i64 190]) ∧ w = w' := by
  have hd : (decide (1 ≤ a) && decide (a ≤ 64)) = false := by
    rcases h with h | h
    · have : decide (1 ≤ a) = false := by simp; omega
      rw [this]; rfl
    · have : decide (a ≤ 64) = false := by simp; omega
      rw [this, Bool.and_false]
  go_enter Try.func9, Try.ntmps9
  go_wp2_with (go_at_call 31; refine (sized_any _ _).mono ?_; rintro e w' ⟨rfl, rfl⟩; rw [hd])
  go_ret2
  exact ⟨rfl, rfl⟩

theorem _root_.Go.Sal.Reads.cut {base : Nat} {tb : TypeId} {w : World} {A : Option Addr} {c : Nat} {bs : List UInt8} (h : Reads base tb w (.slice A bs.length c) bs) (k : Nat) : Reads base tb w (.slice A (min bs.length k) c) (bs.take k) := by
  obtain ⟨A', c', h0, h1, h2, h3⟩ := h
  injection h0 with e1 e2 e3
  subst e1; subst e3
  refine ⟨A, c, by rw [List.length_take, Nat.min_comm], by rw [List.length_take]; omega, h2, fun hne => ?_⟩
  obtain ⟨a, ha, hb, hc⟩ := h3 (fun e => by subst e; simp at hne)
  refine ⟨a, ha, hb, fun i hi => ?_⟩
  rw [List.length_take] at hi
  rw [hc i (by omega), List.getElem_take]

theorem _root_.Go.Sal.LR.sl {base : Nat} {w : World} : ∀ {l : List (Int × Value)} {p : List (Int × List UInt8)}, LR (Reads base 5 w) l p → ∀ q ∈ l, IsSl q.2
  | [], _, _, q, hq => by simp at hq
  | a :: l, b :: p, h, q, hq => by
    rcases List.mem_cons.1 hq with rfl | hq
    · obtain ⟨A, c, e, _⟩ := h.2.1
      exact ⟨A, _, c, e⟩
    · exact Go.Sal.LR.sl (l := l) (p := p) h.2.2 q hq
  | _ :: _, [], h, _, _ => h.elim
theorem _root_.Go.Sal.LR.keys {α β : Type} {R : α → β → Prop} {x : Int} : ∀ {l : List (Int × α)} {p : List (Int × β)}, LR R l p → ((∃ q ∈ l, q.1 = x) ↔ ∃ q ∈ p, q.1 = x)
  | [], [], _ => by simp
  | a :: l, b :: p, h => by
    have ih := Go.Sal.LR.keys (x := x) (l := l) (p := p) h.2.2
    simp only [List.mem_cons, exists_eq_or_imp, h.1, ih]
  | [], _ :: _, h => h.elim
  | _ :: _, [], h => h.elim
theorem _root_.Go.Sal.LR.pr {base : Nat} {w : World} {l : List (Int × Value)} {p : List (Int × List UInt8)} (h : LR (Reads base 5 w) l p) : PR base w l p := ⟨h.len, h.get⟩
theorem bits_eq {wt : Int} {l l' : List (Int × Value)} {p : List (Int × List UInt8)} {R R' : Value → List UInt8 → Prop} {M M' : Nat} (h : LR R l p) (h' : LR R' l' p) (hM : AckBits wt l M) (hM' : AckBits wt l' M') : M = M' := by
  apply Nat.eq_of_testBit_eq
  intro k
  have h1 := hM.2 k
  have h2 := hM'.2 k
  rw [h.keys] at h1
  rw [h'.keys] at h2
  rw [Bool.eq_iff_iff, h1, h2]

/-- what holds of the two takers behind k payloads -/
def TI (base : Nat) (sz : Int) (w wr : World) (k : Nat) : Prop :=
  ∃ wt lp lr p es cl lv, Blk wr (base + 1) 81 #[.int .i64 sz, .int .i64 wt, .map (some base)] ∧ MapIs wr base lp es cl ∧ Blk wr (base + 1 + 1) 86 #[.int .i64 sz, .int .i64 wt, lv] ∧ wr.ownsRow base 33 2 lv lr.length (flat lr) ∧
    LR (Reads base 5 wr) lp p ∧ LR (Reads base 5 wr) lr p ∧ Keep [] w wr ∧ 1 ≤ wt ∧ wt + p.length ≤ k + 1 ∧ ∀ q ∈ p, 0 ≤ q.1 ∧ q.1 ≤ wt + 64

theorem own_spot {base n size c : Nat} {e : TypeId} {A : Option Addr} {xs : List Value} {w : World} (h : w.ownsRow base e size (.slice A n c) n xs) : ∀ a, A = some a → a.spot = none := by
  intro a ha
  rcases h.2 with ⟨h0, _⟩ | ⟨g, cap, cur, h0, _⟩
  · injection h0 with h0; rw [h0] at ha; cases ha
  · injection h0 with h0; rw [h0] at ha; injection ha with ha; subst ha; rfl

theorem takes_bad (size : Int) (A : Option Addr) (n c : Nat) (w : World) (h : size < 1 ∨ 64 < size) :
    Calls Try.prog 3 #[.int .i64 size, .slice A n c] w fun e w' => e = .returned (.bool true) ∧ Keep [] w w' := by
  go_enter Try.func3, Try.ntmps3
  go_wp2_with (first
    | (go_at_call 8; refine (wnewTaker_bad _ _ h).mono ?_; rintro e w' ⟨rfl, rfl⟩)
    | (go_at_call 9; refine (rnewTaker_bad _ _ h).mono ?_; rintro e w' ⟨rfl, rfl⟩)
    | (go_at_call 10; refine (alive_any _).mono ?_; rintro e w' ⟨rfl, hk⟩))
  go_ret
  exact ⟨rfl, hk⟩

set_option maxRecDepth 20000 in
set_option maxHeartbeats 8000000 in
theorem takes_ok (size : Int) (A : Option Addr) (n c : Nat) (w : World) (h1 : 1 ≤ size) (h2 : size ≤ 64) (hn : n ≤ 9223372036854775807)
    (hcell : ∀ k, k < n → ∃ g o N v b, A = some ⟨g, o, none⟩ ∧ g < w.heap.size ∧ w.cell? ⟨g, o + k * 2, none⟩ = some (.int .i64 N) ∧ w.cell? ⟨g, o + k * 2 + 1, none⟩ = some v ∧
      -9223372036854775808 ≤ N ∧ N ≤ 9223372036854775807 ∧ Reads w.heap.size 5 w v b) :
    Calls Try.prog 3 #[.int .i64 size, .slice A n c] w fun e w' => e = .returned (.bool true) ∧ Keep [] w w' := by
  have Hcell := Lib.hid hcell
  clear hcell
  go_enter Try.func3, Try.ntmps3
  go_wp2_with (first
    | (go_at_call 8; refine (wnewTaker_ok _ _ h1 h2).mono ?_; rintro e w' ⟨rfl, rfl⟩)
    | (go_at_call 9; refine (rnewTaker_ok _ _ h1 h2).mono ?_; rintro e w' ⟨rfl, rfl⟩)
    | (go_at_call 10; refine (alive_any _).mono ?_; rintro e w' ⟨rfl, hk⟩))
  generalize hw1 : (World.alloc _ _) = w1
  have HI : Hid (TI w.heap.size size w w1 0) := by
    rw [← hw1]
    refine ⟨1, [], [], [], #[], 0, .slice none 0 0, ?_, ((MapIs.made w).alloc _).alloc _, ?_, World.ownsRow_nil _ _ _ _, trivial, trivial, (((Keep.refl [] w).alloc _).alloc _).alloc _, by omega, by simp, by simp⟩
    · have := (Blk.new (w.alloc (.map #[] 0)) 81 #[.int .i64 size, .int .i64 1, .map (some w.heap.size)]).alloc (.cells #[.int .i64 size, .int .i64 1, .slice none 0 0] 86)
      simpa using this
    · have := Blk.new ((w.alloc (.map #[] 0)).alloc (.cells #[.int .i64 size, .int .i64 1, .map (some w.heap.size)] 81)) 86 #[.int .i64 size, .int .i64 1, .slice none 0 0]
      simpa using this
  clear hw1
  go_loopw [9] (fun i wr => ∃ k : Nat, i = .int .i64 k ∧ k ≤ n ∧ k ≤ 80 ∧ Hid (TI w.heap.size size w wr k)) (fun i _ => n - (intOf i).toNat)
  case atStart => exact ⟨0, rfl, by omega, by omega, HI⟩
  case round =>
    obtain ⟨k, rfl, hk1, hk2, hI⟩ := hrel
    by_cases hlt : k < n ∧ k < 80
    · obtain ⟨hlt1, hlt2⟩ := hlt
      obtain ⟨g, o, N, v, b, rfl, hg, hc0, hc1, hN1, hN2, hr⟩ := Hcell.out k hlt1
      obtain ⟨Ab, cb, rfl, hbc, hcb, hrr⟩ := id hr
      obtain ⟨wt, lp, lr, p, es, cl, lv, hT, hM, hR, hown, hlp, hlr, hkp, hwt, hwl, hpk⟩ := hI.out
      have hd0 := (hkp.cell (p := ⟨g, o + k * 2, none⟩) hg (by simp)).trans hc0
      have hd1 := (hkp.cell (p := ⟨g, o + k * 2 + 1, none⟩) hg (by simp)).trans hc1
      have hgr : g < wr.heap.size := by have := hkp.size; omega
      have HSk : Hid (∀ W, Keep [] wr W → W.cell? ⟨g, o + k * 2, none⟩ = some (.int .i64 N) ∧ W.cell? ⟨g, o + k * 2 + 1, none⟩ = some (.slice Ab b.length cb)) := Lib.hid (fun W k => ⟨(k.cell hgr (by simp)).trans hd0, (k.cell hgr (by simp)).trans hd1⟩)
      have hS0 := HSk.out _ (Keep.refl [] wr).drew
      have hr1 := (hr.keep hkp noByte_nil).cut 50
      have Hr1 := Lib.hid hr1
      clear hr hrr hc0 hc1 hd0 hd1 hr1
      go_wp2_with fail
      refine wp_region_E (fun W => W.cell? ⟨g, o + k * 2, none⟩ = some (.int .i64 N) ∧ W.cell? ⟨g, o + k * 2 + 1, none⟩ = some (.slice Ab b.length cb)) 13 (by kernel_rfl) ?_
      refine wpAnyE_take (i := 0) (oi := { dst := some 52, op := Go.Op.move (Go.Operand.tmp 1), type := 22, pos := "law.go:108", after := #[], guard := none }) (v := ?vq1_0) [0, 2, 3, 4, 11, 13] rfl (by kernel_rfl) (by kernel_rfl) (by kernel_rfl) (by kernel_rfl) (fun _ _ _ h => h) hS0 (Or.inl ⟨by rfl, ?hq1_0⟩) ?_
      case hq1_0 => intro w hSw; (try dsimp only at hSw); go_simp; (try with_reducible rfl)
      try simp only [Act.put, List.setIfInBounds_toArray, List.set_cons_zero, List.set_cons_succ]
      refine wpAnyE_take (i := 1) (oi := { dst := some 53, op := Go.Op.move (Go.Operand.tmp 9), type := 3, pos := "law.go:108", after := #[], guard := none }) (v := ?vq1_1) [1, 2, 3, 4, 11, 13] rfl (by kernel_rfl) (by kernel_rfl) (by kernel_rfl) (by kernel_rfl) (fun _ _ _ h => h) hS0 (Or.inl ⟨by rfl, ?hq1_1⟩) ?_
      case hq1_1 => intro w hSw; (try dsimp only at hSw); go_simp; (try with_reducible rfl)
      try simp only [Act.put, List.setIfInBounds_toArray, List.set_cons_zero, List.set_cons_succ]
      refine wpAnyE_take (i := 2) (oi := { dst := some 54, op := Go.Op.indexAddr 22 (Go.Operand.tmp 52) (Go.Operand.tmp 53), type := 0, pos := "law.go:108", after := #[{ on := 0, ground := Go.Ground.data }, { on := 1, ground := Go.Ground.data }], guard := none }) (v := ?vq1_2) [2, 3, 4, 11, 13] rfl (by kernel_rfl) (by kernel_rfl) (by kernel_rfl) (by kernel_rfl) (fun _ _ _ h => h) hS0 (Or.inl ⟨by rfl, ?hq1_2⟩) ?_
      case hq1_2 => intro w hSw; (try dsimp only at hSw); go_simp; (try with_reducible rfl)
      try simp only [Act.put, List.setIfInBounds_toArray, List.set_cons_zero, List.set_cons_succ]
      refine wpAnyE_take (i := 3) (oi := { dst := some 55, op := Go.Op.fieldAddr 33 (Go.Operand.tmp 54) 0, type := 0, pos := "law.go:108", after := #[{ on := 2, ground := Go.Ground.data }], guard := none }) (v := ?vq1_3) [3, 4, 11, 13] rfl (by kernel_rfl) (by kernel_rfl) (by kernel_rfl) (by kernel_rfl) (fun _ _ _ h => h) hS0 (Or.inl ⟨by rfl, ?hq1_3⟩) ?_
      case hq1_3 => intro w hSw; (try dsimp only at hSw); go_simp; (try with_reducible rfl)
      try simp only [Act.put, List.setIfInBounds_toArray, List.set_cons_zero, List.set_cons_succ]
      refine wpAnyE_take (i := 4) (oi := { dst := some 56, op := Go.Op.load 3 (Go.Operand.tmp 55), type := 3, pos := "law.go:108", after := #[{ on := 3, ground := Go.Ground.data }], guard := none }) (v := ?vq1_4) [4, 11, 13] rfl (by kernel_rfl) (by kernel_rfl) (by kernel_rfl) (by kernel_rfl) (fun _ _ _ h => h) hS0 (Or.inl ⟨by rfl, ?hq1_4⟩) ?_
      case hq1_4 => intro w hSw; (try dsimp only at hSw); go_simp; (try with_reducible rfl)
      try simp only [Act.put, List.setIfInBounds_toArray, List.set_cons_zero, List.set_cons_succ]
      refine wpAnyE_take (i := 5) (oi := { dst := some 57, op := Go.Op.move (Go.Operand.tmp 1), type := 22, pos := "law.go:108", after := #[], guard := none }) (v := ?vq1_5) [5, 7, 8, 9, 10, 11, 13] rfl (by kernel_rfl) (by kernel_rfl) (by kernel_rfl) (by kernel_rfl) (fun _ _ _ h => h) hS0 (Or.inl ⟨by rfl, ?hq1_5⟩) ?_
      case hq1_5 => intro w hSw; (try dsimp only at hSw); go_simp; (try with_reducible rfl)
      try simp only [Act.put, List.setIfInBounds_toArray, List.set_cons_zero, List.set_cons_succ]
      refine wpAnyE_take (i := 6) (oi := { dst := some 58, op := Go.Op.move (Go.Operand.tmp 9), type := 3, pos := "law.go:108", after := #[], guard := none }) (v := ?vq1_6) [6, 7, 8, 9, 10, 11, 13] rfl (by kernel_rfl) (by kernel_rfl) (by kernel_rfl) (by kernel_rfl) (fun _ _ _ h => h) hS0 (Or.inl ⟨by rfl, ?hq1_6⟩) ?_
      case hq1_6 => intro w hSw; (try dsimp only at hSw); go_simp; (try with_reducible rfl)
      try simp only [Act.put, List.setIfInBounds_toArray, List.set_cons_zero, List.set_cons_succ]
      refine wpAnyE_take (i := 7) (oi := { dst := some 59, op := Go.Op.indexAddr 22 (Go.Operand.tmp 57) (Go.Operand.tmp 58), type := 0, pos := "law.go:108", after := #[{ on := 5, ground := Go.Ground.data }, { on := 6, ground := Go.Ground.data }], guard := none }) (v := ?vq1_7) [7, 8, 9, 10, 11, 13] rfl (by kernel_rfl) (by kernel_rfl) (by kernel_rfl) (by kernel_rfl) (fun _ _ _ h => h) hS0 (Or.inl ⟨by rfl, ?hq1_7⟩) ?_
      case hq1_7 => intro w hSw; (try dsimp only at hSw); go_simp; (try with_reducible rfl)
      try simp only [Act.put, List.setIfInBounds_toArray, List.set_cons_zero, List.set_cons_succ]
      refine wpAnyE_take (i := 8) (oi := { dst := some 60, op := Go.Op.fieldAddr 33 (Go.Operand.tmp 59) 1, type := 0, pos := "law.go:108", after := #[{ on := 7, ground := Go.Ground.data }], guard := none }) (v := ?vq1_8) [8, 9, 10, 11, 13] rfl (by kernel_rfl) (by kernel_rfl) (by kernel_rfl) (by kernel_rfl) (fun _ _ _ h => h) hS0 (Or.inl ⟨by rfl, ?hq1_8⟩) ?_
      case hq1_8 => intro w hSw; (try dsimp only at hSw); go_simp; (try with_reducible rfl)
      try simp only [Act.put, List.setIfInBounds_toArray, List.set_cons_zero, List.set_cons_succ]
      refine wpAnyE_take (i := 9) (oi := { dst := some 61, op := Go.Op.load 31 (Go.Operand.tmp 60), type := 31, pos := "law.go:108", after := #[{ on := 8, ground := Go.Ground.data }], guard := none }) (v := ?vq1_9) [9, 10, 11, 13] rfl (by kernel_rfl) (by kernel_rfl) (by kernel_rfl) (by kernel_rfl) (fun _ _ _ h => h) hS0 (Or.inl ⟨by rfl, ?hq1_9⟩) ?_
      case hq1_9 => intro w hSw; (try dsimp only at hSw); go_simp; (try with_reducible rfl)
      try simp only [Act.put, List.setIfInBounds_toArray, List.set_cons_zero, List.set_cons_succ]
      refine wpAnyE_take (i := 10) (oi := { dst := some 62, op := Go.Op.call { callee := Go.Callee.value (Go.Operand.func 11), args := #[Go.Operand.tmp 61], argTypes := #[31] }, type := 31, pos := "law.go:108", after := #[{ on := 9, ground := Go.Ground.data }], guard := none }) (v := .slice Ab (min b.length 50) cb) [10, 11, 13] rfl (by kernel_rfl) (by kernel_rfl) (by kernel_rfl) (by kernel_rfl) (fun _ _ _ h => h) hS0 (Or.inl ⟨by rfl, ?hq1_10⟩) ?_
      case hq1_10 => intro w hSw; (try dsimp only at hSw); go_simp; exact (cut_any _ _ _ _ hbc hcb).mono (fun _ _ h => ⟨h.1, h.2.symm⟩)
      try simp only [Act.put, List.setIfInBounds_toArray, List.set_cons_zero, List.set_cons_succ]
      refine wpAnyE_take (i := 11) (oi := { dst := some 63, op := Go.Op.build 33 #[(0, Go.Operand.tmp 56), (1, Go.Operand.tmp 62)], type := 33, pos := "law.go:108", after := #[{ on := 4, ground := Go.Ground.data }, { on := 10, ground := Go.Ground.data }], guard := none }) (v := ?vq1_11) [11, 13] rfl (by kernel_rfl) (by kernel_rfl) (by kernel_rfl) (by kernel_rfl) (fun _ _ _ h => h) hS0 (Or.inl ⟨by rfl, ?hq1_11⟩) ?_
      case hq1_11 => intro w hSw; (try dsimp only at hSw); go_simp; (try with_reducible rfl)
      try simp only [Act.put, List.setIfInBounds_toArray, List.set_cons_zero, List.set_cons_succ]
      refine wpAnyE_step (i := 12) (oi := { dst := some 10, op := Go.Op.alloc 33, type := 0, pos := "law.go:108", after := #[], guard := none }) rfl (by kernel_rfl) (by rfl) (fun K hK => ?_)
      go_simp
      refine hK _ _ ?_ (fun hSq1_12 => ?_)
      · exact HSk.out _ (((Keep.refl [] wr).alloc _).drew)
      clear hK
      try simp only [Act.put, List.setIfInBounds_toArray, List.set_cons_zero, List.set_cons_succ]
      refine wpAnyE_last (oi := { dst := none, op := Go.Op.store 33 (Go.Operand.tmp 10) (Go.Operand.tmp 63), type := 0, pos := "law.go:108", after := #[{ on := 12, ground := Go.Ground.data }, { on := 11, ground := Go.Ground.data }, { on := 10, ground := Go.Ground.chain }, { on := 0, ground := Go.Ground.phase }, { on := 1, ground := Go.Ground.phase }, { on := 2, ground := Go.Ground.phase }, { on := 3, ground := Go.Ground.phase }, { on := 4, ground := Go.Ground.phase }, { on := 5, ground := Go.Ground.phase }, { on := 6, ground := Go.Ground.phase }, { on := 7, ground := Go.Ground.phase }, { on := 8, ground := Go.Ground.phase }, { on := 9, ground := Go.Ground.phase }, { on := 10, ground := Go.Ground.phase }, { on := 11, ground := Go.Ground.phase }, { on := 12, ground := Go.Ground.phase }], guard := none }) rfl (by kernel_rfl) (by kernel_rfl) (by rfl) (fun K hK => ?_)
      go_simp
      refine hK _ _ ?_
      clear hK
      try simp only [Act.put, List.setIfInBounds_toArray, List.set_cons_zero, List.set_cons_succ]
      generalize hw7 : (World.drew _) = w7
      have hk7 : Keep [] wr w7 := by rw [← hw7]; exact ((Keep.refl [] wr).alloc _).drew
      have hp7 : Blk w7 wr.heap.size 33 #[.int .i64 N, .slice Ab (min b.length 50) cb] := by rw [← hw7]; exact Blk.new wr 33 _
      have hz7 := hk7.size
      have hzr := hkp.size
      have hr7 := Hr1.out.keep hk7 noByte_nil
      clear hw7 hS0 HSk
      have hlen := hlp.len
      have hlen2 := hlr.len
      have p0 : w7.cell? ⟨wr.heap.size, 0, none⟩ = some (.int .i64 N) := hp7.cell 0
      have p1 : w7.cell? ⟨wr.heap.size, 1, none⟩ = some (.slice Ab (min b.length 50) cb) := hp7.cell 1
      have ht := take_any w.heap.size (w.heap.size + 1) w.heap.size size wt lp es cl N _ (b.take 50) w7 (hT.keep hk7 (by simp)) (hM.keep hk7 (by simp)) hr7 (by omega) (by rw [List.length_take]; omega) h1 h2 hN1 hN2 hwt (by omega) hlp.sl (by omega) (by omega) (by omega)
      have Ht := Lib.hid ht
      have HT := Lib.hid hT
      have HM := Lib.hid hM
      have HR := Lib.hid hR
      have Hown := Lib.hid hown
      have Hlp := Lib.hid hlp
      have Hlr := Lib.hid hlr
      have Hkp := Lib.hid hkp
      have Hpk := Lib.hid hpk
      have Hk7 := Lib.hid hk7
      have Hp7 := Lib.hid hp7
      have Hr7 := Lib.hid hr7
      have Hlen := Lib.hid (And.intro hlen hlen2)
      have Hwl := Lib.hid hwl
      clear ht hT hM hR hown hlp hlr hkp hpk hk7 hp7 hr7 hlen hlen2 hwl
      go_wp2_with fail
      refine Ht.out.mono ?_
      rintro e w8 ⟨v8, ro8, es8, cl8, hr8, he8, hT8, hM8, hown8, hk8⟩
      have hbd := take_bound (v := b.take 50) (N := N) hwt h1 h2 Hpk.out
      have hT7 := HT.out.keep Hk7.out (by simp)
      have hM7 := HM.out.keep Hk7.out (by simp)
      have hR7 := HR.out.keep Hk7.out (by simp)
      have hown7 := ownsRow_keep Hown.out Hk7.out (by simp)
      have hNB8 : NoByte w.heap.size 5 w7 [w.heap.size + 1, w.heap.size] := noByte_cons hT7 (by decide) (by omega) (noByte_map hM7.heap (by omega) noByte_nil)
      have hl8 : LR (Reads w.heap.size 5 w8) lp p := Hlp.out.mono (fun a b h => (h.keep Hk7.out noByte_nil).keep hk8 hNB8)
      have hl8r : LR (Reads w.heap.size 5 w8) lr p := Hlr.out.mono (fun a b h => (h.keep Hk7.out noByte_nil).keep hk8 hNB8)
      obtain ⟨q1, q2, q3, q4⟩ := hl8.take (sz := size) (wt := wt) (N := N) hr8
      have hQ := fun (w' : World) (v' : Value) (hl : LR (Reads w.heap.size 5 w') lr p) (hv : Reads w.heap.size 5 w' v' (b.take 50)) => hl.take (sz := size) (wt := wt) (N := N) hv
      generalize ttake size wt p N (b.take 50) = rp at *
      obtain ⟨ec, wt', p', po⟩ := rp
      generalize ttake size wt lp N v8 = r8 at *
      obtain ⟨ec8, wt8, lp8, op8⟩ := r8
      dsimp only at q1 q2 q3 q4 he8 hT8 hM8 hown8 hbd
      subst q1; subst q2
      obtain ⟨A8, c8, rfl, _⟩ := own_slice hown8
      subst he8
      obtain ⟨b1, b2, b3, b4, b5⟩ := hbd
      have hbt : w.heap.size + 1 < wr.heap.size := HT.out.lt
      have hp8 := Hp7.out.keep hk8 (by simp; omega)
      have hv8 := Hr7.out.keep hk8 hNB8
      have hR8 := hR7.keep hk8 (by simp; omega)
      have n1 : lv.ownBlock ≠ some (w.heap.size + 1) := own_ne_blk Hown.out HT.out (by decide)
      have n2 : lv.ownBlock ≠ some w.heap.size := own_ne_map Hown.out HM.out.heap
      have n3 : lv.ownBlock ≠ some (w.heap.size + 1 + 1) := own_ne_blk Hown.out HR.out (by decide)
      have hown8r := ownsRow_keep hown7 hk8 (by intro g' hg'; simp; exact ⟨fun e => n1 (e ▸ hg'), fun e => n2 (e ▸ hg')⟩)
      have hz8 := hk8.size
      have hrt := rtake_any w.heap.size (w.heap.size + 1 + 1) size wt lr lv N _ (b.take 50) w8 hR8 hown8r hv8 (by omega) (by rw [List.length_take]; omega) h1 h2 hN1 hN2 hwt (by have := Hlen.out; have := Hwl.out; omega) Hlr.out.sl (by have := Hlen.out; have := Hwl.out; omega) (by omega)
      have p0' : w8.cell? ⟨wr.heap.size, 0, none⟩ = some (.int .i64 N) := hp8.cell 0
      have p1' : w8.cell? ⟨wr.heap.size, 1, none⟩ = some (.slice Ab (min b.length 50) cb) := hp8.cell 1
      have Hrt := Lib.hid hrt
      have HT8 := Lib.hid hT8
      have HM8 := Lib.hid hM8
      have Hown8 := Lib.hid hown8
      have Hown8r := Lib.hid hown8r
      have HR8 := Lib.hid hR8
      have HNs := Lib.hid (And.intro n1 (And.intro n2 n3))
      have Hl8r := Lib.hid hl8r
      have Hq3 := Lib.hid q3
      have Hq4 := Lib.hid q4
      have HQ := Lib.hid hQ
      have Hk8 := Lib.hid hk8
      have Hb5 := Lib.hid b5
      have Hb2 := Lib.hid (And.intro b2 b4)
      clear p0 p1 hrt hT8 hM8 hown8 hown8r hR8 n1 n2 n3 hl8 hl8r q3 q4 hQ hk8 b5 b2 b4 hr8 hT7 hM7 hR7 hown7 hNB8 hp8 hv8
      go_wp2_with fail
      refine Hrt.out.mono ?_
      rintro e w9 ⟨v9, ro9, lv9, hr9, he9, hT9, hown9l, hown9, hk9⟩
      have hNB9 : NoByte w.heap.size 5 w8 ((w.heap.size + 1 + 1) :: lv.ownBlock.toList) := noByte_cons HR8.out (by decide) (by omega) (by simpa using noByte_own (F := []) Hown8r.out (Nat.le_refl _) (by decide) noByte_nil)
      have hl9 : LR (Reads w.heap.size 5 w9) lr p := Hl8r.out.mono (fun a b h => h.keep hk9 hNB9)
      obtain ⟨q5, q6, q7, q8⟩ := HQ.out w9 v9 hl9 hr9
      generalize ttake size wt lr N v9 = r9 at *
      obtain ⟨ec9, wt9, lr9, op9⟩ := r9
      dsimp only at q5 q6 q7 q8 he9 hT9 hown9l hown9
      subst q5; subst q6
      obtain ⟨A9, c9, rfl, _⟩ := own_slice hown9
      subst he9
      have hz9 := hk9.size
      obtain ⟨n1, n2, n3⟩ := HNs.out
      have hT9t := HT8.out.keep hk9 (by simp; exact n1)
      have hM9 := HM8.out.keep hk9 (by simp; exact ⟨by omega, n2⟩)
      have hkey : ∀ q ∈ lp8, 0 ≤ q.1 ∧ q.1 ≤ 4611686018427387904 := by
        intro q hq
        obtain ⟨q', hq', he⟩ := Hq3.out.keys.1 ⟨q, hq, rfl⟩
        have := Hb5.out q' hq'
        have := Hb2.out
        have := Hwl.out
        omega
      have hkb9 : Keep [] w w9 := ((Hkp.out.trans Hk7.out).step Hk8.out (by intro i hi; simp at hi; right; omega)).step hk9 (by
        intro i hi
        simp at hi
        right
        rcases hi with hi | hi
        · omega
        · exact (Hown8r.out.lt i hi).1)
      have ho8 : w9.ownsRow w7.heap.size 33 2 (.slice A8 op8.length c8) op8.length (flat op8) := ownsRow_keep Hown8.out hk9 (by
        intro g' hg' hi
        simp at hi
        have h3 := (Hown8.out.lt g' hg').1
        rcases hi with hi | hi
        · have := HR.out.lt; omega
        · have := (Hown.out.lt g' hi).2; omega)
      have hRT : RTk w.heap.size (w.heap.size + 1 + 1) size wt9 lr9 w9 := ⟨_, hT9, hown9l⟩
      have hlpr : LR (Reads w.heap.size 5 w9) lp8 p' := Hq3.out.mono (fun a b h => h.keep hk9 hNB9)
      have hopr : LR (Reads w.heap.size 5 w9) op8 po := Hq4.out.mono (fun a b h => h.keep hk9 hNB9)
      have hb2 := Hb2.out
      have hwl' := Hwl.out
      have hl1 := hlpr.len
      have hl2 := q7.len
      have hl3 := hopr.len
      have hl4 := q8.len
      have hwt9 : wt9 ≤ 4611686018427387904 := by omega
      have HTt := Lib.hid hT9t
      have HM9 := Lib.hid hM9
      have Hkey := Lib.hid hkey
      have Hkb9 := Lib.hid hkb9
      have Ho8 := Lib.hid ho8
      have Ho9 := Lib.hid hown9
      have HRT := Lib.hid hRT
      have Hlpr := Lib.hid hlpr
      have Hopr := Lib.hid hopr
      have Hq7 := Lib.hid q7
      have Hq8 := Lib.hid q8
      have Hl := Lib.hid (And.intro hl1 (And.intro hl2 (And.intro hl3 hl4)))
      clear p0' p1' hT9t hM9 hkey hkb9 ho8 hown9 hRT hlpr hopr q7 q8 hl1 hl2 hl3 hl4 hb2 hwl' hNB9 hl9 hr9 hT9 hown9l hk9 n1 n2 n3
      go_wp2_with fail
      refine (acks_any (w.heap.size + 1) w.heap.size size wt9 lp8 es8 cl8 w9 HTt.out HM9.out h1 (by omega) hwt9 Hkey.out).mono ?_
      rintro e w10 ⟨M1, hM1, rfl, hk10⟩
      have HM1 := Lib.hid hM1
      have HRT10 : Hid (RTk w.heap.size (w.heap.size + 1 + 1) size wt9 lr9 w10) := by
        obtain ⟨lvv, x1, x2⟩ := HRT.out
        exact ⟨lvv, x1.keep hk10 (by simp), ownsRow_keep x2 hk10 (by simp)⟩
      have Hk10 := Lib.hid hk10
      clear hM1 hk10
      go_wp2_with fail
      refine (racks_any w.heap.size (w.heap.size + 1 + 1) size wt9 lr9 w10 HRT10.out (by have := Hl.out; have := Hb2.out; have := Hwl.out; omega) (by omega) hwt9).mono ?_
      rintro e w11 ⟨M2, hM2, rfl, rfl⟩
      obtain rfl : M1 = M2 := bits_eq Hlpr.out Hq7.out HM1.out hM2
      clear hM2
      go_wp2_with fail
      refine (same_any w.heap.size op8 op9 po po A8 A9 _ _ _ _ w10 (Src.of_own (ownsRow_keep Ho8.out Hk10.out (by simp))) (Src.of_own (ownsRow_keep Ho9.out Hk10.out (by simp))) (Hopr.out.pr.keep Hk10.out noByte_nil) (Hq8.out.pr.keep Hk10.out noByte_nil) (own_spot Ho8.out) (own_spot Ho9.out) (by have := Hl.out; have := Hb2.out; have := Hwl.out; omega) (by have := Hl.out; have := Hb2.out; have := Hwl.out; omega)).mono ?_
      rintro e w12 ⟨rfl, nn, rfl⟩
      rw [decide_eq_true (rfl : po = po)]
      go_wp2
      go_roundw
      case rel =>
        refine ⟨k + 1, by go_num, by omega, by omega, Lib.hid ?_⟩
        obtain ⟨lvv, x1, x2⟩ := HRT10.out
        have hkk := Hk10.out.drewN nn
        refine ⟨wt9, lp8, lr9, p', es8, cl8, lvv, HTt.out.keep hkk (by simp), HM9.out.keep hkk (by simp), x1, x2, Hlpr.out.mono (fun a b h => h.keep hkk noByte_nil), Hq7.out.mono (fun a b h => h.keep hkk noByte_nil), Hkb9.out.trans hkk, by omega, ?_, Hb5.out⟩
        have := Hb2.out
        have := Hwl.out
        omega
      case measure => simp [intOf]; omega
    · have hend : ¬ (k < n) ∨ ¬ (k < 80) := by omega
      obtain ⟨_, _, _, _, _, _, _, _, _, _, _, _, _, hkp, _⟩ := hI.out
      rcases hend with hend | hend
      · go_wp2_with (go_at_call 10; refine (alive_any _).mono ?_; rintro e w' ⟨rfl, hk⟩)
        go_ret
        exact ⟨rfl, hkp.trans hk⟩
      · go_wp2_with (go_at_call 10; refine (alive_any _).mono ?_; rintro e w' ⟨rfl, hk⟩)
        all_goals (go_ret; exact ⟨rfl, hkp.trans hk⟩)
end Go.Proofs.Ytlkpecalkakpeaa
