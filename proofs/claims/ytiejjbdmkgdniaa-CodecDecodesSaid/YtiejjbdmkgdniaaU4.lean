/- One bit taken. -/
import Derived.Test.YtiejjbdmkgdniaaU1
import Derived.Test.YtiejjbdmkgdniaaMk
import Derived.Deep.RegionHeld3
import Derived.Deep.QuietTactic
import Derived.BigQuiet
import Derived.Test.YtiejjbdmkgdniaaF5
import Derived.Test.YtiejjbdmkgdniaaS10
set_option linter.unusedVariables false
set_option linter.unusedSimpArgs false
namespace Go.Proofs.Ytiejjbdmkgdniaa
open Go.RowKit Go.Sal Go.Huf Go.Cod
theorem bits_and1_u8 {a : Nat} (ha : a < 256) : bits .and .u8 (a : Int) 1 = ((a % 2 : Nat) : Int) := by
  show IntKind.u8.wrap ((BitVec.ofInt 8 (a : Int) &&& BitVec.ofInt 8 1).toNat : Int) = _
  rw [BitVec.toNat_and, BitVec.ofInt_natCast, show BitVec.ofInt 8 1 = BitVec.ofNat 8 1 from rfl, BitVec.toNat_ofNat, BitVec.toNat_ofNat, Nat.mod_eq_of_lt (by omega), IntKind.wrap_u8, show 1 % 2 ^ 8 = 1 from rfl, Nat.and_one_is_mod]
  omega
set_option maxRecDepth 20000 in
set_option maxHeartbeats 2000000 in
theorem take_ok (T gl : Nat) (bl : List Nat) (bit : Nat) (w : World) (h : LF T gl bl bit w) (hl : bl.length ≤ 1000000) (hb : bit < 8 * bl.length) :
    Calls Try.prog 76 #[.pointer (some ⟨gl, 0, none⟩)] w fun e w' => e = .returned (.int .u64 (bitB bl bit : Nat)) ∧ LF T gl bl (bit + 1) w' ∧ Keep [gl] w w' := by
  obtain ⟨A, c, hblk, hs, hc, hne⟩ := h
  obtain ⟨q, hq⟩ : ∃ q, bit / 8 = q := ⟨_, rfl⟩
  obtain ⟨r, hr⟩ : ∃ r, bit % 8 = r := ⟨_, rfl⟩
  have hr8 : r < 8 := by omega
  have hql : q < bl.length := by omega
  obtain ⟨g, o, rfl, hg, d0⟩ := hs.1 q hql
  have hv := hs.2 _ (List.getElem_mem hql)
  have hbb : bitB bl bit = bl[q] / 2 ^ (7 - r) % 2 := by
    unfold bitB
    rw [hq, hr]
    simp [List.getD, hql]
  have m0 : w.cell? ⟨gl, 0, none⟩ = some (.slice (some ⟨g, o, none⟩) bl.length c) := hblk.cell 0
  have m1 : w.cell? ⟨gl, 1, none⟩ = some (.int .i64 (bit : Nat)) := hblk.cell 1
  have f1 := hblk.free 1
  have HE : ∀ q, Hid (LF T gl bl (bit + 1) ((w.drewN q).setCell ⟨gl, 1, none⟩ (.int .i64 ((bit : Int) + 1))) ∧ Keep [gl] w ((w.drewN q).setCell ⟨gl, 1, none⟩ (.int .i64 ((bit : Int) + 1)))) := fun q => by
    have hk : Keep [gl] w ((w.drewN q).setCell ⟨gl, 1, none⟩ (.int .i64 ((bit : Int) + 1))) := ((Keep.refl [gl] w).drewN q).setCell (.inl (by simp)) _
    refine Lib.hid ⟨⟨_, c, ?_, hs.keep hk (fun a ha hm => Nat.ne_of_lt (hne a ha) (by simpa using hm)), hc, hne⟩, hk⟩
    have := (hblk.drewN q).set_ 1 (.int .i64 ((bit : Int) + 1))
    simpa using this
  generalize bl[q] = v at *
  have HB := Lib.hid hbb
  have htd : (bit : Int).tdiv 8 = (q : Int) := by rw [Int.tdiv_eq_ediv_of_nonneg (by omega)]; omega
  have htm : (bit : Int).tmod 8 = (r : Int) := by rw [Int.tmod_eq_emod_of_nonneg (by omega)]; omega
  have hwq : IntKind.i64.wrap (q : Int) = (q : Int) := by rw [IntKind.wrap_i64]; omega
  have hwr : IntKind.i64.wrap (r : Int) = (r : Int) := by rw [IntKind.wrap_i64]; omega
  have hw7 : IntKind.i64.wrap (7 - (r : Int)) = ((7 - r : Nat) : Int) := by rw [IntKind.wrap_i64]; omega
  have hwu : IntKind.u64.wrap ((7 - r : Nat) : Int) = ((7 - r : Nat) : Int) := by rw [IntKind.wrap_u64]; omega
  have hwb : IntKind.i64.wrap ((bit : Int) + 1) = (bit : Int) + 1 := by rw [IntKind.wrap_i64]; omega
  obtain ⟨b8, hb8⟩ : ∃ b8, b8 = 8 * bl.length := ⟨_, rfl⟩
  have hw8 : IntKind.i64.wrap (8 * (bl.length : Int)) = (b8 : Int) := by rw [IntKind.wrap_i64]; omega
  have hlt : (bit : Int) < b8 := by omega
  have hltb : decide ((bit : Int) < (b8 : Int)) = true := decide_eq_true hlt
  have hqi : (q : Int) < bl.length := by omega
  clear hs hbb hq hr hc hne hblk hb8 hb
  go_enter Try.func76, Try.ntmps76
  go_wp2
  go_quiet ((go_at_call 49; exact Calls.quiet_of_same ((must_yes _).mono (fun e w' h => ⟨h.1, h.2.symm⟩))))
  go_wp2
  have hshr : ((v : Int) / 2 ^ (7 - r)) = ((v / 2 ^ (7 - r) : Nat) : Int) := by simp
  have hd2 : v / 2 ^ (7 - r) < 256 := Nat.lt_of_le_of_lt (Nat.div_le_self _ _) hv
  have hand : bits .and .u8 ((v : Int) / 2 ^ (7 - r)) 1 = (bitB bl bit : Nat) := by rw [hshr, bits_and1_u8 hd2, ← HB.out]
  clear hshr
  have hqn : decide ((q : Int) < (bl.length : Int)) = true := decide_eq_true hqi
  have hqn2 : decide (q < bl.length) = true := decide_eq_true hql
  have hbl2 := bitB_lt bl bit
  have hwx : IntKind.u64.wrap (bitB bl bit : Nat) = (bitB bl bit : Nat) := by rw [IntKind.wrap_u64]; omega
  generalize hbt : bitB bl bit = bt at *
  have Hbt := Lib.hid hbt
  clear hbt
  go_quiet (fail)
  go_wp2
  go_ret
  rw [Hbt.out]
  exact ⟨rfl, (HE _).out⟩
set_option maxRecDepth 20000 in
set_option maxHeartbeats 2000000 in
theorem take_no (T gl : Nat) (bl : List Nat) (bit : Nat) (w : World) (h : LF T gl bl bit w) (hl : bl.length ≤ 1000000) (hb2 : bit ≤ 10000000) (hb : ¬ bit < 8 * bl.length) :
    Calls Try.prog 76 #[.pointer (some ⟨gl, 0, none⟩)] w fun e w' => e = .panicked PN ∧ Keep [] w w' := by
  obtain ⟨A, c, hblk, hs, hc, hne⟩ := h
  have m0 : w.cell? ⟨gl, 0, none⟩ = some (.slice A bl.length c) := hblk.cell 0
  have m1 : w.cell? ⟨gl, 1, none⟩ = some (.int .i64 (bit : Nat)) := hblk.cell 1
  obtain ⟨b8, hb8⟩ : ∃ b8, b8 = 8 * bl.length := ⟨_, rfl⟩
  have hw8 : IntKind.i64.wrap (8 * (bl.length : Int)) = (b8 : Int) := by rw [IntKind.wrap_i64]; omega
  have hlt : ¬ (bit : Int) < b8 := by omega
  have hltb : decide ((bit : Int) < (b8 : Int)) = false := decide_eq_false hlt
  have hltn : decide (bit < b8) = false := decide_eq_false (by omega)
  have Hb := Lib.hid hblk
  clear hs hc hne hblk hb8 hb
  go_enter Try.func76, Try.ntmps76
  go_wp2
  have hS0 : w.drew.cell? ⟨gl, 0, none⟩ = some (.slice A bl.length c) ∧ w.drew.cell? ⟨gl, 1, none⟩ = some (.int .i64 (bit : Nat)) ∧ Keep [] w w.drew := ⟨m0, m1, (Keep.refl _ _).drew⟩
  clear m0 m1
  refine wp_region_G (fun W => W.cell? ⟨gl, 0, none⟩ = some (.slice A bl.length c) ∧ W.cell? ⟨gl, 1, none⟩ = some (.int .i64 (bit : Nat)) ∧ Keep [] w W) [] #[false, false, false, false, false, false, false, false, false, false, false, false] 12 (by kernel_rfl) (by kernel_rfl) (by kernel_rfl) ?_
  refine wpAnyG_take0 (i := 0) (oi := { dst := some 4, op := Go.Op.move (Go.Operand.tmp 0), type := 111, pos := "codec.go:141", after := #[], guard := none }) (v := ?vg1_0) rfl (by kernel_rfl) (by kernel_rfl) (by kernel_rfl) (by kernel_rfl) (fun _ _ _ h => h) (fun _ => hS0) (Or.inl ⟨by rfl, ?hg1_0⟩) ?_
  case hg1_0 => intro w _; go_simp; (try with_reducible rfl)
  try simp only [Act.put, List.setIfInBounds_toArray, List.set_cons_zero, List.set_cons_succ]
  refine wpAnyG_take0 (i := 1) (oi := { dst := some 5, op := Go.Op.nilCheck (Go.Operand.tmp 4), type := 0, pos := "codec.go:141", after := #[{ on := 0, ground := Go.Ground.data }], guard := none }) (v := ?vg1_1) rfl (by kernel_rfl) (by kernel_rfl) (by kernel_rfl) (by kernel_rfl) (fun _ _ _ h => h) (fun _ => hS0) (Or.inl ⟨by rfl, ?hg1_1⟩) ?_
  case hg1_1 => intro w _; go_simp; (try with_reducible rfl)
  try simp only [Act.put, List.setIfInBounds_toArray, List.set_cons_zero, List.set_cons_succ]
  refine wpAnyG_take0 (i := 2) (oi := { dst := some 6, op := Go.Op.fieldAddr 81 (Go.Operand.tmp 5) 1, type := 0, pos := "codec.go:141", after := #[{ on := 1, ground := Go.Ground.data }], guard := none }) (v := ?vg1_2) rfl (by kernel_rfl) (by kernel_rfl) (by kernel_rfl) (by kernel_rfl) (fun _ _ _ h => h) (fun _ => hS0) (Or.inl ⟨by rfl, ?hg1_2⟩) ?_
  case hg1_2 => intro w _; go_simp; (try with_reducible rfl)
  try simp only [Act.put, List.setIfInBounds_toArray, List.set_cons_zero, List.set_cons_succ]
  refine wpAnyG_take (i := 3) (oi := { dst := some 7, op := Go.Op.load 3 (Go.Operand.tmp 6), type := 3, pos := "codec.go:141", after := #[{ on := 2, ground := Go.Ground.data }], guard := none }) (v := ?vg1_3) [3, 10, 11] rfl (by kernel_rfl) (by kernel_rfl) (by kernel_rfl) (by kernel_rfl) (by kernel_rfl) (fun _ _ _ h => h) (fun _ => hS0) (Or.inl ⟨by rfl, ?hg1_3⟩) ?_
  case hg1_3 => intro w hSw; (try dsimp only at hSw); go_simp; (try with_reducible rfl)
  try simp only [Act.put, List.setIfInBounds_toArray, List.set_cons_zero, List.set_cons_succ]
  refine wpAnyG_take0 (i := 4) (oi := { dst := some 8, op := Go.Op.move (Go.Operand.tmp 0), type := 111, pos := "codec.go:141", after := #[], guard := none }) (v := ?vg1_4) rfl (by kernel_rfl) (by kernel_rfl) (by kernel_rfl) (by kernel_rfl) (fun _ _ _ h => h) (fun _ => hS0) (Or.inl ⟨by rfl, ?hg1_4⟩) ?_
  case hg1_4 => intro w _; go_simp; (try with_reducible rfl)
  try simp only [Act.put, List.setIfInBounds_toArray, List.set_cons_zero, List.set_cons_succ]
  refine wpAnyG_take0 (i := 5) (oi := { dst := some 9, op := Go.Op.nilCheck (Go.Operand.tmp 8), type := 0, pos := "codec.go:141", after := #[{ on := 4, ground := Go.Ground.data }], guard := none }) (v := ?vg1_5) rfl (by kernel_rfl) (by kernel_rfl) (by kernel_rfl) (by kernel_rfl) (fun _ _ _ h => h) (fun _ => hS0) (Or.inl ⟨by rfl, ?hg1_5⟩) ?_
  case hg1_5 => intro w _; go_simp; (try with_reducible rfl)
  try simp only [Act.put, List.setIfInBounds_toArray, List.set_cons_zero, List.set_cons_succ]
  refine wpAnyG_take0 (i := 6) (oi := { dst := some 10, op := Go.Op.fieldAddr 81 (Go.Operand.tmp 9) 0, type := 0, pos := "codec.go:141", after := #[{ on := 5, ground := Go.Ground.data }], guard := none }) (v := ?vg1_6) rfl (by kernel_rfl) (by kernel_rfl) (by kernel_rfl) (by kernel_rfl) (fun _ _ _ h => h) (fun _ => hS0) (Or.inl ⟨by rfl, ?hg1_6⟩) ?_
  case hg1_6 => intro w _; go_simp; (try with_reducible rfl)
  try simp only [Act.put, List.setIfInBounds_toArray, List.set_cons_zero, List.set_cons_succ]
  refine wpAnyG_take (i := 7) (oi := { dst := some 11, op := Go.Op.load 24 (Go.Operand.tmp 10), type := 24, pos := "codec.go:141", after := #[{ on := 6, ground := Go.Ground.data }], guard := none }) (v := ?vg1_7) [7, 8, 9, 10, 11] rfl (by kernel_rfl) (by kernel_rfl) (by kernel_rfl) (by kernel_rfl) (by kernel_rfl) (fun _ _ _ h => h) (fun _ => hS0) (Or.inl ⟨by rfl, ?hg1_7⟩) ?_
  case hg1_7 => intro w hSw; (try dsimp only at hSw); go_simp; (try with_reducible rfl)
  try simp only [Act.put, List.setIfInBounds_toArray, List.set_cons_zero, List.set_cons_succ]
  refine wpAnyG_take (i := 8) (oi := { dst := some 12, op := Go.Op.call { callee := Go.Callee.builtin Go.Builtin.len, args := #[Go.Operand.tmp 11], argTypes := #[24] }, type := 3, pos := "codec.go:141", after := #[{ on := 7, ground := Go.Ground.data }], guard := none }) (v := ?vg1_8) [8, 9, 10, 11] rfl (by kernel_rfl) (by kernel_rfl) (by kernel_rfl) (by kernel_rfl) (by kernel_rfl) (fun _ _ _ h => h) (fun _ => hS0) (Or.inl ⟨by rfl, ?hg1_8⟩) ?_
  case hg1_8 => intro w hSw; (try dsimp only at hSw); go_simp; (try with_reducible rfl)
  try simp only [Act.put, List.setIfInBounds_toArray, List.set_cons_zero, List.set_cons_succ]
  refine wpAnyG_take0 (i := 9) (oi := { dst := some 13, op := Go.Op.binOp Go.BinOp.mul 3 (Go.Operand.const (Go.Value.int Go.IntKind.i64 8)) (Go.Operand.tmp 12) 3, type := 3, pos := "codec.go:141", after := #[{ on := 8, ground := Go.Ground.data }], guard := none }) (v := ?vg1_9) rfl (by kernel_rfl) (by kernel_rfl) (by kernel_rfl) (by kernel_rfl) (fun _ _ _ h => h) (fun _ => hS0) (Or.inl ⟨by rfl, ?hg1_9⟩) ?_
  case hg1_9 => intro w _; go_simp; (try with_reducible rfl)
  try simp only [Act.put, List.setIfInBounds_toArray, List.set_cons_zero, List.set_cons_succ]
  refine wpAnyG_take0 (i := 10) (oi := { dst := some 14, op := Go.Op.binOp Go.BinOp.lss 3 (Go.Operand.tmp 7) (Go.Operand.tmp 13) 3, type := 4, pos := "codec.go:141", after := #[{ on := 3, ground := Go.Ground.data }, { on := 9, ground := Go.Ground.data }], guard := none }) (v := ?vg1_10) rfl (by kernel_rfl) (by kernel_rfl) (by kernel_rfl) (by kernel_rfl) (fun _ _ _ h => h) (fun _ => hS0) (Or.inl ⟨by rfl, ?hg1_10⟩) ?_
  case hg1_10 => intro w _; go_simp; (try with_reducible rfl)
  try simp only [Act.put, List.setIfInBounds_toArray, List.set_cons_zero, List.set_cons_succ]
  refine wpAnyG_step (i := 11) (oi := { dst := some 15, op := Go.Op.call { callee := Go.Callee.value (Go.Operand.func 49), args := #[Go.Operand.tmp 14], argTypes := #[4] }, type := 0, pos := "codec.go:141", after := #[{ on := 10, ground := Go.Ground.data }], guard := none }) rfl (by kernel_rfl) (by rfl) (fun K hK => ?_)
  go_simp
  go_at_call 49
  refine (must_no _).mono ?_
  rintro e w' ⟨rfl, hk⟩
  exact ⟨rfl, rfl, Keep.of_drew hk⟩
end Go.Proofs.Ytiejjbdmkgdniaa
set_option linter.unusedVariables false
set_option linter.unusedSimpArgs false
namespace Go.Proofs.Ytiejjbdmkgdniaa
open Go.RowKit Go.Sal Go.Huf Go.Cod
def ckey (q : Nat × Nat) : Value := .agg #[.int .u64 (q.1 : Nat), .int .i64 (q.2 : Nat)]
theorem chk110 (e : Bool) (n : Nat) (a0 a1 : Nat) (w : World) : (Instr.checkKey e (n + 1 + 1) 110 (.agg #[.int .u64 (a0 : Nat), .int .i64 (a1 : Nat)])).run Try.prog w = .ok () w := by
  have z3 := Try.isAgg3
  have s3 := Try.sizeOf3
  have z67 := Try.isAgg67
  have s67 := Try.sizeOf67
  rw [Instr.checkKey]
  simp only [Sem.run_bind, run_underlying Try.underlying110, Result.andThen_ok]
  simp only [List.forIn_toArray, Array.forIn_toList, List.forIn_cons, List.forIn_nil]
  go_simp
  simp [Instr.checkKey, run_underlying Try.underlying3, run_underlying Try.underlying67]
theorem claw : KeyLaw Try.prog 110 ckey where
  same a := by simp [ckey, Instr.sameBits]
  eq a b w := by
    obtain ⟨a0, a1⟩ := a
    obtain ⟨b0, b1⟩ := b
    have z3 := Try.isAgg3
    have s3 := Try.sizeOf3
    have z67 := Try.isAgg67
    have s67 := Try.sizeOf67
    have u3 := Try.underlying3
    have u67 := Try.underlying67
    simp only [ckey]
    show (Op.equalIn 10000 110 _ _).run Try.prog w = _
    rw [show (10000 : Nat) = 9999 + 1 from rfl, Op.equalIn]
    simp only [Sem.run_bind, run_underlying Try.underlying110, Result.andThen_ok]
    go_simp
    by_cases h0 : a0 = b0 <;> by_cases h1 : a1 = b1 <;> simp [h0, h1] <;> omega
  chk e a w := by
    obtain ⟨a0, a1⟩ := a
    exact chk110 e 9998 _ _ w
  desc := ⟨_, Try.underlying110, fun a v => by cases v <;> rfl⟩
/-- the map of the first k symbols' codes -/
def BkF (ls : List Int) (k : Nat) (f : Nat × Nat → Option Value) : Prop :=
  (∀ s, s < k → 0 < ln ls s → f (codeV ls s, (ln ls s).toNat) = some (.int .i64 (s : Nat))) ∧ ∀ q v, f q = some v → ∃ s, s < k ∧ 0 < ln ls s ∧ q = (codeV ls s, (ln ls s).toNat)
theorem BkF.skip {ls : List Int} {k : Nat} {f : Nat × Nat → Option Value} (h : BkF ls k f) (hk : ¬ 0 < ln ls k) : BkF ls (k + 1) f :=
  ⟨fun s hs hp => h.1 s (by rcases Nat.lt_succ_iff_lt_or_eq.1 hs with h | rfl; exact h; exact absurd hp hk) hp, fun q v hq => by
    obtain ⟨s, h1, h2⟩ := h.2 q v hq
    exact ⟨s, by omega, h2⟩⟩
theorem BkF.add {ls : List Int} {k : Nat} {f : Nat × Nat → Option Value} (h : BkF ls k f) (hok : okL ls) (hk : k < ls.length) (hp : 0 < ln ls k) {f' : Nat × Nat → Option Value} (hf : ∀ x, f' x = if x = (codeV ls k, (ln ls k).toNat) then some (.int .i64 (k : Nat)) else f x) : BkF ls (k + 1) f' := by
  refine ⟨fun s hs hps => ?_, fun q v hq => ?_⟩
  · rw [hf]
    rcases Nat.lt_succ_iff_lt_or_eq.1 hs with h1 | rfl
    · rw [if_neg ?_]
      · exact h.1 s h1 hps
      · intro e
        injection e with e1 e2
        have hll : ln ls s = ln ls k := by omega
        have := code_apart hok (a := s) (b := k) (by omega) hk hps (by omega) (by rw [hll, Nat.sub_self, Nat.pow_zero, Nat.div_one, e1])
        omega
    · rw [if_pos rfl]
  · rw [hf] at hq
    by_cases he : q = (codeV ls k, (ln ls k).toNat)
    · exact ⟨k, by omega, hp, he⟩
    · rw [if_neg he] at hq
      obtain ⟨s, h1, h2⟩ := h.2 q v hq
      exact ⟨s, by omega, h2⟩
/-- a book in memory -/
def BkM (w : World) (gm : Nat) (ls : List Int) : Prop := ∃ f, MapF ckey w gm f ∧ ∀ c n, 1 ≤ n → f (c, n) = (symAt ls n c).map fun s => .int .i64 (s : Nat)
theorem BkF.all {ls : List Int} {f : Nat × Nat → Option Value} (h : BkF ls ls.length f) : ∀ c n, 1 ≤ n → f (c, n) = (symAt ls n c).map fun s => .int .i64 (s : Nat) := by
  intro c n hn
  cases hx : symAt ls n c with
  | some s =>
    obtain ⟨h1, h2, h3⟩ := (symAt_some (by omega)).1 hx
    have := h.1 s h1 (by omega)
    rw [h2, h3] at this
    simpa using this
  | none =>
    cases hf : f (c, n) with
    | none => rfl
    | some v =>
      obtain ⟨s, h1, h2, h3⟩ := h.2 _ _ hf
      injection h3 with h3 h4
      exact absurd h3.symm ((symAt_none (by omega)).1 hx s h1 (by omega))
theorem BkM.keep {w w' : World} {gm : Nat} {ls : List Int} {F : List Nat} (h : BkM w gm ls) (k : Keep F w w') (hn : gm ∉ F) : BkM w' gm ls := by
  obtain ⟨f, h1, h2⟩ := h
  exact ⟨f, h1.keep k hn, h2⟩
theorem BkM.lt {w : World} {gm : Nat} {ls : List Int} (h : BkM w gm ls) : gm < w.heap.size := by
  obtain ⟨f, h1, h2⟩ := h
  exact h1.lt
structure BkI (w : World) (ls : List Int) (gm b0 : Nat) (AC : Option Addr) (cC k : Nat) (wr : World) : Prop where
  map : ∃ f, MapF ckey wr gm f ∧ BkF ls k f
  own : wr.ownsRow b0 68 1 (.slice AC ls.length cC) ls.length (inU (codesL ls))
  kp : Keep [] w wr
  fr : w.heap.size ≤ gm
theorem BkI.skip {w wr : World} {ls : List Int} {gm b0 cC k : Nat} {AC : Option Addr} (h : BkI w ls gm b0 AC cC k wr) (hk : ¬ 0 < ln ls k) : BkI w ls gm b0 AC cC (k + 1) wr := by
  obtain ⟨⟨f, h1, h2⟩, h3, h4, h5⟩ := h
  exact ⟨⟨f, h1, h2.skip hk⟩, h3, h4, h5⟩
theorem BkI.add {w wr : World} {ls : List Int} {gm b0 cC k n : Nat} {AC : Option Addr} (h : BkI w ls gm b0 AC cC k wr) (hok : okL ls) (hk : k < ls.length) (hp : ln ls k = n) (hn : 0 < n) :
    ∃ w', (Instr.mapUpdate 84 (.map (some gm)) (.agg #[.int .u64 (codeV ls k : Nat), .int .i64 (n : Nat)]) (.int .i64 (k : Nat))).run Try.prog wr = .ok () w' ∧ BkI w ls gm b0 AC cC (k + 1) w' := by
  obtain ⟨⟨f, h1, h2⟩, h3, h4, h5⟩ := h
  obtain ⟨w', hrun, hm, hkp, _⟩ := kmapUpdate claw Try.underlying84 h1 (codeV ls k, n) (.int .i64 (k : Nat))
  refine ⟨w', hrun, ⟨⟨_, hm, h2.add hok hk (by omega) (fun x => by rw [hp]; rfl)⟩, ownsRow_keep h3 hkp (fun g hg hmem => ?_), h4.step hkp (fun i hi => ?_), h5⟩⟩
  · simp at hmem
    subst hmem
    exact h1.ne_own h3 hg
  · simp at hi
    subst hi
    exact .inr h5
set_option maxRecDepth 20000 in
set_option maxHeartbeats 4000000 in
theorem book_any (ls : List Int) (A : Option Addr) (c : Nat) (w : World) (hs : ISrc w A ls) (hok : okL ls) :
    Calls Try.prog 45 #[.slice A ls.length c] w fun e w' => ∃ gm, e = .returned (.map (some gm)) ∧ w.heap.size ≤ gm ∧ BkM w' gm ls ∧ Keep [] w w' := by
  have hl := hok.1
  have Hs := Lib.hid hs
  have HC := Lib.hid (codes_ok stab_k (Nat.le_refl _) ls A c (w.alloc (.map #[] 0)) (hs.keep ((Keep.refl [] w).alloc _) (by simp)) (by omega) hok)
  have Hok := Lib.hid hok
  have hmm := @run_makeMap Try.prog
  clear hs hok
  go_enter Try.func45, Try.ntmps45
  go_wp2_with (go_at_call 27; refine HC.out.mono ?_; rintro e w1 ⟨AC, cC, rfl, hown, hk⟩)
  have H0 : Hid (BkI w ls w.heap.size (w.alloc (.map #[] 0)).heap.size AC cC 0 w1) := Lib.hid ⟨⟨fun _ => none, MapF.keep ⟨[], #[], 0, heap_alloc_new w _, rfl, fun q => rfl⟩ hk (by simp), ⟨fun s hs => by omega, fun q v h => by cases h⟩⟩, hown, ((Keep.refl [] w).alloc _).trans hk, Nat.le_refl _⟩
  generalize (w.alloc (.map #[] 0)).heap.size = b0 at *
  clear hown hk HC hmm
  go_loopw [16] (fun vk wr => ∃ k : Nat, vk = .int .i64 k ∧ k ≤ ls.length ∧ Hid (BkI w ls w.heap.size b0 AC cC k wr)) (fun vk _ => ls.length - (intOf vk).toNat)
  case atStart => exact ⟨0, rfl, by omega, H0⟩
  case round =>
    obtain ⟨k, rfl, hk, hI⟩ := hrel
    clear H0
    rcases Nat.lt_or_ge k ls.length with hkl | hkl
    · have hki : (k : Int) < ls.length := by omega
      obtain ⟨g, o, rfl, hg, d1⟩ := (Hs.out.keep hI.out.kp (by simp)) k hkl
      have hle := ln_eq hkl
      have hlg := ln_good Hok.out.2.1 k
      have hwk : IntKind.i64.wrap ((k : Int) + 1) = (k : Int) + 1 := by rw [IntKind.wrap_i64]; omega
      by_cases hp : 0 < ln ls k
      · obtain ⟨n, hn⟩ : ∃ n : Nat, ln ls k = n := ⟨(ln ls k).toNat, by omega⟩
        obtain ⟨gc, rfl, _, _⟩ := own_some hI.out.own (by omega)
        have d2 : wr.cell? ⟨gc, k, none⟩ = some (.int .u16 (codeV ls k : Nat)) := by
          have := (inU_cell hI.out.own (i := k) (by rw [codesL_len]; exact hkl)).1
          simpa [codesL] using this
        obtain ⟨w2, hup, hN⟩ := hI.out.add Hok.out hkl hn (by omega)
        have HN := Lib.hid hN
        have hcs := codeV_small Hok.out hkl
        have hwc : IntKind.u64.wrap (codeV ls k : Nat) = (codeV ls k : Nat) := by rw [IntKind.wrap_u64]; omega
        rw [← hle, hn] at d1
        have hn0 : (0 : Int) < n := by omega
        have hn1 : 0 < n := by omega
        have hnb : decide ((n : Int) > 0) = true := decide_eq_true hn0
        clear hN hI hle hlg hp hn
        generalize codeV ls k = cv at *
        go_wp2
        go_roundw
        case rel => exact ⟨k + 1, by simp, by omega, HN⟩
        case measure => simp [intOf]; omega
      · have hz : ls[k] = 0 := by omega
        rw [hz] at d1
        have HN := Lib.hid (hI.out.skip hp)
        clear hI hle hlg hp hz
        go_wp2
        go_roundw
        case rel => exact ⟨k + 1, by simp, by omega, HN⟩
        case measure => simp [intOf]; omega
    · obtain rfl : k = ls.length := by omega
      have hki : ¬ (ls.length : Int) < ls.length := by omega
      have HE : Hid (w.heap.size ≤ w.heap.size ∧ BkM wr w.heap.size ls ∧ Keep [] w wr) := by
        obtain ⟨⟨f, h1, h2⟩, h3, h4, h5⟩ := hI.out
        exact Lib.hid ⟨h5, ⟨f, h1, h2.all⟩, h4⟩
      clear hI
      go_wp2
      go_ret
      exact ⟨_, rfl, HE.out⟩
end Go.Proofs.Ytiejjbdmkgdniaa
