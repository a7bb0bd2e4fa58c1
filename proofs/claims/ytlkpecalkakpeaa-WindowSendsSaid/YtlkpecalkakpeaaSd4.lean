/- Ack of the program's sender, walked: the clone of a row. -/
import Derived.Test.YtlkpecalkakpeaaSd3
import Derived.Test.YtlkpecalkakpeaaSdPure2
import Derived.Test.YtlkpecalkakpeaaReg2
set_option linter.unusedVariables false
set_option linter.unusedSimpArgs false
namespace Go.Proofs.Ytlkpecalkakpeaa
open Go.RowKit Go.Sal

/-- slices.Clone of a row of payloads -/
theorem sclone_any (base : Nat) (A : Option Addr) (n c : Nat) (xs : List Value) (w : World) (hB : base ≤ w.heap.size) (hs : Src w 4 A n xs) (hA : ∀ a, A = some a → a.block < w.heap.size)
    (h1 : ∀ u ∈ xs, u.oneCell' = true) (hn : n ≤ 100000) (hnil : A = none → n = 0) :
    Calls Try.prog 39 #[.slice A n c] w fun e w' => ∃ v', e = .returned v' ∧ w'.ownsRow base 91 4 v' n xs ∧ Keep [] w w' ∧ (∀ g, v'.ownBlock = some g → w.heap.size ≤ g) := by
  cases A with
  | none =>
    have h0 : n = 0 := hnil rfl
    subst h0
    have hx : xs = [] := by
      have := hs.1
      simp at this
      exact this
    subst hx
    have hq := fun W => Lib.run_eql_slice_nil (P := Try.prog) W 75 91 none 0 c 0 0 Try.underlying75
    clear h1 hnil hA hs hn
    go_enter Try.func39, Try.ntmps39
    go_wp2
    go_ret
    exact ⟨_, rfl, World.ownsRow_nil _ _ _ _, Keep.refl _ _, by intro g hg; cases hg⟩
  | some a =>
    have hq := fun W n => Lib.run_eql_slice_nil (P := Try.prog) W 75 91 (some a) n c 0 0 Try.underlying75
    have hs' := hs.keep ((Keep.refl [] w).alloc (.cells #[] 91)) (fun a' ha => ⟨hA a' ha, by simp⟩)
    obtain ⟨v', w', hrun, hown, hg, hat⟩ := run_append_src (P := Try.prog) (w.alloc (.cells #[] 91)) 75 75 91 _ 4 48 base Try.underlying75 sntinfo rfl (by omega) (.slice (some ⟨w.heap.size, 0, none⟩) 0 0) 0 []
      (World.ownsRow_made w #[] 0 hB (by simp [maxLen]) (by simp)) (some a) n c _ hs' h1 (by unfold maxLen; omega) (by omega) (by simp; omega)
    have Hown := Lib.hid hown
    have Hat := Lib.hid hat
    have Hg := Lib.hid hg
    clear hs hs' hown hat h1 hnil hA hn
    have hb := run_empty_slice (P := Try.prog) 75 91 _ _ _ Try.underlying75 sntinfo
    go_enter Try.func39, Try.ntmps39
    go_wp2_with (at_builtin; refine wpList_append2 rfl (.tmp 5) (.tmp 6) rfl rfl rfl hrun ?_)
    go_ret
    refine ⟨_, rfl, ?_, ?_, ?_⟩
    · have := Hown.out
      simpa using this
    · exact ((Keep.refl [] w).alloc _).grown Hg.out (fun k hk => by simp [Value.ownBlock] at hk; omega)
    · intro g hg
      have hg : v'.ownBlock = some g := hg
      rcases Hat.out with h | h
      · rw [hg] at h
        simp [Value.ownBlock] at h
        omega
      · rw [hg] at h
        simp at h
        omega

def AckPost (base bs : Nat) (sz ag now bse most op all : Int) (M : Nat) (lv : Value) (l : List (Snt Value)) (p : List (Snt (List UInt8))) (w : World) (e : Ending) (w' : World) : Prop :=
  (¬ Named most all M ∧ e = .returned (.tuple #[.int .i64 0, .int .i64 191]) ∧ w' = w) ∨
  (Named most all M ∧ ∃ lv', e = .returned (.tuple #[.int .i64 (ackF all M l bse : Nat), .int .i64 0]) ∧
    SBlk bs sz ag now (bse + (doneN (ackR all M l bse) : Nat)) most lv' (op - (ackF all M l bse : Nat)) w' ∧
    w'.ownsRow base 91 4 lv' ((ackR all M l bse).drop (doneN (ackR all M l bse))).length (((ackR all M l bse).drop (doneN (ackR all M l bse))).flatMap scells) ∧
    SR (Reads base 5 w') ((ackR all M l bse).drop (doneN (ackR all M l bse))) ((ackR all M p bse).drop (doneN (ackR all M p bse))) ∧
    Keep (bs :: lv.ownBlock.toList) w w')

/-- the first loop's relation: k payloads have been looked at -/
def AInv (base bs : Nat) (sz ag now bse most op all : Int) (M : Nat) (AL : Option Addr) (cL : Nat) (l : List (Snt Value)) (w : World) (k : Nat) (wr : World) : Prop :=
  SBlk bs sz ag now bse most (.slice AL l.length cL) op wr ∧ wr.ownsRow base 91 4 (.slice AL l.length cL) l.length ((ackL all M bse k l).flatMap scells) ∧
  Keep (Value.slice AL l.length cL).ownBlock.toList w wr

theorem hit_yes {all n : Int} {M : Nat} (h1 : ¬ n ≤ all) (hM : M < 18446744073709551616) (h2 : 2 ≤ n - all) (h3 : n - all - 2 < 64) (h4 : (bits .and .u64 ((M : Int) / 2 ^ (n - all - 2).toNat) 1 == 1) = true) : hitB all M n = true := by
  have h5 := (bit_test (k := (n - all - 2).toNat) hM).1 (by simpa using h4)
  simp only [hitB, h5]
  simp
  omega
theorem hit_no1 {all n : Int} {M : Nat} (h1 : ¬ n ≤ all) (hM : M < 18446744073709551616) (h3 : n - all - 2 < 64) (h4 : (bits .and .u64 ((M : Int) / 2 ^ (n - all - 2).toNat) 1 == 1) = false) : hitB all M n = false := by
  have h5 : M.testBit (n - all - 2).toNat = false := by
    cases h : M.testBit (n - all - 2).toNat with
    | false => rfl
    | true =>
      have := (bit_test (k := (n - all - 2).toNat) hM).2 h
      rw [this] at h4
      simp at h4
  simp only [hitB, h5]
  simp
  omega
theorem hit_no2 {all n : Int} {M : Nat} (h1 : ¬ n ≤ all) (h3 : ¬ n - all - 2 < 64) : hitB all M n = false := by
  simp [hitB]; omega
theorem hit_no3 {all n : Int} {M : Nat} (h1 : ¬ n ≤ all) (h3 : ¬ 2 ≤ n - all) : hitB all M n = false := by
  simp [hitB]; omega
theorem tail_blk {w : World} {base n cap j : Nat} {AL A' : Option Addr} {xs : List Value} (h : w.ownsRow base 91 4 (.slice AL n cap) n xs) (hA : A' = (if cap = j then AL else Option.map (fun x : Addr => x.add (j * 4)) AL)) : ∀ a, A' = some a → a.block < w.heap.size := by
  intro a ha
  rw [hA] at ha
  split at ha
  · subst ha
    exact (h.lt a.block rfl).2
  · cases AL with
    | none => cases ha
    | some a0 =>
      simp at ha
      subst ha
      rw [add_block]
      exact (h.lt a0.block rfl).2
theorem tail_nil {w : World} {base n cap j : Nat} {AL A' : Option Addr} {xs : List Value} (h : w.ownsRow base 91 4 (.slice AL n cap) n xs) (hc : n ≤ cap) (hA : A' = (if cap = j then AL else Option.map (fun x : Addr => x.add (j * 4)) AL)) : A' = none → n - j = 0 := by
  intro h0
  by_cases hn : 0 < n
  · obtain ⟨g, rfl, _⟩ := own_some h hn
    rw [hA] at h0
    split at h0
    · omega
    · cases h0
  · omega
theorem scells_one {base : Nat} {w : World} : ∀ {l : List (Snt Value)} {p : List (Snt (List UInt8))}, SR (Reads base 5 w) l p → ∀ u ∈ l.flatMap scells, u.oneCell' = true
  | [], [], _, u, hu => by simp at hu
  | a :: l, b :: p, h, u, hu => by
    rw [List.flatMap_cons, List.mem_append] at hu
    rcases hu with hu | hu
    · obtain ⟨A, c, hb, _⟩ := h.1.2.2.2
      simp only [scells, hb, List.mem_cons, List.not_mem_nil, or_false] at hu
      rcases hu with rfl | rfl | rfl | rfl <;> rfl
    · exact scells_one (l := l) (p := p) h.2 u hu
  | [], _ :: _, h, _, _ => h.elim
  | _ :: _, [], h, _, _ => h.elim
/-- the row behind the store of a payload that is hit -/
theorem ack_row {w : World} {base cap g k : Nat} {l : List (Snt Value)} {all bse : Int} {M : Nat} (h : w.ownsRow base 91 4 (.slice (some ⟨g, 0, none⟩) l.length cap) l.length ((ackL all M bse k l).flatMap scells)) (hk : k < l.length) :
    (w.frozen? ⟨g, k * 4 + 3, none⟩ = false ∧ w.cell? ⟨g, k * 4 + 3, none⟩ = some (.bool l[k].done)) ∧
    (hitB all M (bse + k) = true → (w.setCell ⟨g, k * 4 + 3, none⟩ (.bool true)).ownsRow base 91 4 (.slice (some ⟨g, 0, none⟩) l.length cap) l.length ((ackL all M bse (k + 1) l).flatMap scells)) := by
  have hk' : k < (ackL all M bse k l).length := by rw [ackL_len]; exact hk
  have hat := ackL_at (all := all) (M := M) (bse := bse) hk hk'
  have hc1 : ((ackL all M bse k l).flatMap scells)[k * 4 + 3]? = some (.bool l[k].done) := by
    rw [rf_get scells_len _ k 3 hk' (by omega), hat]; rfl
  refine ⟨(ownsRow_cell h hc1).symm, fun hh => ?_⟩
  have s1 : ((ackL all M bse k l).flatMap scells).set (k * 4 + 3) (.bool true) = ((ackL all M bse k l).set k (ackU all M (bse + k) l[k])).flatMap scells :=
    rf_set scells_len _ k 3 hk' (by omega) _ _ (by rw [hat]; unfold ackU; rw [if_pos hh]; rfl)
  have h1 := ownsRow_set h (k * 4 + 3) (by omega) (.bool true)
  rw [s1, ackL_set hk] at h1
  exact h1

set_option maxRecDepth 20000 in
set_option maxHeartbeats 8000000 in
/-- behind the loops: the last region and the way out -/
theorem ack_tail (base bs : Nat) (sz ag now bse most op all : Int) (M : Nat) (AL : Option Addr) (cL : Nat) (l : List (Snt Value)) (p : List (Snt (List UInt8))) (w wo : World) (f j : Nat) (l1 : List (Snt Value))
    (hcL : l.length ≤ cL) (hb : 0 ≤ bse) (hb2 : bse ≤ 1000000000) (hl : l.length ≤ 100000) (hbb : base ≤ bs) (hop : -4611686018427387904 ≤ op) (hop2 : op ≤ 4611686018427387904) (hf : f ≤ 100000) (hjl : j ≤ l.length)
    (HT : Hid (SBlk bs sz ag now bse most (.slice AL l.length cL) op w)) (Hown : Hid (w.ownsRow base 91 4 (.slice AL l.length cL) l.length (l.flatMap scells))) (Hp : Hid (SR (Reads base 5 w) l p)) (HN : Hid (Named most all M))
    (HTr : Hid (SBlk bs sz ag now bse most (.slice AL l.length cL) op wo)) (Hkr : Hid (Keep (Value.slice AL l.length cL).ownBlock.toList w wo)) (Hown1 : Hid (wo.ownsRow base 91 4 (.slice AL l.length cL) l.length (l1.flatMap scells)))
    (Hl1 : Hid (l1 = ackR all M l bse)) (Hlen1 : Hid (l1.length = l.length)) (HB : Hid (base ≤ wo.heap.size)) (Hj : Hid (doneN l1 = j)) (Hf : Hid (f = ackF all M l bse))
    {t1 t2 t3 t4 t5 t6 t7 t9 t10 t11 t13 t14 t15 t16 t17 t18 t19 t20 t21 t22 t23 t24 t25 t26 t27 t28 t29 t30 t31 t32 t33 t34 t35 t36 t37 t38 t39 t40 t41 t42 t43 t44 t45 t46 t47 t48 t49 t50 t51 t52 t53 t54 t55 t56 t57 t58 t59 t60 t61 t62 t63 t64 t65 t66 t67 t68 t69 t70 t71 t72 t73 t74 t75 t76 t77 t78 t79 t80 t81 t82 t83 t84 t85 t86 t87 t88 t89 t90 t91 t92 t93 t94 t95 t96 t97 t98 t99 t100 t101 t102 t103 t104 t105 t106 t107 t108 t109 t110 t111 t112 t113 t114 t115 t116 t117 t118 t119 t120 t121 t122 t123 t124 : Value} (K : Act → World → Prop)
    (hK : ∀ (a : Act) (w' : World), Code.wp Try.prog ((Code.region 20 #[{ dst := some 124, op := Go.Op.move (Go.Operand.tmp 8), type := 3, pos := "window.go:125", after := #[], guard := none }, { dst := some 6, op := Go.Op.assign (Go.Operand.tmp 124), type := 3, pos := "window.go:125", after := #[{ on := 0, ground := Go.Ground.data }, { on := 0, ground := Go.Ground.phase }], guard := none }, { dst := some 7, op := Go.Op.assign (Go.Operand.const (Go.Value.int Go.IntKind.i64 0)), type := 24, pos := "window.go:125", after := #[{ on := 1, ground := Go.Ground.chain }, { on := 0, ground := Go.Ground.phase }, { on := 1, ground := Go.Ground.phase }], guard := none }] false).seq Code.ret) (bodyPost Try.prog Try.f21 (AckPost base bs sz ag now bse most op all M (.slice AL l.length cL) l p w)) a w' → K a w') :
    Code.wp Try.prog (Code.region 19 #[{ dst := some 96, op := Go.Op.move (Go.Operand.tmp 0), type := 45, pos := "window.go:124", after := #[], guard := none }, { dst := some 97, op := Go.Op.move (Go.Operand.tmp 0), type := 45, pos := "window.go:124", after := #[{ on := 24, ground := Go.Ground.gcOnly Go.Departure.lateStores }], guard := none }, { dst := some 98, op := Go.Op.move (Go.Operand.tmp 0), type := 45, pos := "window.go:124", after := #[{ on := 27, ground := Go.Ground.gcOnly Go.Departure.lateStores }], guard := none }, { dst := some 99, op := Go.Op.move (Go.Operand.tmp 0), type := 45, pos := "window.go:124", after := #[], guard := none }, { dst := some 100, op := Go.Op.nilCheck (Go.Operand.tmp 99), type := 0, pos := "window.go:124", after := #[{ on := 3, ground := Go.Ground.data }], guard := none }, { dst := some 101, op := Go.Op.fieldAddr 77 (Go.Operand.tmp 100) 5, type := 0, pos := "window.go:124", after := #[{ on := 4, ground := Go.Ground.data }], guard := none }, { dst := some 102, op := Go.Op.load 75 (Go.Operand.tmp 101), type := 75, pos := "window.go:124", after := #[{ on := 5, ground := Go.Ground.data }], guard := none }, { dst := some 103, op := Go.Op.move (Go.Operand.tmp 12), type := 3, pos := "window.go:124", after := #[], guard := none }, { dst := some 104, op := Go.Op.slice 75 (Go.Operand.tmp 102) (some (Go.Operand.tmp 103)) none none, type := 75, pos := "window.go:124", after := #[{ on := 6, ground := Go.Ground.data }, { on := 7, ground := Go.Ground.data }], guard := none }, { dst := some 105, op := Go.Op.call { callee := Go.Callee.value (Go.Operand.func 39), args := #[Go.Operand.tmp 104], argTypes := #[75] }, type := 75, pos := "window.go:124", after := #[{ on := 8, ground := Go.Ground.data }], guard := none }, { dst := some 106, op := Go.Op.move (Go.Operand.tmp 0), type := 45, pos := "window.go:124", after := #[], guard := none }, { dst := some 107, op := Go.Op.nilCheck (Go.Operand.tmp 106), type := 0, pos := "window.go:124", after := #[{ on := 10, ground := Go.Ground.data }], guard := none }, { dst := some 108, op := Go.Op.fieldAddr 77 (Go.Operand.tmp 107) 3, type := 0, pos := "window.go:124", after := #[{ on := 11, ground := Go.Ground.data }], guard := none }, { dst := some 109, op := Go.Op.load 3 (Go.Operand.tmp 108), type := 3, pos := "window.go:124", after := #[{ on := 12, ground := Go.Ground.data }], guard := none }, { dst := some 110, op := Go.Op.move (Go.Operand.tmp 12), type := 3, pos := "window.go:124", after := #[], guard := none }, { dst := some 111, op := Go.Op.binOp Go.BinOp.add 3 (Go.Operand.tmp 109) (Go.Operand.tmp 110) 3, type := 3, pos := "window.go:124", after := #[{ on := 13, ground := Go.Ground.data }, { on := 14, ground := Go.Ground.data }], guard := none }, { dst := some 112, op := Go.Op.move (Go.Operand.tmp 0), type := 45, pos := "window.go:124", after := #[], guard := none }, { dst := some 113, op := Go.Op.nilCheck (Go.Operand.tmp 112), type := 0, pos := "window.go:124", after := #[{ on := 16, ground := Go.Ground.data }], guard := none }, { dst := some 114, op := Go.Op.fieldAddr 77 (Go.Operand.tmp 113) 6, type := 0, pos := "window.go:124", after := #[{ on := 17, ground := Go.Ground.data }], guard := none }, { dst := some 115, op := Go.Op.load 3 (Go.Operand.tmp 114), type := 3, pos := "window.go:124", after := #[{ on := 18, ground := Go.Ground.data }], guard := none }, { dst := some 116, op := Go.Op.move (Go.Operand.tmp 8), type := 3, pos := "window.go:124", after := #[], guard := none }, { dst := some 117, op := Go.Op.binOp Go.BinOp.sub 3 (Go.Operand.tmp 115) (Go.Operand.tmp 116) 3, type := 3, pos := "window.go:124", after := #[{ on := 19, ground := Go.Ground.data }, { on := 20, ground := Go.Ground.data }], guard := none }, { dst := some 118, op := Go.Op.nilCheck (Go.Operand.tmp 96), type := 0, pos := "window.go:124", after := #[{ on := 0, ground := Go.Ground.data }, { on := 0, ground := Go.Ground.phase }, { on := 1, ground := Go.Ground.textOnly Go.Departure.lateStores }, { on := 2, ground := Go.Ground.textOnly Go.Departure.lateStores }, { on := 3, ground := Go.Ground.phase }, { on := 4, ground := Go.Ground.phase }, { on := 5, ground := Go.Ground.phase }, { on := 6, ground := Go.Ground.phase }, { on := 7, ground := Go.Ground.phase }, { on := 8, ground := Go.Ground.phase }, { on := 9, ground := Go.Ground.phase }, { on := 10, ground := Go.Ground.textOnly Go.Departure.lateStores }, { on := 11, ground := Go.Ground.textOnly Go.Departure.lateStoresUnsure }, { on := 12, ground := Go.Ground.textOnly Go.Departure.lateStoresUnsure }, { on := 13, ground := Go.Ground.phase }, { on := 14, ground := Go.Ground.textOnly Go.Departure.lateStores }, { on := 15, ground := Go.Ground.textOnly Go.Departure.lateStoresUnsure }, { on := 16, ground := Go.Ground.textOnly Go.Departure.lateStores }, { on := 17, ground := Go.Ground.textOnly Go.Departure.lateStoresUnsure }, { on := 18, ground := Go.Ground.textOnly Go.Departure.lateStoresUnsure }, { on := 19, ground := Go.Ground.phase }, { on := 20, ground := Go.Ground.textOnly Go.Departure.lateStores }, { on := 21, ground := Go.Ground.textOnly Go.Departure.lateStoresUnsure }], guard := none }, { dst := some 119, op := Go.Op.fieldAddr 77 (Go.Operand.tmp 118) 5, type := 0, pos := "window.go:124", after := #[{ on := 22, ground := Go.Ground.data }, { on := 0, ground := Go.Ground.phase }, { on := 1, ground := Go.Ground.textOnly Go.Departure.lateStores }, { on := 2, ground := Go.Ground.textOnly Go.Departure.lateStores }, { on := 3, ground := Go.Ground.phase }, { on := 4, ground := Go.Ground.phase }, { on := 5, ground := Go.Ground.phase }, { on := 6, ground := Go.Ground.phase }, { on := 7, ground := Go.Ground.phase }, { on := 8, ground := Go.Ground.phase }, { on := 9, ground := Go.Ground.phase }, { on := 10, ground := Go.Ground.textOnly Go.Departure.lateStores }, { on := 11, ground := Go.Ground.textOnly Go.Departure.lateStoresUnsure }, { on := 12, ground := Go.Ground.textOnly Go.Departure.lateStoresUnsure }, { on := 13, ground := Go.Ground.phase }, { on := 14, ground := Go.Ground.textOnly Go.Departure.lateStores }, { on := 15, ground := Go.Ground.textOnly Go.Departure.lateStoresUnsure }, { on := 16, ground := Go.Ground.textOnly Go.Departure.lateStores }, { on := 17, ground := Go.Ground.textOnly Go.Departure.lateStoresUnsure }, { on := 18, ground := Go.Ground.textOnly Go.Departure.lateStoresUnsure }, { on := 19, ground := Go.Ground.phase }, { on := 20, ground := Go.Ground.textOnly Go.Departure.lateStores }, { on := 21, ground := Go.Ground.textOnly Go.Departure.lateStoresUnsure }], guard := none }, { dst := none, op := Go.Op.store 75 (Go.Operand.tmp 119) (Go.Operand.tmp 105), type := 0, pos := "window.go:124", after := #[{ on := 23, ground := Go.Ground.data }, { on := 9, ground := Go.Ground.data }, { on := 9, ground := Go.Ground.chain }, { on := 0, ground := Go.Ground.phase }, { on := 1, ground := Go.Ground.textOnly Go.Departure.lateStores }, { on := 2, ground := Go.Ground.textOnly Go.Departure.lateStores }, { on := 3, ground := Go.Ground.phase }, { on := 4, ground := Go.Ground.phase }, { on := 5, ground := Go.Ground.phase }, { on := 6, ground := Go.Ground.phase }, { on := 7, ground := Go.Ground.phase }, { on := 8, ground := Go.Ground.phase }, { on := 9, ground := Go.Ground.phase }, { on := 10, ground := Go.Ground.textOnly Go.Departure.lateStores }, { on := 11, ground := Go.Ground.textOnly Go.Departure.lateStoresUnsure }, { on := 12, ground := Go.Ground.textOnly Go.Departure.lateStoresUnsure }, { on := 13, ground := Go.Ground.phase }, { on := 14, ground := Go.Ground.textOnly Go.Departure.lateStores }, { on := 15, ground := Go.Ground.textOnly Go.Departure.lateStoresUnsure }, { on := 16, ground := Go.Ground.textOnly Go.Departure.lateStores }, { on := 17, ground := Go.Ground.textOnly Go.Departure.lateStoresUnsure }, { on := 18, ground := Go.Ground.textOnly Go.Departure.lateStoresUnsure }, { on := 19, ground := Go.Ground.phase }, { on := 20, ground := Go.Ground.textOnly Go.Departure.lateStores }, { on := 21, ground := Go.Ground.textOnly Go.Departure.lateStoresUnsure }], guard := none }, { dst := some 120, op := Go.Op.nilCheck (Go.Operand.tmp 97), type := 0, pos := "window.go:124", after := #[{ on := 1, ground := Go.Ground.data }, { on := 0, ground := Go.Ground.phase }, { on := 1, ground := Go.Ground.phase }, { on := 2, ground := Go.Ground.textOnly Go.Departure.lateStores }, { on := 3, ground := Go.Ground.phase }, { on := 4, ground := Go.Ground.phase }, { on := 5, ground := Go.Ground.phase }, { on := 6, ground := Go.Ground.phase }, { on := 7, ground := Go.Ground.phase }, { on := 8, ground := Go.Ground.phase }, { on := 9, ground := Go.Ground.phase }, { on := 10, ground := Go.Ground.phase }, { on := 11, ground := Go.Ground.phase }, { on := 12, ground := Go.Ground.phase }, { on := 13, ground := Go.Ground.phase }, { on := 14, ground := Go.Ground.phase }, { on := 15, ground := Go.Ground.phase }, { on := 16, ground := Go.Ground.textOnly Go.Departure.lateStores }, { on := 17, ground := Go.Ground.textOnly Go.Departure.lateStoresUnsure }, { on := 18, ground := Go.Ground.textOnly Go.Departure.lateStoresUnsure }, { on := 19, ground := Go.Ground.phase }, { on := 20, ground := Go.Ground.textOnly Go.Departure.lateStores }, { on := 21, ground := Go.Ground.textOnly Go.Departure.lateStoresUnsure }, { on := 22, ground := Go.Ground.phase }, { on := 23, ground := Go.Ground.phase }, { on := 24, ground := Go.Ground.phase }], guard := none }, { dst := some 121, op := Go.Op.fieldAddr 77 (Go.Operand.tmp 120) 3, type := 0, pos := "window.go:124", after := #[{ on := 25, ground := Go.Ground.data }, { on := 0, ground := Go.Ground.phase }, { on := 1, ground := Go.Ground.phase }, { on := 2, ground := Go.Ground.textOnly Go.Departure.lateStores }, { on := 3, ground := Go.Ground.phase }, { on := 4, ground := Go.Ground.phase }, { on := 5, ground := Go.Ground.phase }, { on := 6, ground := Go.Ground.phase }, { on := 7, ground := Go.Ground.phase }, { on := 8, ground := Go.Ground.phase }, { on := 9, ground := Go.Ground.phase }, { on := 10, ground := Go.Ground.phase }, { on := 11, ground := Go.Ground.phase }, { on := 12, ground := Go.Ground.phase }, { on := 13, ground := Go.Ground.phase }, { on := 14, ground := Go.Ground.phase }, { on := 15, ground := Go.Ground.phase }, { on := 16, ground := Go.Ground.textOnly Go.Departure.lateStores }, { on := 17, ground := Go.Ground.textOnly Go.Departure.lateStoresUnsure }, { on := 18, ground := Go.Ground.textOnly Go.Departure.lateStoresUnsure }, { on := 19, ground := Go.Ground.phase }, { on := 20, ground := Go.Ground.textOnly Go.Departure.lateStores }, { on := 21, ground := Go.Ground.textOnly Go.Departure.lateStoresUnsure }, { on := 22, ground := Go.Ground.phase }, { on := 23, ground := Go.Ground.phase }, { on := 24, ground := Go.Ground.phase }], guard := none }, { dst := none, op := Go.Op.store 3 (Go.Operand.tmp 121) (Go.Operand.tmp 111), type := 0, pos := "window.go:124", after := #[{ on := 26, ground := Go.Ground.data }, { on := 15, ground := Go.Ground.data }, { on := 24, ground := Go.Ground.chain }, { on := 0, ground := Go.Ground.phase }, { on := 1, ground := Go.Ground.phase }, { on := 2, ground := Go.Ground.textOnly Go.Departure.lateStores }, { on := 3, ground := Go.Ground.phase }, { on := 4, ground := Go.Ground.phase }, { on := 5, ground := Go.Ground.phase }, { on := 6, ground := Go.Ground.phase }, { on := 7, ground := Go.Ground.phase }, { on := 8, ground := Go.Ground.phase }, { on := 9, ground := Go.Ground.phase }, { on := 10, ground := Go.Ground.phase }, { on := 11, ground := Go.Ground.phase }, { on := 12, ground := Go.Ground.phase }, { on := 13, ground := Go.Ground.phase }, { on := 14, ground := Go.Ground.phase }, { on := 15, ground := Go.Ground.phase }, { on := 16, ground := Go.Ground.textOnly Go.Departure.lateStores }, { on := 17, ground := Go.Ground.textOnly Go.Departure.lateStoresUnsure }, { on := 18, ground := Go.Ground.textOnly Go.Departure.lateStoresUnsure }, { on := 19, ground := Go.Ground.phase }, { on := 20, ground := Go.Ground.textOnly Go.Departure.lateStores }, { on := 21, ground := Go.Ground.textOnly Go.Departure.lateStoresUnsure }, { on := 22, ground := Go.Ground.phase }, { on := 23, ground := Go.Ground.phase }, { on := 24, ground := Go.Ground.phase }], guard := none }, { dst := some 122, op := Go.Op.nilCheck (Go.Operand.tmp 98), type := 0, pos := "window.go:124", after := #[{ on := 2, ground := Go.Ground.data }, { on := 0, ground := Go.Ground.phase }, { on := 1, ground := Go.Ground.phase }, { on := 2, ground := Go.Ground.phase }, { on := 3, ground := Go.Ground.phase }, { on := 4, ground := Go.Ground.phase }, { on := 5, ground := Go.Ground.phase }, { on := 6, ground := Go.Ground.phase }, { on := 7, ground := Go.Ground.phase }, { on := 8, ground := Go.Ground.phase }, { on := 9, ground := Go.Ground.phase }, { on := 10, ground := Go.Ground.phase }, { on := 11, ground := Go.Ground.phase }, { on := 12, ground := Go.Ground.phase }, { on := 13, ground := Go.Ground.phase }, { on := 14, ground := Go.Ground.phase }, { on := 15, ground := Go.Ground.phase }, { on := 16, ground := Go.Ground.phase }, { on := 17, ground := Go.Ground.phase }, { on := 18, ground := Go.Ground.phase }, { on := 19, ground := Go.Ground.phase }, { on := 20, ground := Go.Ground.phase }, { on := 21, ground := Go.Ground.phase }, { on := 22, ground := Go.Ground.phase }, { on := 23, ground := Go.Ground.phase }, { on := 24, ground := Go.Ground.phase }, { on := 25, ground := Go.Ground.phase }, { on := 26, ground := Go.Ground.phase }, { on := 27, ground := Go.Ground.phase }], guard := none }, { dst := some 123, op := Go.Op.fieldAddr 77 (Go.Operand.tmp 122) 6, type := 0, pos := "window.go:124", after := #[{ on := 28, ground := Go.Ground.data }, { on := 0, ground := Go.Ground.phase }, { on := 1, ground := Go.Ground.phase }, { on := 2, ground := Go.Ground.phase }, { on := 3, ground := Go.Ground.phase }, { on := 4, ground := Go.Ground.phase }, { on := 5, ground := Go.Ground.phase }, { on := 6, ground := Go.Ground.phase }, { on := 7, ground := Go.Ground.phase }, { on := 8, ground := Go.Ground.phase }, { on := 9, ground := Go.Ground.phase }, { on := 10, ground := Go.Ground.phase }, { on := 11, ground := Go.Ground.phase }, { on := 12, ground := Go.Ground.phase }, { on := 13, ground := Go.Ground.phase }, { on := 14, ground := Go.Ground.phase }, { on := 15, ground := Go.Ground.phase }, { on := 16, ground := Go.Ground.phase }, { on := 17, ground := Go.Ground.phase }, { on := 18, ground := Go.Ground.phase }, { on := 19, ground := Go.Ground.phase }, { on := 20, ground := Go.Ground.phase }, { on := 21, ground := Go.Ground.phase }, { on := 22, ground := Go.Ground.phase }, { on := 23, ground := Go.Ground.phase }, { on := 24, ground := Go.Ground.phase }, { on := 25, ground := Go.Ground.phase }, { on := 26, ground := Go.Ground.phase }, { on := 27, ground := Go.Ground.phase }], guard := none }, { dst := none, op := Go.Op.store 3 (Go.Operand.tmp 123) (Go.Operand.tmp 117), type := 0, pos := "window.go:124", after := #[{ on := 29, ground := Go.Ground.data }, { on := 21, ground := Go.Ground.data }, { on := 27, ground := Go.Ground.chain }, { on := 0, ground := Go.Ground.phase }, { on := 1, ground := Go.Ground.phase }, { on := 2, ground := Go.Ground.phase }, { on := 3, ground := Go.Ground.phase }, { on := 4, ground := Go.Ground.phase }, { on := 5, ground := Go.Ground.phase }, { on := 6, ground := Go.Ground.phase }, { on := 7, ground := Go.Ground.phase }, { on := 8, ground := Go.Ground.phase }, { on := 9, ground := Go.Ground.phase }, { on := 10, ground := Go.Ground.phase }, { on := 11, ground := Go.Ground.phase }, { on := 12, ground := Go.Ground.phase }, { on := 13, ground := Go.Ground.phase }, { on := 14, ground := Go.Ground.phase }, { on := 15, ground := Go.Ground.phase }, { on := 16, ground := Go.Ground.phase }, { on := 17, ground := Go.Ground.phase }, { on := 18, ground := Go.Ground.phase }, { on := 19, ground := Go.Ground.phase }, { on := 20, ground := Go.Ground.phase }, { on := 21, ground := Go.Ground.phase }, { on := 22, ground := Go.Ground.phase }, { on := 23, ground := Go.Ground.phase }, { on := 24, ground := Go.Ground.phase }, { on := 25, ground := Go.Ground.phase }, { on := 26, ground := Go.Ground.phase }, { on := 27, ground := Go.Ground.phase }], guard := none }] true) (Exit.then K (bodyPost Try.prog Try.f21 (AckPost base bs sz ag now bse most op all M (.slice AL l.length cL) l p w)))
      { tmps := #[.pointer (some ⟨bs, 0, none⟩), t1, t2, t3, t4, t5, t6, t7, .int .i64 (f : Int), t9, t10, t11, .int .i64 (j : Int), t13, t14, t15, t16, t17, t18, t19, t20, t21, t22, t23, t24, t25, t26, t27, t28, t29, t30, t31, t32, t33, t34, t35, t36, t37, t38, t39, t40, t41, t42, t43, t44, t45, t46, t47, t48, t49, t50, t51, t52, t53, t54, t55, t56, t57, t58, t59, t60, t61, t62, t63, t64, t65, t66, t67, t68, t69, t70, t71, t72, t73, t74, t75, t76, t77, t78, t79, t80, t81, t82, t83, t84, t85, t86, t87, t88, t89, t90, t91, t92, t93, t94, t95, t96, t97, t98, t99, t100, t101, t102, t103, t104, t105, t106, t107, t108, t109, t110, t111, t112, t113, t114, t115, t116, t117, t118, t119, t120, t121, t122, t123, t124], defers := [] } wo := by
  have hsl := fun W => slice_tail (P := Try.prog) 75 91 Try.underlying75 AL l.length cL j hjl W 4 (by kernel_rfl)
  obtain ⟨A', hA'⟩ : ∃ A' : Option Addr, A' = (if cL = j then AL else Option.map (fun x : Addr => x.add (j * 4)) AL) := ⟨_, rfl⟩
  rw [← hA'] at hsl
  obtain ⟨mm, mq, hmm⟩ : ∃ mm mq, mm = l.length - j ∧ mq = cL - j := ⟨_, _, rfl, rfl⟩
  rw [← hmm.1, ← hmm.2] at hsl
  have Hmm := Lib.hid hmm
  have Hsrc : Hid (Src wo 4 A' mm ((l1.flatMap scells).drop (j * 4))) := Lib.hid (by rw [hA', hmm.1]; exact Src.tail (Src.of_own Hown1.out) hjl hcL)
  have Hblk : Hid (∀ a, A' = some a → a.block < wo.heap.size) := Lib.hid (tail_blk Hown1.out hA')
  have Hnil : Hid (A' = none → mm = 0) := Lib.hid (by rw [hmm.1]; exact tail_nil Hown1.out hcL hA')
  have Hone : Hid (∀ u ∈ (l1.flatMap scells).drop (j * 4), u.oneCell' = true) := Lib.hid (fun u hu => scells_one (SR.ack (all := all) (M := M) bse Hp.out) u (by rw [← Hl1.out]; exact List.mem_of_mem_drop hu))
  have hS19 : wo.drew.cell? ⟨bs, 5, none⟩ = some (.slice AL l.length cL) ∧ wo.drew.cell? ⟨bs, 3, none⟩ = some (.int .i64 bse) ∧ wo.drew.cell? ⟨bs, 6, none⟩ = some (.int .i64 op) := ⟨Blk.cell HTr.out 5, Blk.cell HTr.out 3, Blk.cell HTr.out 6⟩
  have hwj : IntKind.i64.wrap (bse + (j : Int)) = bse + j := by rw [IntKind.wrap_i64]; omega
  have hwf : IntKind.i64.wrap (op - (f : Int)) = op - f := by rw [IntKind.wrap_i64]; omega
  have HA' := Lib.hid hA'
  clear hA' hmm
  refine wp_region_G (fun W => W.cell? ⟨bs, 5, none⟩ = some (.slice AL l.length cL) ∧ W.cell? ⟨bs, 3, none⟩ = some (.int .i64 bse) ∧ W.cell? ⟨bs, 6, none⟩ = some (.int .i64 op)) [24, 27, 30] #[false, false, false, false, false, false, false, false, false, false, false, false, false, false, false, false, false, false, false, false, false, false, false, false, false, false, false, false, false, false, false] 31 (by kernel_rfl) (by kernel_rfl) (by kernel_rfl) ?_
  refine wpAnyG_take0 (i := 0) (oi := { dst := some 96, op := Go.Op.move (Go.Operand.tmp 0), type := 45, pos := "window.go:124", after := #[], guard := none }) (v := ?vg1_0) rfl (by kernel_rfl) (by kernel_rfl) (by kernel_rfl) (by kernel_rfl) (fun _ _ _ h => h) (fun _ => hS19) (Or.inl ⟨by rfl, ?hg1_0⟩) ?_
  case hg1_0 => intro w _; go_simp; (try with_reducible rfl)
  try simp only [Act.put, List.setIfInBounds_toArray, List.set_cons_zero, List.set_cons_succ]
  refine wpAnyG_take0 (i := 1) (oi := { dst := some 97, op := Go.Op.move (Go.Operand.tmp 0), type := 45, pos := "window.go:124", after := #[{ on := 24, ground := Go.Ground.gcOnly Go.Departure.lateStores }], guard := none }) (v := ?vg1_1) rfl (by kernel_rfl) (by kernel_rfl) (by kernel_rfl) (by kernel_rfl) (fun _ _ _ h => h) (fun _ => hS19) (Or.inl ⟨by rfl, ?hg1_1⟩) ?_
  case hg1_1 => intro w _; go_simp; (try with_reducible rfl)
  try simp only [Act.put, List.setIfInBounds_toArray, List.set_cons_zero, List.set_cons_succ]
  refine wpAnyG_take0 (i := 2) (oi := { dst := some 98, op := Go.Op.move (Go.Operand.tmp 0), type := 45, pos := "window.go:124", after := #[{ on := 27, ground := Go.Ground.gcOnly Go.Departure.lateStores }], guard := none }) (v := ?vg1_2) rfl (by kernel_rfl) (by kernel_rfl) (by kernel_rfl) (by kernel_rfl) (fun _ _ _ h => h) (fun _ => hS19) (Or.inl ⟨by rfl, ?hg1_2⟩) ?_
  case hg1_2 => intro w _; go_simp; (try with_reducible rfl)
  try simp only [Act.put, List.setIfInBounds_toArray, List.set_cons_zero, List.set_cons_succ]
  refine wpAnyG_take0 (i := 3) (oi := { dst := some 99, op := Go.Op.move (Go.Operand.tmp 0), type := 45, pos := "window.go:124", after := #[], guard := none }) (v := ?vg1_3) rfl (by kernel_rfl) (by kernel_rfl) (by kernel_rfl) (by kernel_rfl) (fun _ _ _ h => h) (fun _ => hS19) (Or.inl ⟨by rfl, ?hg1_3⟩) ?_
  case hg1_3 => intro w _; go_simp; (try with_reducible rfl)
  try simp only [Act.put, List.setIfInBounds_toArray, List.set_cons_zero, List.set_cons_succ]
  refine wpAnyG_take0 (i := 4) (oi := { dst := some 100, op := Go.Op.nilCheck (Go.Operand.tmp 99), type := 0, pos := "window.go:124", after := #[{ on := 3, ground := Go.Ground.data }], guard := none }) (v := ?vg1_4) rfl (by kernel_rfl) (by kernel_rfl) (by kernel_rfl) (by kernel_rfl) (fun _ _ _ h => h) (fun _ => hS19) (Or.inl ⟨by rfl, ?hg1_4⟩) ?_
  case hg1_4 => intro w _; go_simp; (try with_reducible rfl)
  try simp only [Act.put, List.setIfInBounds_toArray, List.set_cons_zero, List.set_cons_succ]
  refine wpAnyG_take0 (i := 5) (oi := { dst := some 101, op := Go.Op.fieldAddr 77 (Go.Operand.tmp 100) 5, type := 0, pos := "window.go:124", after := #[{ on := 4, ground := Go.Ground.data }], guard := none }) (v := ?vg1_5) rfl (by kernel_rfl) (by kernel_rfl) (by kernel_rfl) (by kernel_rfl) (fun _ _ _ h => h) (fun _ => hS19) (Or.inl ⟨by rfl, ?hg1_5⟩) ?_
  case hg1_5 => intro w _; go_simp; (try with_reducible rfl)
  try simp only [Act.put, List.setIfInBounds_toArray, List.set_cons_zero, List.set_cons_succ]
  refine wpAnyG_take (i := 6) (oi := { dst := some 102, op := Go.Op.load 75 (Go.Operand.tmp 101), type := 75, pos := "window.go:124", after := #[{ on := 5, ground := Go.Ground.data }], guard := none }) (v := ?vg1_6) [6, 8, 9, 22, 23, 24, 25, 26, 27, 28, 29, 30] rfl (by kernel_rfl) (by kernel_rfl) (by kernel_rfl) (by kernel_rfl) (by kernel_rfl) (fun _ _ _ h => h) (fun _ => hS19) (Or.inl ⟨by rfl, ?hg1_6⟩) ?_
  case hg1_6 => intro w hSw; (try dsimp only at hSw); go_simp; (try with_reducible rfl)
  try simp only [Act.put, List.setIfInBounds_toArray, List.set_cons_zero, List.set_cons_succ]
  refine wpAnyG_take0 (i := 7) (oi := { dst := some 103, op := Go.Op.move (Go.Operand.tmp 12), type := 3, pos := "window.go:124", after := #[], guard := none }) (v := ?vg1_7) rfl (by kernel_rfl) (by kernel_rfl) (by kernel_rfl) (by kernel_rfl) (fun _ _ _ h => h) (fun _ => hS19) (Or.inl ⟨by rfl, ?hg1_7⟩) ?_
  case hg1_7 => intro w _; go_simp; (try with_reducible rfl)
  try simp only [Act.put, List.setIfInBounds_toArray, List.set_cons_zero, List.set_cons_succ]
  refine wpAnyG_take0 (i := 8) (oi := { dst := some 104, op := Go.Op.slice 75 (Go.Operand.tmp 102) (some (Go.Operand.tmp 103)) none none, type := 75, pos := "window.go:124", after := #[{ on := 6, ground := Go.Ground.data }, { on := 7, ground := Go.Ground.data }], guard := none }) (v := ?vg1_8) rfl (by kernel_rfl) (by kernel_rfl) (by kernel_rfl) (by kernel_rfl) (fun _ _ _ h => h) (fun _ => hS19) (Or.inl ⟨by rfl, ?hg1_8⟩) ?_
  case hg1_8 => intro w _; go_simp; (try with_reducible rfl)
  try simp only [Act.put, List.setIfInBounds_toArray, List.set_cons_zero, List.set_cons_succ]
  refine wpAnyG_take0 (i := 10) (oi := { dst := some 106, op := Go.Op.move (Go.Operand.tmp 0), type := 45, pos := "window.go:124", after := #[], guard := none }) (v := ?vg1_10) rfl (by kernel_rfl) (by kernel_rfl) (by kernel_rfl) (by kernel_rfl) (fun _ _ _ h => h) (fun _ => hS19) (Or.inl ⟨by rfl, ?hg1_10⟩) ?_
  case hg1_10 => intro w _; go_simp; (try with_reducible rfl)
  try simp only [Act.put, List.setIfInBounds_toArray, List.set_cons_zero, List.set_cons_succ]
  refine wpAnyG_take0 (i := 11) (oi := { dst := some 107, op := Go.Op.nilCheck (Go.Operand.tmp 106), type := 0, pos := "window.go:124", after := #[{ on := 10, ground := Go.Ground.data }], guard := none }) (v := ?vg1_11) rfl (by kernel_rfl) (by kernel_rfl) (by kernel_rfl) (by kernel_rfl) (fun _ _ _ h => h) (fun _ => hS19) (Or.inl ⟨by rfl, ?hg1_11⟩) ?_
  case hg1_11 => intro w _; go_simp; (try with_reducible rfl)
  try simp only [Act.put, List.setIfInBounds_toArray, List.set_cons_zero, List.set_cons_succ]
  refine wpAnyG_take0 (i := 12) (oi := { dst := some 108, op := Go.Op.fieldAddr 77 (Go.Operand.tmp 107) 3, type := 0, pos := "window.go:124", after := #[{ on := 11, ground := Go.Ground.data }], guard := none }) (v := ?vg1_12) rfl (by kernel_rfl) (by kernel_rfl) (by kernel_rfl) (by kernel_rfl) (fun _ _ _ h => h) (fun _ => hS19) (Or.inl ⟨by rfl, ?hg1_12⟩) ?_
  case hg1_12 => intro w _; go_simp; (try with_reducible rfl)
  try simp only [Act.put, List.setIfInBounds_toArray, List.set_cons_zero, List.set_cons_succ]
  refine wpAnyG_take (i := 13) (oi := { dst := some 109, op := Go.Op.load 3 (Go.Operand.tmp 108), type := 3, pos := "window.go:124", after := #[{ on := 12, ground := Go.Ground.data }], guard := none }) (v := ?vg1_13) [13, 15, 22, 23, 24, 25, 26, 27, 28, 29, 30] rfl (by kernel_rfl) (by kernel_rfl) (by kernel_rfl) (by kernel_rfl) (by kernel_rfl) (fun _ _ _ h => h) (fun _ => hS19) (Or.inl ⟨by rfl, ?hg1_13⟩) ?_
  case hg1_13 => intro w hSw; (try dsimp only at hSw); go_simp; (try with_reducible rfl)
  try simp only [Act.put, List.setIfInBounds_toArray, List.set_cons_zero, List.set_cons_succ]
  refine wpAnyG_take0 (i := 14) (oi := { dst := some 110, op := Go.Op.move (Go.Operand.tmp 12), type := 3, pos := "window.go:124", after := #[], guard := none }) (v := ?vg1_14) rfl (by kernel_rfl) (by kernel_rfl) (by kernel_rfl) (by kernel_rfl) (fun _ _ _ h => h) (fun _ => hS19) (Or.inl ⟨by rfl, ?hg1_14⟩) ?_
  case hg1_14 => intro w _; go_simp; (try with_reducible rfl)
  try simp only [Act.put, List.setIfInBounds_toArray, List.set_cons_zero, List.set_cons_succ]
  refine wpAnyG_take0 (i := 15) (oi := { dst := some 111, op := Go.Op.binOp Go.BinOp.add 3 (Go.Operand.tmp 109) (Go.Operand.tmp 110) 3, type := 3, pos := "window.go:124", after := #[{ on := 13, ground := Go.Ground.data }, { on := 14, ground := Go.Ground.data }], guard := none }) (v := ?vg1_15) rfl (by kernel_rfl) (by kernel_rfl) (by kernel_rfl) (by kernel_rfl) (fun _ _ _ h => h) (fun _ => hS19) (Or.inl ⟨by rfl, ?hg1_15⟩) ?_
  case hg1_15 => intro w _; go_simp; (try with_reducible rfl)
  try simp only [Act.put, List.setIfInBounds_toArray, List.set_cons_zero, List.set_cons_succ]
  refine wpAnyG_take0 (i := 16) (oi := { dst := some 112, op := Go.Op.move (Go.Operand.tmp 0), type := 45, pos := "window.go:124", after := #[], guard := none }) (v := ?vg1_16) rfl (by kernel_rfl) (by kernel_rfl) (by kernel_rfl) (by kernel_rfl) (fun _ _ _ h => h) (fun _ => hS19) (Or.inl ⟨by rfl, ?hg1_16⟩) ?_
  case hg1_16 => intro w _; go_simp; (try with_reducible rfl)
  try simp only [Act.put, List.setIfInBounds_toArray, List.set_cons_zero, List.set_cons_succ]
  refine wpAnyG_take0 (i := 17) (oi := { dst := some 113, op := Go.Op.nilCheck (Go.Operand.tmp 112), type := 0, pos := "window.go:124", after := #[{ on := 16, ground := Go.Ground.data }], guard := none }) (v := ?vg1_17) rfl (by kernel_rfl) (by kernel_rfl) (by kernel_rfl) (by kernel_rfl) (fun _ _ _ h => h) (fun _ => hS19) (Or.inl ⟨by rfl, ?hg1_17⟩) ?_
  case hg1_17 => intro w _; go_simp; (try with_reducible rfl)
  try simp only [Act.put, List.setIfInBounds_toArray, List.set_cons_zero, List.set_cons_succ]
  refine wpAnyG_take0 (i := 18) (oi := { dst := some 114, op := Go.Op.fieldAddr 77 (Go.Operand.tmp 113) 6, type := 0, pos := "window.go:124", after := #[{ on := 17, ground := Go.Ground.data }], guard := none }) (v := ?vg1_18) rfl (by kernel_rfl) (by kernel_rfl) (by kernel_rfl) (by kernel_rfl) (fun _ _ _ h => h) (fun _ => hS19) (Or.inl ⟨by rfl, ?hg1_18⟩) ?_
  case hg1_18 => intro w _; go_simp; (try with_reducible rfl)
  try simp only [Act.put, List.setIfInBounds_toArray, List.set_cons_zero, List.set_cons_succ]
  refine wpAnyG_take (i := 19) (oi := { dst := some 115, op := Go.Op.load 3 (Go.Operand.tmp 114), type := 3, pos := "window.go:124", after := #[{ on := 18, ground := Go.Ground.data }], guard := none }) (v := ?vg1_19) [19, 21, 22, 23, 24, 25, 26, 27, 28, 29, 30] rfl (by kernel_rfl) (by kernel_rfl) (by kernel_rfl) (by kernel_rfl) (by kernel_rfl) (fun _ _ _ h => h) (fun _ => hS19) (Or.inl ⟨by rfl, ?hg1_19⟩) ?_
  case hg1_19 => intro w hSw; (try dsimp only at hSw); go_simp; (try with_reducible rfl)
  try simp only [Act.put, List.setIfInBounds_toArray, List.set_cons_zero, List.set_cons_succ]
  refine wpAnyG_take0 (i := 20) (oi := { dst := some 116, op := Go.Op.move (Go.Operand.tmp 8), type := 3, pos := "window.go:124", after := #[], guard := none }) (v := ?vg1_20) rfl (by kernel_rfl) (by kernel_rfl) (by kernel_rfl) (by kernel_rfl) (fun _ _ _ h => h) (fun _ => hS19) (Or.inl ⟨by rfl, ?hg1_20⟩) ?_
  case hg1_20 => intro w _; go_simp; (try with_reducible rfl)
  try simp only [Act.put, List.setIfInBounds_toArray, List.set_cons_zero, List.set_cons_succ]
  refine wpAnyG_take0 (i := 21) (oi := { dst := some 117, op := Go.Op.binOp Go.BinOp.sub 3 (Go.Operand.tmp 115) (Go.Operand.tmp 116) 3, type := 3, pos := "window.go:124", after := #[{ on := 19, ground := Go.Ground.data }, { on := 20, ground := Go.Ground.data }], guard := none }) (v := ?vg1_21) rfl (by kernel_rfl) (by kernel_rfl) (by kernel_rfl) (by kernel_rfl) (fun _ _ _ h => h) (fun _ => hS19) (Or.inl ⟨by rfl, ?hg1_21⟩) ?_
  case hg1_21 => intro w _; go_simp; (try with_reducible rfl)
  try simp only [Act.put, List.setIfInBounds_toArray, List.set_cons_zero, List.set_cons_succ]
  refine wpAnyG_step (i := 9) (oi := { dst := some 105, op := Go.Op.call { callee := Go.Callee.value (Go.Operand.func 39), args := #[Go.Operand.tmp 104], argTypes := #[75] }, type := 75, pos := "window.go:124", after := #[{ on := 8, ground := Go.Ground.data }], guard := none }) rfl (by kernel_rfl) (by rfl) (fun K hK => ?_)
  go_simp
  refine (sclone_any base A' mm mq _ wo.drew (by show base ≤ wo.heap.size; exact HB.out) Hsrc.out Hblk.out Hone.out (by have := Hmm.out.1; omega) Hnil.out).mono ?_
  rintro e w4 ⟨v', rfl, hown4, hk4', hv4⟩
  have Hown4 := Lib.hid hown4
  have Hk4 := Lib.hid (Keep.of_drew hk4')
  have Hv4 := Lib.hid hv4
  obtain ⟨A2, c2, rfl, _⟩ := own_slice Hown4.out
  have hT4 : SBlk bs sz ag now bse most (.slice AL l.length cL) op w4 := HTr.out.keep Hk4.out (by simp)
  have hT5 := Blk.set_ hT4 5 (.slice A2 mm c2)
  have hT6 := Blk.set_ hT5 3 (.int .i64 (bse + j))
  have d5 : w4.cell? ⟨bs, 5, none⟩ = some (.slice AL l.length cL) := Blk.cell hT4 5
  have d3 : w4.cell? ⟨bs, 3, none⟩ = some (.int .i64 bse) := Blk.cell hT4 3
  have d6 : w4.cell? ⟨bs, 6, none⟩ = some (.int .i64 op) := Blk.cell hT4 6
  have e5 : w4.frozen? ⟨bs, 5, none⟩ = false := Blk.free hT4 5
  have e3 : (w4.setCell ⟨bs, 5, none⟩ (.slice A2 mm c2)).frozen? ⟨bs, 3, none⟩ = false := Blk.free hT5 3
  have e6 : ((w4.setCell ⟨bs, 5, none⟩ (.slice A2 mm c2)).setCell ⟨bs, 3, none⟩ (.int .i64 (bse + j))).frozen? ⟨bs, 6, none⟩ = false := Blk.free hT6 6
  have HT7 := Lib.hid (Blk.set_ hT6 6 (.int .i64 (op - f)))
  clear hown4 hk4' hv4 hT4 hT5 hT6
  dsimp only
  refine hK _ _ ?_ (fun hSg1_9 => ?_)
  · intro _; exact ⟨d5, d3, d6⟩
  replace hSg1_9 := hSg1_9 (by kernel_rfl)
  clear hK
  try simp only [Act.put, List.setIfInBounds_toArray, List.set_cons_zero, List.set_cons_succ]
  refine wpAnyG_take0 (i := 22) (oi := { dst := some 118, op := Go.Op.nilCheck (Go.Operand.tmp 96), type := 0, pos := "window.go:124", after := #[{ on := 0, ground := Go.Ground.data }, { on := 0, ground := Go.Ground.phase }, { on := 1, ground := Go.Ground.textOnly Go.Departure.lateStores }, { on := 2, ground := Go.Ground.textOnly Go.Departure.lateStores }, { on := 3, ground := Go.Ground.phase }, { on := 4, ground := Go.Ground.phase }, { on := 5, ground := Go.Ground.phase }, { on := 6, ground := Go.Ground.phase }, { on := 7, ground := Go.Ground.phase }, { on := 8, ground := Go.Ground.phase }, { on := 9, ground := Go.Ground.phase }, { on := 10, ground := Go.Ground.textOnly Go.Departure.lateStores }, { on := 11, ground := Go.Ground.textOnly Go.Departure.lateStoresUnsure }, { on := 12, ground := Go.Ground.textOnly Go.Departure.lateStoresUnsure }, { on := 13, ground := Go.Ground.phase }, { on := 14, ground := Go.Ground.textOnly Go.Departure.lateStores }, { on := 15, ground := Go.Ground.textOnly Go.Departure.lateStoresUnsure }, { on := 16, ground := Go.Ground.textOnly Go.Departure.lateStores }, { on := 17, ground := Go.Ground.textOnly Go.Departure.lateStoresUnsure }, { on := 18, ground := Go.Ground.textOnly Go.Departure.lateStoresUnsure }, { on := 19, ground := Go.Ground.phase }, { on := 20, ground := Go.Ground.textOnly Go.Departure.lateStores }, { on := 21, ground := Go.Ground.textOnly Go.Departure.lateStoresUnsure }], guard := none }) (v := ?vg1_22) rfl (by kernel_rfl) (by kernel_rfl) (by kernel_rfl) (by kernel_rfl) (fun _ _ _ h => h) (fun _ => hSg1_9) (Or.inl ⟨by rfl, ?hg1_22⟩) ?_
  case hg1_22 => intro w _; go_simp; (try with_reducible rfl)
  try simp only [Act.put, List.setIfInBounds_toArray, List.set_cons_zero, List.set_cons_succ]
  refine wpAnyG_take0 (i := 23) (oi := { dst := some 119, op := Go.Op.fieldAddr 77 (Go.Operand.tmp 118) 5, type := 0, pos := "window.go:124", after := #[{ on := 22, ground := Go.Ground.data }, { on := 0, ground := Go.Ground.phase }, { on := 1, ground := Go.Ground.textOnly Go.Departure.lateStores }, { on := 2, ground := Go.Ground.textOnly Go.Departure.lateStores }, { on := 3, ground := Go.Ground.phase }, { on := 4, ground := Go.Ground.phase }, { on := 5, ground := Go.Ground.phase }, { on := 6, ground := Go.Ground.phase }, { on := 7, ground := Go.Ground.phase }, { on := 8, ground := Go.Ground.phase }, { on := 9, ground := Go.Ground.phase }, { on := 10, ground := Go.Ground.textOnly Go.Departure.lateStores }, { on := 11, ground := Go.Ground.textOnly Go.Departure.lateStoresUnsure }, { on := 12, ground := Go.Ground.textOnly Go.Departure.lateStoresUnsure }, { on := 13, ground := Go.Ground.phase }, { on := 14, ground := Go.Ground.textOnly Go.Departure.lateStores }, { on := 15, ground := Go.Ground.textOnly Go.Departure.lateStoresUnsure }, { on := 16, ground := Go.Ground.textOnly Go.Departure.lateStores }, { on := 17, ground := Go.Ground.textOnly Go.Departure.lateStoresUnsure }, { on := 18, ground := Go.Ground.textOnly Go.Departure.lateStoresUnsure }, { on := 19, ground := Go.Ground.phase }, { on := 20, ground := Go.Ground.textOnly Go.Departure.lateStores }, { on := 21, ground := Go.Ground.textOnly Go.Departure.lateStoresUnsure }], guard := none }) (v := ?vg1_23) rfl (by kernel_rfl) (by kernel_rfl) (by kernel_rfl) (by kernel_rfl) (fun _ _ _ h => h) (fun _ => hSg1_9) (Or.inl ⟨by rfl, ?hg1_23⟩) ?_
  case hg1_23 => intro w _; go_simp; (try with_reducible rfl)
  try simp only [Act.put, List.setIfInBounds_toArray, List.set_cons_zero, List.set_cons_succ]
  refine wpAnyG_step (i := 24) (oi := { dst := none, op := Go.Op.store 75 (Go.Operand.tmp 119) (Go.Operand.tmp 105), type := 0, pos := "window.go:124", after := #[{ on := 23, ground := Go.Ground.data }, { on := 9, ground := Go.Ground.data }, { on := 9, ground := Go.Ground.chain }, { on := 0, ground := Go.Ground.phase }, { on := 1, ground := Go.Ground.textOnly Go.Departure.lateStores }, { on := 2, ground := Go.Ground.textOnly Go.Departure.lateStores }, { on := 3, ground := Go.Ground.phase }, { on := 4, ground := Go.Ground.phase }, { on := 5, ground := Go.Ground.phase }, { on := 6, ground := Go.Ground.phase }, { on := 7, ground := Go.Ground.phase }, { on := 8, ground := Go.Ground.phase }, { on := 9, ground := Go.Ground.phase }, { on := 10, ground := Go.Ground.textOnly Go.Departure.lateStores }, { on := 11, ground := Go.Ground.textOnly Go.Departure.lateStoresUnsure }, { on := 12, ground := Go.Ground.textOnly Go.Departure.lateStoresUnsure }, { on := 13, ground := Go.Ground.phase }, { on := 14, ground := Go.Ground.textOnly Go.Departure.lateStores }, { on := 15, ground := Go.Ground.textOnly Go.Departure.lateStoresUnsure }, { on := 16, ground := Go.Ground.textOnly Go.Departure.lateStores }, { on := 17, ground := Go.Ground.textOnly Go.Departure.lateStoresUnsure }, { on := 18, ground := Go.Ground.textOnly Go.Departure.lateStoresUnsure }, { on := 19, ground := Go.Ground.phase }, { on := 20, ground := Go.Ground.textOnly Go.Departure.lateStores }, { on := 21, ground := Go.Ground.textOnly Go.Departure.lateStoresUnsure }], guard := none }) rfl (by kernel_rfl) (by rfl) (fun K hK => ?_)
  go_simp
  refine hK _ _ (fun h => absurd h (Bool.eq_false_iff.1 (by kernel_rfl))) (fun _ => ?_)
  clear hK
  try simp only [Act.put, List.setIfInBounds_toArray, List.set_cons_zero, List.set_cons_succ]
  refine wpAnyG_take0 (i := 25) (oi := { dst := some 120, op := Go.Op.nilCheck (Go.Operand.tmp 97), type := 0, pos := "window.go:124", after := #[{ on := 1, ground := Go.Ground.data }, { on := 0, ground := Go.Ground.phase }, { on := 1, ground := Go.Ground.phase }, { on := 2, ground := Go.Ground.textOnly Go.Departure.lateStores }, { on := 3, ground := Go.Ground.phase }, { on := 4, ground := Go.Ground.phase }, { on := 5, ground := Go.Ground.phase }, { on := 6, ground := Go.Ground.phase }, { on := 7, ground := Go.Ground.phase }, { on := 8, ground := Go.Ground.phase }, { on := 9, ground := Go.Ground.phase }, { on := 10, ground := Go.Ground.phase }, { on := 11, ground := Go.Ground.phase }, { on := 12, ground := Go.Ground.phase }, { on := 13, ground := Go.Ground.phase }, { on := 14, ground := Go.Ground.phase }, { on := 15, ground := Go.Ground.phase }, { on := 16, ground := Go.Ground.textOnly Go.Departure.lateStores }, { on := 17, ground := Go.Ground.textOnly Go.Departure.lateStoresUnsure }, { on := 18, ground := Go.Ground.textOnly Go.Departure.lateStoresUnsure }, { on := 19, ground := Go.Ground.phase }, { on := 20, ground := Go.Ground.textOnly Go.Departure.lateStores }, { on := 21, ground := Go.Ground.textOnly Go.Departure.lateStoresUnsure }, { on := 22, ground := Go.Ground.phase }, { on := 23, ground := Go.Ground.phase }, { on := 24, ground := Go.Ground.phase }], guard := none }) (v := ?vg1_25) rfl (by kernel_rfl) (by kernel_rfl) (by kernel_rfl) (by kernel_rfl) (fun _ _ _ h => h) (fun h => absurd h (Bool.eq_false_iff.1 (by kernel_rfl))) (Or.inl ⟨by rfl, ?hg1_25⟩) ?_
  case hg1_25 => intro w _; go_simp; (try with_reducible rfl)
  try simp only [Act.put, List.setIfInBounds_toArray, List.set_cons_zero, List.set_cons_succ]
  refine wpAnyG_take0 (i := 26) (oi := { dst := some 121, op := Go.Op.fieldAddr 77 (Go.Operand.tmp 120) 3, type := 0, pos := "window.go:124", after := #[{ on := 25, ground := Go.Ground.data }, { on := 0, ground := Go.Ground.phase }, { on := 1, ground := Go.Ground.phase }, { on := 2, ground := Go.Ground.textOnly Go.Departure.lateStores }, { on := 3, ground := Go.Ground.phase }, { on := 4, ground := Go.Ground.phase }, { on := 5, ground := Go.Ground.phase }, { on := 6, ground := Go.Ground.phase }, { on := 7, ground := Go.Ground.phase }, { on := 8, ground := Go.Ground.phase }, { on := 9, ground := Go.Ground.phase }, { on := 10, ground := Go.Ground.phase }, { on := 11, ground := Go.Ground.phase }, { on := 12, ground := Go.Ground.phase }, { on := 13, ground := Go.Ground.phase }, { on := 14, ground := Go.Ground.phase }, { on := 15, ground := Go.Ground.phase }, { on := 16, ground := Go.Ground.textOnly Go.Departure.lateStores }, { on := 17, ground := Go.Ground.textOnly Go.Departure.lateStoresUnsure }, { on := 18, ground := Go.Ground.textOnly Go.Departure.lateStoresUnsure }, { on := 19, ground := Go.Ground.phase }, { on := 20, ground := Go.Ground.textOnly Go.Departure.lateStores }, { on := 21, ground := Go.Ground.textOnly Go.Departure.lateStoresUnsure }, { on := 22, ground := Go.Ground.phase }, { on := 23, ground := Go.Ground.phase }, { on := 24, ground := Go.Ground.phase }], guard := none }) (v := ?vg1_26) rfl (by kernel_rfl) (by kernel_rfl) (by kernel_rfl) (by kernel_rfl) (fun _ _ _ h => h) (fun h => absurd h (Bool.eq_false_iff.1 (by kernel_rfl))) (Or.inl ⟨by rfl, ?hg1_26⟩) ?_
  case hg1_26 => intro w _; go_simp; (try with_reducible rfl)
  try simp only [Act.put, List.setIfInBounds_toArray, List.set_cons_zero, List.set_cons_succ]
  refine wpAnyG_step (i := 27) (oi := { dst := none, op := Go.Op.store 3 (Go.Operand.tmp 121) (Go.Operand.tmp 111), type := 0, pos := "window.go:124", after := #[{ on := 26, ground := Go.Ground.data }, { on := 15, ground := Go.Ground.data }, { on := 24, ground := Go.Ground.chain }, { on := 0, ground := Go.Ground.phase }, { on := 1, ground := Go.Ground.phase }, { on := 2, ground := Go.Ground.textOnly Go.Departure.lateStores }, { on := 3, ground := Go.Ground.phase }, { on := 4, ground := Go.Ground.phase }, { on := 5, ground := Go.Ground.phase }, { on := 6, ground := Go.Ground.phase }, { on := 7, ground := Go.Ground.phase }, { on := 8, ground := Go.Ground.phase }, { on := 9, ground := Go.Ground.phase }, { on := 10, ground := Go.Ground.phase }, { on := 11, ground := Go.Ground.phase }, { on := 12, ground := Go.Ground.phase }, { on := 13, ground := Go.Ground.phase }, { on := 14, ground := Go.Ground.phase }, { on := 15, ground := Go.Ground.phase }, { on := 16, ground := Go.Ground.textOnly Go.Departure.lateStores }, { on := 17, ground := Go.Ground.textOnly Go.Departure.lateStoresUnsure }, { on := 18, ground := Go.Ground.textOnly Go.Departure.lateStoresUnsure }, { on := 19, ground := Go.Ground.phase }, { on := 20, ground := Go.Ground.textOnly Go.Departure.lateStores }, { on := 21, ground := Go.Ground.textOnly Go.Departure.lateStoresUnsure }, { on := 22, ground := Go.Ground.phase }, { on := 23, ground := Go.Ground.phase }, { on := 24, ground := Go.Ground.phase }], guard := none }) rfl (by kernel_rfl) (by rfl) (fun K hK => ?_)
  go_simp
  refine hK _ _ (fun h => absurd h (Bool.eq_false_iff.1 (by kernel_rfl))) (fun _ => ?_)
  clear hK
  try simp only [Act.put, List.setIfInBounds_toArray, List.set_cons_zero, List.set_cons_succ]
  refine wpAnyG_take0 (i := 28) (oi := { dst := some 122, op := Go.Op.nilCheck (Go.Operand.tmp 98), type := 0, pos := "window.go:124", after := #[{ on := 2, ground := Go.Ground.data }, { on := 0, ground := Go.Ground.phase }, { on := 1, ground := Go.Ground.phase }, { on := 2, ground := Go.Ground.phase }, { on := 3, ground := Go.Ground.phase }, { on := 4, ground := Go.Ground.phase }, { on := 5, ground := Go.Ground.phase }, { on := 6, ground := Go.Ground.phase }, { on := 7, ground := Go.Ground.phase }, { on := 8, ground := Go.Ground.phase }, { on := 9, ground := Go.Ground.phase }, { on := 10, ground := Go.Ground.phase }, { on := 11, ground := Go.Ground.phase }, { on := 12, ground := Go.Ground.phase }, { on := 13, ground := Go.Ground.phase }, { on := 14, ground := Go.Ground.phase }, { on := 15, ground := Go.Ground.phase }, { on := 16, ground := Go.Ground.phase }, { on := 17, ground := Go.Ground.phase }, { on := 18, ground := Go.Ground.phase }, { on := 19, ground := Go.Ground.phase }, { on := 20, ground := Go.Ground.phase }, { on := 21, ground := Go.Ground.phase }, { on := 22, ground := Go.Ground.phase }, { on := 23, ground := Go.Ground.phase }, { on := 24, ground := Go.Ground.phase }, { on := 25, ground := Go.Ground.phase }, { on := 26, ground := Go.Ground.phase }, { on := 27, ground := Go.Ground.phase }], guard := none }) (v := ?vg1_28) rfl (by kernel_rfl) (by kernel_rfl) (by kernel_rfl) (by kernel_rfl) (fun _ _ _ h => h) (fun h => absurd h (Bool.eq_false_iff.1 (by kernel_rfl))) (Or.inl ⟨by rfl, ?hg1_28⟩) ?_
  case hg1_28 => intro w _; go_simp; (try with_reducible rfl)
  try simp only [Act.put, List.setIfInBounds_toArray, List.set_cons_zero, List.set_cons_succ]
  refine wpAnyG_take0 (i := 29) (oi := { dst := some 123, op := Go.Op.fieldAddr 77 (Go.Operand.tmp 122) 6, type := 0, pos := "window.go:124", after := #[{ on := 28, ground := Go.Ground.data }, { on := 0, ground := Go.Ground.phase }, { on := 1, ground := Go.Ground.phase }, { on := 2, ground := Go.Ground.phase }, { on := 3, ground := Go.Ground.phase }, { on := 4, ground := Go.Ground.phase }, { on := 5, ground := Go.Ground.phase }, { on := 6, ground := Go.Ground.phase }, { on := 7, ground := Go.Ground.phase }, { on := 8, ground := Go.Ground.phase }, { on := 9, ground := Go.Ground.phase }, { on := 10, ground := Go.Ground.phase }, { on := 11, ground := Go.Ground.phase }, { on := 12, ground := Go.Ground.phase }, { on := 13, ground := Go.Ground.phase }, { on := 14, ground := Go.Ground.phase }, { on := 15, ground := Go.Ground.phase }, { on := 16, ground := Go.Ground.phase }, { on := 17, ground := Go.Ground.phase }, { on := 18, ground := Go.Ground.phase }, { on := 19, ground := Go.Ground.phase }, { on := 20, ground := Go.Ground.phase }, { on := 21, ground := Go.Ground.phase }, { on := 22, ground := Go.Ground.phase }, { on := 23, ground := Go.Ground.phase }, { on := 24, ground := Go.Ground.phase }, { on := 25, ground := Go.Ground.phase }, { on := 26, ground := Go.Ground.phase }, { on := 27, ground := Go.Ground.phase }], guard := none }) (v := ?vg1_29) rfl (by kernel_rfl) (by kernel_rfl) (by kernel_rfl) (by kernel_rfl) (fun _ _ _ h => h) (fun h => absurd h (Bool.eq_false_iff.1 (by kernel_rfl))) (Or.inl ⟨by rfl, ?hg1_29⟩) ?_
  case hg1_29 => intro w _; go_simp; (try with_reducible rfl)
  try simp only [Act.put, List.setIfInBounds_toArray, List.set_cons_zero, List.set_cons_succ]
  refine wpAnyG_step (i := 30) (oi := { dst := none, op := Go.Op.store 3 (Go.Operand.tmp 123) (Go.Operand.tmp 117), type := 0, pos := "window.go:124", after := #[{ on := 29, ground := Go.Ground.data }, { on := 21, ground := Go.Ground.data }, { on := 27, ground := Go.Ground.chain }, { on := 0, ground := Go.Ground.phase }, { on := 1, ground := Go.Ground.phase }, { on := 2, ground := Go.Ground.phase }, { on := 3, ground := Go.Ground.phase }, { on := 4, ground := Go.Ground.phase }, { on := 5, ground := Go.Ground.phase }, { on := 6, ground := Go.Ground.phase }, { on := 7, ground := Go.Ground.phase }, { on := 8, ground := Go.Ground.phase }, { on := 9, ground := Go.Ground.phase }, { on := 10, ground := Go.Ground.phase }, { on := 11, ground := Go.Ground.phase }, { on := 12, ground := Go.Ground.phase }, { on := 13, ground := Go.Ground.phase }, { on := 14, ground := Go.Ground.phase }, { on := 15, ground := Go.Ground.phase }, { on := 16, ground := Go.Ground.phase }, { on := 17, ground := Go.Ground.phase }, { on := 18, ground := Go.Ground.phase }, { on := 19, ground := Go.Ground.phase }, { on := 20, ground := Go.Ground.phase }, { on := 21, ground := Go.Ground.phase }, { on := 22, ground := Go.Ground.phase }, { on := 23, ground := Go.Ground.phase }, { on := 24, ground := Go.Ground.phase }, { on := 25, ground := Go.Ground.phase }, { on := 26, ground := Go.Ground.phase }, { on := 27, ground := Go.Ground.phase }], guard := none }) rfl (by kernel_rfl) (by rfl) (fun K hK => ?_)
  go_simp
  refine hK _ _ (fun h => absurd h (Bool.eq_false_iff.1 (by kernel_rfl))) (fun _ => ?_)
  clear hK
  try simp only [Act.put, List.setIfInBounds_toArray, List.set_cons_zero, List.set_cons_succ]
  refine wpAnyG_done (by kernel_rfl) ?_ _
  clear hS19 hwj hwf hsl d5 d3 d6 e5 e3 e6
  go_wp2
  go_ret2
  have hk7 : Keep [bs] w4 (((w4.setCell ⟨bs, 5, none⟩ (.slice A2 mm c2)).setCell ⟨bs, 3, none⟩ (.int .i64 (bse + j))).setCell ⟨bs, 6, none⟩ (.int .i64 (op - f))) := (((Keep.refl [bs] w4).setCell (.inl (by simp)) _).setCell (.inl (by simp)) _).setCell (.inl (by simp)) _
  have hT4 : SBlk bs sz ag now bse most (.slice AL l.length cL) op w4 := HTr.out.keep Hk4.out (by simp)
  have hown7 := ownsRow_keep Hown4.out hk7 (by
    intro g' hg'
    have h1 := Hv4.out g' hg'
    have h2 := Blk.lt HTr.out
    simp
    have h3 : wo.drew.heap.size = wo.heap.size := rfl
    omega)
  have hrd : ∀ a b, Reads base 5 w a b → Reads base 5 (((w4.setCell ⟨bs, 5, none⟩ (.slice A2 mm c2)).setCell ⟨bs, 3, none⟩ (.int .i64 (bse + j))).setCell ⟨bs, 6, none⟩ (.int .i64 (op - f))) a b := fun a b h =>
    ((h.keep Hkr.out (by simpa using noByte_own (F := []) Hown.out (Nat.le_refl _) (show (91 : TypeId) ≠ 5 by decide) noByte_nil)).keep Hk4.out noByte_nil).keep hk7 (noByte_cons hT4 (by decide) hbb noByte_nil)
  have hp7 := SR.ack (all := all) (M := M) bse (SR.mono hrd Hp.out)
  have hdp := SR.doneN hp7
  refine .inr ⟨HN.out, .slice A2 mm c2, ?_⟩
  rw [← hdp, ← Hl1.out, Hj.out, ← Hf.out]
  rw [← Hl1.out] at hp7
  have hdl : (l1.drop j).length = mm := by rw [List.length_drop, Hlen1.out, Hmm.out.1]
  refine ⟨rfl, HT7.out, ?_, hp7.drop j, ?_⟩
  · rw [rf_drop scells_len, hdl]
    exact hown7
  · exact ((Hkr.out.mono (by intro i hi; exact List.mem_cons_of_mem _ hi)).trans (Hk4.out.mono (by simp))).trans (hk7.mono (by simp))

set_option maxRecDepth 20000 in
set_option maxHeartbeats 4000000 in
theorem ack_any (base bs : Nat) (sz ag now bse most op all : Int) (M : Nat) (lv : Value) (l : List (Snt Value)) (p : List (Snt (List UInt8))) (w : World)
    (hT : SBlk bs sz ag now bse most lv op w) (hown : w.ownsRow base 91 4 lv l.length (l.flatMap scells)) (hp : SR (Reads base 5 w) l p) (hB : base ≤ w.heap.size)
    (hs : 1 ≤ sz) (hM : M < 18446744073709551616) (hm : -1 ≤ most ∧ most ≤ 4611686018427387904) (hb : 0 ≤ bse) (hb2 : bse ≤ 1000000000) (hl : l.length ≤ 100000) (hbb : base ≤ bs)
    (hop : -4611686018427387904 ≤ op) (hop2 : op ≤ 4611686018427387904) :
    Calls Try.prog 21 #[.pointer (some ⟨bs, 0, none⟩), .int .i64 all, .int .u64 (M : Int)] w (AckPost base bs sz ag now bse most op all M lv l p w) := by
  obtain ⟨AL, cL, rfl, hcL⟩ := own_slice hown
  have c5 : w.cell? ⟨bs, 5, none⟩ = some (.slice AL l.length cL) := Blk.cell hT 5
  have hbs := Blk.lt hT
  have HT := Lib.hid hT
  have Hown := Lib.hid hown
  have Hp := Lib.hid hp
  clear hT hown hp
  by_cases hN : Named most all M
  · have HN := Lib.hid hN
    obtain ⟨hn1, hn2, _⟩ := hN
    obtain ⟨hm1, hm2⟩ := hm
    go_enter Try.func21, Try.ntmps21
    go_wp2_with (first
      | (go_at_call 35; refine (smade_any _ _ _ _ _ _ _ _ _ HT.out hs).mono ?_; rintro e w' ⟨rfl, rfl⟩)
      | (go_at_call 38; refine (named_any _ _ _ _ _ _ _ _ _ _ _ HT.out hM ⟨hm1, hm2⟩).mono ?_; rintro e w' ⟨r, rfl, hr, rfl⟩; obtain rfl : r = true := hr.2 HN.out; clear hr))
    go_loopw [8, 9, 10, 11, 26] (fun fr _ _ _ i wr => ∃ k f : Nat, i = .int .i64 k ∧ k ≤ l.length ∧ fr = .int .i64 f ∧ f ≤ k ∧ Hid (f = ackF all M (l.take k) bse) ∧ AInv base bs sz ag now bse most op all M AL cL l w k wr) (fun _ _ _ _ i _ => l.length - (intOf i).toNat)
    case atStart => exact ⟨0, 0, rfl, by omega, rfl, by omega, Lib.hid rfl, HT.out, by rw [ackL_zero]; exact Hown.out, Keep.refl _ _⟩
    case round =>
      obtain ⟨k, f, rfl, hk, rfl, hf, hff, hI⟩ := hrel
      obtain ⟨wo, rfl⟩ : ∃ wo : World, wo = wr := ⟨_, rfl⟩
      obtain ⟨hTr, hownr, hkr⟩ := hI
      have r3 : wo.cell? ⟨bs, 3, none⟩ = some (.int .i64 bse) := Blk.cell hTr 3
      have r5 : wo.cell? ⟨bs, 5, none⟩ = some (.slice AL l.length cL) := Blk.cell hTr 5
      have HTr := Lib.hid hTr
      have Hownr := Lib.hid hownr
      have Hkr := Lib.hid hkr
      clear hTr hownr hkr
      rcases Nat.lt_or_ge k l.length with hkl | hkl
      · obtain ⟨g, rfl, hg1, hg2⟩ := own_some Hownr.out (by omega)
        obtain ⟨⟨fr3, q3⟩, hrow⟩ := ack_row Hownr.out hkl
        obtain ⟨dn, hdn⟩ : ∃ dn, dn = l[k].done := ⟨_, rfl⟩
        rw [← hdn] at q3
        have Hdn := Lib.hid hdn
        have Hrow := Lib.hid hrow
        have hdec : decide ((k : Int) < l.length) = true := by simp; omega
        clear hdn hrow
        have hbg : g ≠ bs := fun h => own_ne_blk Hownr.out HTr.out (by decide) (by rw [h]; rfl)
        have finT : Hid (hitB all M (bse + k) = true → SBlk bs sz ag now bse most (.slice (some ⟨g, 0, none⟩) l.length cL) op (wo.setCell ⟨g, k * 4 + 3, none⟩ (.bool true)) ∧ (wo.setCell ⟨g, k * 4 + 3, none⟩ (.bool true)).ownsRow base 91 4 (.slice (some ⟨g, 0, none⟩) l.length cL) l.length ((ackL all M bse (k + 1) l).flatMap scells) ∧
            Keep (Value.slice (some ⟨g, 0, none⟩) l.length cL).ownBlock.toList w (wo.setCell ⟨g, k * 4 + 3, none⟩ (.bool true))) := Lib.hid (fun h =>
          ⟨Blk.far HTr.out (by simpa using fun h => hbg h.symm) _, Hrow.out h, Hkr.out.setCell (.inl (by simp [Value.ownBlock])) _⟩)
        have finF : Hid (hitB all M (bse + k) = false → AInv base bs sz ag now bse most op all M (some ⟨g, 0, none⟩) cL l w (k + 1) wo) := Lib.hid (fun h =>
          ⟨HTr.out, by rw [ackL_skip hkl (by unfold ackU; rw [h]; rfl)]; exact Hownr.out, Hkr.out⟩)
        clear hbg
        by_cases h1 : bse + (k : Int) ≤ all
        · have hd1 : decide (bse + (k : Int) ≤ all) = true := by simpa using h1
          have hh : Hid (hitB all M (bse + k) = true) := Lib.hid (by simp [hitB, h1])
          cases dn
          · go_wp2
            exact ⟨⟨k + 1, f + 1, by simp, by omega, by simp, by omega, Lib.hid (by rw [ackF_take hkl, ← hff.out, if_pos ⟨hh.out, Hdn.out.symm⟩]), finT.out hh.out⟩, by simp [intOf]; omega⟩
          · go_wp2
            exact ⟨⟨k + 1, f, by simp, by omega, by simp, by omega, Lib.hid (by rw [ackF_take hkl, ← hff.out, if_neg (by rw [← Hdn.out]; simp)]; rfl), finT.out hh.out⟩, by simp [intOf]; omega⟩
        · have hd1 : decide (bse + (k : Int) ≤ all) = false := by simpa using h1
          have HY := Lib.hid (hit_yes (M := M) h1)
          have HN1 := Lib.hid (hit_no1 (M := M) h1)
          have HN2 := Lib.hid (hit_no2 (M := M) h1)
          have HN3 := Lib.hid (hit_no3 (M := M) h1)
          have hnn : Hid (hitB all M (bse + k) = false → (∃ k_1 f_1 : Nat, Value.int IntKind.i64 ((k : Int) + 1) = Value.int IntKind.i64 (k_1 : Int) ∧ k_1 ≤ l.length ∧ Value.int IntKind.i64 (f : Int) = Value.int IntKind.i64 (f_1 : Int) ∧ f_1 ≤ k_1 ∧ Hid (f_1 = ackF all M (List.take k_1 l) bse) ∧
              AInv base bs sz ag now bse most op all M (some ⟨g, 0, none⟩) cL l w k_1 wo) ∧ l.length - (intOf (Value.int IntKind.i64 ((k : Int) + 1))).toNat < l.length - (intOf (Value.int IntKind.i64 (k : Int))).toNat) := Lib.hid (fun hh =>
            ⟨⟨k + 1, f, by simp, by omega, by simp, by omega, Lib.hid (by rw [ackF_take hkl, ← hff.out, if_neg (by rw [hh]; simp)]; rfl), finF.out hh⟩, by simp [intOf]; omega⟩)
          cases dn
          · go_wp2
            · have hh := HY.out hM (by assumption) (by assumption) (by assumption)
              exact ⟨⟨k + 1, f + 1, by simp, by omega, by simp, by omega, Lib.hid (by rw [ackF_take hkl, ← hff.out, if_pos ⟨hh, Hdn.out.symm⟩]), finT.out hh⟩, by simp [intOf]; omega⟩
            · exact hnn.out (HN1.out hM (by assumption) (by assumption))
            · exact hnn.out (HN2.out (by assumption))
            · exact hnn.out (HN3.out (by assumption))
          · go_wp2
            · have hh := HY.out hM (by assumption) (by assumption) (by assumption)
              exact ⟨⟨k + 1, f, by simp, by omega, by simp, by omega, Lib.hid (by rw [ackF_take hkl, ← hff.out, if_neg (by rw [← Hdn.out]; simp)]; rfl), finT.out hh⟩, by simp [intOf]; omega⟩
            · exact hnn.out (HN1.out hM (by assumption) (by assumption))
            · exact hnn.out (HN2.out (by assumption))
            · exact hnn.out (HN3.out (by assumption))
      · obtain rfl : k = l.length := by omega
        have hdec : decide ((l.length : Int) < l.length) = false := by simp
        have Hf := Lib.hid hff.out
        clear r3 r5
        have r5 : wo.cell? ⟨bs, 5, none⟩ = some (.slice AL l.length cL) := Blk.cell HTr.out 5
        obtain ⟨l1, hl1⟩ : ∃ l1, l1 = ackR all M l bse := ⟨_, rfl⟩
        have hlen1 : l1.length = l.length := by rw [hl1, ackR_len]
        have hown1 := Hownr.out
        rw [ackL_all, ← hl1] at hown1
        rw [List.take_length] at Hf
        have Hl1 := Lib.hid hl1
        have Hlen1 := Lib.hid hlen1
        have Hown1 := Lib.hid hown1
        have HB : Hid (base ≤ wo.heap.size) := Lib.hid (by have := Hkr.out.size; omega)
        clear hl1 hlen1 hown1 hff Hownr
        go_wp2_with fail
        go_loop [12] (fun i => ∃ j : Nat, i = .int .i64 j ∧ j ≤ l.length ∧ Hid (∀ i (h : i < l1.length), i < j → l1[i].done = true)) (fun i => l.length - (intOf i).toNat)
        case atStart => exact ⟨0, rfl, by omega, Lib.hid (fun i h hi => by omega)⟩
        case round =>
          obtain ⟨j, rfl, hjl, hall⟩ := hrel
          rcases Nat.lt_or_ge j l.length with hj | hj
          · have hdec2 : decide ((j : Int) < l.length) = true := by simp; omega
            obtain ⟨g, rfl, hg1, hg2⟩ := own_some Hown1.out (by omega)
            have hj1 : j < l1.length := by rw [Hlen1.out]; exact hj
            have q3 : wo.cell? ⟨g, j * 4 + 3, none⟩ = some (.bool l1[j].done) := (ownsRow_cell Hown1.out (by rw [rf_get scells_len l1 j 3 hj1 (by omega)]; rfl)).1
            cases hdn : l1[j].done with
            | true =>
              rw [hdn] at q3
              have Hdn := Lib.hid hdn
              clear hdn
              go_wp2
              exact ⟨⟨j + 1, by simp, by omega, Lib.hid (fun i h hi => by
                rcases Nat.lt_succ_iff_lt_or_eq.1 hi with h1 | rfl
                · exact hall.out i h h1
                · exact Hdn.out)⟩, by simp [intOf]; omega⟩
            | false =>
              rw [hdn] at q3
              have Hj : Hid (doneN l1 = j) := Lib.hid (doneN_of (by omega) hall.out (fun h => hdn))
              clear hdn hg1 hg2 hj1
              go_wp2_with fail
              clear q3
              exact ack_tail base bs sz ag now bse most op all M (some ⟨g, 0, none⟩) cL l p w wo f j l1 hcL.1 hb hb2 hl hbb hop hop2 (by omega) hjl HT Hown Hp HN HTr Hkr Hown1 Hl1 Hlen1 HB Hj Hf (K := _) (hK := by assumption)
          · have hdec2 : decide ((j : Int) < l.length) = false := by simp; omega
            have Hj : Hid (doneN l1 = j) := Lib.hid (doneN_of (by rw [Hlen1.out]; exact hjl) hall.out (fun h => by have := Hlen1.out; omega))
            go_wp2_with fail
            exact ack_tail base bs sz ag now bse most op all M AL cL l p w wo f j l1 hcL.1 hb hb2 hl hbb hop hop2 (by omega) hjl HT Hown Hp HN HTr Hkr Hown1 Hl1 Hlen1 HB Hj Hf (K := _) (hK := by assumption)
  · have Hnn := Lib.hid hN
    go_enter Try.func21, Try.ntmps21
    go_wp2_with (first
      | (go_at_call 35; refine (smade_any _ _ _ _ _ _ _ _ _ HT.out hs).mono ?_; rintro e w' ⟨rfl, rfl⟩)
      | (go_at_call 38; refine (named_any _ _ _ _ _ _ _ _ _ _ _ HT.out hM hm).mono ?_; rintro e w' ⟨r, rfl, hr, rfl⟩; obtain rfl : r = false := (by cases r; rfl; exact absurd (hr.1 rfl) Hnn.out); clear hr))
    go_ret2
    exact .inl ⟨Hnn.out, rfl, rfl⟩
end Go.Proofs.Ytlkpecalkakpeaa
