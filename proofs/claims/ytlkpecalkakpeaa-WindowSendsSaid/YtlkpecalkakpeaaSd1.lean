/- The sender of the program, walked: made, last, State, Push. -/
import Derived.Test.YtlkpecalkakpeaaRk3
import Derived.Test.YtlkpecalkakpeaaBase3
set_option linter.unusedVariables false
set_option linter.unusedSimpArgs false
namespace Go.Sal
/-- a payload of a sender -/
structure Snt (α : Type) where
  b : α
  out : Bool
  tm : Int
  done : Bool
def scells (x : Snt Value) : List Value := [x.b, .bool x.out, .int .i64 x.tm, .bool x.done]
theorem scells_len (x : Snt Value) : (scells x).length = 4 := rfl
end Go.Sal
namespace Go.Proofs.Ytlkpecalkakpeaa
open Go.RowKit Go.Sal

theorem sntinfo : (Try.prog.info? 91).map (fun i => (i.zero, i.size, i.bytes)) = some (some (.agg #[.slice none 0 0, .bool false, .int .i64 0, .bool false]), 4, 48) := by kernel_rfl

/-- the sender's block -/
def SBlk (bs : Nat) (sz ag now bse most : Int) (lv : Value) (op : Int) (w : World) : Prop :=
  Blk w bs 77 #[.int .i64 sz, .int .i64 ag, .int .i64 now, .int .i64 bse, .int .i64 most, lv, .int .i64 op]

theorem smade_any (bs : Nat) (sz ag now bse most : Int) (lv : Value) (op : Int) (w : World) (hT : SBlk bs sz ag now bse most lv op w) (h : 1 ≤ sz) :
    Calls Try.prog 35 #[.pointer (some ⟨bs, 0, none⟩)] w fun e w' => e = .returned (.bool true) ∧ w = w' := by
  have c0 : w.cell? ⟨bs, 0, none⟩ = some (.int .i64 sz) := Blk.cell hT 0
  clear hT
  go_enter Try.func35, Try.ntmps35
  go_wp2
  go_ret
  exact ⟨by simp; try omega, rfl⟩

theorem slast_any (bs : Nat) (sz ag now bse most : Int) (A : Option Addr) (n c : Nat) (op : Int) (w : World) (hT : SBlk bs sz ag now bse most (.slice A n c) op w) (hb : 0 ≤ bse) (hb2 : bse ≤ 1000000000000) (hn : n ≤ 1000000) :
    Calls Try.prog 36 #[.pointer (some ⟨bs, 0, none⟩)] w fun e w' => e = .returned (.int .i64 (bse + n - 1)) ∧ ∃ k, w' = w.drewN k := by
  have c3 : w.cell? ⟨bs, 3, none⟩ = some (.int .i64 bse) := Blk.cell hT 3
  have c5 : w.cell? ⟨bs, 5, none⟩ = some (.slice A n c) := Blk.cell hT 5
  clear hT
  go_enter Try.func36, Try.ntmps36
  go_wp2
  go_quiet (fail)
  go_wp2
  go_ret
  exact ⟨rfl, _, rfl⟩

theorem sstate_any (bs : Nat) (sz ag now bse most : Int) (A : Option Addr) (n c : Nat) (op : Int) (w : World) (hT : SBlk bs sz ag now bse most (.slice A n c) op w) (h : 1 ≤ sz) (hb : 0 ≤ bse) (hb2 : bse ≤ 1000000000000) (hn : n ≤ 1000000) :
    Calls Try.prog 22 #[.pointer (some ⟨bs, 0, none⟩)] w fun e w' => e = .returned (.tuple #[.int .i64 bse, .int .i64 (bse + n - 1)]) ∧ ∃ k, w' = w.drewN k := by
  have c3 : w.cell? ⟨bs, 3, none⟩ = some (.int .i64 bse) := Blk.cell hT 3
  have HT := Lib.hid hT
  have hdr : ∀ k, SBlk bs sz ag now bse most (.slice A n c) op (w.drewN k) := fun k => Blk.drewN hT k
  have Hdr := Lib.hid hdr
  clear hT hdr
  go_enter Try.func22, Try.ntmps22
  go_wp2_with (go_at_call 35; refine (smade_any _ _ _ _ _ _ _ _ _ HT.out h).mono ?_; rintro e w' ⟨rfl, rfl⟩)
  go_quiet ((go_at_call 36; exact Calls.quiet_of (slast_any _ _ _ _ _ _ _ _ _ _ _ (Hdr.out _) hb hb2 hn)))
  go_wp2
  go_ret2
  exact ⟨rfl, _, rfl⟩

def PushPost (base bs : Nat) (sz ag now bse most op : Int) (lv : Value) (l : List (Snt Value)) (b : List UInt8) (w : World) (e : Ending) (w' : World) : Prop :=
  ∃ v' lv', e = .returned (.tuple #[.int .i64 (bse + l.length), .int .i64 0]) ∧ Reads base 5 w' v' b ∧ SBlk bs sz ag now bse most lv' (op + 1) w' ∧
    w'.ownsRow base 91 4 lv' (l ++ [Snt.mk v' false 0 false]).length ((l ++ [Snt.mk v' false 0 false]).flatMap scells) ∧ Keep (bs :: lv.ownBlock.toList) w w'

set_option maxRecDepth 20000 in
set_option maxHeartbeats 4000000 in
theorem push_any (base bs : Nat) (sz ag now bse most op : Int) (lv : Value) (l : List (Snt Value)) (v : Value) (b : List UInt8) (w : World)
    (hT : SBlk bs sz ag now bse most lv op w) (hown : w.ownsRow base 91 4 lv l.length (l.flatMap scells)) (hv : Reads base 5 w v b) (hB : base ≤ w.heap.size) (hbl : b.length ≤ 140737488355328)
    (hs : 1 ≤ sz) (hop : -4611686018427387904 ≤ op) (hop2 : op < 65536) (hb : 0 ≤ bse) (hb2 : bse ≤ 1000000000) (hl : l.length ≤ 100000) (hbb : base ≤ bs) :
    Calls Try.prog 18 #[.pointer (some ⟨bs, 0, none⟩), v] w (PushPost base bs sz ag now bse most op lv l b w) := by
  obtain ⟨A, c, rfl, _⟩ := id hv
  obtain ⟨AL, cL, rfl, _⟩ := own_slice hown
  have c5 : w.cell? ⟨bs, 5, none⟩ = some (.slice AL l.length cL) := Blk.cell hT 5
  have c6 : w.cell? ⟨bs, 6, none⟩ = some (.int .i64 op) := Blk.cell hT 6
  have hbs := Blk.lt hT
  have HT := Lib.hid hT
  have Hown := Lib.hid hown
  have Hv := Lib.hid (hv.keep ((Keep.refl [] w).drew) noByte_nil)
  have hS0 : w.drew.cell? ⟨bs, 5, none⟩ = some (.slice AL l.length cL) := c5
  have Hbl := Lib.hid hbl
  clear hT hown hv hbl
  go_enter Try.func18, Try.ntmps18
  go_wp2_with (go_at_call 35; refine (smade_any _ _ _ _ _ _ _ _ _ HT.out hs).mono ?_; rintro e w' ⟨rfl, rfl⟩)
  have hbl := Hbl.out
  refine wp_region_E (fun W => W.cell? ⟨bs, 5, none⟩ = some (.slice AL l.length cL)) [12] (by kernel_rfl) ?_
  refine wpAnyE_take (i := 0) (oi := { dst := some 14, op := Go.Op.move (Go.Operand.tmp 0), type := 45, pos := "window.go:49", after := #[], guard := none }) (v := ?vq1_0) [0, 10, 11, 12] rfl (by kernel_rfl) (by kernel_rfl) (by kernel_rfl) (by kernel_rfl) (fun _ _ _ h => h) hS0 (Or.inl ⟨by rfl, ?hq1_0⟩) ?_
  case hq1_0 => intro w hSw; (try dsimp only at hSw); go_simp; (try with_reducible rfl)
  try simp only [Act.put, List.setIfInBounds_toArray, List.set_cons_zero, List.set_cons_succ]
  refine wpAnyE_take (i := 1) (oi := { dst := some 15, op := Go.Op.move (Go.Operand.tmp 0), type := 45, pos := "window.go:49", after := #[], guard := none }) (v := ?vq1_1) [1, 2, 3, 4, 9, 10, 11, 12] rfl (by kernel_rfl) (by kernel_rfl) (by kernel_rfl) (by kernel_rfl) (fun _ _ _ h => h) hS0 (Or.inl ⟨by rfl, ?hq1_1⟩) ?_
  case hq1_1 => intro w hSw; (try dsimp only at hSw); go_simp; (try with_reducible rfl)
  try simp only [Act.put, List.setIfInBounds_toArray, List.set_cons_zero, List.set_cons_succ]
  refine wpAnyE_take (i := 2) (oi := { dst := some 16, op := Go.Op.nilCheck (Go.Operand.tmp 15), type := 0, pos := "window.go:49", after := #[{ on := 1, ground := Go.Ground.data }], guard := none }) (v := ?vq1_2) [2, 3, 4, 9, 10, 11, 12] rfl (by kernel_rfl) (by kernel_rfl) (by kernel_rfl) (by kernel_rfl) (fun _ _ _ h => h) hS0 (Or.inl ⟨by rfl, ?hq1_2⟩) ?_
  case hq1_2 => intro w hSw; (try dsimp only at hSw); go_simp; (try with_reducible rfl)
  try simp only [Act.put, List.setIfInBounds_toArray, List.set_cons_zero, List.set_cons_succ]
  refine wpAnyE_take (i := 3) (oi := { dst := some 17, op := Go.Op.fieldAddr 77 (Go.Operand.tmp 16) 5, type := 0, pos := "window.go:49", after := #[{ on := 2, ground := Go.Ground.data }], guard := none }) (v := ?vq1_3) [3, 4, 9, 10, 11, 12] rfl (by kernel_rfl) (by kernel_rfl) (by kernel_rfl) (by kernel_rfl) (fun _ _ _ h => h) hS0 (Or.inl ⟨by rfl, ?hq1_3⟩) ?_
  case hq1_3 => intro w hSw; (try dsimp only at hSw); go_simp; (try with_reducible rfl)
  try simp only [Act.put, List.setIfInBounds_toArray, List.set_cons_zero, List.set_cons_succ]
  refine wpAnyE_take (i := 4) (oi := { dst := some 18, op := Go.Op.load 75 (Go.Operand.tmp 17), type := 75, pos := "window.go:49", after := #[{ on := 3, ground := Go.Ground.data }], guard := none }) (v := ?vq1_4) [4, 9, 10, 11, 12] rfl (by kernel_rfl) (by kernel_rfl) (by kernel_rfl) (by kernel_rfl) (fun _ _ _ h => h) hS0 (Or.inl ⟨by rfl, ?hq1_4⟩) ?_
  case hq1_4 => intro w hSw; (try dsimp only at hSw); go_simp; (try with_reducible rfl)
  try simp only [Act.put, List.setIfInBounds_toArray, List.set_cons_zero, List.set_cons_succ]
  refine wpAnyE_take (i := 5) (oi := { dst := some 19, op := Go.Op.move (Go.Operand.tmp 1), type := 31, pos := "window.go:49", after := #[], guard := none }) (v := ?vq1_5) [5, 6, 7, 8, 9, 10, 11, 12] rfl (by kernel_rfl) (by kernel_rfl) (by kernel_rfl) (by kernel_rfl) (fun _ _ _ h => h) hS0 (Or.inl ⟨by rfl, ?hq1_5⟩) ?_
  case hq1_5 => intro w hSw; (try dsimp only at hSw); go_simp; (try with_reducible rfl)
  try simp only [Act.put, List.setIfInBounds_toArray, List.set_cons_zero, List.set_cons_succ]
  refine wpAnyE_step (i := 6) (oi := { dst := some 20, op := Go.Op.call { callee := Go.Callee.value (Go.Operand.func 33), args := #[Go.Operand.tmp 19], argTypes := #[31] }, type := 31, pos := "window.go:49", after := #[{ on := 5, ground := Go.Ground.data }], guard := none }) rfl (by kernel_rfl) (by rfl) (fun K hK => ?_)
  go_simp
  refine (clone_any base _ b _ (by show base ≤ w.heap.size; exact hB) Hv.out hbl).mono ?_
  rintro e w4 ⟨v', rfl, hr4, hk4'⟩
  have hk4 := Keep.of_drew hk4'
  obtain ⟨A', c', rfl, _⟩ := id hr4
  dsimp only
  refine hK _ _ ?_ (fun hSq1_6 => ?_)
  · exact (hk4.cell hbs (by simp)).trans c5
  clear hK
  try simp only [Act.put, List.setIfInBounds_toArray, List.set_cons_zero, List.set_cons_succ]
  refine wpAnyE_take (i := 7) (oi := { dst := some 21, op := Go.Op.build 91 #[(0, Go.Operand.tmp 20)], type := 91, pos := "window.go:49", after := #[{ on := 6, ground := Go.Ground.data }], guard := none }) (v := ?vq1_7) [7, 8, 9, 10, 11, 12] rfl (by kernel_rfl) (by kernel_rfl) (by kernel_rfl) (by kernel_rfl) (fun _ _ _ h => h) hSq1_6 (Or.inl ⟨by rfl, ?hq1_7⟩) ?_
  case hq1_7 => intro w hSw; (try dsimp only at hSw); go_simp; (try with_reducible rfl)
  try simp only [Act.put, List.setIfInBounds_toArray, List.set_cons_zero, List.set_cons_succ]
  refine wpAnyE_step (i := 8) (oi := { dst := some 22, op := Go.Op.buildSlice 75 1 #[(0, Go.Operand.tmp 21)], type := 75, pos := "window.go:49", after := #[{ on := 7, ground := Go.Ground.data }], guard := none }) rfl (by kernel_rfl) (by rfl) (fun K hK => ?_)
  go_simp
  refine hK _ _ ?_ (fun hSq1_8 => ?_)
  · exact ((hk4.alloc _).cell (p := ⟨bs, 5, none⟩) hbs (by simp)).trans c5
  clear hK
  try simp only [Act.put, List.setIfInBounds_toArray, List.set_cons_zero, List.set_cons_succ]
  refine wpAnyE_step (i := 9) (oi := { dst := some 23, op := Go.Op.call { callee := Go.Callee.builtin Go.Builtin.append, args := #[Go.Operand.tmp 18, Go.Operand.tmp 22], argTypes := #[75, 75] }, type := 75, pos := "window.go:49", after := #[{ on := 4, ground := Go.Ground.data }, { on := 8, ground := Go.Ground.data }, { on := 6, ground := Go.Ground.chain }], guard := none }) rfl (by kernel_rfl) (by rfl) (fun K hK => ?_)
  have hown4 := ownsRow_keep Hown.out (hk4.alloc (.cells #[.slice A' b.length c', .bool false, .int .i64 0, .bool false] 91)) (by simp)
  obtain ⟨lv2, w6, hap, hown6, hg6, hat6⟩ := run_append_src (P := Try.prog) (w4.alloc (.cells #[.slice A' b.length c', .bool false, .int .i64 0, .bool false] 91)) 75 75 91 _ 4 48 base Try.underlying75 sntinfo rfl (by omega) (.slice AL l.length cL) l.length _ hown4 (some ⟨w4.heap.size, 0, none⟩) 1 1 _ (src_new w4 91 4 [.slice A' b.length c', .bool false, .int .i64 0, .bool false] rfl) (by intro u hu; simp at hu; rcases hu with rfl | rfl | rfl | rfl <;> rfl) (by unfold maxLen; omega) (by omega) (by have := hk4.size; simp; omega)
  obtain ⟨A2, c2, rfl, _⟩ := own_slice hown6
  have hk6 : Keep (Value.slice AL l.length cL).ownBlock.toList w w6 := ((hk4.alloc _).mono (by simp)).grown hg6 (fun k hk => .inl (by simp [hk]))
  have hnb : bs ∉ (Value.slice AL l.length cL).ownBlock.toList := by simp; exact own_ne_blk Hown.out HT.out (by decide)
  have hT6 := HT.out.keep hk6 hnb
  have f5 : w6.cell? ⟨bs, 5, none⟩ = some (.slice AL l.length cL) := hT6.cell 5
  have f5' : w6.frozen? ⟨bs, 5, none⟩ = false := hT6.free 5
  refine wp_append2 (v1 := .slice AL l.length cL) (v2 := .slice (some ⟨w4.heap.size, 0, none⟩) 1 1) (.tmp 18) (.tmp 22) rfl rfl rfl hap ?_
  refine hK _ _ ?_ (fun hSq1_9 => ?_)
  · exact f5
  clear hK
  try simp only [Act.put, List.setIfInBounds_toArray, List.set_cons_zero, List.set_cons_succ]
  refine wpAnyE_step (i := 10) (oi := { dst := some 24, op := Go.Op.nilCheck (Go.Operand.tmp 14), type := 0, pos := "window.go:49", after := #[{ on := 0, ground := Go.Ground.data }, { on := 0, ground := Go.Ground.phase }, { on := 1, ground := Go.Ground.phase }, { on := 2, ground := Go.Ground.phase }, { on := 3, ground := Go.Ground.phase }, { on := 4, ground := Go.Ground.phase }, { on := 5, ground := Go.Ground.phase }, { on := 6, ground := Go.Ground.phase }, { on := 7, ground := Go.Ground.phase }, { on := 8, ground := Go.Ground.phase }, { on := 9, ground := Go.Ground.phase }], guard := none }) rfl (by kernel_rfl) (by rfl) (fun K hK => ?_)
  go_simp
  refine hK _ _ ?_ (fun hSq1_10 => ?_)
  · exact f5
  clear hK
  try simp only [Act.put, List.setIfInBounds_toArray, List.set_cons_zero, List.set_cons_succ]
  refine wpAnyE_step (i := 11) (oi := { dst := some 25, op := Go.Op.fieldAddr 77 (Go.Operand.tmp 24) 5, type := 0, pos := "window.go:49", after := #[{ on := 10, ground := Go.Ground.data }, { on := 0, ground := Go.Ground.phase }, { on := 1, ground := Go.Ground.phase }, { on := 2, ground := Go.Ground.phase }, { on := 3, ground := Go.Ground.phase }, { on := 4, ground := Go.Ground.phase }, { on := 5, ground := Go.Ground.phase }, { on := 6, ground := Go.Ground.phase }, { on := 7, ground := Go.Ground.phase }, { on := 8, ground := Go.Ground.phase }, { on := 9, ground := Go.Ground.phase }], guard := none }) rfl (by kernel_rfl) (by rfl) (fun K hK => ?_)
  go_simp
  refine hK _ _ ?_ (fun hSq1_11 => ?_)
  · exact f5
  clear hK
  try simp only [Act.put, List.setIfInBounds_toArray, List.set_cons_zero, List.set_cons_succ]
  refine wpAnyE_switch _ _ _ _ (by kernel_rfl) ?_
  refine wpAnyE_step (i := 12) (oi := { dst := none, op := Go.Op.store 75 (Go.Operand.tmp 25) (Go.Operand.tmp 23), type := 0, pos := "window.go:49", after := #[{ on := 11, ground := Go.Ground.data }, { on := 9, ground := Go.Ground.data }, { on := 9, ground := Go.Ground.chain }, { on := 0, ground := Go.Ground.phase }, { on := 1, ground := Go.Ground.phase }, { on := 2, ground := Go.Ground.phase }, { on := 3, ground := Go.Ground.phase }, { on := 4, ground := Go.Ground.phase }, { on := 5, ground := Go.Ground.phase }, { on := 6, ground := Go.Ground.phase }, { on := 7, ground := Go.Ground.phase }, { on := 8, ground := Go.Ground.phase }, { on := 9, ground := Go.Ground.phase }], guard := none }) rfl (by kernel_rfl) (by rfl) (fun K hK => ?_)
  go_simp
  refine hK _ _ trivial (fun _ => ?_)
  clear hK
  try simp only [Act.put, List.setIfInBounds_toArray, List.set_cons_zero, List.set_cons_succ]
  refine wpAnyE_done (by kernel_rfl) ?_ _
  generalize hw7 : (World.setCell _ _ _) = w7
  have hT7 : SBlk bs sz ag now bse most (.slice A2 (l.length + 1) c2) op w7 := by rw [← hw7]; exact Blk.set_ hT6 5 _
  have hk7 : Keep [bs] w6 w7 := by rw [← hw7]; exact (Keep.refl [bs] w6).setCell (.inl (by simp)) _
  clear hw7
  have hr6 : Reads base 5 w6 (.slice A' b.length c') b := (hr4.keep ((Keep.refl [] w4).alloc (.cells #[.slice A' b.length c', .bool false, .int .i64 0, .bool false] 91)) noByte_nil).keep (Keep.of_grown (F := (Value.slice AL l.length cL).ownBlock.toList) hg6 (fun k hk => by simp [hk]))
    (by simpa using noByte_own (F := []) hown4 (Nat.le_refl _) (by decide) noByte_nil)
  have hr7 := hr6.keep hk7 (noByte_cons hT6 (by decide) hbb noByte_nil)
  have hown7 := ownsRow_keep hown6 hk7 (by
    intro g hg
    have := own_ne_blk hown6 hT6 (by decide)
    simp
    rintro rfl
    exact this hg)
  have hkw : Keep (bs :: (Value.slice AL l.length cL).ownBlock.toList) w w7 := (hk6.mono (by intro i hi; simp at hi ⊢; exact .inr hi)).trans (hk7.mono (by simp))
  have d6 : w7.cell? ⟨bs, 6, none⟩ = some (.int .i64 op) := Blk.cell hT7 6
  have d6' : w7.frozen? ⟨bs, 6, none⟩ = false := Blk.free hT7 6
  have hT8 : SBlk bs sz ag now bse most (.slice A2 (l.length + 1) c2) (op + 1) (w7.setCell ⟨bs, 6, none⟩ (.int .i64 (op + 1))) := Blk.set_ hT7 6 _
  have hk8 : Keep [bs] w7 (w7.setCell ⟨bs, 6, none⟩ (.int .i64 (op + 1))) := (Keep.refl [bs] w7).setCell (.inl (by simp)) _
  have hr8 := hr7.keep hk8 (noByte_cons hT7 (by decide) hbb noByte_nil)
  have hown8 := ownsRow_keep hown7 hk8 (by
    intro g hg
    have := own_ne_blk hown7 hT7 (by decide)
    simp
    rintro rfl
    exact this hg)
  have HT8 := Lib.hid hT8
  have Hr8 := Lib.hid hr8
  have Hown8 := Lib.hid hown8
  have Hkw := Lib.hid (hkw.trans (hk8.mono (by simp)))
  clear hT7 hk7 hr6 hr7 hown7 hkw hT8 hk8 hr8 hown8 hown6 hg6 hat6 hap hown4 hT6 hk6 hnb f5 f5' hr4 hk4 hk4' hbl hSq1_6 hSq1_8 hSq1_9 hSq1_10 hSq1_11 hS0
  have hopw : IntKind.i64.wrap (op + 1) = op + 1 := by rw [IntKind.wrap_i64]; omega
  have hopw2 : wrap64 (op + 1) = op + 1 := by unfold wrap64; omega
  go_wp2_with (go_at_call 36; refine (slast_any _ _ _ _ _ _ _ _ _ _ _ HT8.out hb (by omega) (by omega)).mono ?_; rintro e w' ⟨rfl, nn, rfl⟩)
  go_ret2
  have hk9 : Keep [] (w7.setCell ⟨bs, 6, none⟩ (.int .i64 (op + 1))) ((w7.setCell ⟨bs, 6, none⟩ (.int .i64 (op + 1))).drewN nn) := (Keep.refl _ _).drewN nn
  refine ⟨.slice A' b.length c', .slice A2 (l.length + 1) c2, ?_, Hr8.out.keep hk9 noByte_nil, HT8.out, ?_, Hkw.out.trans (hk9.mono (by simp))⟩
  · have e : bse + ((l.length + 1 : Nat) : Int) - 1 = bse + l.length := by omega
    show Ending.returned (.tuple #[.int .i64 (bse + ((l.length + 1 : Nat) : Int) - 1), .int .i64 0]) = _
    rw [e]
  · rw [List.flatMap_append]
    have h9 := ownsRow_keep Hown8.out hk9 (by simp)
    simpa [scells] using h9
end Go.Proofs.Ytlkpecalkakpeaa
