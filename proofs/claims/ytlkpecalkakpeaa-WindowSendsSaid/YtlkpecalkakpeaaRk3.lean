/- The taker of the reference, walked: Take, the long way. -/
import Derived.Test.YtlkpecalkakpeaaRk2
set_option linter.unusedVariables false
set_option linter.unusedSimpArgs false
namespace Go.Proofs.Ytlkpecalkakpeaa
open Go.RowKit Go.Sal

theorem own_slice {base n size : Nat} {e : TypeId} {v : Value} {xs : List Value} {w : World} (h : w.ownsRow base e size v n xs) : ∃ A c, v = .slice A n c ∧ n ≤ c ∧ c ≤ 9223372036854775807 := by
  rcases h.2 with ⟨rfl, rfl⟩ | ⟨g, cap, cur, rfl, _, _, h1, h2, _⟩
  · exact ⟨_, _, rfl, by omega, by omega⟩
  · exact ⟨_, _, rfl, h1, by unfold maxLen at h2; omega⟩

def RkInv (base br : Nat) (sz : Int) (w : World) (lv0 v1 : Value) (b : List UInt8) (FIN : Int × List (Int × Value) × List (Int × Value)) (k : Nat) (wt : Int) (l out : List (Int × Value)) (ro : Value) (wr : World) : Prop :=
  ∃ lv, Blk wr br 86 #[.int .i64 sz, .int .i64 wt, lv] ∧ wr.ownsRow base 33 2 lv l.length (flat l) ∧ wr.ownsRow w.heap.size 33 2 ro out.length (flat out) ∧ Keep (br :: lv0.ownBlock.toList) w wr ∧ Reads base 5 wr v1 b ∧
    tdrain k wt l out = FIN ∧ 1 ≤ wt ∧ wt + l.length ≤ 4611686018427387905 ∧ (∀ p ∈ l, IsSl p.2) ∧ out.length + k ≤ 1001 ∧ l.length ≤ k ∧ (∀ g, lv.ownBlock = some g → ro.ownBlock ≠ some g)
theorem flat_one {l : List (Int × Value)} (h : ∀ p ∈ l, IsSl p.2) : ∀ u ∈ flat l, u.oneCell' = true := by
  intro u hu
  unfold flat at hu
  rw [List.mem_flatMap] at hu
  obtain ⟨p, hp, hu⟩ := hu
  obtain ⟨A, n, c, hv⟩ := h p hp
  simp at hu
  rcases hu with rfl | rfl
  · rfl
  · rw [hv]; rfl
theorem fidx_neg {α : Type} {l : List (Int × α)} {n : Int} (h : fidx l n < 0) : mlook l n = none := by
  cases hm : mlook l n with
  | none => rfl
  | some x =>
    have := mlook_fidx.1 (by rw [hm]; rfl : (mlook l n).isSome = true)
    omega

set_option maxRecDepth 20000 in
set_option maxHeartbeats 8000000 in
theorem rtake_main (base br : Nat) (sz wt : Int) (l : List (Int × Value)) (lv : Value) (N : Int) (v : Value) (b : List UInt8) (w : World)
    (hT : Blk w br 86 #[.int .i64 sz, .int .i64 wt, lv]) (hown : w.ownsRow base 33 2 lv l.length (flat l)) (hv : Reads base 5 w v b) (hB : base ≤ w.heap.size) (hbl : b.length ≤ 140737488355328)
    (hs1 : 1 ≤ sz) (hs2 : sz ≤ 64) (hN1 : 1 ≤ N) (hN2 : N ≤ 9223372036854775807) (hw : N - sz < wt) (hs : wt ≤ N) (hs' : mlook l N = none) (hwt : 1 ≤ wt) (hwl : wt + l.length ≤ 4611686018427387904) (hone : ∀ p ∈ l, IsSl p.2) (hl : l.length ≤ 1000) (hbr : base ≤ br) :
    Calls Try.prog 13 #[.pointer (some ⟨br, 0, none⟩), .agg #[.int .i64 N, v]] w (RTkPost base br sz wt l lv N b w) := by
  obtain ⟨A, c, rfl, hv'⟩ := id hv
  obtain ⟨AL, cL, rfl, _⟩ := own_slice hown
  have c0 : w.cell? ⟨br, 0, none⟩ = some (.int .i64 sz) := hT.cell 0
  have c1 : w.cell? ⟨br, 1, none⟩ = some (.int .i64 wt) := hT.cell 1
  have hlt : br < w.heap.size := hT.lt
  have hd : decide (N < 1) = false := by simp; omega
  have hd2 : decide (N < wt) = false := by simp; omega
  have hnf : fidx l N < 0 := by
    have : ¬ 0 ≤ fidx l N := fun h => by
      have := mlook_fidx.2 h
      rw [hs'] at this
      cases this
    omega
  have HT := Lib.hid hT
  have Hown := Lib.hid hown
  have Hv := Lib.hid hv
  have Hbl := Lib.hid hbl
  have Hwl := Lib.hid hwl
  have Hs' := Lib.hid hs'
  have Hone := Lib.hid hone
  clear hT hown hv hv' hbl hwl hs' hone
  go_enter Try.func13, Try.ntmps13
  go_wp2
  go_quiet (fail)
  go_wp2_with fail
  generalize hw3 : (World.drewN _ _) = w3
  have hk3 : Keep [] w w3 := by rw [← hw3]; repeat (first | exact Keep.refl _ _ | apply Keep.drewN | apply Keep.alloc)
  have hp3 : Blk w3 w.heap.size 33 #[.int .i64 N, .slice A b.length c] := by rw [← hw3]; exact Blk.new w 33 _
  clear hw3 c0 c1
  have HR3 : Hid (∀ n, RTk base br sz wt l (w3.drewN n)) := fun n => ⟨_, HT.out.keep (hk3.drewN n) (by simp), ownsRow_keep Hown.out (hk3.drewN n) (by simp)⟩
  have hT3 := HT.out.keep hk3 (by simp)
  have d1 : w3.cell? ⟨br, 1, none⟩ = some (.int .i64 wt) := hT3.cell 1
  have p0 : w3.cell? ⟨w.heap.size, 0, none⟩ = some (.int .i64 N) := hp3.cell 0
  have Hk3 := Lib.hid hk3
  have Hp3 := Lib.hid hp3
  clear hT3 hp3 hk3
  go_quiet ((go_at_call 34; exact quiet_left (find_any base br sz wt l _ _ (HR3.out _) (by omega))))
  go_wp2_with fail
  generalize hw4 : (World.drewN _ _) = w4
  have hk4 : Keep [] w w4 := by rw [← hw4]; exact Hk3.out.drewN _
  have hp4 : Blk w4 w.heap.size 33 #[.int .i64 N, .slice A b.length c] := by rw [← hw4]; exact Hp3.out
  clear hw4 d1 p0
  have hT4 := HT.out.keep hk4 (by simp)
  have hown4 := ownsRow_keep Hown.out hk4 (by simp)
  have hv4 := Hv.out.keep hk4 noByte_nil
  have hz4 := hk4.size
  have e2 : w4.cell? ⟨br, 2, none⟩ = some (.slice AL l.length cL) := hT4.cell 2
  have p0 : w4.cell? ⟨w.heap.size, 0, none⟩ = some (.int .i64 N) := hp4.cell 0
  have p1 : w4.cell? ⟨w.heap.size, 1, none⟩ = some (.slice A b.length c) := hp4.cell 1
  have hlp := hp4.lt
  have hlb := hT4.lt
  have HSk : Hid (∀ F W, Keep F w4 W → br ∉ F → w.heap.size ∉ F → W.cell? ⟨br, 2, none⟩ = some (.slice AL l.length cL) ∧ W.cell? ⟨w.heap.size, 0, none⟩ = some (.int .i64 N) ∧ W.cell? ⟨w.heap.size, 1, none⟩ = some (.slice A b.length c)) :=
    Lib.hid (fun F W k h1 h2 => ⟨(k.cell (p := ⟨br, 2, none⟩) hlb h1).trans e2, (k.cell (p := ⟨w.heap.size, 0, none⟩) hlp h2).trans p0, (k.cell (p := ⟨w.heap.size, 1, none⟩) hlp h2).trans p1⟩)
  have hka : Keep [] w4 (w4.alloc (.cells #[] 5)).drew := ((Keep.refl [] w4).alloc _).drew
  obtain ⟨v1, wb, hap1, hown1, hg1, hat1⟩ := run_append_src (P := Try.prog) (w4.alloc (.cells #[] 5)).drew 31 31 5 (.int .u8 0) 1 1 base Try.underlying31 u8info rfl (by omega) (.slice (some ⟨w4.heap.size, 0, none⟩) 0 0) 0 []
      (World.ownsRow_made w4 #[] 0 (by omega) (by simp [maxLen]) (by simp)) A b.length c _ (Reads.src (hv4.keep hka noByte_nil)).2 (byteCells_one b) (by have := Hbl.out; unfold maxLen; omega) (by have := Hbl.out; omega) (by show base ≤ (w4.alloc _).heap.size; simp; omega)
  have hkb : Keep [] w4 wb := hka.grown hg1 (fun k hk => by simp [Value.ownBlock] at hk; omega)
  have hrb : Reads base 5 wb v1 b := Reads.of_own hown1
  obtain ⟨A1, c1, rfl, _⟩ := id hrb
  have hkc : Keep [] w4 (wb.alloc (.cells #[.int .i64 N, .slice A1 b.length c1] 33)) := hkb.alloc _
  obtain ⟨lv2, wd, hap2, hown2, hg2, hat2⟩ := run_append_src (P := Try.prog) (wb.alloc (.cells #[.int .i64 N, .slice A1 b.length c1] 33)) 22 22 33 _ 2 32 base Try.underlying22 payinfo rfl (by omega) (.slice AL l.length cL) l.length (flat l)
      (ownsRow_keep hown4 hkc (by simp)) (some ⟨wb.heap.size, 0, none⟩) 1 1 _ (src_new wb 33 2 [.int .i64 N, .slice A1 b.length c1] rfl) (by intro u hu; simp at hu; rcases hu with rfl | rfl; rfl; rfl) (by unfold maxLen; omega) (by omega) (by have := hkc.size; omega)
  obtain ⟨A2, c2, rfl, _⟩ := own_slice hown2
  have hnb : (Value.slice AL l.length cL).ownBlock ≠ some br := own_ne_blk hown4 hT4 (by decide)
  have hnp : ∀ k, (Value.slice AL l.length cL).ownBlock = some k → k < w.heap.size := fun k hk => (Hown.out.lt k hk).2
  have hkd : Keep (Value.slice AL l.length cL).ownBlock.toList w4 wd := (hkc.mono (by simp)).grown hg2 (fun k hk => .inl (by simp [hk]))
  have Nd : Hid (br ∉ (Value.slice AL l.length cL).ownBlock.toList ∧ w.heap.size ∉ (Value.slice AL l.length cL).ownBlock.toList) := Lib.hid ⟨by simp; exact hnb, by simp; intro h; have := hnp _ h; omega⟩
  have hTd := hT4.keep hkd Nd.out.1
  have f1 : wd.cell? ⟨br, 2, none⟩ = some (.slice AL l.length cL) := hTd.cell 2
  have f2 : wd.frozen? ⟨br, 2, none⟩ = false := hTd.free 2
  have hrd : Reads base 5 wd (.slice A1 b.length c1) b := (hrb.keep ((Keep.refl [] wb).alloc (.cells #[.int .i64 N, .slice A1 b.length c1] 33)) noByte_nil).keep (Keep.of_grown (F := (Value.slice AL l.length cL).ownBlock.toList) hg2 (fun k hk => by simp [hk]))
    (by simpa using noByte_own (F := []) (ownsRow_keep hown4 hkc (by simp)) (Nat.le_refl _) (by decide) noByte_nil)
  have Hrd := Lib.hid hrd
  clear hrd
  have Ka := Lib.hid hka
  have Kb := Lib.hid hkb
  have Kc := Lib.hid hkc
  have Kd := Lib.hid hkd
  have HTd := Lib.hid hTd
  have Hown2 := Lib.hid hown2
  have Hrb := Lib.hid hrb
  have hS0 := HSk.out [] w4.drew ((Keep.refl [] w4).drew) (by simp) (by simp)
  have hb5 := run_empty_slice (P := Try.prog) 31 5 _ _ _ Try.underlying31 u8info
  clear hka hkb hkc hkd hTd hown1 hown2 hg1 hat1 hg2 hat2 hrb hown4 hv4 hz4 hp4 e2 p0 p1 hnb hnp hT4
  refine wp_region_E (fun W => W.cell? ⟨br, 2, none⟩ = some (.slice AL l.length cL) ∧ W.cell? ⟨w.heap.size, 0, none⟩ = some (.int .i64 N) ∧ W.cell? ⟨w.heap.size, 1, none⟩ = some (.slice A b.length c)) [16] (by kernel_rfl) ?_
  refine wpAnyE_take (i := 0) (oi := { dst := some 39, op := Go.Op.move (Go.Operand.tmp 0), type := 27, pos := "ref.go:174", after := #[], guard := none }) (v := ?vq1_0) [0, 14, 15, 16] rfl (by kernel_rfl) (by kernel_rfl) (by kernel_rfl) (by kernel_rfl) (fun _ _ _ h => h) hS0 (Or.inl ⟨by rfl, ?hq1_0⟩) ?_
  case hq1_0 => intro w hSw; (try dsimp only at hSw); go_simp; (try with_reducible rfl)
  try simp only [Act.put, List.setIfInBounds_toArray, List.set_cons_zero, List.set_cons_succ]
  refine wpAnyE_take (i := 1) (oi := { dst := some 40, op := Go.Op.move (Go.Operand.tmp 0), type := 27, pos := "ref.go:174", after := #[], guard := none }) (v := ?vq1_1) [1, 2, 3, 4, 13, 14, 15, 16] rfl (by kernel_rfl) (by kernel_rfl) (by kernel_rfl) (by kernel_rfl) (fun _ _ _ h => h) hS0 (Or.inl ⟨by rfl, ?hq1_1⟩) ?_
  case hq1_1 => intro w hSw; (try dsimp only at hSw); go_simp; (try with_reducible rfl)
  try simp only [Act.put, List.setIfInBounds_toArray, List.set_cons_zero, List.set_cons_succ]
  refine wpAnyE_take (i := 2) (oi := { dst := some 41, op := Go.Op.nilCheck (Go.Operand.tmp 40), type := 0, pos := "ref.go:174", after := #[{ on := 1, ground := Go.Ground.data }], guard := none }) (v := ?vq1_2) [2, 3, 4, 13, 14, 15, 16] rfl (by kernel_rfl) (by kernel_rfl) (by kernel_rfl) (by kernel_rfl) (fun _ _ _ h => h) hS0 (Or.inl ⟨by rfl, ?hq1_2⟩) ?_
  case hq1_2 => intro w hSw; (try dsimp only at hSw); go_simp; (try with_reducible rfl)
  try simp only [Act.put, List.setIfInBounds_toArray, List.set_cons_zero, List.set_cons_succ]
  refine wpAnyE_take (i := 3) (oi := { dst := some 42, op := Go.Op.fieldAddr 86 (Go.Operand.tmp 41) 2, type := 0, pos := "ref.go:174", after := #[{ on := 2, ground := Go.Ground.data }], guard := none }) (v := ?vq1_3) [3, 4, 13, 14, 15, 16] rfl (by kernel_rfl) (by kernel_rfl) (by kernel_rfl) (by kernel_rfl) (fun _ _ _ h => h) hS0 (Or.inl ⟨by rfl, ?hq1_3⟩) ?_
  case hq1_3 => intro w hSw; (try dsimp only at hSw); go_simp; (try with_reducible rfl)
  try simp only [Act.put, List.setIfInBounds_toArray, List.set_cons_zero, List.set_cons_succ]
  refine wpAnyE_take (i := 4) (oi := { dst := some 43, op := Go.Op.load 22 (Go.Operand.tmp 42), type := 22, pos := "ref.go:174", after := #[{ on := 3, ground := Go.Ground.data }], guard := none }) (v := ?vq1_4) [4, 13, 14, 15, 16] rfl (by kernel_rfl) (by kernel_rfl) (by kernel_rfl) (by kernel_rfl) (fun _ _ _ h => h) hS0 (Or.inl ⟨by rfl, ?hq1_4⟩) ?_
  case hq1_4 => intro w hSw; (try dsimp only at hSw); go_simp; (try with_reducible rfl)
  try simp only [Act.put, List.setIfInBounds_toArray, List.set_cons_zero, List.set_cons_succ]
  refine wpAnyE_take (i := 5) (oi := { dst := some 44, op := Go.Op.fieldAddr 33 (Go.Operand.tmp 3) 0, type := 0, pos := "ref.go:174", after := #[], guard := none }) (v := ?vq1_5) [5, 6, 11, 12, 13, 14, 15, 16] rfl (by kernel_rfl) (by kernel_rfl) (by kernel_rfl) (by kernel_rfl) (fun _ _ _ h => h) hS0 (Or.inl ⟨by rfl, ?hq1_5⟩) ?_
  case hq1_5 => intro w hSw; (try dsimp only at hSw); go_simp; (try with_reducible rfl)
  try simp only [Act.put, List.setIfInBounds_toArray, List.set_cons_zero, List.set_cons_succ]
  refine wpAnyE_take (i := 6) (oi := { dst := some 45, op := Go.Op.load 3 (Go.Operand.tmp 44), type := 3, pos := "ref.go:174", after := #[{ on := 5, ground := Go.Ground.data }], guard := none }) (v := ?vq1_6) [6, 11, 12, 13, 14, 15, 16] rfl (by kernel_rfl) (by kernel_rfl) (by kernel_rfl) (by kernel_rfl) (fun _ _ _ h => h) hS0 (Or.inl ⟨by rfl, ?hq1_6⟩) ?_
  case hq1_6 => intro w hSw; (try dsimp only at hSw); go_simp; (try with_reducible rfl)
  try simp only [Act.put, List.setIfInBounds_toArray, List.set_cons_zero, List.set_cons_succ]
  refine wpAnyE_take (i := 8) (oi := { dst := some 47, op := Go.Op.fieldAddr 33 (Go.Operand.tmp 3) 1, type := 0, pos := "ref.go:174", after := #[], guard := none }) (v := ?vq1_8) [8, 9, 10, 11, 12, 13, 14, 15, 16] rfl (by kernel_rfl) (by kernel_rfl) (by kernel_rfl) (by kernel_rfl) (fun _ _ _ h => h) hS0 (Or.inl ⟨by rfl, ?hq1_8⟩) ?_
  case hq1_8 => intro w hSw; (try dsimp only at hSw); go_simp; (try with_reducible rfl)
  try simp only [Act.put, List.setIfInBounds_toArray, List.set_cons_zero, List.set_cons_succ]
  refine wpAnyE_take (i := 9) (oi := { dst := some 48, op := Go.Op.load 31 (Go.Operand.tmp 47), type := 31, pos := "ref.go:174", after := #[{ on := 8, ground := Go.Ground.data }], guard := none }) (v := ?vq1_9) [9, 10, 11, 12, 13, 14, 15, 16] rfl (by kernel_rfl) (by kernel_rfl) (by kernel_rfl) (by kernel_rfl) (fun _ _ _ h => h) hS0 (Or.inl ⟨by rfl, ?hq1_9⟩) ?_
  case hq1_9 => intro w hSw; (try dsimp only at hSw); go_simp; (try with_reducible rfl)
  try simp only [Act.put, List.setIfInBounds_toArray, List.set_cons_zero, List.set_cons_succ]
  refine wpAnyE_step (i := 7) (oi := { dst := some 46, op := Go.Op.buildSlice 31 0 #[], type := 31, pos := "ref.go:174", after := #[], guard := none }) rfl (by kernel_rfl) (by rfl) (fun K hK => ?_)
  go_simp
  refine hK _ _ ?_ (fun hSq1_7 => ?_)
  · exact HSk.out _ _ Ka.out (by simp) (by simp)
  clear hK
  try simp only [Act.put, List.setIfInBounds_toArray, List.set_cons_zero, List.set_cons_succ]
  refine wpAnyE_step (i := 10) (oi := { dst := some 49, op := Go.Op.call { callee := Go.Callee.builtin Go.Builtin.append, args := #[Go.Operand.tmp 46, Go.Operand.tmp 48], argTypes := #[31, 31] }, type := 31, pos := "ref.go:174", after := #[{ on := 7, ground := Go.Ground.data }, { on := 9, ground := Go.Ground.data }], guard := none }) rfl (by kernel_rfl) (by rfl) (fun K hK => ?_)
  refine wp_append2 (v1 := .slice (some ⟨w4.heap.size, 0, none⟩) 0 0) (v2 := .slice A b.length c) (.tmp 46) (.tmp 48) rfl rfl rfl hap1 ?_
  refine hK _ _ ?_ (fun hSq1_10 => ?_)
  · exact HSk.out _ _ Kb.out (by simp) (by simp)
  clear hK
  try simp only [Act.put, List.setIfInBounds_toArray, List.set_cons_zero, List.set_cons_succ]
  refine wpAnyE_take (i := 11) (oi := { dst := some 50, op := Go.Op.build 33 #[(0, Go.Operand.tmp 45), (1, Go.Operand.tmp 49)], type := 33, pos := "ref.go:174", after := #[{ on := 6, ground := Go.Ground.data }, { on := 10, ground := Go.Ground.data }], guard := none }) (v := ?vq1_11) [11, 12, 13, 14, 15, 16] rfl (by kernel_rfl) (by kernel_rfl) (by kernel_rfl) (by kernel_rfl) (fun _ _ _ h => h) hSq1_10 (Or.inl ⟨by rfl, ?hq1_11⟩) ?_
  case hq1_11 => intro w hSw; (try dsimp only at hSw); go_simp; (try with_reducible rfl)
  try simp only [Act.put, List.setIfInBounds_toArray, List.set_cons_zero, List.set_cons_succ]
  refine wpAnyE_step (i := 12) (oi := { dst := some 51, op := Go.Op.buildSlice 22 1 #[(0, Go.Operand.tmp 50)], type := 22, pos := "ref.go:174", after := #[{ on := 11, ground := Go.Ground.data }], guard := none }) rfl (by kernel_rfl) (by rfl) (fun K hK => ?_)
  go_simp
  refine hK _ _ ?_ (fun hSq1_12 => ?_)
  · exact HSk.out _ _ Kc.out (by simp) (by simp)
  clear hK
  try simp only [Act.put, List.setIfInBounds_toArray, List.set_cons_zero, List.set_cons_succ]
  refine wpAnyE_step (i := 13) (oi := { dst := some 52, op := Go.Op.call { callee := Go.Callee.builtin Go.Builtin.append, args := #[Go.Operand.tmp 43, Go.Operand.tmp 51], argTypes := #[22, 22] }, type := 22, pos := "ref.go:174", after := #[{ on := 4, ground := Go.Ground.data }, { on := 12, ground := Go.Ground.data }, { on := 10, ground := Go.Ground.chain }], guard := none }) rfl (by kernel_rfl) (by rfl) (fun K hK => ?_)
  refine wp_append2 (v1 := .slice AL l.length cL) (v2 := .slice (some ⟨wb.heap.size, 0, none⟩) 1 1) (.tmp 43) (.tmp 51) rfl rfl rfl hap2 ?_
  refine hK _ _ ?_ (fun hSq1_13 => ?_)
  · exact HSk.out _ _ Kd.out Nd.out.1 Nd.out.2
  clear hK
  try simp only [Act.put, List.setIfInBounds_toArray, List.set_cons_zero, List.set_cons_succ]
  refine wpAnyE_step (i := 14) (oi := { dst := some 53, op := Go.Op.nilCheck (Go.Operand.tmp 39), type := 0, pos := "ref.go:174", after := #[{ on := 0, ground := Go.Ground.data }, { on := 0, ground := Go.Ground.phase }, { on := 1, ground := Go.Ground.phase }, { on := 2, ground := Go.Ground.phase }, { on := 3, ground := Go.Ground.phase }, { on := 4, ground := Go.Ground.phase }, { on := 5, ground := Go.Ground.phase }, { on := 6, ground := Go.Ground.phase }, { on := 7, ground := Go.Ground.phase }, { on := 8, ground := Go.Ground.phase }, { on := 9, ground := Go.Ground.phase }, { on := 10, ground := Go.Ground.phase }, { on := 11, ground := Go.Ground.phase }, { on := 12, ground := Go.Ground.phase }, { on := 13, ground := Go.Ground.phase }], guard := none }) rfl (by kernel_rfl) (by rfl) (fun K hK => ?_)
  go_simp
  refine hK _ _ ?_ (fun hSq1_14 => ?_)
  · exact HSk.out _ _ Kd.out Nd.out.1 Nd.out.2
  clear hK
  try simp only [Act.put, List.setIfInBounds_toArray, List.set_cons_zero, List.set_cons_succ]
  refine wpAnyE_step (i := 15) (oi := { dst := some 54, op := Go.Op.fieldAddr 86 (Go.Operand.tmp 53) 2, type := 0, pos := "ref.go:174", after := #[{ on := 14, ground := Go.Ground.data }, { on := 0, ground := Go.Ground.phase }, { on := 1, ground := Go.Ground.phase }, { on := 2, ground := Go.Ground.phase }, { on := 3, ground := Go.Ground.phase }, { on := 4, ground := Go.Ground.phase }, { on := 5, ground := Go.Ground.phase }, { on := 6, ground := Go.Ground.phase }, { on := 7, ground := Go.Ground.phase }, { on := 8, ground := Go.Ground.phase }, { on := 9, ground := Go.Ground.phase }, { on := 10, ground := Go.Ground.phase }, { on := 11, ground := Go.Ground.phase }, { on := 12, ground := Go.Ground.phase }, { on := 13, ground := Go.Ground.phase }], guard := none }) rfl (by kernel_rfl) (by rfl) (fun K hK => ?_)
  go_simp
  refine hK _ _ ?_ (fun hSq1_15 => ?_)
  · exact HSk.out _ _ Kd.out Nd.out.1 Nd.out.2
  clear hK
  try simp only [Act.put, List.setIfInBounds_toArray, List.set_cons_zero, List.set_cons_succ]
  refine wpAnyE_switch _ _ _ _ (by kernel_rfl) ?_
  refine wpAnyE_step (i := 16) (oi := { dst := none, op := Go.Op.store 22 (Go.Operand.tmp 54) (Go.Operand.tmp 52), type := 0, pos := "ref.go:174", after := #[{ on := 15, ground := Go.Ground.data }, { on := 13, ground := Go.Ground.data }, { on := 13, ground := Go.Ground.chain }, { on := 0, ground := Go.Ground.phase }, { on := 1, ground := Go.Ground.phase }, { on := 2, ground := Go.Ground.phase }, { on := 3, ground := Go.Ground.phase }, { on := 4, ground := Go.Ground.phase }, { on := 5, ground := Go.Ground.phase }, { on := 6, ground := Go.Ground.phase }, { on := 7, ground := Go.Ground.phase }, { on := 8, ground := Go.Ground.phase }, { on := 9, ground := Go.Ground.phase }, { on := 10, ground := Go.Ground.phase }, { on := 11, ground := Go.Ground.phase }, { on := 12, ground := Go.Ground.phase }, { on := 13, ground := Go.Ground.phase }], guard := none }) rfl (by kernel_rfl) (by rfl) (fun K hK => ?_)
  go_simp
  refine hK _ _ trivial (fun _ => ?_)
  clear hK
  try simp only [Act.put, List.setIfInBounds_toArray, List.set_cons_zero, List.set_cons_succ]
  refine wpAnyE_done (by kernel_rfl) ?_ _
  generalize hw5 : (World.setCell _ _ _) = w5
  have hT5 : Blk w5 br 86 #[.int .i64 sz, .int .i64 wt, .slice A2 (l.length + 1) c2] := by rw [← hw5]; exact HTd.out.set_ 2 _
  have hks : Keep [br] wd w5 := by rw [← hw5]; exact (Keep.refl [br] wd).setCell (.inl (by simp)) _
  have hown5 : w5.ownsRow base 33 2 (.slice A2 (l.length + 1) c2) (l ++ [(N, Value.slice A1 b.length c1)]).length (flat (l ++ [(N, Value.slice A1 b.length c1)])) := by
    rw [flat_snoc]
    simpa using ownsRow_keep Hown2.out hks (by
      intro g hg
      have := own_ne_blk Hown2.out HTd.out (by decide)
      simp
      rintro rfl
      exact this hg)
  have hk5 : Keep (br :: (Value.slice AL l.length cL).ownBlock.toList) w w5 := ((hk4.mono (by simp)).trans (Kd.out.mono (by intro i hi; simp at hi ⊢; exact .inr hi))).trans (hks.mono (by simp))
  have hr5 : Reads base 5 w5 (.slice A1 b.length c1) b := by
    exact Hrd.out.keep hks (noByte_cons HTd.out (by decide) hbr noByte_nil)
  clear hw5 f1 f2 hSq1_7 hSq1_10 hSq1_12 hSq1_13 hSq1_14 hSq1_15 hS0 hks hk4 hap1 hap2
  have HR5 := Lib.hid (show RTk base br sz wt (l ++ [(N, Value.slice A1 b.length c1)]) w5 from ⟨_, hT5, hown5⟩)
  have c1' : w5.cell? ⟨br, 1, none⟩ = some (.int .i64 wt) := hT5.cell 1
  obtain ⟨FIN, hFIN⟩ : ∃ FIN, FIN = tdrain (l.length + 1) wt (l ++ [(N, Value.slice A1 b.length c1)]) [] := ⟨_, rfl⟩
  have HF := Lib.hid hFIN
  have HI := Lib.hid (show RkInv base br sz w (.slice AL l.length cL) (.slice A1 b.length c1) b FIN (l.length + 1) wt (l ++ [(N, Value.slice A1 b.length c1)]) [] (.slice none 0 0) w5 from
    ⟨_, hT5, hown5, World.ownsRow_nil _ _ _ _, hk5, hr5, hFIN.symm, hwt, by have := Hwl.out; simp; omega, by
      intro p hp
      rcases List.mem_append.1 hp with hp | hp
      · exact Hone.out p hp
      · simp at hp
        subst hp
        exact ⟨_, _, _, rfl⟩, by simp; omega, by simp, by simp [Value.ownBlock]⟩)
  clear hT5 hown5 hFIN hk5 hr5
  go_wp2_with (go_at_call 34; refine (find_any base br sz wt _ _ _ HR5.out (by simp; omega)).mono ?_; rintro e w' ⟨rfl, rfl⟩)
  clear c1'
  go_loopg [6, 7] (l.length + 1) (fun n ro i wr => ∃ wt' l' out, i = .int .i64 (fidx l' wt') ∧ RkInv base br sz w (.slice AL l.length cL) (.slice A1 b.length c1) b FIN n wt' l' out ro wr)
  case atStart => exact ⟨_, _, _, rfl, HI.out⟩
  case round =>
    obtain ⟨wt', l', out, rfl, lv', hT6, hown6, hro6, hk6, hr6, hf6, hw1, hw2, hone6, hlen6, hlk6, hdis⟩ := hrel
    by_cases hfi : fidx l' wt' < 0
    · have Hp := Lib.hid (show ∀ W, W = wr → RTkPost base br sz wt l (.slice AL l.length cL) N b w (.returned (.tuple #[u6, .int .i64 0])) W from by
        rintro W rfl
        have hfe : (wt', l', out) = FIN := by rw [← hf6]; exact (tdrain_stop (fidx_neg hfi)).symm
        have hfin : ttake sz wt l N (.slice A1 b.length c1) = (0, FIN) := by
          unfold ttake
          rw [if_neg (by omega), if_neg (by rw [Hs'.out]; simp; omega), ← HF.out]
        refine ⟨.slice A1 b.length c1, u6, lv', hr6, ?_, ?_, ?_, ?_, hk6⟩
        · rw [hfin]
        · rw [hfin, ← hfe]; exact hT6
        · rw [hfin, ← hfe]; exact hown6
        · rw [hfin, ← hfe]; exact hro6)
      clear hT6 hown6 hro6 hk6 hr6 hf6 hone6
      go_wp2
      go_ret2
      exact Hp.out _ rfl
    · obtain ⟨k, hk⟩ : ∃ k : Nat, fidx l' wt' = k := ⟨(fidx l' wt').toNat, by omega⟩
      obtain ⟨hkl, hkn, hml, hmd⟩ := fidx_mlook hk
      obtain ⟨A3, n3, c3, hv3⟩ := hone6 _ (List.getElem_mem hkl)
      obtain ⟨A0, cL', rfl, hcl, hcm⟩ := own_slice hown6
      obtain ⟨g, cap, hvg, hbg, hgl⟩ := hown6.form (by omega)
      injection hvg with hvg1 hvgn hvg2
      subst hvg1
      clear hvg2 hvgn
      have hb2 := flat_get l' k hkl
      have hc0 : wr.cell? ⟨g, k * 2, none⟩ = some (.int .i64 wt') := by
        have := hown6.cells (g := g) rfl (k * 2) _ hb2.1
        rw [add_mk, Nat.zero_add, hkn] at this
        exact this
      have hc1 : wr.cell? ⟨g, k * 2 + 1, none⟩ = some (.slice A3 n3 c3) := by
        have := hown6.cells (g := g) rfl (k * 2 + 1) _ hb2.2
        rw [add_mk, Nat.zero_add, hv3] at this
        exact this
      have e2 : wr.cell? ⟨br, 2, none⟩ = some (.slice (some ⟨g, 0, none⟩) l'.length cL') := hT6.cell 2
      obtain ⟨ro6, w6, hapo, hown7, hgo, hato⟩ := run_append_src (P := Try.prog) (wr.alloc (.cells #[.int .i64 wt', .slice A3 n3 c3] 33)) 22 22 33 _ 2 32 w.heap.size Try.underlying22 payinfo rfl (by omega) u6 out.length (flat out)
        (hro6.alloc _) (some ⟨wr.heap.size, 0, none⟩) 1 1 [.int .i64 wt', .slice A3 n3 c3] (src_new wr 33 2 [.int .i64 wt', .slice A3 n3 c3] rfl) (by intro u hu; simp at hu; rcases hu with rfl | rfl; rfl; rfl) (by unfold maxLen; omega) (by omega) (by have := hk6.size; simp; omega)
      have hko : Keep u6.ownBlock.toList wr w6 := ((Keep.refl _ wr).alloc _).grown hgo (fun k hk => .inl (by simp [hk]))
      have hnb : u6.ownBlock ≠ some br := own_ne_blk hro6 hT6 (by decide)
      have hng : u6.ownBlock ≠ some g := hdis g rfl
      have hT7 := hT6.keep hko (by simp; exact hnb)
      have hown8 : w6.ownsRow base 33 2 _ l'.length (flat l') := ownsRow_keep hown6 hko (by intro g' hg'; simp [Value.ownBlock] at hg'; subst hg'; simp; exact hng)
      -- the row without number k
      have hka1 : Keep [] w6 (w6.alloc (.cells #[] 33)).drew := ((Keep.refl [] w6).alloc _).drew
      have hsrc : Src w6 2 (some ⟨g, 0, none⟩) l'.length (flat l') := Src.of_own hown8
      have hgl6 : g < w6.heap.size := (hown8.lt g rfl).2
      have hsrca := hsrc.keep hka1 (by intro a ha; injection ha with ha; subst ha; exact ⟨hgl6, by simp⟩)
      obtain ⟨va, wb1, hap3, hown9, hg9, hat9⟩ := run_append_src (P := Try.prog) (w6.alloc (.cells #[] 33)).drew 22 22 33 _ 2 32 base Try.underlying22 payinfo rfl (by omega) (.slice (some ⟨w6.heap.size, 0, none⟩) 0 0) 0 []
        (World.ownsRow_made w6 #[] 0 (by have := hk6.size; have := hko.size; omega) (by simp [maxLen]) (by simp)) (some ⟨g, 0, none⟩) k cL' _ (hsrca.head (by omega)) (by
          intro u hu
          exact flat_one hone6 u (List.mem_of_mem_take hu)) (by unfold maxLen; omega) (by omega) (by show base ≤ (w6.alloc _).heap.size; have := hk6.size; have := hko.size; simp; omega)
      rw [Nat.zero_add, List.nil_append, ← flat_take] at hown9
      obtain ⟨AV, cV, rfl, _⟩ := own_slice hown9
      have hkb1 : Keep [] w6 wb1 := hka1.grown hg9 (fun k hk => by simp [Value.ownBlock] at hk; omega)
      have hsrcb := (hsrc.keep hkb1 (by intro a ha; injection ha with ha; subst ha; exact ⟨hgl6, by simp⟩)).tail (k := k + 1) (cap := cL') (by omega) hcl
      obtain ⟨AT, hAT⟩ : ∃ AT, (if cL' = k + 1 then some (⟨g, 0, none⟩ : Addr) else (some (⟨g, 0, none⟩ : Addr)).map (·.add ((k + 1) * 2))) = AT := ⟨_, rfl⟩
      rw [hAT] at hsrcb
      obtain ⟨vb, wc1, hap4, hown10, hg10, hat10⟩ := run_append_src (P := Try.prog) wb1 22 22 33 _ 2 32 base Try.underlying22 payinfo rfl (by omega) (.slice AV k cV) k (flat (l'.take k)) hown9 AT (l'.length - (k + 1)) (cL' - (k + 1)) _ hsrcb (by
          intro u hu
          exact flat_one hone6 u (List.mem_of_mem_drop hu)) (by unfold maxLen; omega) (by omega) (by have := hk6.size; have := hko.size; have := hkb1.size; omega)
      obtain ⟨AB, cB, rfl, _⟩ := own_slice hown10
      have hvaz : ∀ i, (Value.slice AV k cV).ownBlock = some i → w6.heap.size ≤ i := by
        intro i hi
        rcases hat9 with e | e
        · rw [hi] at e; simp [Value.ownBlock] at e; omega
        · rw [hi] at e; injection e with e; rw [e]; show w6.heap.size ≤ (w6.alloc _).heap.size; simp
      have hvbz : ∀ i, (Value.slice AB (k + (l'.length - (k + 1))) cB).ownBlock = some i → w6.heap.size ≤ i := by
        intro i hi
        rcases hat10 with e | e
        · rw [hi] at e; exact hvaz i e.symm
        · rw [hi] at e; injection e with e; rw [e]; exact hkb1.size
      have hkc1 : Keep (Value.slice AV k cV).ownBlock.toList w6 wc1 := (hkb1.mono (by simp)).grown hg10 (fun k hk => .inl (by simp [hk]))
      have hlb7 := hT7.lt
      have Nc1 : Hid (br ∉ (Value.slice AV k cV).ownBlock.toList) := Lib.hid (by
        simp
        intro h
        have := hvaz _ h
        omega)
      have hT10 := hT7.keep hkc1 Nc1.out
      have f1 : wc1.cell? ⟨br, 2, none⟩ = some (.slice (some ⟨g, 0, none⟩) l'.length cL') := hT10.cell 2
      have f2 : wc1.frozen? ⟨br, 2, none⟩ = false := hT10.free 2
      have g2 : w6.cell? ⟨br, 2, none⟩ = some (.slice (some ⟨g, 0, none⟩) l'.length cL') := hT7.cell 2
      have HSk1 : Hid (∀ F W, Keep F w6 W → br ∉ F → W.cell? ⟨br, 2, none⟩ = some (.slice (some ⟨g, 0, none⟩) l'.length cL')) := Lib.hid (fun F W k h1 => (k.cell (p := ⟨br, 2, none⟩) hlb7 h1).trans g2)
      have hsl1 := fun W => slice_head (P := Try.prog) 22 33 Try.underlying22 (some ⟨g, 0, none⟩) l'.length cL' k (by omega) W 2 (by kernel_rfl)
      have hsl2 : ∀ W, (Instr.slice 22 (.slice (some ⟨g, 0, none⟩) l'.length cL') (some (.int .i64 ((k : Int) + 1))) none none).run Try.prog W = .ok (.slice AT (l'.length - (k + 1)) (cL' - (k + 1))) W := fun W => by
        have h := slice_tail (P := Try.prog) 22 33 Try.underlying22 (some ⟨g, 0, none⟩) l'.length cL' (k + 1) (by omega) W 2 (by kernel_rfl)
        rw [hAT, Int.natCast_add] at h
        exact h
      have hwk : IntKind.i64.wrap ((k : Int) + 1) = (k : Int) + 1 := by rw [IntKind.wrap_i64]; omega
      have hb22 := run_empty_slice (P := Try.prog) 22 33 _ _ _ Try.underlying22 payinfo
      have hS1 := HSk1.out [] w6.drew ((Keep.refl [] w6).drew) (by simp)
      have hwr1 : -9223372036854775808 ≤ wt' + 1 := by omega
      have hwr2 : wt' + 1 ≤ 9223372036854775807 := by omega
      have Ka1 := Lib.hid hka1
      have Kb1 := Lib.hid hkb1
      have Kc1 := Lib.hid hkc1
      have H10 := Lib.hid hT10
      have Hown10 := Lib.hid hown10
      have Hown7 := Lib.hid hown7
      have Hko := Lib.hid hko
      have Hk6 := Lib.hid hk6
      have Hr6 := Lib.hid hr6
      have Hf6 := Lib.hid hf6
      have Hone6 := Lib.hid hone6
      have Hmd := Lib.hid hmd
      have Hml := Lib.hid hml
      have Hhv3 := Lib.hid hv3
      have Hvbz := Lib.hid hvbz
      have Hvaz := Lib.hid hvaz
      have Hhato := Lib.hid hato
      have Hro6 := Lib.hid hro6
      have HT6 := Lib.hid hT6
      rw [hk]
      have Hk := Lib.hid hk
      clear hb2 hT7 hown8 hown7 hgo hato hnb hng hka1 hkb1 hkc1 hsrc hsrca hsrcb hg9 hat9 hown9 hown10 hg10 hat10 hAT hvaz hvbz hT10 hko hk6 hr6 hf6 hone6 hmd hml hv3 hkn hro6 hown6 hT6 hdis hgl g2 hk hfi
      go_wp2_with (first
        | (at_builtin; refine wpList_append2 (v1 := u6) (v2 := .slice (some ⟨wr.heap.size, 0, none⟩) 1 1) rfl (.tmp 69) (.tmp 77) rfl rfl rfl hapo ?_))
      refine wp_region_E (fun W => W.cell? ⟨br, 2, none⟩ = some (.slice (some ⟨g, 0, none⟩) l'.length cL')) [19] (by kernel_rfl) ?_
      refine wpAnyE_take (i := 0) (oi := { dst := some 79, op := Go.Op.move (Go.Operand.tmp 0), type := 27, pos := "ref.go:178", after := #[], guard := none }) (v := ?vq2_0) [0, 17, 18, 19] rfl (by kernel_rfl) (by kernel_rfl) (by kernel_rfl) (by kernel_rfl) (fun _ _ _ h => h) hS1 (Or.inl ⟨by rfl, ?hq2_0⟩) ?_
      case hq2_0 => intro w hSw; (try dsimp only at hSw); go_simp; (try with_reducible rfl)
      try simp only [Act.put, List.setIfInBounds_toArray, List.set_cons_zero, List.set_cons_succ]
      refine wpAnyE_take (i := 2) (oi := { dst := some 81, op := Go.Op.move (Go.Operand.tmp 0), type := 27, pos := "ref.go:178", after := #[], guard := none }) (v := ?vq2_2) [2, 3, 4, 5, 7, 8, 16, 17, 18, 19] rfl (by kernel_rfl) (by kernel_rfl) (by kernel_rfl) (by kernel_rfl) (fun _ _ _ h => h) hS1 (Or.inl ⟨by rfl, ?hq2_2⟩) ?_
      case hq2_2 => intro w hSw; (try dsimp only at hSw); go_simp; (try with_reducible rfl)
      try simp only [Act.put, List.setIfInBounds_toArray, List.set_cons_zero, List.set_cons_succ]
      refine wpAnyE_take (i := 3) (oi := { dst := some 82, op := Go.Op.nilCheck (Go.Operand.tmp 81), type := 0, pos := "ref.go:178", after := #[{ on := 2, ground := Go.Ground.data }], guard := none }) (v := ?vq2_3) [3, 4, 5, 7, 8, 16, 17, 18, 19] rfl (by kernel_rfl) (by kernel_rfl) (by kernel_rfl) (by kernel_rfl) (fun _ _ _ h => h) hS1 (Or.inl ⟨by rfl, ?hq2_3⟩) ?_
      case hq2_3 => intro w hSw; (try dsimp only at hSw); go_simp; (try with_reducible rfl)
      try simp only [Act.put, List.setIfInBounds_toArray, List.set_cons_zero, List.set_cons_succ]
      refine wpAnyE_take (i := 4) (oi := { dst := some 83, op := Go.Op.fieldAddr 86 (Go.Operand.tmp 82) 2, type := 0, pos := "ref.go:178", after := #[{ on := 3, ground := Go.Ground.data }], guard := none }) (v := ?vq2_4) [4, 5, 7, 8, 16, 17, 18, 19] rfl (by kernel_rfl) (by kernel_rfl) (by kernel_rfl) (by kernel_rfl) (fun _ _ _ h => h) hS1 (Or.inl ⟨by rfl, ?hq2_4⟩) ?_
      case hq2_4 => intro w hSw; (try dsimp only at hSw); go_simp; (try with_reducible rfl)
      try simp only [Act.put, List.setIfInBounds_toArray, List.set_cons_zero, List.set_cons_succ]
      refine wpAnyE_take (i := 5) (oi := { dst := some 84, op := Go.Op.load 22 (Go.Operand.tmp 83), type := 22, pos := "ref.go:178", after := #[{ on := 4, ground := Go.Ground.data }], guard := none }) (v := ?vq2_5) [5, 7, 8, 16, 17, 18, 19] rfl (by kernel_rfl) (by kernel_rfl) (by kernel_rfl) (by kernel_rfl) (fun _ _ _ h => h) hS1 (Or.inl ⟨by rfl, ?hq2_5⟩) ?_
      case hq2_5 => intro w hSw; (try dsimp only at hSw); go_simp; (try with_reducible rfl)
      try simp only [Act.put, List.setIfInBounds_toArray, List.set_cons_zero, List.set_cons_succ]
      refine wpAnyE_take (i := 6) (oi := { dst := some 85, op := Go.Op.move (Go.Operand.tmp 7), type := 3, pos := "ref.go:178", after := #[], guard := none }) (v := ?vq2_6) [6, 7, 8, 16, 17, 18, 19] rfl (by kernel_rfl) (by kernel_rfl) (by kernel_rfl) (by kernel_rfl) (fun _ _ _ h => h) hS1 (Or.inl ⟨by rfl, ?hq2_6⟩) ?_
      case hq2_6 => intro w hSw; (try dsimp only at hSw); go_simp; (try with_reducible rfl)
      try simp only [Act.put, List.setIfInBounds_toArray, List.set_cons_zero, List.set_cons_succ]
      refine wpAnyE_take (i := 7) (oi := { dst := some 86, op := Go.Op.slice 22 (Go.Operand.tmp 84) none (some (Go.Operand.tmp 85)) none, type := 22, pos := "ref.go:178", after := #[{ on := 5, ground := Go.Ground.data }, { on := 6, ground := Go.Ground.data }], guard := none }) (v := ?vq2_7) [7, 8, 16, 17, 18, 19] rfl (by kernel_rfl) (by kernel_rfl) (by kernel_rfl) (by kernel_rfl) (fun _ _ _ h => h) hS1 (Or.inl ⟨by rfl, ?hq2_7⟩) ?_
      case hq2_7 => intro w hSw; (try dsimp only at hSw); go_simp; (try with_reducible rfl)
      try simp only [Act.put, List.setIfInBounds_toArray, List.set_cons_zero, List.set_cons_succ]
      refine wpAnyE_take (i := 9) (oi := { dst := some 88, op := Go.Op.move (Go.Operand.tmp 0), type := 27, pos := "ref.go:178", after := #[], guard := none }) (v := ?vq2_9) [9, 10, 11, 12, 15, 16, 17, 18, 19] rfl (by kernel_rfl) (by kernel_rfl) (by kernel_rfl) (by kernel_rfl) (fun _ _ _ h => h) hS1 (Or.inl ⟨by rfl, ?hq2_9⟩) ?_
      case hq2_9 => intro w hSw; (try dsimp only at hSw); go_simp; (try with_reducible rfl)
      try simp only [Act.put, List.setIfInBounds_toArray, List.set_cons_zero, List.set_cons_succ]
      refine wpAnyE_take (i := 10) (oi := { dst := some 89, op := Go.Op.nilCheck (Go.Operand.tmp 88), type := 0, pos := "ref.go:178", after := #[{ on := 9, ground := Go.Ground.data }], guard := none }) (v := ?vq2_10) [10, 11, 12, 15, 16, 17, 18, 19] rfl (by kernel_rfl) (by kernel_rfl) (by kernel_rfl) (by kernel_rfl) (fun _ _ _ h => h) hS1 (Or.inl ⟨by rfl, ?hq2_10⟩) ?_
      case hq2_10 => intro w hSw; (try dsimp only at hSw); go_simp; (try with_reducible rfl)
      try simp only [Act.put, List.setIfInBounds_toArray, List.set_cons_zero, List.set_cons_succ]
      refine wpAnyE_take (i := 11) (oi := { dst := some 90, op := Go.Op.fieldAddr 86 (Go.Operand.tmp 89) 2, type := 0, pos := "ref.go:178", after := #[{ on := 10, ground := Go.Ground.data }], guard := none }) (v := ?vq2_11) [11, 12, 15, 16, 17, 18, 19] rfl (by kernel_rfl) (by kernel_rfl) (by kernel_rfl) (by kernel_rfl) (fun _ _ _ h => h) hS1 (Or.inl ⟨by rfl, ?hq2_11⟩) ?_
      case hq2_11 => intro w hSw; (try dsimp only at hSw); go_simp; (try with_reducible rfl)
      try simp only [Act.put, List.setIfInBounds_toArray, List.set_cons_zero, List.set_cons_succ]
      refine wpAnyE_take (i := 12) (oi := { dst := some 91, op := Go.Op.load 22 (Go.Operand.tmp 90), type := 22, pos := "ref.go:178", after := #[{ on := 11, ground := Go.Ground.data }], guard := none }) (v := ?vq2_12) [12, 15, 16, 17, 18, 19] rfl (by kernel_rfl) (by kernel_rfl) (by kernel_rfl) (by kernel_rfl) (fun _ _ _ h => h) hS1 (Or.inl ⟨by rfl, ?hq2_12⟩) ?_
      case hq2_12 => intro w hSw; (try dsimp only at hSw); go_simp; (try with_reducible rfl)
      try simp only [Act.put, List.setIfInBounds_toArray, List.set_cons_zero, List.set_cons_succ]
      refine wpAnyE_take (i := 13) (oi := { dst := some 92, op := Go.Op.move (Go.Operand.tmp 7), type := 3, pos := "ref.go:178", after := #[], guard := none }) (v := ?vq2_13) [13, 14, 15, 16, 17, 18, 19] rfl (by kernel_rfl) (by kernel_rfl) (by kernel_rfl) (by kernel_rfl) (fun _ _ _ h => h) hS1 (Or.inl ⟨by rfl, ?hq2_13⟩) ?_
      case hq2_13 => intro w hSw; (try dsimp only at hSw); go_simp; (try with_reducible rfl)
      try simp only [Act.put, List.setIfInBounds_toArray, List.set_cons_zero, List.set_cons_succ]
      refine wpAnyE_take (i := 14) (oi := { dst := some 93, op := Go.Op.binOp Go.BinOp.add 3 (Go.Operand.tmp 92) (Go.Operand.const (Go.Value.int Go.IntKind.i64 1)) 3, type := 3, pos := "ref.go:178", after := #[{ on := 13, ground := Go.Ground.data }], guard := none }) (v := ?vq2_14) [14, 15, 16, 17, 18, 19] rfl (by kernel_rfl) (by kernel_rfl) (by kernel_rfl) (by kernel_rfl) (fun _ _ _ h => h) hS1 (Or.inl ⟨by rfl, ?hq2_14⟩) ?_
      case hq2_14 => intro w hSw; (try dsimp only at hSw); go_simp; (try with_reducible rfl)
      try simp only [Act.put, List.setIfInBounds_toArray, List.set_cons_zero, List.set_cons_succ]
      refine wpAnyE_take (i := 15) (oi := { dst := some 94, op := Go.Op.slice 22 (Go.Operand.tmp 91) (some (Go.Operand.tmp 93)) none none, type := 22, pos := "ref.go:178", after := #[{ on := 12, ground := Go.Ground.data }, { on := 14, ground := Go.Ground.data }], guard := none }) (v := ?vq2_15) [15, 16, 17, 18, 19] rfl (by kernel_rfl) (by kernel_rfl) (by kernel_rfl) (by kernel_rfl) (fun _ _ _ h => h) hS1 (Or.inl ⟨by rfl, ?hq2_15⟩) ?_
      case hq2_15 => intro w hSw; (try dsimp only at hSw); go_simp; (try with_reducible rfl)
      try simp only [Act.put, List.setIfInBounds_toArray, List.set_cons_zero, List.set_cons_succ]
      refine wpAnyE_step (i := 1) (oi := { dst := some 80, op := Go.Op.buildSlice 22 0 #[], type := 22, pos := "ref.go:178", after := #[], guard := none }) rfl (by kernel_rfl) (by rfl) (fun K hK => ?_)
      go_simp
      refine hK _ _ ?_ (fun hSq2_1 => ?_)
      · exact HSk1.out _ _ Ka1.out (by simp)
      clear hK
      try simp only [Act.put, List.setIfInBounds_toArray, List.set_cons_zero, List.set_cons_succ]
      refine wpAnyE_step (i := 8) (oi := { dst := some 87, op := Go.Op.call { callee := Go.Callee.builtin Go.Builtin.append, args := #[Go.Operand.tmp 80, Go.Operand.tmp 86], argTypes := #[22, 22] }, type := 22, pos := "ref.go:178", after := #[{ on := 1, ground := Go.Ground.data }, { on := 7, ground := Go.Ground.data }], guard := none }) rfl (by kernel_rfl) (by rfl) (fun K hK => ?_)
      refine wp_append2 (v1 := .slice (some ⟨w6.heap.size, 0, none⟩) 0 0) (v2 := .slice (some ⟨g, 0, none⟩) k cL') (.tmp 80) (.tmp 86) rfl rfl rfl hap3 ?_
      refine hK _ _ ?_ (fun hSq2_8 => ?_)
      · exact HSk1.out _ _ Kb1.out (by simp)
      clear hK
      try simp only [Act.put, List.setIfInBounds_toArray, List.set_cons_zero, List.set_cons_succ]
      refine wpAnyE_step (i := 16) (oi := { dst := some 95, op := Go.Op.call { callee := Go.Callee.builtin Go.Builtin.append, args := #[Go.Operand.tmp 87, Go.Operand.tmp 94], argTypes := #[22, 22] }, type := 22, pos := "ref.go:178", after := #[{ on := 8, ground := Go.Ground.data }, { on := 15, ground := Go.Ground.data }, { on := 8, ground := Go.Ground.chain }], guard := none }) rfl (by kernel_rfl) (by rfl) (fun K hK => ?_)
      refine wp_append2 (v1 := .slice AV k cV) (v2 := .slice AT (l'.length - (k + 1)) (cL' - (k + 1))) (.tmp 87) (.tmp 94) rfl rfl rfl hap4 ?_
      refine hK _ _ ?_ (fun hSq2_16 => ?_)
      · exact HSk1.out _ _ Kc1.out Nc1.out
      clear hK
      try simp only [Act.put, List.setIfInBounds_toArray, List.set_cons_zero, List.set_cons_succ]
      refine wpAnyE_step (i := 17) (oi := { dst := some 96, op := Go.Op.nilCheck (Go.Operand.tmp 79), type := 0, pos := "ref.go:178", after := #[{ on := 0, ground := Go.Ground.data }, { on := 0, ground := Go.Ground.phase }, { on := 1, ground := Go.Ground.phase }, { on := 2, ground := Go.Ground.phase }, { on := 3, ground := Go.Ground.phase }, { on := 4, ground := Go.Ground.phase }, { on := 5, ground := Go.Ground.phase }, { on := 6, ground := Go.Ground.phase }, { on := 7, ground := Go.Ground.phase }, { on := 8, ground := Go.Ground.phase }, { on := 9, ground := Go.Ground.phase }, { on := 10, ground := Go.Ground.phase }, { on := 11, ground := Go.Ground.phase }, { on := 12, ground := Go.Ground.phase }, { on := 13, ground := Go.Ground.phase }, { on := 14, ground := Go.Ground.phase }, { on := 15, ground := Go.Ground.phase }, { on := 16, ground := Go.Ground.phase }], guard := none }) rfl (by kernel_rfl) (by rfl) (fun K hK => ?_)
      go_simp
      refine hK _ _ ?_ (fun hSq2_17 => ?_)
      · exact HSk1.out _ _ Kc1.out Nc1.out
      clear hK
      try simp only [Act.put, List.setIfInBounds_toArray, List.set_cons_zero, List.set_cons_succ]
      refine wpAnyE_step (i := 18) (oi := { dst := some 97, op := Go.Op.fieldAddr 86 (Go.Operand.tmp 96) 2, type := 0, pos := "ref.go:178", after := #[{ on := 17, ground := Go.Ground.data }, { on := 0, ground := Go.Ground.phase }, { on := 1, ground := Go.Ground.phase }, { on := 2, ground := Go.Ground.phase }, { on := 3, ground := Go.Ground.phase }, { on := 4, ground := Go.Ground.phase }, { on := 5, ground := Go.Ground.phase }, { on := 6, ground := Go.Ground.phase }, { on := 7, ground := Go.Ground.phase }, { on := 8, ground := Go.Ground.phase }, { on := 9, ground := Go.Ground.phase }, { on := 10, ground := Go.Ground.phase }, { on := 11, ground := Go.Ground.phase }, { on := 12, ground := Go.Ground.phase }, { on := 13, ground := Go.Ground.phase }, { on := 14, ground := Go.Ground.phase }, { on := 15, ground := Go.Ground.phase }, { on := 16, ground := Go.Ground.phase }], guard := none }) rfl (by kernel_rfl) (by rfl) (fun K hK => ?_)
      go_simp
      refine hK _ _ ?_ (fun hSq2_18 => ?_)
      · exact HSk1.out _ _ Kc1.out Nc1.out
      clear hK
      try simp only [Act.put, List.setIfInBounds_toArray, List.set_cons_zero, List.set_cons_succ]
      refine wpAnyE_switch _ _ _ _ (by kernel_rfl) ?_
      refine wpAnyE_step (i := 19) (oi := { dst := none, op := Go.Op.store 22 (Go.Operand.tmp 97) (Go.Operand.tmp 95), type := 0, pos := "ref.go:178", after := #[{ on := 18, ground := Go.Ground.data }, { on := 16, ground := Go.Ground.data }, { on := 16, ground := Go.Ground.chain }, { on := 0, ground := Go.Ground.phase }, { on := 1, ground := Go.Ground.phase }, { on := 2, ground := Go.Ground.phase }, { on := 3, ground := Go.Ground.phase }, { on := 4, ground := Go.Ground.phase }, { on := 5, ground := Go.Ground.phase }, { on := 6, ground := Go.Ground.phase }, { on := 7, ground := Go.Ground.phase }, { on := 8, ground := Go.Ground.phase }, { on := 9, ground := Go.Ground.phase }, { on := 10, ground := Go.Ground.phase }, { on := 11, ground := Go.Ground.phase }, { on := 12, ground := Go.Ground.phase }, { on := 13, ground := Go.Ground.phase }, { on := 14, ground := Go.Ground.phase }, { on := 15, ground := Go.Ground.phase }, { on := 16, ground := Go.Ground.phase }], guard := none }) rfl (by kernel_rfl) (by rfl) (fun K hK => ?_)
      go_simp
      refine hK _ _ trivial (fun _ => ?_)
      clear hK
      try simp only [Act.put, List.setIfInBounds_toArray, List.set_cons_zero, List.set_cons_succ]
      refine wpAnyE_done (by kernel_rfl) ?_ _
      generalize hw8 : (World.setCell _ _ _) = w8
      have hT8 : Blk w8 br 86 #[.int .i64 sz, .int .i64 wt', .slice AB (k + (l'.length - (k + 1))) cB] := by rw [← hw8]; exact H10.out.set_ 2 _
      have hks8 : Keep [br] wc1 w8 := by rw [← hw8]; exact (Keep.refl [br] wc1).setCell (.inl (by simp)) _
      clear hw8 f1 f2 hS1
      have d1 : w8.cell? ⟨br, 1, none⟩ = some (.int .i64 wt') := hT8.cell 1
      have d2 : w8.frozen? ⟨br, 1, none⟩ = false := hT8.free 1
      have hll : (mdrop l' wt').length = k + (l'.length - (k + 1)) := by
        rw [Hmd.out, List.length_append, List.length_take, List.length_drop, Nat.min_eq_left (by omega)]
      have hnAB : (Value.slice AB (k + (l'.length - (k + 1))) cB).ownBlock ≠ some br := own_ne_blk Hown10.out H10.out (by decide)
      have hks9 : Keep [br] wc1 (w8.setCell ⟨br, 1, none⟩ (.int .i64 (wt' + 1))) := hks8.setCell (.inl (by simp)) _
      have hT9 : Blk (w8.setCell ⟨br, 1, none⟩ (.int .i64 (wt' + 1))) br 86 #[.int .i64 sz, .int .i64 (wt' + 1), .slice AB (k + (l'.length - (k + 1))) cB] := hT8.set_ 1 _
      have hown11 : (w8.setCell ⟨br, 1, none⟩ (.int .i64 (wt' + 1))).ownsRow base 33 2 (.slice AB (k + (l'.length - (k + 1))) cB) (mdrop l' wt').length (flat (mdrop l' wt')) := by
        have := ownsRow_keep Hown10.out hks9 (by intro g' hg'; simp; rintro rfl; exact hnAB hg')
        rw [← flat_drop, ← flat_append, ← Hmd.out, ← hll] at this
        rw [← hll]
        exact this
      have HR9 := Lib.hid (show RTk base br sz (wt' + 1) (mdrop l' wt') (w8.setCell ⟨br, 1, none⟩ (.int .i64 (wt' + 1))) from ⟨_, hT9, hown11⟩)
      have hlc : (mdrop l' wt').length + 1 = l'.length := by omega
      have Hhll := Lib.hid hlc
      have H9 := Lib.hid hT9
      have H11 := Lib.hid hown11
      have Hks9 := Lib.hid hks9
      clear hT8 hks8 hll hnAB hks9 hT9 hown11 hlc
      go_wp2_with (go_at_call 34; refine (find_any base br sz (wt' + 1) (mdrop l' wt') _ _ HR9.out (by have := Hhll.out; omega)).mono ?_; rintro e w' ⟨rfl, rfl⟩)
      obtain ⟨gm, rfl⟩ : ∃ gm, gk = gm + 1 := ⟨gk - 1, by have := Hhll.out; omega⟩
      go_roundg gm
      case measure => omega
      case rel =>
        have hkw : Keep (br :: (Value.slice AL l.length cL).ownBlock.toList) w (w8.setCell ⟨br, 1, none⟩ (.int .i64 (wt' + 1))) :=
          ((Hk6.out.step Hko.out (by
            intro i hi
            right
            exact (Hro6.out.lt i (by simpa using hi)).1)).step Kc1.out (by
            intro i hi
            right
            have h1 := Hk6.out.size
            have h2 := Hko.out.size
            have h3 := Hvaz.out i (by simpa using hi)
            omega)).step Hks9.out (by intro i hi; simp at hi; simp [hi])
        refine ⟨wt' + 1, mdrop l' wt', out ++ [(wt', Value.slice A3 n3 c3)], rfl, _, H9.out, H11.out, ?_, hkw, ?_, ?_, by omega, ?_, ?_, ?_, ?_, ?_⟩
        · have h1 := ownsRow_keep Hown7.out Kc1.out (by
            intro g' hg' hi
            have h2 := (Hown7.out.lt g' hg').2
            have h3 := Hvaz.out g' (by simpa using hi)
            omega)
          have h2 := ownsRow_keep h1 Hks9.out (by
            intro g' hg'
            have := own_ne_blk h1 H10.out (by decide)
            simp
            rintro rfl
            exact this hg')
          rw [flat_snoc]
          simpa using h2
        · have h1 := Hr6.out.keep Hko.out (by simpa using noByte_own (F := []) Hro6.out hB (by decide) noByte_nil)
          have h2 := h1.keep Kc1.out (noByte_new (fun k hk => Hvaz.out k (by simpa using hk)))
          exact h2.keep Hks9.out (noByte_cons H10.out (by decide) hbr noByte_nil)
        · have := Hf6.out
          rw [tdrain_step Hml.out, Hhv3.out] at this
          exact this
        · have := Hhll.out; omega
        · intro p hp
          exact Hone6.out p (List.mem_of_mem_eraseP hp)
        · simp; omega
        · have := Hhll.out; omega
        · intro g' hg' hr
          have h2 := (Hown7.out.lt g' hr).2
          have h3 := Hvbz.out g' hg'
          omega
end Go.Proofs.Ytlkpecalkakpeaa
