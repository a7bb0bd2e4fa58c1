/- The tree's least node taken out: slices.Delete of one. -/
import Derived.Test.YtknjjodkpknglaaH1
set_option linter.unusedVariables false
set_option linter.unusedSimpArgs false
namespace Go.Proofs.Ytknjjodkpknglaa
open Go.RowKit Go.Sal Go.Huf
/-- an append that fits, the source wherever it lies -/
theorem fits_src {P : Program} (w : World) (base : Nat) (t ty e : TypeId) (z : Value) (size bytes : Nat) (ht : P.underlying t = some (.slice e)) (hinfo : (P.info? e).map (fun i => (i.zero, i.size, i.bytes)) = some (some z, size, bytes))
    (g n cap : Nat) (xs : List Value) (hown : w.ownsRow base e size (.slice (some ⟨g, 0, none⟩) n cap) n xs) (A : Addr) (m c : Nat) (news : List Value) (hs : Src w size (some A) m news) (h1 : ∀ u ∈ news, u.oneCell' = true) (hroom : n + m ≤ cap) (hsz : 0 < size) :
    ∃ w', (Builtin.append_ #[t, t] ty #[.slice (some ⟨g, 0, none⟩) n cap, .slice (some A) m c]).run P w = .ok (.slice (some ⟨g, 0, none⟩) (n + m) cap) w' ∧
      w'.ownsRow base e size (.slice (some ⟨g, 0, none⟩) (n + m) cap) (n + m) (xs ++ news) ∧ w.grownBy w' (some g) := by
  obtain ⟨i, hi, hsize⟩ : ∃ i, P.info? e = some i ∧ i.size = size := by
    cases hx : P.info? e with
    | none => rw [hx] at hinfo; cases hinfo
    | some i =>
      rw [hx] at hinfo
      simp only [Option.map_some, Option.some.injEq, Prod.mk.injEq] at hinfo
      exact ⟨i, rfl, hinfo.2.1⟩
  refine run_append_fits (P := P) w base t ty e i size ht hi hsize g n cap xs hown A m c news hs.1 ?_ h1 hroom
  intro j u hu
  rcases Nat.eq_zero_or_pos m with h0 | h0
  · subst h0
    have : news = [] := List.eq_nil_of_length_eq_zero (by have := hs.1; simpa using this)
    subst this
    simp at hu
  · obtain ⟨a', ha, hc⟩ := hs.2 h0
    injection ha with ha
    subst ha
    exact hc j u hu

set_option maxRecDepth 20000 in
set_option maxHeartbeats 2000000 in
theorem delete_any (base g n cap k : Nat) (xs : List Value) (w : World) (hown : w.ownsRow base 3 1 (.slice (some ⟨g, 0, none⟩) n cap) n xs) (h1 : ∀ u ∈ xs, u.oneCell' = true) (hk : k < n) (hn : n ≤ 100000) (hcap : n ≤ cap) (hcm : cap ≤ 9223372036854775807) :
    Calls Try.prog 47 #[.slice (some ⟨g, 0, none⟩) n cap, .int .i64 (k : Int), .int .i64 ((k : Int) + 1)] w fun e w' => e = .returned (.slice (some ⟨g, 0, none⟩) (n - 1) cap) ∧
      w'.ownsRow base 3 1 (.slice (some ⟨g, 0, none⟩) (n - 1) cap) (n - 1) (xs.eraseIdx k) ∧ Keep [g] w w' := by
  obtain ⟨tl, htl⟩ : ∃ tl : Addr, tl = (if cap = k + 1 then (⟨g, 0, none⟩ : Addr) else ⟨g, k + 1, none⟩) := ⟨_, rfl⟩
  obtain ⟨mm, mc, hmm⟩ : ∃ mm mc, mm = n - (k + 1) ∧ mc = cap - (k + 1) := ⟨_, _, rfl, rfl⟩
  obtain ⟨nn, hnn⟩ : ∃ nn, nn = n - 1 := ⟨_, rfl⟩
  rw [← hnn]
  have hs1 := fun W => slice_head (P := Try.prog) 22 3 Try.underlying22 (some ⟨g, 0, none⟩) n cap k (by omega) W 1 (by kernel_rfl)
  have hs2 : ∀ W, (Instr.slice 22 (.slice (some ⟨g, 0, none⟩) n cap) (some (.int .i64 ((k : Int) + 1))) none none).run Try.prog W = .ok (.slice (some tl) mm mc) W := fun W => by
    have h := slice_tail (P := Try.prog) 22 3 Try.underlying22 (some ⟨g, 0, none⟩) n cap (k + 1) (by omega) W 1 (by kernel_rfl)
    rw [Int.natCast_add] at h
    rw [htl, hmm.1, hmm.2]
    have e : (if cap = k + 1 then (some ⟨g, 0, none⟩ : Option Addr) else Option.map (fun x : Addr => x.add ((k + 1) * 1)) (some ⟨g, 0, none⟩)) = some (if cap = k + 1 then (⟨g, 0, none⟩ : Addr) else ⟨g, k + 1, none⟩) := by
      split
      · rfl
      · simp [add_mk]
    rw [← e]
    exact h
  have hlen : xs.length = n := by have := hown.1; omega
  -- the append, in place
  have hshort : w.drew.ownsRow base 3 1 (.slice (some ⟨g, 0, none⟩) k cap) k (xs.take k) := by
    have h := own_short (k := k) hown (by omega)
    rw [Nat.mul_one] at h
    exact h
  have hsrc : Src w.drew 1 (some tl) mm (xs.drop (k + 1)) := by
    have h := (Src.of_own hown).tail (k := k + 1) (cap := cap) (by omega) hcap
    rw [htl, hmm.1]
    have e : (if cap = k + 1 then (some ⟨g, 0, none⟩ : Option Addr) else Option.map (fun x : Addr => x.add ((k + 1) * 1)) (some ⟨g, 0, none⟩)) = some (if cap = k + 1 then (⟨g, 0, none⟩ : Addr) else ⟨g, k + 1, none⟩) := by
      split
      · rfl
      · simp [add_mk]
    rw [e, Nat.mul_one] at h
    exact h
  obtain ⟨w1, hap, hown1, hg1⟩ := fits_src (P := Try.prog) w.drew base 22 22 3 (.int .i64 0) 1 8 Try.underlying22 intinfo g k cap _ hshort tl mm mc _ hsrc (fun u hu => h1 u (List.mem_of_mem_drop hu)) (by omega) (by omega)
  have hkm : k + mm = nn := by omega
  rw [hkm] at hap hown1
  have hk1 : Keep [g] w w1 := (((Keep.refl [g] w).drew)).grown hg1 (fun j hj => by injection hj with hj; left; simp [hj])
  obtain ⟨hr1, hr2⟩ := own_room hown1 (j := nn) (by omega)
  have hsl3 : ∀ W, (Instr.slice 22 (.slice (some ⟨g, 0, none⟩) nn cap) (some (.int .i64 (nn : Int))) (some (.int .i64 (n : Int))) none).run Try.prog W = .ok (.slice (some ⟨g, nn, none⟩) 1 (cap - nn)) W := fun W => by
    have hi : ∃ i, Try.prog.info? 3 = some i ∧ i.size = 1 := by
      cases hx : Try.prog.info? 3 with
      | none => have := intinfo; rw [hx] at this; cases this
      | some i =>
        have := intinfo
        rw [hx] at this
        simp only [Option.map_some, Option.some.injEq, Prod.mk.injEq] at this
        exact ⟨i, rfl, this.2.1⟩
    obtain ⟨i, hi, hi1⟩ := hi
    have hc1 : ¬ cap = nn := by omega
    have hc2 : nn ≤ n := by omega
    have hc3 : n ≤ cap := hcap
    have hc4 : n - nn = 1 := by omega
    simp [Instr.slice, run_underlying Try.underlying22, Instr.sliceBounds, Instr.sliceBound, asIntOf, sizeOf, typeInfo, hi, hi1, hc1, hc2, hc3, hc4, Addr.add]
    omega
  have hcl : ∀ ty, (Builtin.clear_ #[22] ty #[.slice (some ⟨g, nn, none⟩) 1 (cap - nn)]).run Try.prog w1 = .ok (.tuple #[]) (w1.setCell ⟨g, nn, none⟩ (.int .i64 0)) := fun ty => by
    have h := Lib.run_clear_slice (P := Try.prog) w1 22 3 ty (.int .i64 0) Try.underlying22 (fun w => by kernel_rfl) rfl rfl g nn 1 (cap - nn) (by omega) (fun j hj => by
      obtain rfl : j = 0 := by omega
      exact hr1) (fun j hj => by
      obtain rfl : j = 0 := by omega
      exact hr2)
    simpa [World.setCells] using h
  have hfin : (w1.setCell ⟨g, nn, none⟩ (.int .i64 0)).ownsRow base 3 1 (.slice (some ⟨g, 0, none⟩) nn cap) nn (xs.eraseIdx k) := by
    rw [eraseIdx_take_drop]
    exact own_beyond hown1 nn (by omega) _
  have hkf : Keep [g] w (w1.setCell ⟨g, nn, none⟩ (.int .i64 0)) := hk1.setCell (.inl (by simp)) _
  have Hfin := Lib.hid (And.intro hfin hkf)
  have hne : ((k : Int) == (k : Int) + 1) = false := by simp; omega
  have hkn : k ≤ k + 1 ∧ k + 1 ≤ n := by omega
  have hk2 : k + 1 ≤ n := hkn.2
  clear hkm hkn hown h1 hshort hsrc hown1 hg1 hk1 hr1 hr2 hfin hkf htl hmm hlen hnn
  go_enter Try.func47, Try.ntmps47
  go_wp2_with fail
  refine wp_region_G (fun _ => True) [6] #[false, false, false, false, false, false, false, false] 8 (by kernel_rfl) (by kernel_rfl) (by kernel_rfl) ?_
  refine wpAnyG_take0 (i := 0) (oi := { dst := some 20, op := Go.Op.move (Go.Operand.tmp 0), type := 22, pos := "slices.go:232", after := #[], guard := none }) (v := ?vg1_0) rfl (by kernel_rfl) (by kernel_rfl) (by kernel_rfl) (by kernel_rfl) (fun _ _ _ h => h) (fun _ => trivial) (Or.inl ⟨by rfl, ?hg1_0⟩) ?_
  case hg1_0 => intro w _; go_simp; (try with_reducible rfl)
  try simp only [Act.put, List.setIfInBounds_toArray, List.set_cons_zero, List.set_cons_succ]
  refine wpAnyG_take0 (i := 1) (oi := { dst := some 21, op := Go.Op.move (Go.Operand.tmp 1), type := 3, pos := "slices.go:232", after := #[], guard := none }) (v := ?vg1_1) rfl (by kernel_rfl) (by kernel_rfl) (by kernel_rfl) (by kernel_rfl) (fun _ _ _ h => h) (fun _ => trivial) (Or.inl ⟨by rfl, ?hg1_1⟩) ?_
  case hg1_1 => intro w _; go_simp; (try with_reducible rfl)
  try simp only [Act.put, List.setIfInBounds_toArray, List.set_cons_zero, List.set_cons_succ]
  refine wpAnyG_take0 (i := 2) (oi := { dst := some 22, op := Go.Op.slice 22 (Go.Operand.tmp 20) none (some (Go.Operand.tmp 21)) none, type := 22, pos := "slices.go:232", after := #[{ on := 0, ground := Go.Ground.data }, { on := 1, ground := Go.Ground.data }], guard := none }) (v := ?vg1_2) rfl (by kernel_rfl) (by kernel_rfl) (by kernel_rfl) (by kernel_rfl) (fun _ _ _ h => h) (fun _ => trivial) (Or.inl ⟨by rfl, ?hg1_2⟩) ?_
  case hg1_2 => intro w _; go_simp; (try with_reducible rfl)
  try simp only [Act.put, List.setIfInBounds_toArray, List.set_cons_zero, List.set_cons_succ]
  refine wpAnyG_take0 (i := 3) (oi := { dst := some 23, op := Go.Op.move (Go.Operand.tmp 0), type := 22, pos := "slices.go:232", after := #[], guard := none }) (v := ?vg1_3) rfl (by kernel_rfl) (by kernel_rfl) (by kernel_rfl) (by kernel_rfl) (fun _ _ _ h => h) (fun _ => trivial) (Or.inl ⟨by rfl, ?hg1_3⟩) ?_
  case hg1_3 => intro w _; go_simp; (try with_reducible rfl)
  try simp only [Act.put, List.setIfInBounds_toArray, List.set_cons_zero, List.set_cons_succ]
  refine wpAnyG_take0 (i := 4) (oi := { dst := some 24, op := Go.Op.move (Go.Operand.tmp 2), type := 3, pos := "slices.go:232", after := #[], guard := none }) (v := ?vg1_4) rfl (by kernel_rfl) (by kernel_rfl) (by kernel_rfl) (by kernel_rfl) (fun _ _ _ h => h) (fun _ => trivial) (Or.inl ⟨by rfl, ?hg1_4⟩) ?_
  case hg1_4 => intro w _; go_simp; (try with_reducible rfl)
  try simp only [Act.put, List.setIfInBounds_toArray, List.set_cons_zero, List.set_cons_succ]
  refine wpAnyG_take0 (i := 5) (oi := { dst := some 25, op := Go.Op.slice 22 (Go.Operand.tmp 23) (some (Go.Operand.tmp 24)) none none, type := 22, pos := "slices.go:232", after := #[{ on := 3, ground := Go.Ground.data }, { on := 4, ground := Go.Ground.data }], guard := none }) (v := ?vg1_5) rfl (by kernel_rfl) (by kernel_rfl) (by kernel_rfl) (by kernel_rfl) (fun _ _ _ h => h) (fun _ => trivial) (Or.inl ⟨by rfl, ?hg1_5⟩) ?_
  case hg1_5 => intro w _; go_simp; (try with_reducible rfl)
  try simp only [Act.put, List.setIfInBounds_toArray, List.set_cons_zero, List.set_cons_succ]
  refine wpAnyG_step (i := 6) (oi := { dst := some 26, op := Go.Op.call { callee := Go.Callee.builtin Go.Builtin.append, args := #[Go.Operand.tmp 22, Go.Operand.tmp 25], argTypes := #[22, 22] }, type := 22, pos := "slices.go:232", after := #[{ on := 2, ground := Go.Ground.data }, { on := 5, ground := Go.Ground.data }], guard := none }) rfl (by kernel_rfl) (by rfl) (fun K hK => ?_)
  refine wp_append2 (v1 := .slice (some ⟨g, 0, none⟩) k cap) (v2 := .slice (some tl) mm mc) (.tmp 22) (.tmp 25) rfl rfl rfl hap ?_
  refine hK _ _ (fun h => absurd h (Bool.eq_false_iff.1 (by kernel_rfl))) (fun _ => ?_)
  clear hK
  try simp only [Act.put, List.setIfInBounds_toArray, List.set_cons_zero, List.set_cons_succ]
  refine wpAnyG_take0 (i := 7) (oi := { dst := some 0, op := Go.Op.assign (Go.Operand.tmp 26), type := 22, pos := "slices.go:232", after := #[{ on := 6, ground := Go.Ground.data }, { on := 6, ground := Go.Ground.chain }, { on := 0, ground := Go.Ground.phase }, { on := 1, ground := Go.Ground.phase }, { on := 2, ground := Go.Ground.phase }, { on := 3, ground := Go.Ground.phase }, { on := 4, ground := Go.Ground.phase }, { on := 5, ground := Go.Ground.phase }, { on := 6, ground := Go.Ground.phase }], guard := none }) (v := ?vg1_7) rfl (by kernel_rfl) (by kernel_rfl) (by kernel_rfl) (by kernel_rfl) (fun _ _ _ h => h) (fun h => absurd h (Bool.eq_false_iff.1 (by kernel_rfl))) (Or.inl ⟨by rfl, ?hg1_7⟩) ?_
  case hg1_7 => intro w _; go_simp; (try with_reducible rfl)
  try simp only [Act.put, List.setIfInBounds_toArray, List.set_cons_zero, List.set_cons_succ]
  refine wpAnyG_done (by kernel_rfl) ?_ _
  clear hap hs1 hs2
  go_wp2
  go_ret
  exact ⟨rfl, Hfin.out.1, Hfin.out.2⟩
end Go.Proofs.Ytknjjodkpknglaa
