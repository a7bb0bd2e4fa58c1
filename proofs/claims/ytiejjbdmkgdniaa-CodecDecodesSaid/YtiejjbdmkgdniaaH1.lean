/- The tree's least node taken out: slices.Delete of one, and the closure. -/
import Derived.Test.YtiejjbdmkgdniaaProg
import Derived.Test.YtiejjbdmkgdniaaHfP
import Derived.Test.YtiejjbdmkgdniaaBase
import Derived.Test.YtiejjbdmkgdniaaReg
import Derived.Lib.Hide
import Derived.Lib.MinMax
import Derived.Lib.SliceRun
import Derived.Deep.LoopGhost
set_option linter.unusedVariables false
set_option linter.unusedSimpArgs false
namespace Go.Proofs.Ytiejjbdmkgdniaa
open Go.RowKit Go.Sal Go.Huf
def inI (l : List Int) : List Value := l.map fun k => .int .i64 k
def inN (l : List Nat) : List Value := l.map fun (k : Nat) => .int .i64 (k : Int)
def ncells (x : Int × Int) : List Value := [.int .i64 x.1, .int .i64 x.2]
theorem ncells_len (x : Int × Int) : (ncells x).length = 2 := rfl
theorem inI_len (l : List Int) : (inI l).length = l.length := by simp [inI]
theorem inN_len (l : List Nat) : (inN l).length = l.length := by simp [inN]
theorem inI_one (l : List Int) : ∀ u ∈ inI l, u.oneCell' = true := by
  intro u hu; obtain ⟨k, _, rfl⟩ := List.mem_map.1 hu; rfl
theorem inN_one (l : List Nat) : ∀ u ∈ inN l, u.oneCell' = true := by
  intro u hu; obtain ⟨k, _, rfl⟩ := List.mem_map.1 hu; rfl
theorem intinfo : (Try.prog.info? 3).map (fun i => (i.zero, i.size, i.bytes)) = some (some (.int .i64 0), 1, 8) := by kernel_rfl
theorem ndinfo : (Try.prog.info? 131).map (fun i => (i.zero, i.size, i.bytes)) = some (some (.agg #[.int .i64 0, .int .i64 0]), 2, 16) := by kernel_rfl
/-- a store behind the row's end -/
theorem own_beyond {w : World} {base n size cap g : Nat} {e : TypeId} {xs : List Value} (h : w.ownsRow base e size (.slice (some ⟨g, 0, none⟩) n cap) n xs) (j : Nat) (hj : n * size ≤ j) (u : Value) :
    (w.setCell ⟨g, j, none⟩ u).ownsRow base e size (.slice (some ⟨g, 0, none⟩) n cap) n xs := by
  refine ⟨h.1, ?_⟩
  rcases h.2 with ⟨h0, _⟩ | ⟨g', cap', cur, hv, hb, hh, h1, h2, h3, h4⟩
  · cases h0
  · injection hv with hv1 _ hv2
    injection hv1 with hv1
    injection hv1 with hv1
    subst hv1
    subst hv2
    refine .inr ⟨g, cap, cur.setIfInBounds j u, rfl, hb, ?_, h1, h2, by simpa using h3, ?_⟩
    · have := Blk.set_ (w := w) (g := g) (t := e) (cs := cur) hh j u
      exact this
    · rw [← h4, Array.toList_setIfInBounds, List.take_set_of_le hj]
/-- a shorter row in the same block -/
theorem own_short {w : World} {base n k size cap g : Nat} {e : TypeId} {xs : List Value} (h : w.ownsRow base e size (.slice (some ⟨g, 0, none⟩) n cap) n xs) (hk : k ≤ n) :
    w.ownsRow base e size (.slice (some ⟨g, 0, none⟩) k cap) k (xs.take (k * size)) := by
  rcases h.2 with ⟨h0, _⟩ | ⟨g', cap', cur, hv, hb, hh, h1, h2, h3, h4⟩
  · cases h0
  · injection hv with hv1 _ hv2
    injection hv1 with hv1
    injection hv1 with hv1
    subst hv1
    subst hv2
    have hle : k * size ≤ n * size := Nat.mul_le_mul_right _ hk
    refine ⟨by rw [List.length_take, h.1]; omega, .inr ⟨g, cap, cur, rfl, hb, hh, by omega, h2, h3, ?_⟩⟩
    rw [← h4, List.take_take, Nat.min_eq_left hle]
theorem own_room {w : World} {base n size cap g : Nat} {e : TypeId} {xs : List Value} (h : w.ownsRow base e size (.slice (some ⟨g, 0, none⟩) n cap) n xs) {j : Nat} (hj : j < cap * size) :
    (w.cell? ⟨g, j, none⟩).isSome = true ∧ w.frozen? ⟨g, j, none⟩ = false := by
  rcases h.2 with ⟨h0, _⟩ | ⟨g', cap', cur, hv, hb, hh, h1, h2, h3, h4⟩
  · cases h0
  · injection hv with hv1 _ hv2
    injection hv1 with hv1
    injection hv1 with hv1
    subst hv1
    subst hv2
    refine ⟨?_, Blk.free (cs := cur) (t := e) hh j⟩
    rw [cell_of_row w g j cur e (0, 0) hh]
    simp [h3, hj]
theorem eraseIdx_take_drop {α : Type} (l : List α) (k : Nat) : l.eraseIdx k = l.take k ++ l.drop (k + 1) := List.eraseIdx_eq_take_drop_succ l k
end Go.Proofs.Ytiejjbdmkgdniaa
set_option linter.unusedVariables false
set_option linter.unusedSimpArgs false
namespace Go.Proofs.Ytiejjbdmkgdniaa
open Go.RowKit Go.Sal Go.Huf
/-- an append that fits, the source wherever it lies -/
theorem fits_src {P : Program} (w : World) (base : Nat) (t ty e : TypeId) (z : Value) (size bytes : Nat) (ht : P.underlying t = some (.slice e)) (hinfo : (P.info? e).map (fun i => (i.zero, i.size, i.bytes)) = some (some z, size, bytes))
    (g n cap : Nat) (xs : List Value) (hown : w.ownsRow base e size (.slice (some ⟨g, 0, none⟩) n cap) n xs) (A : Addr) (m c : Nat) (news : List Value) (hs : Src w size (some A) m news) (h1 : ∀ u ∈ news, u.oneCell' = true) (hroom : n + m ≤ cap) (hsz : 0 < size) :
    ∃ w', (Builtin.append_ #[t, t] ty #[.slice (some ⟨g, 0, none⟩) n cap, .slice (some A) m c]).run P w = .ok (.slice (some ⟨g, 0, none⟩) (n + m) cap) w' ∧
      w'.ownsRow base e size (.slice (some ⟨g, 0, none⟩) (n + m) cap) (n + m) (xs ++ news) ∧ w.grownBy w' (some g) := by
  obtain ⟨i, hi, hsize⟩ : ∃ i, P.info? e = some i ∧ i.size = size := by
    cases hx : P.info? e with
    | none => rw [hx] at hinfo; cases hinfo
    | some i =>
      rw [hx] at hinfo
      simp only [Option.map_some, Option.some.injEq, Prod.mk.injEq] at hinfo
      exact ⟨i, rfl, hinfo.2.1⟩
  refine run_append_fits (P := P) w base t ty e i size ht hi hsize g n cap xs hown A m c news hs.1 ?_ h1 hroom
  intro j u hu
  rcases Nat.eq_zero_or_pos m with h0 | h0
  · subst h0
    have : news = [] := List.eq_nil_of_length_eq_zero (by have := hs.1; simpa using this)
    subst this
    simp at hu
  · obtain ⟨a', ha, hc⟩ := hs.2 h0
    injection ha with ha
    subst ha
    exact hc j u hu

set_option maxRecDepth 20000 in
set_option maxHeartbeats 2000000 in
theorem delete_any (base g n cap k : Nat) (xs : List Value) (w : World) (hown : w.ownsRow base 3 1 (.slice (some ⟨g, 0, none⟩) n cap) n xs) (h1 : ∀ u ∈ xs, u.oneCell' = true) (hk : k < n) (hn : n ≤ 100000) (hcap : n ≤ cap) (hcm : cap ≤ 9223372036854775807) :
    Calls Try.prog 98 #[.slice (some ⟨g, 0, none⟩) n cap, .int .i64 (k : Int), .int .i64 ((k : Int) + 1)] w fun e w' => e = .returned (.slice (some ⟨g, 0, none⟩) (n - 1) cap) ∧
      w'.ownsRow base 3 1 (.slice (some ⟨g, 0, none⟩) (n - 1) cap) (n - 1) (xs.eraseIdx k) ∧ Keep [g] w w' := by
  obtain ⟨tl, htl⟩ : ∃ tl : Addr, tl = (if cap = k + 1 then (⟨g, 0, none⟩ : Addr) else ⟨g, k + 1, none⟩) := ⟨_, rfl⟩
  obtain ⟨mm, mc, hmm⟩ : ∃ mm mc, mm = n - (k + 1) ∧ mc = cap - (k + 1) := ⟨_, _, rfl, rfl⟩
  obtain ⟨nn, hnn⟩ : ∃ nn, nn = n - 1 := ⟨_, rfl⟩
  rw [← hnn]
  have hs1 := fun W => slice_head (P := Try.prog) 49 3 Try.underlying49 (some ⟨g, 0, none⟩) n cap k (by omega) W 1 (by kernel_rfl)
  have hs2 : ∀ W, (Instr.slice 49 (.slice (some ⟨g, 0, none⟩) n cap) (some (.int .i64 ((k : Int) + 1))) none none).run Try.prog W = .ok (.slice (some tl) mm mc) W := fun W => by
    have h := slice_tail (P := Try.prog) 49 3 Try.underlying49 (some ⟨g, 0, none⟩) n cap (k + 1) (by omega) W 1 (by kernel_rfl)
    rw [Int.natCast_add] at h
    rw [htl, hmm.1, hmm.2]
    have e : (if cap = k + 1 then (some ⟨g, 0, none⟩ : Option Addr) else Option.map (fun x : Addr => x.add ((k + 1) * 1)) (some ⟨g, 0, none⟩)) = some (if cap = k + 1 then (⟨g, 0, none⟩ : Addr) else ⟨g, k + 1, none⟩) := by
      split
      · rfl
      · simp [add_mk]
    rw [← e]
    exact h
  have hlen : xs.length = n := by have := hown.1; omega
  -- the append, in place
  have hshort : w.drew.ownsRow base 3 1 (.slice (some ⟨g, 0, none⟩) k cap) k (xs.take k) := by
    have h := own_short (k := k) hown (by omega)
    rw [Nat.mul_one] at h
    exact h
  have hsrc : Src w.drew 1 (some tl) mm (xs.drop (k + 1)) := by
    have h := (Src.of_own hown).tail (k := k + 1) (cap := cap) (by omega) hcap
    rw [htl, hmm.1]
    have e : (if cap = k + 1 then (some ⟨g, 0, none⟩ : Option Addr) else Option.map (fun x : Addr => x.add ((k + 1) * 1)) (some ⟨g, 0, none⟩)) = some (if cap = k + 1 then (⟨g, 0, none⟩ : Addr) else ⟨g, k + 1, none⟩) := by
      split
      · rfl
      · simp [add_mk]
    rw [e, Nat.mul_one] at h
    exact h
  obtain ⟨w1, hap, hown1, hg1⟩ := fits_src (P := Try.prog) w.drew base 49 49 3 (.int .i64 0) 1 8 Try.underlying49 intinfo g k cap _ hshort tl mm mc _ hsrc (fun u hu => h1 u (List.mem_of_mem_drop hu)) (by omega) (by omega)
  have hkm : k + mm = nn := by omega
  rw [hkm] at hap hown1
  have hk1 : Keep [g] w w1 := (((Keep.refl [g] w).drew)).grown hg1 (fun j hj => by injection hj with hj; left; simp [hj])
  obtain ⟨hr1, hr2⟩ := own_room hown1 (j := nn) (by omega)
  have hsl3 : ∀ W, (Instr.slice 49 (.slice (some ⟨g, 0, none⟩) nn cap) (some (.int .i64 (nn : Int))) (some (.int .i64 (n : Int))) none).run Try.prog W = .ok (.slice (some ⟨g, nn, none⟩) 1 (cap - nn)) W := fun W => by
    have hi : ∃ i, Try.prog.info? 3 = some i ∧ i.size = 1 := by
      cases hx : Try.prog.info? 3 with
      | none => have := intinfo; rw [hx] at this; cases this
      | some i =>
        have := intinfo
        rw [hx] at this
        simp only [Option.map_some, Option.some.injEq, Prod.mk.injEq] at this
        exact ⟨i, rfl, this.2.1⟩
    obtain ⟨i, hi, hi1⟩ := hi
    have hc1 : ¬ cap = nn := by omega
    have hc2 : nn ≤ n := by omega
    have hc3 : n ≤ cap := hcap
    have hc4 : n - nn = 1 := by omega
    simp [Instr.slice, run_underlying Try.underlying49, Instr.sliceBounds, Instr.sliceBound, asIntOf, sizeOf, typeInfo, hi, hi1, hc1, hc2, hc3, hc4, Addr.add]
    omega
  have hcl : ∀ ty, (Builtin.clear_ #[49] ty #[.slice (some ⟨g, nn, none⟩) 1 (cap - nn)]).run Try.prog w1 = .ok (.tuple #[]) (w1.setCell ⟨g, nn, none⟩ (.int .i64 0)) := fun ty => by
    have h := Lib.run_clear_slice (P := Try.prog) w1 49 3 ty (.int .i64 0) Try.underlying49 (fun w => by kernel_rfl) rfl rfl g nn 1 (cap - nn) (by omega) (fun j hj => by
      obtain rfl : j = 0 := by omega
      exact hr1) (fun j hj => by
      obtain rfl : j = 0 := by omega
      exact hr2)
    simpa [World.setCells] using h
  have hfin : (w1.setCell ⟨g, nn, none⟩ (.int .i64 0)).ownsRow base 3 1 (.slice (some ⟨g, 0, none⟩) nn cap) nn (xs.eraseIdx k) := by
    rw [eraseIdx_take_drop]
    exact own_beyond hown1 nn (by omega) _
  have hkf : Keep [g] w (w1.setCell ⟨g, nn, none⟩ (.int .i64 0)) := hk1.setCell (.inl (by simp)) _
  have Hfin := Lib.hid (And.intro hfin hkf)
  have hne : ((k : Int) == (k : Int) + 1) = false := by simp; omega
  have hkn : k ≤ k + 1 ∧ k + 1 ≤ n := by omega
  have hk2 : k + 1 ≤ n := hkn.2
  clear hkm hkn hown h1 hshort hsrc hown1 hg1 hk1 hr1 hr2 hfin hkf htl hmm hlen hnn
  go_enter Try.func98, Try.ntmps98
  go_wp2_with fail
  refine wp_region_G (fun _ => True) [6] #[false, false, false, false, false, false, false, false] 8 (by kernel_rfl) (by kernel_rfl) (by kernel_rfl) ?_
  refine wpAnyG_take0 (i := 0) (oi := { dst := some 20, op := Go.Op.move (Go.Operand.tmp 0), type := 49, pos := "slices.go:232", after := #[], guard := none }) (v := ?vg1_0) rfl (by kernel_rfl) (by kernel_rfl) (by kernel_rfl) (by kernel_rfl) (fun _ _ _ h => h) (fun _ => trivial) (Or.inl ⟨by rfl, ?hg1_0⟩) ?_
  case hg1_0 => intro w _; go_simp; (try with_reducible rfl)
  try simp only [Act.put, List.setIfInBounds_toArray, List.set_cons_zero, List.set_cons_succ]
  refine wpAnyG_take0 (i := 1) (oi := { dst := some 21, op := Go.Op.move (Go.Operand.tmp 1), type := 3, pos := "slices.go:232", after := #[], guard := none }) (v := ?vg1_1) rfl (by kernel_rfl) (by kernel_rfl) (by kernel_rfl) (by kernel_rfl) (fun _ _ _ h => h) (fun _ => trivial) (Or.inl ⟨by rfl, ?hg1_1⟩) ?_
  case hg1_1 => intro w _; go_simp; (try with_reducible rfl)
  try simp only [Act.put, List.setIfInBounds_toArray, List.set_cons_zero, List.set_cons_succ]
  refine wpAnyG_take0 (i := 2) (oi := { dst := some 22, op := Go.Op.slice 49 (Go.Operand.tmp 20) none (some (Go.Operand.tmp 21)) none, type := 49, pos := "slices.go:232", after := #[{ on := 0, ground := Go.Ground.data }, { on := 1, ground := Go.Ground.data }], guard := none }) (v := ?vg1_2) rfl (by kernel_rfl) (by kernel_rfl) (by kernel_rfl) (by kernel_rfl) (fun _ _ _ h => h) (fun _ => trivial) (Or.inl ⟨by rfl, ?hg1_2⟩) ?_
  case hg1_2 => intro w _; go_simp; (try with_reducible rfl)
  try simp only [Act.put, List.setIfInBounds_toArray, List.set_cons_zero, List.set_cons_succ]
  refine wpAnyG_take0 (i := 3) (oi := { dst := some 23, op := Go.Op.move (Go.Operand.tmp 0), type := 49, pos := "slices.go:232", after := #[], guard := none }) (v := ?vg1_3) rfl (by kernel_rfl) (by kernel_rfl) (by kernel_rfl) (by kernel_rfl) (fun _ _ _ h => h) (fun _ => trivial) (Or.inl ⟨by rfl, ?hg1_3⟩) ?_
  case hg1_3 => intro w _; go_simp; (try with_reducible rfl)
  try simp only [Act.put, List.setIfInBounds_toArray, List.set_cons_zero, List.set_cons_succ]
  refine wpAnyG_take0 (i := 4) (oi := { dst := some 24, op := Go.Op.move (Go.Operand.tmp 2), type := 3, pos := "slices.go:232", after := #[], guard := none }) (v := ?vg1_4) rfl (by kernel_rfl) (by kernel_rfl) (by kernel_rfl) (by kernel_rfl) (fun _ _ _ h => h) (fun _ => trivial) (Or.inl ⟨by rfl, ?hg1_4⟩) ?_
  case hg1_4 => intro w _; go_simp; (try with_reducible rfl)
  try simp only [Act.put, List.setIfInBounds_toArray, List.set_cons_zero, List.set_cons_succ]
  refine wpAnyG_take0 (i := 5) (oi := { dst := some 25, op := Go.Op.slice 49 (Go.Operand.tmp 23) (some (Go.Operand.tmp 24)) none none, type := 49, pos := "slices.go:232", after := #[{ on := 3, ground := Go.Ground.data }, { on := 4, ground := Go.Ground.data }], guard := none }) (v := ?vg1_5) rfl (by kernel_rfl) (by kernel_rfl) (by kernel_rfl) (by kernel_rfl) (fun _ _ _ h => h) (fun _ => trivial) (Or.inl ⟨by rfl, ?hg1_5⟩) ?_
  case hg1_5 => intro w _; go_simp; (try with_reducible rfl)
  try simp only [Act.put, List.setIfInBounds_toArray, List.set_cons_zero, List.set_cons_succ]
  refine wpAnyG_step (i := 6) (oi := { dst := some 26, op := Go.Op.call { callee := Go.Callee.builtin Go.Builtin.append, args := #[Go.Operand.tmp 22, Go.Operand.tmp 25], argTypes := #[49, 49] }, type := 49, pos := "slices.go:232", after := #[{ on := 2, ground := Go.Ground.data }, { on := 5, ground := Go.Ground.data }], guard := none }) rfl (by kernel_rfl) (by rfl) (fun K hK => ?_)
  refine wp_append2 (v1 := .slice (some ⟨g, 0, none⟩) k cap) (v2 := .slice (some tl) mm mc) (.tmp 22) (.tmp 25) rfl rfl rfl hap ?_
  refine hK _ _ (fun h => absurd h (Bool.eq_false_iff.1 (by kernel_rfl))) (fun _ => ?_)
  clear hK
  try simp only [Act.put, List.setIfInBounds_toArray, List.set_cons_zero, List.set_cons_succ]
  refine wpAnyG_take0 (i := 7) (oi := { dst := some 0, op := Go.Op.assign (Go.Operand.tmp 26), type := 49, pos := "slices.go:232", after := #[{ on := 6, ground := Go.Ground.data }, { on := 6, ground := Go.Ground.chain }, { on := 0, ground := Go.Ground.phase }, { on := 1, ground := Go.Ground.phase }, { on := 2, ground := Go.Ground.phase }, { on := 3, ground := Go.Ground.phase }, { on := 4, ground := Go.Ground.phase }, { on := 5, ground := Go.Ground.phase }, { on := 6, ground := Go.Ground.phase }], guard := none }) (v := ?vg1_7) rfl (by kernel_rfl) (by kernel_rfl) (by kernel_rfl) (by kernel_rfl) (fun _ _ _ h => h) (fun h => absurd h (Bool.eq_false_iff.1 (by kernel_rfl))) (Or.inl ⟨by rfl, ?hg1_7⟩) ?_
  case hg1_7 => intro w _; go_simp; (try with_reducible rfl)
  try simp only [Act.put, List.setIfInBounds_toArray, List.set_cons_zero, List.set_cons_succ]
  refine wpAnyG_done (by kernel_rfl) ?_ _
  clear hap hs1 hs2
  go_wp2
  go_ret
  exact ⟨rfl, Hfin.out.1, Hfin.out.2⟩
end Go.Proofs.Ytiejjbdmkgdniaa
set_option linter.unusedVariables false
set_option linter.unusedSimpArgs false
namespace Go.Proofs.Ytiejjbdmkgdniaa
open Go.RowKit Go.Sal Go.Huf
theorem nd_cell {w : World} {base g n cap i : Nat} {l : List (Int × Int)} (h : w.ownsRow base 131 2 (.slice (some ⟨g, 0, none⟩) n cap) n (l.flatMap ncells)) (hi : i < l.length) :
    w.cell? ⟨g, i * 2, none⟩ = some (.int .i64 (wt l i)) ∧ w.cell? ⟨g, i * 2 + 1, none⟩ = some (.int .i64 (up1 l i)) ∧ w.frozen? ⟨g, i * 2 + 1, none⟩ = false := by
  have e : l.getD i (0, -1) = l[i] := by simp [List.getD, hi]
  have q0 := ownsRow_cell h (show (l.flatMap ncells)[i * 2]? = some (.int .i64 (wt l i)) by
    have := rf_get ncells_len l i 0 hi (by omega)
    rw [Nat.add_zero] at this
    rw [this, wt, e]; rfl)
  have q1 := ownsRow_cell h (show (l.flatMap ncells)[i * 2 + 1]? = some (.int .i64 (up1 l i)) by
    rw [rf_get ncells_len l i 1 hi (by omega), up1, e]; rfl)
  exact ⟨q0.1, q1.1, q1.2⟩
theorem inN_cell {w : World} {base g n cap i : Nat} {l : List Nat} (h : w.ownsRow base 3 1 (.slice (some ⟨g, 0, none⟩) n cap) n (inN l)) (hi : i < l.length) :
    w.cell? ⟨g, i, none⟩ = some (.int .i64 (l.getD i 0 : Nat)) := by
  have e : l.getD i 0 = l[i] := by simp [List.getD, hi]
  exact (ownsRow_cell h (show (inN l)[i]? = some (.int .i64 (l.getD i 0 : Nat)) by rw [e]; simp [inN, hi])).1

theorem own_cap {w : World} {base n size cap g : Nat} {e : TypeId} {xs : List Value} (h : w.ownsRow base e size (.slice (some ⟨g, 0, none⟩) n cap) n xs) : n ≤ cap ∧ cap ≤ maxLen := by
  rcases h.2 with ⟨h0, _⟩ | ⟨g', cap', cur, hv, hb, hh, h1, h2, _⟩
  · cases h0
  · injection hv with _ _ hv2
    subst hv2
    exact ⟨h1, h2⟩

set_option maxRecDepth 20000 in
set_option maxHeartbeats 2000000 in
theorem least_any (base bf bl gf cf gl cl : Nat) (free : List Nat) (nodes : List (Int × Int)) (w : World) (hF : Blk w bf 49 #[.slice (some ⟨gf, 0, none⟩) free.length cf]) (hL : Blk w bl 128 #[.slice (some ⟨gl, 0, none⟩) nodes.length cl])
    (hof : w.ownsRow base 3 1 (.slice (some ⟨gf, 0, none⟩) free.length cf) free.length (inN free)) (hol : w.ownsRow base 131 2 (.slice (some ⟨gl, 0, none⟩) nodes.length cl) nodes.length (nodes.flatMap ncells))
    (h0 : 0 < free.length) (hin : ∀ v ∈ free, v < nodes.length) (hn : nodes.length ≤ 10000) (hfl : free.length ≤ 10000) :
    Calls Try.prog 97 #[.pointer (some ⟨bf, 0, none⟩), .pointer (some ⟨bl, 0, none⟩)] w fun e w' => e = .returned (.int .i64 (free.getD (leastK nodes free) 0 : Nat)) ∧
      Blk w' bf 49 #[.slice (some ⟨gf, 0, none⟩) (free.length - 1) cf] ∧ w'.ownsRow base 3 1 (.slice (some ⟨gf, 0, none⟩) (free.length - 1) cf) (free.length - 1) (inN (free.eraseIdx (leastK nodes free))) ∧ Keep [bf, gf] w w' := by
  have cF : w.cell? ⟨bf, 0, none⟩ = some (.slice (some ⟨gf, 0, none⟩) free.length cf) := hF.cell 0
  have cL : w.cell? ⟨bl, 0, none⟩ = some (.slice (some ⟨gl, 0, none⟩) nodes.length cl) := hL.cell 0
  obtain ⟨hc1, hc2⟩ := own_cap hof
  unfold maxLen at hc2
  have hfr : ∀ j, j < free.length → free.getD j 0 < nodes.length := fun j hj => hin _ (getD_mem hj)
  have hcf : ∀ j, j < free.length → w.cell? ⟨gf, j, none⟩ = some (.int .i64 (free.getD j 0 : Nat)) := fun j hj => inN_cell hof hj
  have hcn : ∀ i, i < nodes.length → w.cell? ⟨gl, i * 2, none⟩ = some (.int .i64 (wt nodes i)) := fun i hi => (nd_cell hol hi).1
  have Hfr := Lib.hid hfr
  have Hcf := Lib.hid hcf
  have Hcn := Lib.hid hcn
  have HF := Lib.hid hF
  have Hof := Lib.hid hof
  have hk := leastK_lt (l := nodes) h0
  obtain ⟨nn, hnn⟩ : ∃ nn, nn = free.length - 1 := ⟨_, rfl⟩
  have hdel : ∀ W : World, W.ownsRow base 3 1 (.slice (some ⟨gf, 0, none⟩) free.length cf) free.length (inN free) → Calls Try.prog 98 #[.slice (some ⟨gf, 0, none⟩) free.length cf, .int .i64 (leastK nodes free : Int), .int .i64 ((leastK nodes free : Int) + 1)] W fun e w' => e = .returned (.slice (some ⟨gf, 0, none⟩) nn cf) ∧
      w'.ownsRow base 3 1 (.slice (some ⟨gf, 0, none⟩) nn cf) nn ((inN free).eraseIdx (leastK nodes free)) ∧ Keep [gf] W w' := fun W h => by
    rw [hnn]
    exact delete_any base gf free.length cf (leastK nodes free) (inN free) W h (inN_one free) hk (by omega) hc1 hc2
  have her : (inN free).eraseIdx (leastK nodes free) = inN (free.eraseIdx (leastK nodes free)) := (map_eraseIdx' _ _ _).symm
  rw [← hnn]
  have y0 := hcf _ hk
  obtain ⟨k, hkk⟩ : ∃ k, k = leastK nodes free := ⟨_, rfl⟩
  have Hsk : Hid (scanK nodes free free.length = k) := Lib.hid hkk.symm
  rw [← hkk] at hdel her y0 hk ⊢
  obtain ⟨fk, hfk⟩ : ∃ fk, fk = free.getD k 0 := ⟨_, rfl⟩
  rw [← hfk] at y0 ⊢
  have Hdel := Lib.hid hdel
  have Her := Lib.hid her
  have Y0 := Lib.hid y0
  clear hF hL hof hol hin hfr hcf hcn hdel her hnn hkk hfk y0
  go_enter Try.func97, Try.ntmps97
  go_wp2
  go_loopw [3, 9] (fun kk i wr => ∃ j q : Nat, i = .int .i64 j ∧ j ≤ free.length ∧ kk = .int .i64 (scanK nodes free j : Nat) ∧ wr = w.drewN q) (fun _ i _ => free.length - (intOf i).toNat)
  case atStart => exact ⟨0, 0, rfl, by omega, rfl, rfl⟩
  case round =>
    obtain ⟨j, q, rfl, hj, rfl, rfl⟩ := hrel
    rcases Nat.lt_or_ge j free.length with hlt | hge
    · have hsk : scanK nodes free j < free.length := by
        rcases Nat.eq_zero_or_pos j with h1 | h1
        · subst h1; simpa [scanK] using h0
        · have := scanK_lt nodes free j h1; omega
      have y1 := Hcf.out j hlt
      have y2 := Hcf.out _ hsk
      have z1 := Hcn.out _ (Hfr.out j hlt)
      have z2 := Hcn.out _ (Hfr.out _ hsk)
      have l1 := Hfr.out j hlt
      have l2 := Hfr.out _ hsk
      have hst : Hid (scanK nodes free (j + 1) = if wt nodes (free.getD j 0) < wt nodes (free.getD (scanK nodes free j) 0) then j else scanK nodes free j) := Lib.hid rfl
      generalize free.getD j 0 = fi at *
      generalize scanK nodes free j = sk at *
      generalize free.getD sk 0 = fk at *
      generalize wt nodes fi = wi at *
      generalize wt nodes fk = wk at *
      have hwj : IntKind.i64.wrap ((j : Int) + 1) = (j : Int) + 1 := by rw [IntKind.wrap_i64]; omega
      by_cases hlt2 : wi < wk
      · have e := hst.out
        rw [if_pos hlt2] at e
        have He := Lib.hid e
        clear e
        go_wp2
        go_quiet (fail)
        go_wp2
        exact ⟨⟨j + 1, _, by simp, by omega, by rw [He.out], rfl⟩, by simp [intOf]; omega⟩
      · have e := hst.out
        rw [if_neg hlt2] at e
        have He := Lib.hid e
        clear e
        go_wp2
        go_quiet (fail)
        go_wp2
        exact ⟨⟨j + 1, _, by simp, by omega, by rw [He.out], rfl⟩, by simp [intOf]; omega⟩
    · obtain rfl : j = free.length := by omega
      rw [Hsk.out]
      have y2 := Y0.out
      have hd := Hdel.out (w.drewN q) Hof.out
      have f1 : w.frozen? ⟨bf, 0, none⟩ = false := HF.out.free 0
      have hwk : IntKind.i64.wrap ((k : Int) + 1) = (k : Int) + 1 := by rw [IntKind.wrap_i64]; omega
      have Hd := Lib.hid hd
      have HT : Hid (Blk (w.drewN q) bf 49 #[.slice (some ⟨gf, 0, none⟩) free.length cf]) := Lib.hid (HF.out.drewN q)
      clear hd
      go_wp2_with fail
      refine Hd.out.mono ?_
      rintro e w1 ⟨rfl, hown1, hk1⟩
      have hne : bf ≠ gf := fun e => own_ne_blk Hof.out HF.out (by decide) (by rw [e]; rfl)
      have hT1 := HT.out.keep hk1 (by simpa using hne)
      have c1 : w1.cell? ⟨bf, 0, none⟩ = some (.slice (some ⟨gf, 0, none⟩) free.length cf) := hT1.cell 0
      have fz : w1.frozen? ⟨bf, 0, none⟩ = false := hT1.free 0
      have HT1 := Lib.hid hT1
      have Hown1 := Lib.hid hown1
      have Hk1 := Lib.hid hk1
      have Hne := Lib.hid hne
      clear hT1 hown1 hk1 hne y2 f1 cF cL
      go_wp2
      go_ret
      have hks : Keep [bf] w1 (w1.setCell ⟨bf, 0, none⟩ (.slice (some ⟨gf, 0, none⟩) nn cf)) := (Keep.refl [bf] w1).setCell (.inl (by simp)) _
      refine ⟨rfl, HT1.out.set_ 0 _, ownsRow_keep (Her.out ▸ Hown1.out) hks (by intro i hi; simp [Value.ownBlock] at hi; subst hi; simpa using fun e => Hne.out e.symm), ?_⟩
      exact ((Keep.refl [] w).drewN q |>.mono (by simp)).trans ((Hk1.out.mono (by simp)).trans (hks.mono (by simp)))
end Go.Proofs.Ytiejjbdmkgdniaa
set_option linter.unusedVariables false
set_option linter.unusedSimpArgs false
namespace Go.Proofs.Ytiejjbdmkgdniaa
open Go.RowKit Go.Sal Go.Huf
theorem own_slice {base n size : Nat} {e : TypeId} {v : Value} {xs : List Value} {w : World} (h : w.ownsRow base e size v n xs) : ∃ A c, v = .slice A n c ∧ n ≤ c ∧ c ≤ 9223372036854775807 := by
  rcases h.2 with ⟨rfl, rfl⟩ | ⟨g, cap, cur, rfl, _, _, h1, h2, _⟩
  · exact ⟨_, _, rfl, by omega, by omega⟩
  · exact ⟨_, _, rfl, h1, by unfold maxLen at h2; omega⟩
theorem own_ne_own {b b' n n' size size' : Nat} {e e' : TypeId} {v v' : Value} {xs xs' : List Value} {w : World} (h : w.ownsRow b e size v n xs) (h' : w.ownsRow b' e' size' v' n' xs') (hne : e ≠ e') {g : Nat} (hg : v.ownBlock = some g) : v'.ownBlock ≠ some g := by
  intro hg'
  rcases h.2 with ⟨rfl, _⟩ | ⟨g1, cap, cur, rfl, _, hh, _⟩
  · simp [Value.ownBlock] at hg
  · rcases h'.2 with ⟨rfl, _⟩ | ⟨g2, cap', cur', rfl, _, hh', _⟩
    · simp [Value.ownBlock] at hg'
    · simp [Value.ownBlock] at hg hg'
      subst hg
      subst hg'
      rw [hh] at hh'
      injection hh' with hh'
      injection hh' with _ hh'
      exact hne hh'

theorem own_le {w : World} {base base' size n : Nat} {e : TypeId} {v : Value} {xs : List Value} (h : w.ownsRow base e size v n xs) (hb : base' ≤ base) : w.ownsRow base' e size v n xs := by
  refine ⟨h.1, ?_⟩
  rcases h.2 with h | ⟨g, cap, cur, h1, h2, h3⟩
  · exact .inl h
  · exact .inr ⟨g, cap, cur, h1, by omega, h3⟩
/-- a row of ints, wherever it lies -/
def ISrc (w : World) (A : Option Addr) (cs : List Int) : Prop := ∀ i (h : i < cs.length), ∃ g o, A = some ⟨g, o, none⟩ ∧ g < w.heap.size ∧ w.cell? ⟨g, o + i, none⟩ = some (.int .i64 cs[i])
theorem ISrc.keep {w w' : World} {A : Option Addr} {cs : List Int} {F : List Nat} (h : ISrc w A cs) (k : Keep F w w') (hF : ∀ a, A = some a → a.block ∉ F) : ISrc w' A cs := fun i hi => by
  obtain ⟨g, o, rfl, h1, h2⟩ := h i hi
  exact ⟨g, o, rfl, Nat.lt_of_lt_of_le h1 k.size, (k.cell (p := ⟨g, o + i, none⟩) h1 (hF ⟨g, o, none⟩ rfl)).trans h2⟩
theorem nodes0_take {cs : List Int} {i : Nat} (h : i < cs.length) : nodes0 (cs.take (i + 1)) = nodes0 (cs.take i) ++ (if 0 < cs[i] then [(cs[i], -1)] else []) := by
  rw [List.take_succ_eq_append_getElem h]
  unfold nodes0
  rw [List.filter_append, List.map_append]
  congr 1
  by_cases hp : 0 < cs[i] <;> simp [hp]
theorem nodes0_len (cs : List Int) : (nodes0 cs).length ≤ cs.length := by
  unfold nodes0
  rw [List.length_map]
  exact List.length_filter_le _ _
theorem nd_set {w : World} {base g n cap i : Nat} {l : List (Int × Int)} {t : Int} (h : w.ownsRow base 131 2 (.slice (some ⟨g, 0, none⟩) n cap) n (l.flatMap ncells)) (hi : i < l.length) (hn : n = l.length) :
    (w.setCell ⟨g, i * 2 + 1, none⟩ (.int .i64 t)).ownsRow base 131 2 (.slice (some ⟨g, 0, none⟩) n cap) n ((link l i t).flatMap ncells) := by
  have h1 := ownsRow_set h (i * 2 + 1) (by omega) (.int .i64 t)
  have e : l.getD i (0, -1) = l[i] := by simp [List.getD, hi]
  have s1 : (l.flatMap ncells).set (i * 2 + 1) (.int .i64 t) = (l.set i (wt l i, t)).flatMap ncells :=
    rf_set ncells_len l i 1 hi (by omega) _ _ (by simp [ncells, wt, List.getD, hi])
  rw [s1] at h1
  exact h1
/-- the nodes in their box -/
def NB (bl : Nat) (base : Nat) (AL : Option Addr) (cL : Nat) (l : List (Int × Int)) (w : World) : Prop :=
  Blk w bl 128 #[.slice AL l.length cL] ∧ w.ownsRow base 131 2 (.slice AL l.length cL) l.length (l.flatMap ncells)
/-- the free ones in theirs -/
def FB (bf : Nat) (base : Nat) (AF : Option Addr) (cF : Nat) (f : List Nat) (w : World) : Prop :=
  Blk w bf 49 #[.slice AF f.length cF] ∧ w.ownsRow base 3 1 (.slice AF f.length cF) f.length (inN f)
theorem NB.keep {bl base cL : Nat} {AL : Option Addr} {l : List (Int × Int)} {w w' : World} (h : NB bl base AL cL l w) (k : Keep [] w w') : NB bl base AL cL l w' := ⟨h.1.keep k (by simp), ownsRow_keep h.2 k (by simp)⟩
theorem FB.keep {bf base cF : Nat} {AF : Option Addr} {f : List Nat} {w w' : World} (h : FB bf base AF cF f w) (k : Keep [] w w') : FB bf base AF cF f w' := ⟨h.1.keep k (by simp), ownsRow_keep h.2 k (by simp)⟩
set_option maxRecDepth 20000 in
/-- an int behind the free ones -/
theorem free_append {base c : Nat} {A : Option Addr} {f : List Nat} {w : World} (h : w.ownsRow base 3 1 (.slice A f.length c) f.length (inN f)) (x : Nat) (hn : f.length ≤ 100000) (hB : base ≤ w.heap.size) :
    ∃ A' c' w', (Builtin.append_ #[49, 49] 49 #[.slice A f.length c, .slice (some ⟨w.heap.size, 0, none⟩) 1 1]).run Try.prog (w.alloc (.cells #[.int .i64 (x : Int)] 3)) = .ok (.slice A' (f ++ [x]).length c') w' ∧
      w'.ownsRow base 3 1 (.slice A' (f ++ [x]).length c') (f ++ [x]).length (inN (f ++ [x])) ∧ Keep (Value.slice A f.length c).ownBlock.toList w w' ∧ (A' = A ∨ ∃ g, A' = some ⟨g, 0, none⟩ ∧ w.heap.size < g) := by
  have hka : Keep [] w (w.alloc (.cells #[.int .i64 (x : Int)] 3)) := (Keep.refl [] w).alloc _
  obtain ⟨v', w', hrun, hown, hg, hat⟩ := run_append_src (P := Try.prog) (w.alloc (.cells #[.int .i64 (x : Int)] 3)) 49 49 3 (.int .i64 0) 1 8 base Try.underlying49 intinfo rfl (by omega) (.slice A f.length c) f.length (inN f) (ownsRow_keep h hka (by simp))
    (some ⟨w.heap.size, 0, none⟩) 1 1 [.int .i64 (x : Int)] (src_new w 3 1 [.int .i64 (x : Int)] rfl) (by simp [Value.oneCell']) (by unfold maxLen; omega) (by omega) (by simp; omega)
  obtain ⟨A', c', rfl, _⟩ := own_slice hown
  have el : f.length + 1 = (f ++ [x]).length := by simp
  rw [el] at hrun hown hat
  refine ⟨A', c', w', hrun, by simpa [inN] using hown, (hka.mono (by simp)).grown hg (fun k hk => .inl (by simp [hk])), ?_⟩
  obtain ⟨g', hg1, _⟩ := own_some hown (by simp)
  subst hg1
  rcases hat with hat | hat
  · left
    cases A with
    | none => simp [Value.ownBlock] at hat
    | some a =>
      have hs := h.2
      rcases hs with ⟨hs, _⟩ | ⟨g2, cap, cur, hs, _⟩
      · cases hs
      · injection hs with hs1 _ _
        injection hs1 with hs1
        subst hs1
        simp [Value.ownBlock] at hat
        rw [hat]
  · right
    simp [Value.ownBlock] at hat
    exact ⟨g', rfl, by omega⟩
/-- a node behind the nodes -/
theorem node_append {base c : Nat} {A : Option Addr} {l : List (Int × Int)} {w : World} (h : w.ownsRow base 131 2 (.slice A l.length c) l.length (l.flatMap ncells)) (x : Int × Int) (hn : l.length ≤ 100000) (hB : base ≤ w.heap.size) :
    ∃ A' c' w', (Builtin.append_ #[128, 128] 128 #[.slice A l.length c, .slice (some ⟨w.heap.size, 0, none⟩) 1 1]).run Try.prog (w.alloc (.cells #[.int .i64 x.1, .int .i64 x.2] 131)) = .ok (.slice A' (l ++ [x]).length c') w' ∧
      w'.ownsRow base 131 2 (.slice A' (l ++ [x]).length c') (l ++ [x]).length ((l ++ [x]).flatMap ncells) ∧ Keep (Value.slice A l.length c).ownBlock.toList w w' := by
  have hka : Keep [] w (w.alloc (.cells #[.int .i64 x.1, .int .i64 x.2] 131)) := (Keep.refl [] w).alloc _
  obtain ⟨v', w', hrun, hown, hg, hat⟩ := run_append_src (P := Try.prog) (w.alloc (.cells #[.int .i64 x.1, .int .i64 x.2] 131)) 128 128 131 _ 2 16 base Try.underlying128 ndinfo rfl (by omega) (.slice A l.length c) l.length (l.flatMap ncells) (ownsRow_keep h hka (by simp))
    (some ⟨w.heap.size, 0, none⟩) 1 1 (ncells x) (src_new w 131 2 (ncells x) rfl) (by simp [Value.oneCell', ncells]) (by unfold maxLen; omega) (by omega) (by simp; omega)
  obtain ⟨A', c', rfl, _⟩ := own_slice hown
  have el : l.length + 1 = (l ++ [x]).length := by simp
  rw [el] at hrun hown
  exact ⟨A', c', w', hrun, by simpa using hown, (hka.mono (by simp)).grown hg (fun k hk => .inl (by simp [hk]))⟩
end Go.Proofs.Ytiejjbdmkgdniaa
