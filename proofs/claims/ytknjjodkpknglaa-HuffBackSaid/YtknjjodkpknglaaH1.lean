/- The tree's least node taken out: slices.Delete of one, and the closure. -/
import Derived.Test.YtknjjodkpknglaaProg
import Derived.Test.YtknjjodkpknglaaHfP
import Derived.Test.YtknjjodkpknglaaBase3
import Derived.Test.YtknjjodkpknglaaReg2
import Derived.Lib.Hide
import Derived.Lib.MinMax
import Derived.Lib.SliceRun
import Derived.Deep.LoopGhost
set_option linter.unusedVariables false
set_option linter.unusedSimpArgs false
namespace Go.Proofs.Ytknjjodkpknglaa
open Go.RowKit Go.Sal Go.Huf
def inI (l : List Int) : List Value := l.map fun k => .int .i64 k
def inN (l : List Nat) : List Value := l.map fun (k : Nat) => .int .i64 (k : Int)
def ncells (x : Int × Int) : List Value := [.int .i64 x.1, .int .i64 x.2]
theorem ncells_len (x : Int × Int) : (ncells x).length = 2 := rfl
theorem inI_len (l : List Int) : (inI l).length = l.length := by simp [inI]
theorem inN_len (l : List Nat) : (inN l).length = l.length := by simp [inN]
theorem inI_one (l : List Int) : ∀ u ∈ inI l, u.oneCell' = true := by
  intro u hu; obtain ⟨k, _, rfl⟩ := List.mem_map.1 hu; rfl
theorem inN_one (l : List Nat) : ∀ u ∈ inN l, u.oneCell' = true := by
  intro u hu; obtain ⟨k, _, rfl⟩ := List.mem_map.1 hu; rfl
theorem intinfo : (Try.prog.info? 3).map (fun i => (i.zero, i.size, i.bytes)) = some (some (.int .i64 0), 1, 8) := by kernel_rfl
theorem ndinfo : (Try.prog.info? 76).map (fun i => (i.zero, i.size, i.bytes)) = some (some (.agg #[.int .i64 0, .int .i64 0]), 2, 16) := by kernel_rfl
/-- a store behind the row's end -/
theorem own_beyond {w : World} {base n size cap g : Nat} {e : TypeId} {xs : List Value} (h : w.ownsRow base e size (.slice (some ⟨g, 0, none⟩) n cap) n xs) (j : Nat) (hj : n * size ≤ j) (u : Value) :
    (w.setCell ⟨g, j, none⟩ u).ownsRow base e size (.slice (some ⟨g, 0, none⟩) n cap) n xs := by
  refine ⟨h.1, ?_⟩
  rcases h.2 with ⟨h0, _⟩ | ⟨g', cap', cur, hv, hb, hh, h1, h2, h3, h4⟩
  · cases h0
  · injection hv with hv1 _ hv2
    injection hv1 with hv1
    injection hv1 with hv1
    subst hv1
    subst hv2
    refine .inr ⟨g, cap, cur.setIfInBounds j u, rfl, hb, ?_, h1, h2, by simpa using h3, ?_⟩
    · have := Blk.set_ (w := w) (g := g) (t := e) (cs := cur) hh j u
      exact this
    · rw [← h4, Array.toList_setIfInBounds, List.take_set_of_le hj]
/-- a shorter row in the same block -/
theorem own_short {w : World} {base n k size cap g : Nat} {e : TypeId} {xs : List Value} (h : w.ownsRow base e size (.slice (some ⟨g, 0, none⟩) n cap) n xs) (hk : k ≤ n) :
    w.ownsRow base e size (.slice (some ⟨g, 0, none⟩) k cap) k (xs.take (k * size)) := by
  rcases h.2 with ⟨h0, _⟩ | ⟨g', cap', cur, hv, hb, hh, h1, h2, h3, h4⟩
  · cases h0
  · injection hv with hv1 _ hv2
    injection hv1 with hv1
    injection hv1 with hv1
    subst hv1
    subst hv2
    have hle : k * size ≤ n * size := Nat.mul_le_mul_right _ hk
    refine ⟨by rw [List.length_take, h.1]; omega, .inr ⟨g, cap, cur, rfl, hb, hh, by omega, h2, h3, ?_⟩⟩
    rw [← h4, List.take_take, Nat.min_eq_left hle]
theorem own_room {w : World} {base n size cap g : Nat} {e : TypeId} {xs : List Value} (h : w.ownsRow base e size (.slice (some ⟨g, 0, none⟩) n cap) n xs) {j : Nat} (hj : j < cap * size) :
    (w.cell? ⟨g, j, none⟩).isSome = true ∧ w.frozen? ⟨g, j, none⟩ = false := by
  rcases h.2 with ⟨h0, _⟩ | ⟨g', cap', cur, hv, hb, hh, h1, h2, h3, h4⟩
  · cases h0
  · injection hv with hv1 _ hv2
    injection hv1 with hv1
    injection hv1 with hv1
    subst hv1
    subst hv2
    refine ⟨?_, Blk.free (cs := cur) (t := e) hh j⟩
    rw [cell_of_row w g j cur e (0, 0) hh]
    simp [h3, hj]
theorem eraseIdx_take_drop {α : Type} (l : List α) (k : Nat) : l.eraseIdx k = l.take k ++ l.drop (k + 1) := List.eraseIdx_eq_take_drop_succ l k
end Go.Proofs.Ytknjjodkpknglaa
