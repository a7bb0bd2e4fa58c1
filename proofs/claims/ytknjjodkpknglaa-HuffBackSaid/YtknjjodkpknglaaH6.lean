/- deep: in how many nodes each symbol stands. -/
import Derived.Test.YtknjjodkpknglaaH5
import Derived.Test.YtknjjodkpknglaaHfQ
set_option linter.unusedVariables false
set_option linter.unusedSimpArgs false
namespace Go.Proofs.Ytknjjodkpknglaa
open Go.RowKit Go.Sal Go.Huf
theorem made_ints : ∀ n : Nat, (madeCells (Value.int .i64 0).cells (n * 1)).toList = inI (List.replicate n 0) := fun n => by
  apply List.ext_getElem
  · simp [madeCells, inI, Value.cells]
  · intro i h1 h2
    simp [madeCells, inI, Value.cells, Nat.mod_one]
/-- make([]int, n) -/
theorem wpList_make_ints {w : World} {ops : Array Oper} {rest : List Oper} {o : Oper} {a : Act} {Q : Exit → Act → World → Prop} (base n : Nat)
    (hg : o.guard = none) (l c : Operand) (hop : o.op = Op.makeSlice 22 l c) (hl : a.eval l = .int .i64 (n : Int)) (hc : a.eval c = .int .i64 (n : Int)) (hn : n ≤ 1000000) (hB : base ≤ w.heap.size)
    (hK : ∀ w', w'.ownsRow base 3 1 (.slice (some ⟨w.heap.size, 0, none⟩) n n) n (inI (List.replicate n 0)) → Keep [] w w' → wpList Try.prog ops Q rest (a.put o.dst (.slice (some ⟨w.heap.size, 0, none⟩) n n)) w') :
    wpList Try.prog ops Q (o :: rest) a w := by
  obtain ⟨i, hi, hz, hs, hby⟩ : ∃ i, Try.prog.info? 3 = some i ∧ i.zero = some (.int .i64 0) ∧ i.size = 1 ∧ i.bytes = 8 := by
    cases hx : Try.prog.info? 3 with
    | none => have := intinfo; rw [hx] at this; cases this
    | some i =>
      have := intinfo
      rw [hx] at this
      simp only [Option.map_some, Option.some.injEq, Prod.mk.injEq] at this
      exact ⟨i, rfl, this.1, this.2.1, this.2.2⟩
  refine wpList_make_full w hg l c 22 hop base 3 i (.int .i64 0) 1 Try.underlying22 hi hz hs .i64 .i64 _ _ n hl hc rfl rfl (by rw [hby]; omega) (by unfold maxLen; omega) hB ?_
  intro w' h1 h2
  rw [made_ints] at h1
  exact hK w' h1 ((Keep.refl [] w).grown h2 (fun k hk => by cases hk))
/-- the row of what has been found for the first i -/
def dRow (cs : List Int) (i : Nat) : List Int := ((List.range i).map fun j => (dAt cs j : Int)) ++ List.replicate (cs.length - i) 0
theorem dRow_len {cs : List Int} {i : Nat} (h : i ≤ cs.length) : (dRow cs i).length = cs.length := by
  simp [dRow]; omega
theorem dRow_zero (cs : List Int) : dRow cs 0 = List.replicate cs.length 0 := by simp [dRow]
theorem dRow_all (cs : List Int) : dRow cs cs.length = (depths cs).map fun (k : Nat) => (k : Int) := by simp [dRow, depths]
theorem dRow_succ {cs : List Int} {i : Nat} (h : i < cs.length) (x : Int) (hx : x = dAt cs i) : (dRow cs i).set i x = dRow cs (i + 1) := by
  subst hx
  unfold dRow
  rw [List.range_succ, List.map_append, List.set_append_right _ _ (by simp)]
  simp only [List.length_map, List.length_range, Nat.sub_self, List.map_cons, List.map_nil, List.append_assoc]
  congr 1
  obtain ⟨m, hm⟩ : ∃ m, cs.length - i = m + 1 := ⟨cs.length - i - 1, by omega⟩
  rw [hm, show cs.length - (i + 1) = m by omega, List.replicate_succ]
  rfl
theorem dRow_skip {cs : List Int} {i : Nat} (h : i < cs.length) (hz : dAt cs i = 0) : dRow cs (i + 1) = dRow cs i := by
  unfold dRow
  obtain ⟨m, hm⟩ : ∃ m, cs.length - i = m + 1 := ⟨cs.length - i - 1, by omega⟩
  rw [List.range_succ, List.map_append, hm, show cs.length - (i + 1) = m by omega, List.replicate_succ]
  simp [hz]
theorem inI_cell {w : World} {base g n cap i : Nat} {l : List Int} (h : w.ownsRow base 3 1 (.slice (some ⟨g, 0, none⟩) n cap) n (inI l)) (hi : i < l.length) :
    w.cell? ⟨g, i, none⟩ = some (.int .i64 l[i]) ∧ w.frozen? ⟨g, i, none⟩ = false := ownsRow_cell h (show (inI l)[i]? = some (.int .i64 l[i]) by simp [inI, hi])
theorem inI_set {w : World} {base g n cap i : Nat} {l : List Int} (h : w.ownsRow base 3 1 (.slice (some ⟨g, 0, none⟩) n cap) n (inI l)) (hi : i < n) (x : Int) :
    (w.setCell ⟨g, i, none⟩ (.int .i64 x)).ownsRow base 3 1 (.slice (some ⟨g, 0, none⟩) n cap) n (inI (l.set i x)) := by
  have h1 := ownsRow_set h i (by omega) (.int .i64 x)
  rw [show (inI l).set i (.int .i64 x) = inI (l.set i x) by simp [inI, List.map_set]] at h1
  exact h1
end Go.Proofs.Ytknjjodkpknglaa
