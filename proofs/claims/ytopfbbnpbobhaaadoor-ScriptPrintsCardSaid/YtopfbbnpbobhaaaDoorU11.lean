/- A row of bytes made of a string: no cell of it is frozen, though it bears a mark. Appending strings onto it. -/
import Derived.Test.YtopfbbnpbobhaaaDoorU10
import Derived.Lib.FrozenHead
set_option linter.unusedVariables false
set_option linter.unusedSimpArgs false
namespace Go.Proofs.YtopfbbnpbobhaaaDoor
open Go.RowKit Go.Sal

def noFz (cur : Array Value) (fz : Nat × Nat) : Prop := ∀ i, i < cur.size → ¬ (fz.1 ≤ i ∧ i < fz.2)
/-- the slice owns the bytes; its row may bear a mark -/
def OwnM (base : Nat) (A : Option Addr) (c : Nat) (b : List UInt8) (w : World) : Prop :=
  ∃ g cur fz, A = some ⟨g, 0, none⟩ ∧ base ≤ g ∧ w.heap[g]? = some (.cells cur 5 fz) ∧ noFz cur fz ∧ b.length ≤ c ∧ c ≤ maxLen ∧ cur.size = c ∧ cur.toList.take b.length = byteCells b
theorem storeM (P : Program) (g o : Nat) (t : TypeId) (fz : Nat × Nat) : ∀ (vs : List Value) (i : Nat) (cur : Array Value) (w : World), w.heap[g]? = some (.cells cur t fz) → noFz cur fz → o + i + vs.length ≤ cur.size → (∀ v ∈ vs, v.oneCell' = true) →
    (storeCells ⟨g, o, none⟩ vs i).run P w = .ok () (w.setRow g (cur.toList.take (o + i) ++ vs ++ cur.toList.drop (o + i + vs.length)).toArray) := by
  intro vs
  induction vs with
  | nil =>
    intro i cur w hg _ _ _
    simp only [storeCells, List.append_nil, List.length_nil, Nat.add_zero, List.take_append_drop, Array.toArray_toList]
    rw [setRow_self w g cur t fz hg]
    rfl
  | cons v rest ih =>
    intro i cur w hg hfz hl h1
    have hi : o + i < cur.size := by simp at hl; omega
    have hadd : (⟨g, o, none⟩ : Addr).add i = ⟨g, o + i, none⟩ := add_mk ..
    have hcell : w.cell? ⟨g, o + i, none⟩ = some cur[o + i] := by simp [World.cell?, hg, hi]
    have hfro : w.frozen? ⟨g, o + i, none⟩ = false := by
      obtain ⟨lo, hi'⟩ := fz
      have := hfz (o + i) hi
      simp only [World.frozen?, hg]
      rw [Bool.and_eq_false_iff, decide_eq_false_iff_not, decide_eq_false_iff_not]
      simp only at this
      omega
    have hst : (store ((⟨g, o, none⟩ : Addr).add i) v).run P w = .ok () (w.setRow g (cur.setIfInBounds (o + i) v)) := by
      rw [hadd, run_store P w _ v _ (h1 v (by simp)), hcell]
      simp [hfro, setCell_eq_setRow w g (o + i) cur t fz v hg]
    have ih' := ih (i + 1) (cur.setIfInBounds (o + i) v) (w.setRow g (cur.setIfInBounds (o + i) v)) (setRow_heap w g cur _ t _ hg) (fun j hj => hfz j (by simpa using hj)) (by simp at hl ⊢; omega) (fun x hx => h1 x (by simp [hx]))
    simp only [storeCells, Sem.run_bind, hst, Result.andThen_ok, ih', setRow_setRow]
    congr 3
    have e := list_seg_step cur.toList (o + i) v rest (by simp at hl ⊢; omega)
    simpa [Array.toList_setIfInBounds, Nat.add_assoc] using e
/-- append of a string -/
theorem appM {base : Nat} {A : Option Addr} {c : Nat} {b : List UInt8} {w : World} (h : OwnM base A c b w) (hB : base ≤ w.heap.size) (t : List UInt8) (hl : b.length + t.length ≤ 100000000) :
    ∃ A' c' w7, (Builtin.append_ #[22, 9] 22 #[.slice A b.length c, .string ⟨t.toArray⟩]).run Tryd.prog w = .ok (.slice A' (b.length + t.length) c') w7 ∧ Hid (OwnM base A' c' (b ++ t) w7 ∧ Below base w w7) := by
  obtain ⟨g, cur, fz, rfl, hbg, hg, hfz, hbc, hcm, hcs, htk⟩ := h
  obtain ⟨i, hi, hz, hs, hby⟩ := info5p
  have hsz : (⟨t.toArray⟩ : ByteArray).size = t.length := rfl
  have hcl : Lib.strCells ⟨t.toArray⟩ = byteCells t := by simp [Lib.strCells, byteCells]
  have hbl : (byteCells b).length = b.length := by simp [byteCells]
  have hbt : (byteCells t).length = t.length := by simp [byteCells]
  have hbb : byteCells (b ++ t) = byteCells b ++ byteCells t := by simp [byteCells]
  by_cases hroom : b.length + t.length ≤ c
  · have hf := Lib.run_firstCells_string (P := Tryd.prog) w 1 ⟨t.toArray⟩
    have hst := storeM Tryd.prog g b.length 5 fz (byteCells t) 0 cur w hg hfz (by rw [hbt]; omega) (by rw [← hcl]; exact Lib.strCells_oneCell _)
    have hrun : (Builtin.append_ #[22, 9] 22 #[.slice (some ⟨g, 0, none⟩) b.length c, .string ⟨t.toArray⟩]).run Tryd.prog w = .ok (.slice (some ⟨g, 0, none⟩) (b.length + t.length) c) (w.setRow g (cur.toList.take b.length ++ byteCells t ++ cur.toList.drop (b.length + t.length)).toArray) := by
      rw [hcl] at hf
      simp only [Nat.add_zero, hbt] at hst
      rw [hsz] at hf
      simp [Builtin.append_, run_underlying Tryd.underlying22, run_underlying Tryd.underlying9, sizeOf, typeInfo, hi, hs, Builtin.lenOf, hroom, hsz, hf, Addr.add_lit, hst]
    refine ⟨_, _, _, hrun, Lib.hid ⟨⟨g, _, fz, rfl, hbg, setRow_heap w g cur _ 5 _ hg, ?_, by rw [List.length_append]; exact hroom, hcm, ?_, ?_⟩, ?_⟩⟩
    · intro j hj
      refine hfz j ?_
      simp only [List.size_toArray, List.length_append, List.length_take, List.length_drop, Array.length_toList, hbt] at hj
      omega
    · simp only [List.size_toArray, List.length_append, List.length_take, List.length_drop, Array.length_toList, hbt]
      omega
    · rw [htk, ← hbb]
      have : (b ++ t).length = (byteCells (b ++ t)).length := by simp [byteCells]
      rw [this]
      exact List.take_left
    · exact ⟨rfl, rfl, rfl, by simp, fun k hk => setRow_other w g k _ (fun e => by omega)⟩
  · have holds : ∀ j u, (byteCells b)[j]? = some u → w.cell? ((⟨g, 0, none⟩ : Addr).add j) = some u := fun j u hu => by
      rw [add_mk, Nat.zero_add, cell_of_row w g j cur 5 fz hg]
      rw [← htk, List.getElem?_take] at hu
      split at hu
      · simpa using hu
      · cases hu
    have hr := Lib.run_append_grow_string (P := Tryd.prog) w 22 9 22 5 i (.int .u8 0) Tryd.underlying22 Tryd.underlying9 hi hz ⟨g, 0, none⟩ b.length c (byteCells b) (by rw [hs, hbl]; omega) holds ⟨t.toArray⟩ (by rw [hsz]; omega) (by rw [hsz]; omega) (by rw [hby, hsz]; exact growslice_fits (by omega) (by omega))
    rw [hsz] at hr
    have hge := grownCap_ge w (b.length + t.length) c 5
    have hcm2 : grownCap w (b.length + t.length) c 5 ≤ maxLen := grownCap_le_maxLen w (b.length + t.length) c 5 (by unfold maxLen; omega)
    refine ⟨_, _, _, hr, Lib.hid ⟨⟨w.heap.size, _, (0, 0), rfl, hB, heap_alloc_new w.drew _, fun j _ => by simp, by rw [List.length_append]; exact hge, hcm2, ?_, ?_⟩, ?_⟩⟩
    · have hz1 : (Value.int IntKind.u8 0).cells.size = 1 := rfl
      rw [hcl]
      simp only [Array.size_append, List.size_toArray, size_zeroCells, hz1, hbl, hbt]
      omega
    · rw [hcl]
      simp only [Array.toList_append, List.append_assoc]
      rw [← List.append_assoc, ← hbb]
      have : (b ++ t).length = (byteCells (b ++ t)).length := by simp [byteCells]
      rw [this]
      exact List.take_left
    · exact ⟨rfl, rfl, rfl, by simp, fun k hk => Below.heap_alloc w.drew _ k (Nat.lt_of_lt_of_le hk hB)⟩
/-- []byte(s), owned -/
theorem conv_own (base : Nat) (l : List UInt8) (w : World) (hB : base ≤ w.heap.size) (hl : l.length ≤ 100000000) : ∃ (cap : Nat) (w2 : World), (convert 9 22 (.string ⟨l.toArray⟩)).run Tryd.prog w = .ok (.slice (some ⟨w.heap.size, 0, none⟩) l.length cap) w2 ∧
    Hid (OwnM base (some ⟨w.heap.size, 0, none⟩) cap l w2 ∧ Keep [] w w2) := by
  have hr := run_bytes_of_string (P := Tryd.prog) w 9 22 5 ⟨l.toArray⟩ Tryd.underlying9 Tryd.underlying22 Tryd.underlying5
  have hge := grownCap_ge w l.length 0 5
  have hcm2 : grownCap w l.length 0 5 ≤ maxLen := grownCap_le_maxLen w l.length 0 5 (by unfold maxLen; omega)
  have hsz : (⟨l.toArray⟩ : ByteArray).size = l.length := rfl
  refine ⟨_, _, hr, Lib.hid ⟨⟨w.heap.size, _, _, rfl, hB, World.alloc_heap_new _ _, fun j hj => ?_, hge, hcm2, ?_, ?_⟩, ((Keep.refl [] w).drew).alloc _⟩⟩
  · dsimp only; omega
  · rw [hsz]
    simp [bytesRow, hsz]
    omega
  · have e : (bytesRow ⟨l.toArray⟩ (grownCap w (⟨l.toArray⟩ : ByteArray).size 0 5)).toList = byteCells l ++ List.replicate (grownCap w l.length 0 5 - l.length) (.int .u8 0) := by
      simp [bytesRow, byteCells, hsz]
    rw [e]
    have : l.length = (byteCells l).length := by simp [byteCells]
    rw [this]
    exact List.take_left
theorem OwnM.keep {base : Nat} {A : Option Addr} {c : Nat} {b : List UInt8} {w w' : World} (h : OwnM base A c b w) (k : Keep [] w w') : OwnM base A c b w' := by
  obtain ⟨g, cur, fz, h1, h2, h3, h4⟩ := h
  exact ⟨g, cur, fz, h1, h2, (k.block g (lt_of_some h3) List.not_mem_nil).trans h3, h4⟩
theorem OwnM.rd {base : Nat} {A : Option Addr} {c : Nat} {b : List UInt8} {w : World} (h : OwnM base A c b w) : RD encB w A b := fun hn => by
  obtain ⟨g, cur, fz, h1, h2, h3, h4, h5, h6, h7, h8⟩ := h
  refine ⟨g, 0, h1, lt_of_some h3, fun j hj => ?_⟩
  rw [Nat.zero_add, cell_of_row w g j cur 5 fz h3]
  have : (cur.toList.take b.length)[j]? = (byteCells b)[j]? := by rw [h8]
  rw [List.getElem?_take_of_lt hj] at this
  simpa [byteCells, hj, encB] using this
end Go.Proofs.YtopfbbnpbobhaaaDoor
