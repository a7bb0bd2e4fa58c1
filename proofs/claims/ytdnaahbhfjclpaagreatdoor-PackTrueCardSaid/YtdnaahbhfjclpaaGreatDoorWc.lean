/- Sums of bytes, walked. -/
import Derived.Test.YtdnaahbhfjclpaaGreatDoorBase
import Derived.Carry
import Derived.Maps.Keyed
import Derived.Maps.RangeRun
import Derived.OrdersHeld
import Derived.Deep.QuietTactic
import Derived.Tactics
import Derived.KernelRfl
import Derived.Test.YtdnaahbhfjclpaaGreatDoorProg
import Derived.Lib.Hide
import Derived.Lib.MinMax
import Derived.Lib.SliceRun
import Derived.Deep.LoopGhost
import Derived.Laws.BitsAllLaws
import Derived.LoopTactic
set_option linter.unusedVariables false
set_option linter.unusedSimpArgs false
namespace Go.Sal
open Go.RowKit
section
variable {P : Program} (w : World)
def Src (w : World) (size : Nat) (A : Option Addr) (m : Nat) (news : List Value) : Prop :=
  news.length = m * size ∧ (0 < m → ∃ a, A = some a ∧ ∀ j u, news[j]? = some u → w.cell? (a.add j) = some u)
theorem run_append_nil_src (base : Nat) (t ty e : TypeId) (i : TypeInfo) (size : Nat) (ht : P.underlying t = some (.slice e)) (hi : P.info? e = some i)
    (v : Value) (n : Nat) (xs : List Value) (hown : w.ownsRow base e size v n xs) (c : Nat) : (Builtin.append_ #[t, t] ty #[v, .slice none 0 c]).run P w = .ok v w := by
  rcases hown.2 with ⟨rfl, rfl⟩ | ⟨g, cap, cur, rfl, _, _, hnc, _⟩
  · simp [Builtin.append_, run_underlying ht, sizeOf, typeInfo, hi, Builtin.lenOf, Builtin.firstCells]
  · simp [Builtin.append_, run_underlying ht, sizeOf, typeInfo, hi, Builtin.lenOf, Builtin.firstCells, hnc, storeCells]
theorem run_append_src (t ty e : TypeId) (z : Value) (size bytes base : Nat) (ht : P.underlying t = some (.slice e))
    (hinfo : (P.info? e).map (fun i => (i.zero, i.size, i.bytes)) = some (some z, size, bytes)) (hzs : z.cells.size = size) (hsz : 0 < size)
    (v : Value) (n : Nat) (xs : List Value) (hown : w.ownsRow base e size v n xs)
    (A : Option Addr) (m c : Nat) (news : List Value) (hs : Src w size A m news) (h1 : ∀ u ∈ news, u.oneCell' = true)
    (h63 : n + m ≤ maxLen) (hbytes : (n + m) * bytes ≤ 140737488355328) (hbase : base ≤ w.heap.size) :
    ∃ v' w', (Builtin.append_ #[t, t] ty #[v, .slice A m c]).run P w = .ok v' w' ∧ w'.ownsRow base e size v' (n + m) (xs ++ news) ∧ w.grownBy w' v.ownBlock ∧
      (v'.ownBlock = v.ownBlock ∨ v'.ownBlock = some w.heap.size) := by
  obtain ⟨i, hi, hz, hsize, hby⟩ : ∃ i, P.info? e = some i ∧ i.zero = some z ∧ i.size = size ∧ i.bytes = bytes := by
    cases hx : P.info? e with
    | none => rw [hx] at hinfo; cases hinfo
    | some i =>
      rw [hx] at hinfo
      simp only [Option.map_some, Option.some.injEq, Prod.mk.injEq] at hinfo
      exact ⟨i, rfl, hinfo.1, hinfo.2.1, hinfo.2.2⟩
  rcases A with _ | ad
  · have hm : m = 0 := by
      rcases Nat.eq_zero_or_pos m with h0 | h0
      · exact h0
      · obtain ⟨ad, h, _⟩ := hs.2 h0
        cases h
    subst hm
    have hn : news = [] := List.eq_nil_of_length_eq_zero (by simpa using hs.1)
    subst hn
    exact ⟨v, w, run_append_nil_src w base t ty e i size ht hi v n xs hown c, by simpa using hown, ⟨rfl, rfl, rfl, Nat.le_refl _, fun _ _ _ => rfl⟩, .inl rfl⟩
  · have hcells : ∀ j u, news[j]? = some u → w.cell? (ad.add j) = some u := by
      intro j u hu
      rcases Nat.eq_zero_or_pos m with h0 | h0
      · subst h0
        have hn : news = [] := List.eq_nil_of_length_eq_zero (by simpa using hs.1)
        subst hn
        simp at hu
      · obtain ⟨ad', h, hc⟩ := hs.2 h0
        injection h with h
        subst h
        exact hc j u hu
    obtain ⟨v', w', hrun, h2, h3, _, h5⟩ := run_append_own_at (P := P) w base t ty e i z size bytes ht hi hz hsize hby hzs hsz v n xs hown ad m c news hs.1 hcells h1 h63 hbytes hbase
    exact ⟨v', w', hrun, h2, h3, h5⟩
end
section
variable {base : Nat} {tb : TypeId} {w w' : World} {v : Value} {bs : List UInt8} {F : List Nat}
def byteCells (bs : List UInt8) : List Value := bs.map fun b => .int .u8 b.toNat
theorem byteCells_len (bs : List UInt8) : (byteCells bs).length = bs.length := by simp [byteCells]
theorem Reads.src {A : Option Addr} {n c : Nat} (h : Reads base tb w (.slice A n c) bs) : n = bs.length ∧ Src w 1 A n (byteCells bs) := by
  obtain ⟨A', c', h0, h1, h2, h3⟩ := h
  injection h0 with e1 e2 e3
  subst e1; subst e2; subst e3
  refine ⟨rfl, by simp [byteCells], fun hn => ?_⟩
  obtain ⟨a, rfl, _, hc⟩ := h3 (fun e => by subst e; simp at hn)
  refine ⟨a, rfl, fun j u hu => ?_⟩
  simp only [byteCells, List.getElem?_map, Option.map_eq_some_iff] at hu
  obtain ⟨b, hb, rfl⟩ := hu
  obtain ⟨hj, rfl⟩ := List.getElem?_eq_some_iff.1 hb
  exact hc j hj
theorem Reads.of_own {n : Nat} (h : w.ownsRow base tb 1 v n (byteCells bs)) : Reads base tb w v bs := by
  have hl := h.1
  rw [byteCells_len] at hl
  have hn : n = bs.length := by omega
  subst hn
  rcases h.2 with ⟨rfl, h0⟩ | ⟨g, cap, cur, rfl, hb, hh, hc, hm, hs, ht⟩
  · exact ⟨none, 0, by rw [h0], by omega, by simp [maxLen], fun hne => absurd (List.eq_nil_of_length_eq_zero h0) hne⟩
  · refine ⟨some ⟨g, 0, none⟩, cap, rfl, hc, hm, fun _ => ⟨_, rfl, ⟨lt_of_some hh, .inr ⟨_, _, hh⟩⟩, fun i hi => ?_⟩⟩
    refine h.cells (g := g) rfl i _ ?_
    simp [byteCells, hi]
end
theorem ownsRow_keep {base n size : Nat} {e : TypeId} {v : Value} {xs : List Value} {w w' : World} {F : List Nat} (h : w.ownsRow base e size v n xs) (k : Keep F w w') (hn : ∀ g, v.ownBlock = some g → g ∉ F) : w'.ownsRow base e size v n xs := by
  refine ⟨h.1, ?_⟩
  rcases h.2 with h0 | ⟨g, cap, cur, rfl, hb, hh, r⟩
  · exact .inl h0
  · exact .inr ⟨g, cap, cur, rfl, hb, (k.block g (lt_of_some hh) (hn g rfl)).trans hh, r⟩
theorem own_ne_map {base n size b : Nat} {e : TypeId} {v : Value} {xs : List Value} {w : World} {es : Array MapEntry} {cl : Nat} (h : w.ownsRow base e size v n xs) (hm : w.heap[b]? = some (.map es cl)) : v.ownBlock ≠ some b := by
  rcases h.2 with ⟨rfl, _⟩ | ⟨g, cap, cur, rfl, _, hh, _⟩
  · simp [Value.ownBlock]
  · intro he
    have : g = b := by simpa [Value.ownBlock] using he
    subst this
    rw [hh] at hm
    cases hm
theorem own_ne_blk {base n size g : Nat} {e t : TypeId} {v : Value} {xs : List Value} {w : World} {cs : Array Value} (h : w.ownsRow base e size v n xs) (hb : Blk w g t cs) (hne : e ≠ t) : v.ownBlock ≠ some g := by
  rcases h.2 with ⟨rfl, _⟩ | ⟨g', cap, cur, rfl, _, hh, _⟩
  · simp [Value.ownBlock]
  · intro he
    have : g' = g := by simpa [Value.ownBlock] using he
    subst this
    unfold Blk at hb
    rw [hh] at hb
    injection hb with hb
    injection hb with _ hb
    exact hne hb
theorem src_new (w : World) (t : TypeId) (size : Nat) (cs : List Value) (h : cs.length = size) : Src (w.alloc (.cells cs.toArray t)) size (some ⟨w.heap.size, 0, none⟩) 1 cs :=
  ⟨by omega, fun _ => ⟨_, rfl, fun j u hu => by rw [add_mk, Nat.zero_add, (Blk.new w t cs.toArray).cell j]; simpa using hu⟩⟩
theorem slice_head {P : Program} (t e : TypeId) (ht : P.underlying t = some (.slice e)) (A : Option Addr) (n cap k : Nat) (hk : k ≤ cap) (W : World) (size : Nat) (hs : (P.info? e).map (·.size) = some size) :
    (Instr.slice t (.slice A n cap) none (some (.int .i64 (k : Int))) none).run P W = .ok (.slice A k cap) W := by
  cases hx : P.info? e with
  | none => rw [hx] at hs; cases hs
  | some i =>
    have h0 : (0 : Int) ≤ (k : Int) ∧ (k : Int) ≤ (cap : Int) := by omega
    simp [Instr.slice, run_underlying ht, Instr.sliceBounds, Instr.sliceBound, asIntOf, hk, sizeOf, typeInfo, hx]
    by_cases hc : cap = 0
    · simp [hc]
    · cases A <;> simp [hc, Addr.add]
theorem slice_tail {P : Program} (t e : TypeId) (ht : P.underlying t = some (.slice e)) (A : Option Addr) (n cap k : Nat) (hk : k ≤ n) (W : World) (size : Nat) (hs : (P.info? e).map (·.size) = some size) :
    (Instr.slice t (.slice A n cap) (some (.int .i64 (k : Int))) none none).run P W = .ok (.slice (if cap = k then A else A.map (·.add (k * size))) (n - k) (cap - k)) W := by
  cases hx : P.info? e with
  | none => rw [hx] at hs; cases hs
  | some i =>
    rw [hx] at hs
    simp at hs
    subst hs
    simp [Instr.slice, run_underlying ht, Instr.sliceBounds, Instr.sliceBound, asIntOf, hk, sizeOf, typeInfo, hx]
theorem Src.tail {w : World} {size n k cap : Nat} {A : Option Addr} {xs : List Value} (h : Src w size A n xs) (hk : k ≤ n) (hc : n ≤ cap) :
    Src w size (if cap = k then A else A.map (·.add (k * size))) (n - k) (xs.drop (k * size)) := by
  refine ⟨by rw [List.length_drop, h.1, Nat.sub_mul], fun h0 => ?_⟩
  obtain ⟨a, rfl, hcell⟩ := h.2 (by omega)
  rw [if_neg (by omega)]
  refine ⟨_, rfl, fun j u hu => ?_⟩
  rw [add_add]
  exact hcell _ u (by rw [← hu, List.getElem?_drop])
theorem Src.keep {w w' : World} {size n : Nat} {A : Option Addr} {xs : List Value} {F : List Nat} (h : Src w size A n xs) (k : Keep F w w') (hA : ∀ a, A = some a → a.block < w.heap.size ∧ a.block ∉ F) : Src w' size A n xs := by
  refine ⟨h.1, fun h0 => ?_⟩
  obtain ⟨a, rfl, hc⟩ := h.2 h0
  obtain ⟨h1, h2⟩ := hA a rfl
  exact ⟨a, rfl, fun j u hu => (k.cell (by rw [add_block]; exact h1) (by rw [add_block]; exact h2)).trans (hc j u hu)⟩
theorem Src.of_own {base size n cap : Nat} {e : TypeId} {A : Option Addr} {xs : List Value} {w : World} (h : w.ownsRow base e size (.slice A n cap) n xs) : Src w size A n xs := by
  refine ⟨h.1, fun h0 => ?_⟩
  rcases h.2 with ⟨_, h1⟩ | ⟨g, c, cur, hv, _⟩
  · omega
  · injection hv with hv
    subst hv
    exact ⟨_, rfl, h.cells (g := g) rfl⟩
section
variable {P : Program} {w w' : World} {o : Oper} {a : Act} {Q : Exit → Act → World → Prop} {v1 v2 r : Value} {t1 t2 : TypeId}
theorem wp_append2 {K : Act → World → Prop} (s x : Operand) (ho : o.op = .call { callee := .builtin .append, args := #[s, x], argTypes := #[t1, t2] })
    (hs : a.eval s = v1) (hx : a.eval x = v2) (hrun : (Builtin.append_ #[t1, t2] o.type #[v1, v2]).run P w = .ok r w') (h : K (a.put o.dst r) w') : o.wp P a w K Q := by
  unfold Oper.wp execOp
  simp only [ho, resolve, invoke, builtin, Sem.run_bind, Sem.run_pure, Result.andThen_ok, List.map_toArray, List.map_cons, List.map_nil, hs, hx, hrun]
  exact h
theorem wpList_append2 {ops : Array Oper} {rest : List Oper} (hgd : o.guard = none) (s x : Operand) (ho : o.op = .call { callee := .builtin .append, args := #[s, x], argTypes := #[t1, t2] })
    (hs : a.eval s = v1) (hx : a.eval x = v2) (hrun : (Builtin.append_ #[t1, t2] o.type #[v1, v2]).run P w = .ok r w') (h : wpList P ops Q rest (a.put o.dst r) w') : wpList P ops Q (o :: rest) a w :=
  wpList_plain hgd fun _ hK => wp_append2 s x ho hs hx hrun (hK _ _ h)
end
theorem run_empty_slice {P : Program} (t e : TypeId) (z : Option Value) (size bytes : Nat) (ht : P.underlying t = some (.slice e))
    (hinfo : (P.info? e).map (fun i => (i.zero, i.size, i.bytes)) = some (z, size, bytes)) (w : World) :
    (Instr.buildSlice t 0 #[]).run P w = .ok (.slice (some ⟨w.heap.size, 0, none⟩) 0 0) (w.alloc (.cells #[] e)) := by
  cases hx : P.info? e with
  | none => rw [hx] at hinfo; cases hinfo
  | some i => simp [Instr.buildSlice, run_underlying ht, sizeOf, typeInfo, hx, Instr.fill, newRow, show (Array.range 0) = #[] from Array.eq_empty_of_size_eq_zero (by simp)]
structure MapIs (w : World) (b : Nat) (l : List (Int × Value)) (es : Array MapEntry) (cl : Nat) : Prop where
  heap : w.heap[b]? = some (.map es cl)
  rows : es.toList.map (fun e => (e.key, e.val)) = l.map fun p => (Value.int .i64 p.1, p.2)
  born : (es.toList.map (·.born)).Nodup
  old : ∀ e ∈ es.toList, e.born < cl
theorem MapIs.keep {F : List Nat} {w w' : World} {b : Nat} {l : List (Int × Value)} {es : Array MapEntry} {cl : Nat} (h : MapIs w b l es cl) (k : Keep F w w') (hn : b ∉ F) : MapIs w' b l es cl :=
  ⟨(k.block b (lt_of_some h.heap) hn).trans h.heap, h.rows, h.born, h.old⟩
section
variable {P : Program} {w : World} {b : Nat} {l : List (Int × Value)} {es : Array MapEntry} {cl : Nat} {t k e : TypeId}
theorem map_eraseIdx' {α β : Type} (f : α → β) (l : List α) (j : Nat) : (l.eraseIdx j).map f = (l.map f).eraseIdx j := by
  induction l generalizing j with
  | nil => simp
  | cons x l ih => cases j <;> simp [ih]
end
end Go.Sal

namespace Go.Sal
open Go.RowKit
section
variable {α : Type} {f : α → List Value} {size : Nat}
theorem rf_get (hf : ∀ x, (f x).length = size) : ∀ (l : List α) (k j : Nat) (hk : k < l.length) (hj : j < size), (l.flatMap f)[k * size + j]? = (f l[k])[j]?
  | [], k, j, hk, _ => by simp at hk
  | x :: l, 0, j, _, hj => by
    rw [List.flatMap_cons, Nat.zero_mul, Nat.zero_add, List.getElem?_append_left (by rw [hf]; exact hj)]
    rfl
  | x :: l, k + 1, j, hk, hj => by
    rw [List.flatMap_cons, List.getElem?_append_right (by rw [hf, Nat.add_mul]; omega), hf]
    have e : (k + 1) * size + j - size = k * size + j := by rw [Nat.add_mul]; omega
    rw [e, rf_get hf l k j (by simpa using hk) hj]
    rfl
theorem rf_set (hf : ∀ x, (f x).length = size) : ∀ (l : List α) (k j : Nat) (hk : k < l.length) (hj : j < size) (u : Value) (x' : α), f x' = (f l[k]).set j u → (l.flatMap f).set (k * size + j) u = (l.set k x').flatMap f
  | [], k, j, hk, _, _, _, _ => by simp at hk
  | x :: l, 0, j, _, hj, u, x', h => by
    rw [List.flatMap_cons, Nat.zero_mul, Nat.zero_add, List.set_append_left _ _ (by rw [hf]; exact hj), List.set_cons_zero, List.flatMap_cons, h]
    rfl
  | x :: l, k + 1, j, hk, hj, u, x', h => by
    rw [List.flatMap_cons, List.set_append_right _ _ (by rw [hf, Nat.add_mul]; omega), hf]
    have e : (k + 1) * size + j - size = k * size + j := by rw [Nat.add_mul]; omega
    rw [e, rf_set hf l k j (by simpa using hk) hj u x' h, List.set_cons_succ, List.flatMap_cons]
end
theorem ownsRow_set {w : World} {base n size cap g : Nat} {e : TypeId} {xs : List Value} (h : w.ownsRow base e size (.slice (some ⟨g, 0, none⟩) n cap) n xs) (j : Nat) (hj : j < n * size) (u : Value) :
    (w.setCell ⟨g, j, none⟩ u).ownsRow base e size (.slice (some ⟨g, 0, none⟩) n cap) n (xs.set j u) := by
  refine ⟨by rw [List.length_set]; exact h.1, ?_⟩
  rcases h.2 with ⟨h0, _⟩ | ⟨g', cap', cur, hv, hb, hh, h1, h2, h3, h4⟩
  · cases h0
  · injection hv with hv1 _ hv2
    injection hv1 with hv1
    injection hv1 with hv1
    subst hv1
    subst hv2
    refine .inr ⟨g, cap, cur.setIfInBounds j u, rfl, hb, ?_, h1, h2, by simpa using h3, ?_⟩
    · have := Blk.set_ (w := w) (g := g) (t := e) (cs := cur) hh j u
      exact this
    · rw [← h4, Array.toList_setIfInBounds, List.take_set]
theorem ownsRow_cell {w : World} {base n size cap g : Nat} {e : TypeId} {xs : List Value} (h : w.ownsRow base e size (.slice (some ⟨g, 0, none⟩) n cap) n xs) {j : Nat} {u : Value} (hj : xs[j]? = some u) :
    w.cell? ⟨g, j, none⟩ = some u ∧ w.frozen? ⟨g, j, none⟩ = false := by
  have h1 := h.cells (g := g) rfl j u hj
  rw [add_mk, Nat.zero_add] at h1
  refine ⟨h1, ?_⟩
  rcases h.2 with ⟨h0, _⟩ | ⟨g', cap', cur, hv, hb, hh, _⟩
  · cases h0
  · injection hv with hv1 _ _
    injection hv1 with hv1
    injection hv1 with hv1
    subst hv1
    exact Blk.free (cs := cur) (t := e) hh j
theorem own_some {base n size c : Nat} {e : TypeId} {A : Option Addr} {xs : List Value} {w : World} (h : w.ownsRow base e size (.slice A n c) n xs) (hn : 0 < n) : ∃ g, A = some ⟨g, 0, none⟩ ∧ g < w.heap.size ∧ base ≤ g := by
  obtain ⟨g, cap, hv, h1, h2⟩ := h.form hn
  injection hv with hv
  exact ⟨g, hv, h2, h1⟩
end Go.Sal

namespace Go.Sal
def chain (md : Region.Mode) (ops : Array Oper) (listed : Array Bool) (U : List Nat) (i : Nat) (F : List Nat) : Bool :=
  U.contains i && F.all (fun f => U.contains f) && U.all fun u => !listed.getD u true && (u == i || ((ops[u]?).map fun o => o.after.any fun e => Region.binds md e && U.contains e.on).getD false)
section
variable {P : Program} {ops : Array Oper} {Q : Exit → Act → World → Prop} {md : Region.Mode} {S : World → Prop} {F : List Nat}
theorem chain_spec {listed : Array Bool} {U : List Nat} {i : Nat} {F : List Nat} (h : chain md ops listed U i F = true) :
    i ∈ U ∧ (∀ f ∈ F, f ∈ U) ∧ ∀ u ∈ U, listed.getD u true = false ∧ (u ≠ i → ∃ o, ops[u]? = some o ∧ ∃ e ∈ o.after, Region.binds md e = true ∧ e.on ∈ U) := by
  simp only [chain, Bool.and_eq_true, List.all_eq_true, List.contains_iff_mem] at h
  obtain ⟨⟨h1, h2⟩, h3⟩ := h
  refine ⟨h1, h2, fun u hu => ?_⟩
  have h4 := h3 u hu
  simp only [Bool.not_eq_true', Bool.or_eq_true, beq_iff_eq] at h4
  refine ⟨h4.1, fun hne => ?_⟩
  have h5 := h4.2.resolve_left hne
  cases ho : ops[u]? with
  | none => rw [ho] at h5; simp at h5
  | some o =>
    rw [ho] at h5
    simp only [Option.map_some, Option.getD_some] at h5
    obtain ⟨k, hk, he⟩ := Array.any_eq_true.1 h5
    simp only [Bool.and_eq_true, List.contains_iff_mem] at he
    exact ⟨o, rfl, o.after[k], Array.getElem_mem hk, he.1, he.2⟩
theorem chain_not_ready {listed : Array Bool} {U : List Nat} {i j : Nat} {F : List Nat} (h : i ∈ U ∧ (∀ f ∈ F, f ∈ U) ∧ ∀ u ∈ U, listed.getD u true = false ∧ (u ≠ i → ∃ o, ops[u]? = some o ∧ ∃ e ∈ o.after, Region.binds md e = true ∧ e.on ∈ U))
    (hj : j ∈ Region.ready md ops listed) (hne : j ≠ i) : j ∉ U := by
  intro hu
  obtain ⟨o, ho, e, he, hb, hon⟩ := (h.2.2 j hu).2 hne
  obtain ⟨_, o', ho', hall⟩ := mem_ready.1 hj
  rw [ho] at ho'
  injection ho' with ho'
  subst ho'
  have h1 := hall e he hb
  have h2 := (h.2.2 e.on hon).1
  rcases Nat.lt_or_ge e.on listed.size with h' | h'
  · simp [h'] at h1 h2
    rw [h1] at h2
    cases h2
  · simp [Array.getElem?_eq_none h'] at h1
def YieldsE (P : Program) (ops : Array Oper) (S : World → Prop) (o : Oper) (v : Value) (a : Act) : Prop :=
  (Region.wanted o (yielded ops a.tmps) = true ∧ ∀ w, S w → o.quietAt P a (fun w' => w' = w) w v) ∨
  (Region.wanted o (yielded ops a.tmps) = false ∧ v = undef)
theorem YieldsE.wpOp {i : Nat} {o : Oper} {v : Value} {a : Act} (hi : ops[i]? = some o) (hy : YieldsE P ops S o v a)
    {K : Act → World → Prop} {w : World} (hS : S w) (h : K (a.put o.dst v) w) : wpOp P ops Q i K a w := by
  unfold Go.wpOp
  simp only [hi]
  rcases hy with ⟨hw, hv⟩ | ⟨hw, rfl⟩
  · simp only [hw, if_true]
    refine .inl ?_
    have h3 := hv w hS
    unfold Oper.quietAt at h3
    unfold Oper.wp
    generalize (execOp a.eval o).run P w = r at *
    cases r with
    | ok n w' =>
      cases n <;> simp only [Oper.quietUpon] at h3 <;> simp only [Oper.upon]
      case value u =>
        obtain ⟨e1, e2⟩ := h3
        rw [e1, e2]
        exact h
      case skip =>
        obtain ⟨e1, e2⟩ := h3
        rw [e1, ← e2]
        exact h
      case enter f args =>
        obtain ⟨e1, hc⟩ := h3
        rw [e1]
        exact hc.mono fun e w'' ⟨he, hw''⟩ => by subst he; subst hw''; exact h
    | halt x w' => simp only [Oper.quietUpon] at h3
  · simp only [hw, Bool.false_eq_true, if_false]; exact h
theorem YieldsE.of_same {o : Oper} {v : Value} {a a' : Act} (hy : YieldsE P ops S o v a) (he : execOp a'.eval o = execOp a.eval o)
    (hw : Region.wanted o (yielded ops a'.tmps) = Region.wanted o (yielded ops a.tmps)) : YieldsE P ops S o v a' := by
  unfold YieldsE Oper.quietAt at *
  rw [he, hw]
  exact hy
theorem wpOp_putE {j : Nat} {oi oj : Oper} {v : Value} (hj : ops[j]? = some oj) (hap : oi.apart ops oj = true)
    (hsi : ∀ cs b, oi.op ≠ .select cs b) (hsj : ∀ cs b, oj.op ≠ .select cs b)
    (hQ : ∀ c a w, Q (.panic c) (a.put oi.dst v) w → Q (.panic c) a w) {K : Act → World → Prop} {a : Act} {w : World}
    (hy : YieldsE P ops S oi v a) (h : wpOp P ops Q j K (a.put oi.dst v) w) :
    wpOp P ops Q j (fun a' w' => YieldsE P ops S oi v a' ∧ K (a'.put oi.dst v) w') a w := by
  obtain ⟨h1, h2, h3⟩ := Oper.apart_spec hap
  have keep : ∀ (a : Act), YieldsE P ops S oi v a → ∀ u, YieldsE P ops S oi v (a.put oj.dst u) := fun a hy u =>
    hy.of_same (execOp_put oi hsi a oj.dst u h3) (wanted_put oi a oj.dst u h3)
  have keepD : ∀ d, YieldsE P ops S oi v { a with defers := d :: a.defers } := fun d => hy.of_same rfl rfl
  unfold wpOp at *
  simp only [hj] at *
  rw [wanted_put oj a oi.dst v h1] at h
  split
  · rename_i hw
    simp only [hw, if_true] at h
    rcases h with h | ⟨hasks, hlets⟩
    case inr => exact .inr ⟨by unfold Oper.asks at *; rw [execOp_put oj hsj a oi.dst v h1] at hasks; exact hasks, hlets⟩
    refine .inl ?_
    unfold Oper.wp at *
    rw [execOp_put oj hsj a oi.dst v h1] at h
    generalize (execOp a.eval oj).run P w = r at *
    cases r with
    | ok n w' =>
      cases n <;> simp only [Oper.upon] at h ⊢
      case value u => exact ⟨keep a hy u, by rw [← Act.put_comm a v u h2]; exact h⟩
      case skip => exact ⟨keep a hy _, by rw [← Act.put_comm a v undef h2]; exact h⟩
      case defer d =>
        refine ⟨keep _ (keepD d) _, ?_⟩
        rw [← Act.put_comm _ v undef h2, ← Act.put_defers]
        exact h
      case enter f args =>
        refine Calls.mono h fun e w'' he => ?_
        cases e with
        | returned u => exact ⟨keep a hy u, by rw [← Act.put_comm a v u h2]; exact he⟩
        | panicked c => exact hQ _ _ _ he
        | outgrown => exact he
      case row row args => exact Rows.mono h fun u w'' he => ⟨keep a hy u, by rw [← Act.put_comm a v u h2]; exact he⟩
    | halt x w' =>
      cases x <;> simp only [Oper.upon] at h ⊢
      case panic u => exact hQ _ _ _ h
  · rename_i hw
    simp only [hw] at h
    exact ⟨keep a hy _, by rw [← Act.put_comm a v undef h2]; exact h⟩
end
end Go.Sal

namespace Go.Sal
def noneOf (listed : Array Bool) (F : List Nat) : Bool := F.all fun f => !listed.getD f true
section
variable {P : Program} {ops : Array Oper} {Q : Exit → Act → World → Prop} {md : Region.Mode} {S : World → Prop} {F : List Nat}
theorem noneOf_set {listed : Array Bool} {i : Nat} (h : noneOf (listed.setIfInBounds i true) F = true) : noneOf listed F = true := by
  simp only [noneOf, List.all_eq_true] at h ⊢
  intro f hf
  have h1 := h f hf
  by_cases hfi : i = f
  · subst hfi
    rcases Nat.lt_or_ge i listed.size with h2 | h2 <;> simp [h2] at h1
  · rw [getD_set_ne true hfi] at h1; exact h1
theorem noneOf_set' {listed : Array Bool} {i : Nat} (hi : i ∉ F) (h : noneOf listed F = true) : noneOf (listed.setIfInBounds i true) F = true := by
  simp only [noneOf, List.all_eq_true] at h ⊢
  intro f hf
  have h1 := h f hf
  rw [getD_set_ne true (show i ≠ f by rintro rfl; exact hi hf)]
  exact h1
def wpAnyG (P : Program) (md : Region.Mode) (ops : Array Oper) (Q : Exit → Act → World → Prop) (S : World → Prop) (F : List Nat) : Nat → Array Bool → Act → World → Prop
  | 0, listed, a, w => Region.ready md ops listed = [] ∧ Q .normal a w
  | fuel + 1, listed, a, w =>
    (Region.ready md ops listed = [] → Q .normal a w) ∧
    ∀ i ∈ Region.ready md ops listed, wpOp P ops Q i (fun a' w' => (noneOf (listed.setIfInBounds i true) F = true → S w') ∧ wpAnyG P md ops Q S F fuel (listed.setIfInBounds i true) a' w') a w
theorem wpAny_of_G : ∀ (fuel : Nat) (listed : Array Bool) (a : Act) (w : World), wpAnyG P md ops Q S F fuel listed a w → wpAny P md ops Q fuel listed a w
  | 0, _, _, _, h => h
  | fuel + 1, _, _, _, h => ⟨h.1, fun i hi => wpOp_mono (fun a' w' h' => wpAny_of_G fuel _ a' w' h'.2) (h.2 i hi)⟩
theorem wpAnyG_first {i : Nat} {oi : Oper} {v : Value} {S0 : World → Prop} (hi : ops[i]? = some oi) (hiF : i ∉ F) (hsel : ∀ (j : Nat) (o : Oper) cs b, ops[j]? = some o → o.op ≠ .select cs b)
    (hQ : ∀ c a w, Q (.panic c) (a.put oi.dst v) w → Q (.panic c) a w) {U : List Nat} :
    ∀ (fuel : Nat) (listed : Array Bool) (a : Act) (w : World),
      ((∀ w, S0 w) ∨ ((∀ w, S w → S0 w) ∧ i ∈ U ∧ (∀ f ∈ F, f ∈ U) ∧ ∀ u ∈ U, listed.getD u true = false ∧ (u ≠ i → ∃ o, ops[u]? = some o ∧ ∃ e ∈ o.after, Region.binds md e = true ∧ e.on ∈ U))) →
      (∀ j oj, ops[j]? = some oj → j ≠ i → listed.getD j true = false → (∀ e ∈ oj.after, Region.binds md e = true → e.on ≠ i) → oi.apart ops oj = true) →
      i ∈ Region.ready md ops listed → YieldsE P ops S0 oi v a → (noneOf listed F = true → S w) →
      wpAnyG P md ops Q S F fuel (listed.setIfInBounds i true) (a.put oi.dst v) w → wpAnyG P md ops Q S F (fuel + 1) listed a w := by
  intro fuel
  have hS0 : ∀ (listed : Array Bool) (w : World), ((∀ w, S0 w) ∨ ((∀ w, S w → S0 w) ∧ i ∈ U ∧ (∀ f ∈ F, f ∈ U) ∧ ∀ u ∈ U, listed.getD u true = false ∧ (u ≠ i → ∃ o, ops[u]? = some o ∧ ∃ e ∈ o.after, Region.binds md e = true ∧ e.on ∈ U))) →
      (noneOf listed F = true → S w) → S0 w := by
    intro listed w h hS
    rcases h with h | ⟨h, _, h2, h3⟩
    · exact h w
    · refine h w (hS ?_)
      simp only [noneOf, List.all_eq_true]
      intro f hf
      rw [(h3 f (h2 f hf)).1]
      rfl
  induction fuel with
  | zero =>
    intro listed a w hU _ hr hy hS H
    refine ⟨fun h => (by rw [h] at hr; cases hr), fun j hj => ?_⟩
    by_cases hji : j = i
    · subst hji; exact hy.wpOp hi (hS0 _ _ hU hS) ⟨fun h => hS (noneOf_set h), H⟩
    · have := ready_mono hj hji
      rw [H.1] at this
      cases this
  | succ fuel ih =>
    intro listed a w hU hfree hr hy hS H
    refine ⟨fun h => (by rw [h] at hr; cases hr), fun j hj => ?_⟩
    by_cases hji : j = i
    · subst hji; exact hy.wpOp hi (hS0 _ _ hU hS) ⟨fun h => hS (noneOf_set h), H⟩
    · have h1 := H.2 j (ready_mono hj hji)
      obtain ⟨hjun, oj, hoj, hall⟩ := mem_ready.1 hj
      have hnot : ∀ e ∈ oj.after, Region.binds md e = true → e.on ≠ i := fun e he hb heq => by
        have h1 := hall e he hb
        have h0 := (mem_ready.1 hr).1
        rw [heq] at h1
        rcases Nat.lt_or_ge i listed.size with h' | h'
        · simp [h'] at h0 h1; rw [h0] at h1; cases h1
        · simp [Array.getElem?_eq_none h'] at h1
      have h2 := wpOp_putE hoj (hfree j oj hoj hji hjun hnot) (fun cs b => hsel i oi cs b hi) (fun cs b => hsel j oj cs b hoj) hQ hy h1
      have hfree' : ∀ k ok, ops[k]? = some ok → k ≠ i → (listed.setIfInBounds j true).getD k true = false →
          (∀ e ∈ ok.after, Region.binds md e = true → e.on ≠ i) → oi.apart ops ok = true := fun k ok hk hki hun hno => by
        refine hfree k ok hk hki ?_ hno
        by_cases hjk : j = k
        · subst hjk; exact hjun
        · rw [getD_set_ne true hjk] at hun; exact hun
      have hU' : ((∀ w, S0 w) ∨ ((∀ w, S w → S0 w) ∧ i ∈ U ∧ (∀ f ∈ F, f ∈ U) ∧ ∀ u ∈ U, (listed.setIfInBounds j true).getD u true = false ∧ (u ≠ i → ∃ o, ops[u]? = some o ∧ ∃ e ∈ o.after, Region.binds md e = true ∧ e.on ∈ U))) := by
        rcases hU with hU | ⟨h0, hU⟩
        · exact .inl hU
        · have hjU := chain_not_ready hU hj hji
          refine .inr ⟨h0, hU.1, hU.2.1, fun u hu => ⟨?_, (hU.2.2 u hu).2⟩⟩
          rw [getD_set_ne true (show j ≠ u by rintro rfl; exact hjU hu)]
          exact (hU.2.2 u hu).1
      refine wpOp_mono (fun a' w' h3 => ?_) h2
      have hSj : noneOf (listed.setIfInBounds j true) F = true → S w' := fun h => h3.2.1 (by rw [Array.setIfInBounds_comm _ _ (Ne.symm hji)]; exact noneOf_set' hiF h)
      refine ⟨hSj, ih (listed.setIfInBounds j true) a' w' hU' hfree' (ready_mono hr (Ne.symm hji)) h3.1 hSj ?_⟩
      rw [Array.setIfInBounds_comm _ _ hji]
      exact h3.2.2
theorem wpAnyG_take {i : Nat} {oi : Oper} {v : Value} {fuel : Nat} {listed : Array Bool} {a : Act} {w : World} (U : List Nat) (hi : ops[i]? = some oi)
    (hs : Region.noSelect ops = true) (hf : Region.free md ops listed i = true) (hr : (Region.ready md ops listed).contains i = true) (hU : chain md ops listed U i F = true) (hiF : F.contains i = false)
    (hQ : ∀ c a w, Q (.panic c) (a.put oi.dst v) w → Q (.panic c) a w) (hS : noneOf listed F = true → S w) (hy : YieldsE P ops S oi v a)
    (h : wpAnyG P md ops Q S F fuel (listed.setIfInBounds i true) (a.put oi.dst v) w) : wpAnyG P md ops Q S F (fuel + 1) listed a w :=
  wpAnyG_first hi (by simpa using hiF) (Region.noSelect_spec hs) hQ (U := U) fuel listed a w (.inr ⟨fun _ h => h, chain_spec hU⟩) (Region.free_spec hi hf) (by simpa using hr) hy hS h
theorem wpAnyG_take0 {i : Nat} {oi : Oper} {v : Value} {fuel : Nat} {listed : Array Bool} {a : Act} {w : World} (hi : ops[i]? = some oi)
    (hs : Region.noSelect ops = true) (hf : Region.free md ops listed i = true) (hr : (Region.ready md ops listed).contains i = true) (hiF : F.contains i = false)
    (hQ : ∀ c a w, Q (.panic c) (a.put oi.dst v) w → Q (.panic c) a w) (hS : noneOf listed F = true → S w) (hy : YieldsE P ops (fun _ => True) oi v a)
    (h : wpAnyG P md ops Q S F fuel (listed.setIfInBounds i true) (a.put oi.dst v) w) : wpAnyG P md ops Q S F (fuel + 1) listed a w :=
  wpAnyG_first hi (by simpa using hiF) (Region.noSelect_spec hs) hQ (U := []) fuel listed a w (.inl fun _ => trivial) (Region.free_spec hi hf) (by simpa using hr) hy hS h
theorem wpAnyG_step {i : Nat} {oi : Oper} {fuel : Nat} {listed : Array Bool} {a : Act} {w : World} (hi : ops[i]? = some oi) (hr : Region.ready md ops listed = [i]) (hw : Region.wanted oi (yielded ops a.tmps) = true)
    (h : ∀ K : Act → World → Prop, (∀ a' w', (noneOf (listed.setIfInBounds i true) F = true → S w') → ((noneOf (listed.setIfInBounds i true) F = true → S w') → wpAnyG P md ops Q S F fuel (listed.setIfInBounds i true) a' w') → K a' w') → oi.wp P a w K Q) : wpAnyG P md ops Q S F (fuel + 1) listed a w := by
  refine ⟨fun h0 => (by rw [hr] at h0; cases h0), fun j hj => ?_⟩
  rw [hr] at hj
  obtain rfl : j = i := by simpa using hj
  unfold wpOp
  simp only [hi, hw, if_true]
  exact .inl (h _ (fun a' w' hS hn => ⟨hS, hn hS⟩))
theorem wpAnyG_done {listed : Array Bool} {a : Act} {w : World} (hr : Region.ready md ops listed = []) (h : Q .normal a w) : ∀ fuel, wpAnyG P md ops Q S F fuel listed a w
  | 0 => ⟨hr, h⟩
  | _ + 1 => ⟨fun _ => h, by rw [hr]; simp⟩
theorem wp_region_G {id : Nat} {a : Act} {w : World} (S : World → Prop) (F : List Nat) (L0 : Array Bool) (n0 : Nat) (hn : ops.size = n0) (hL : Array.replicate n0 false = L0) (hm : P.follows .mixedOrders = true)
    (h : wpAnyG P .any ops Q S F n0 L0 a w.drew) : (Code.region id ops true).wp P Q a w := by
  refine wp_region_any hm (wpAny_of_G (S := S) (F := F) _ _ _ _ ?_)
  rw [hn, hL]
  exact h
end
end Go.Sal

namespace Go.Proofs.YtdnaahbhfjclpaaGreatDoor
open Go.RowKit Go.Sal Go.Huf
def inI (l : List Int) : List Value := l.map fun k => .int .i64 k
def inN (l : List Nat) : List Value := l.map fun (k : Nat) => .int .i64 (k : Int)
def ncells (x : Int × Int) : List Value := [.int .i64 x.1, .int .i64 x.2]
theorem ncells_len (x : Int × Int) : (ncells x).length = 2 := rfl
theorem inI_len (l : List Int) : (inI l).length = l.length := by simp [inI]
theorem inN_len (l : List Nat) : (inN l).length = l.length := by simp [inN]
theorem inI_one (l : List Int) : ∀ u ∈ inI l, u.oneCell' = true := by
  intro u hu; obtain ⟨k, _, rfl⟩ := List.mem_map.1 hu; rfl
theorem inN_one (l : List Nat) : ∀ u ∈ inN l, u.oneCell' = true := by
  intro u hu; obtain ⟨k, _, rfl⟩ := List.mem_map.1 hu; rfl
theorem intinfo : (Tryz.prog.info? 3).map (fun i => (i.zero, i.size, i.bytes)) = some (some (.int .i64 0), 1, 8) := by kernel_rfl
theorem ndinfo : (Tryz.prog.info? 224).map (fun i => (i.zero, i.size, i.bytes)) = some (some (.agg #[.int .i64 0, .int .i64 0]), 2, 16) := by kernel_rfl
theorem own_beyond {w : World} {base n size cap g : Nat} {e : TypeId} {xs : List Value} (h : w.ownsRow base e size (.slice (some ⟨g, 0, none⟩) n cap) n xs) (j : Nat) (hj : n * size ≤ j) (u : Value) :
    (w.setCell ⟨g, j, none⟩ u).ownsRow base e size (.slice (some ⟨g, 0, none⟩) n cap) n xs := by
  refine ⟨h.1, ?_⟩
  rcases h.2 with ⟨h0, _⟩ | ⟨g', cap', cur, hv, hb, hh, h1, h2, h3, h4⟩
  · cases h0
  · injection hv with hv1 _ hv2
    injection hv1 with hv1
    injection hv1 with hv1
    subst hv1
    subst hv2
    refine .inr ⟨g, cap, cur.setIfInBounds j u, rfl, hb, ?_, h1, h2, by simpa using h3, ?_⟩
    · have := Blk.set_ (w := w) (g := g) (t := e) (cs := cur) hh j u
      exact this
    · rw [← h4, Array.toList_setIfInBounds, List.take_set_of_le hj]
theorem own_short {w : World} {base n k size cap g : Nat} {e : TypeId} {xs : List Value} (h : w.ownsRow base e size (.slice (some ⟨g, 0, none⟩) n cap) n xs) (hk : k ≤ n) :
    w.ownsRow base e size (.slice (some ⟨g, 0, none⟩) k cap) k (xs.take (k * size)) := by
  rcases h.2 with ⟨h0, _⟩ | ⟨g', cap', cur, hv, hb, hh, h1, h2, h3, h4⟩
  · cases h0
  · injection hv with hv1 _ hv2
    injection hv1 with hv1
    injection hv1 with hv1
    subst hv1
    subst hv2
    have hle : k * size ≤ n * size := Nat.mul_le_mul_right _ hk
    refine ⟨by rw [List.length_take, h.1]; omega, .inr ⟨g, cap, cur, rfl, hb, hh, by omega, h2, h3, ?_⟩⟩
    rw [← h4, List.take_take, Nat.min_eq_left hle]
theorem own_room {w : World} {base n size cap g : Nat} {e : TypeId} {xs : List Value} (h : w.ownsRow base e size (.slice (some ⟨g, 0, none⟩) n cap) n xs) {j : Nat} (hj : j < cap * size) :
    (w.cell? ⟨g, j, none⟩).isSome = true ∧ w.frozen? ⟨g, j, none⟩ = false := by
  rcases h.2 with ⟨h0, _⟩ | ⟨g', cap', cur, hv, hb, hh, h1, h2, h3, h4⟩
  · cases h0
  · injection hv with hv1 _ hv2
    injection hv1 with hv1
    injection hv1 with hv1
    subst hv1
    subst hv2
    refine ⟨?_, Blk.free (cs := cur) (t := e) hh j⟩
    rw [cell_of_row w g j cur e (0, 0) hh]
    simp [h3, hj]
theorem eraseIdx_take_drop {α : Type} (l : List α) (k : Nat) : l.eraseIdx k = l.take k ++ l.drop (k + 1) := List.eraseIdx_eq_take_drop_succ l k
end Go.Proofs.YtdnaahbhfjclpaaGreatDoor

namespace Go.Proofs.YtdnaahbhfjclpaaGreatDoor
open Go.RowKit Go.Sal Go.Pck
theorem stepN_succ (n r : Nat) : stepN (n + 1) r = stepR (stepN n r) := by
  induction n generalizing r with
  | zero => rfl
  | succ n ih =>
    show stepN (n + 1) (stepR r) = stepR (stepN n (stepR r))
    rw [ih]
set_option maxRecDepth 20000 in
set_option maxHeartbeats 1000000 in
theorem entry_any (b : Nat) (w : World) (hb : b < 256) : Calls Tryz.prog 127 #[.int .u8 (b : Nat)] w fun e w' => e = .returned (.int .u32 (entry b : Nat)) ∧ w' = w := by
  have hwb : IntKind.u32.wrap (b : Int) = (b : Int) := by rw [IntKind.wrap_u32]; omega
  go_enter Tryz.func127, Tryz.ntmps127
  go_wp2
  go_loop [6, 3] (fun v6 v3 => ∃ (k r : Nat), v6 = .int .i64 k ∧ v3 = .int .u32 r ∧ k ≤ 8 ∧ r < 4294967296 ∧ Hid (r = stepN k b)) (fun v6 _ => 8 - (intOf v6).toNat)
  case atStart => exact ⟨0, b, rfl, rfl, by omega, by omega, Lib.hid rfl⟩
  case round =>
    obtain ⟨k, r, rfl, rfl, hk, hr, hI⟩ := hrel
    rcases Nat.lt_or_ge k 8 with hk8 | hk8
    · have hki : (k : Int) < 8 := by omega
      have hwk : IntKind.i64.wrap ((k : Int) + 1) = (k : Int) + 1 := by rw [IntKind.wrap_i64]; omega
      have ha := u32_and_nat r 1 hr (by omega)
      rw [Nat.and_one_is_mod] at ha
      have ha1 : bits .and .u32 (r : Int) 1 = ((r % 2 : Nat) : Int) := ha
      have HN : Hid (stepR r = stepN (k + 1) b) := Lib.hid (by rw [stepN_succ, ← hI.out])
      clear ha
      by_cases h1 : r % 2 = 1
      · rw [h1] at ha1
        have hx := u32_xor_nat (r / 2) poly (by omega) poly_lt
        have hx1 : bits .xor .u32 ((r : Int) / 2) 2197175160 = ((r / 2 ^^^ poly : Nat) : Int) := by
          rw [← hx]
          rfl
        have e : stepR r = r / 2 ^^^ poly := by unfold stepR; rw [if_pos h1]
        rw [e] at HN
        have hlt : r / 2 ^^^ poly < 4294967296 := xor_lt (by omega) poly_lt
        generalize r / 2 ^^^ poly = q at *
        clear hx e hI h1
        go_wp2
        exact ⟨⟨k + 1, q, by simp, rfl, by omega, hlt, HN⟩, by simp [intOf]; omega⟩
      · have h0 : r % 2 = 0 := by omega
        rw [h0] at ha1
        have e : stepR r = r / 2 := by unfold stepR; rw [if_neg h1]
        rw [e] at HN
        obtain ⟨q, hq⟩ : ∃ q, q = r / 2 := ⟨_, rfl⟩
        have hq1 : (r : Int) / 2 = (q : Int) := by omega
        rw [← hq] at HN
        have hlt : q < 4294967296 := by omega
        clear hq e hI h1 h0
        go_wp2
        exact ⟨⟨k + 1, q, by simp, rfl, by omega, hlt, HN⟩, by simp [intOf]; omega⟩
    · obtain rfl : k = 8 := by omega
      go_wp2
      go_ret
      exact ⟨by rw [hI.out]; rfl, rfl⟩
set_option maxRecDepth 20000 in
set_option maxHeartbeats 1000000 in
theorem in_any (r b : Nat) (w : World) (hr : r < 4294967296) (hb : b < 256) : Calls Tryz.prog 83 #[.int .u32 (r : Nat), .int .u8 (b : Nat)] w fun e w' => e = .returned (.int .u32 (inR r b : Nat)) ∧ w' = w := by
  have hw8 : IntKind.u8.wrap (r : Int) = ((r % 256 : Nat) : Int) := by rw [IntKind.wrap_u8]; omega
  have hx := u8_xor_nat (r % 256) b (by omega) hb
  have hx8 := xor8_lt (a := r % 256) (b := b) (by omega) hb
  have HE := Lib.hid (entry_any ((r % 256) ^^^ b) w hx8)
  have hel := entry_lt hx8
  have hq : (r : Int) / 256 = ((r / 256 : Nat) : Int) := by omega
  have hy := u32_xor_nat (r / 256) (entry ((r % 256) ^^^ b)) (by omega) hel
  have HF : Hid (inR r b = r / 256 ^^^ entry ((r % 256) ^^^ b)) := Lib.hid rfl
  generalize (r % 256) ^^^ b = z at *
  generalize r % 256 = y at *
  generalize r / 256 = q at *
  generalize entry z = en at *
  generalize q ^^^ en = res at *
  go_enter Tryz.func83, Tryz.ntmps83
  go_wp2_with (go_at_call 127; refine HE.out.mono ?_; rintro e w' ⟨rfl, rfl⟩)
  go_ret
  exact ⟨by rw [HF.out]; rfl, rfl⟩
end Go.Proofs.YtdnaahbhfjclpaaGreatDoor

