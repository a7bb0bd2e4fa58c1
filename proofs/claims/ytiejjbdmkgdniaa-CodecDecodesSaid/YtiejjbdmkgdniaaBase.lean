/- Words for memory that the walks of this claim use: what a call keeps, a block that is known whole, a slice that reads as bytes, a map with int keys as a row of entries. -/
import Derived.WalkKit
import Derived.WalkSpells
import Derived.Deep.AppendLies
import Derived.Maps.AppendAt
import Derived.Deep.Draws
import Derived.RegionTactic
import Derived.OwnWalk
import Derived.Carry
import Derived.Maps.Keyed
import Derived.Maps.RangeRun
set_option linter.unusedVariables false
set_option linter.unusedSimpArgs false
namespace Go.Sal
open Go.RowKit

/-! ### what a call keeps: every old block but those of F -/
structure Keep (F : List Nat) (w w' : World) : Prop where
  os : w'.os = w.os
  tape : w'.tape = w.tape
  output : w'.output = w.output
  size : w.heap.size ≤ w'.heap.size
  block : ∀ k, k < w.heap.size → k ∉ F → w'.heap[k]? = w.heap[k]?

section
variable {F G : List Nat} {w w' a b c : World}
theorem Keep.refl (F : List Nat) (w : World) : Keep F w w := ⟨rfl, rfl, rfl, Nat.le_refl _, fun _ _ _ => rfl⟩
theorem Keep.trans (h : Keep F a b) (k : Keep F b c) : Keep F a c :=
  ⟨k.os.trans h.os, k.tape.trans h.tape, k.output.trans h.output, Nat.le_trans h.size k.size,
    fun i hi hn => (k.block i (Nat.lt_of_lt_of_le hi h.size) hn).trans (h.block i hi hn)⟩
/-- the second step may also write what is new since a -/
theorem Keep.step (h : Keep F a b) (k : Keep G b c) (hG : ∀ i, i ∈ G → i ∈ F ∨ a.heap.size ≤ i) : Keep F a c :=
  ⟨k.os.trans h.os, k.tape.trans h.tape, k.output.trans h.output, Nat.le_trans h.size k.size,
    fun i hi hn => (k.block i (Nat.lt_of_lt_of_le hi h.size) (fun hg => by
      rcases hG i hg with h1 | h1
      · exact hn h1
      · omega)).trans (h.block i hi hn)⟩
theorem Keep.mono (h : Keep F a b) (hF : ∀ i, i ∈ F → i ∈ G) : Keep G a b :=
  ⟨h.os, h.tape, h.output, h.size, fun i hi hn => h.block i hi (fun hf => hn (hF i hf))⟩
theorem Keep.below (h : Keep [] a b) : Below a.heap.size a b := ⟨h.os, h.tape, h.output, h.size, fun k hk => h.block k hk (by simp)⟩
theorem Keep.belowB {B : Nat} (h : Keep F a b) (hB : B ≤ a.heap.size) (hF : ∀ i, i ∈ F → B ≤ i) : Below B a b :=
  ⟨h.os, h.tape, h.output, h.size, fun k hk => h.block k (by omega) (fun hf => by have := hF k hf; omega)⟩
theorem Keep.of_below (h : Below a.heap.size a b) : Keep F a b := ⟨h.os, h.tape, h.output, h.size, fun k hk _ => h.block k hk⟩
theorem Keep.of_grown {row : Option Nat} (h : a.grownBy b row) (hr : ∀ k, row = some k → k ∈ F) : Keep F a b :=
  ⟨h.os, h.tape, h.output, h.size, fun k hk hn => h.block k hk (fun e => hn (hr k e.symm))⟩
theorem Keep.drew (h : Keep F a b) : Keep F a b.drew := ⟨h.os, h.tape, h.output, h.size, h.block⟩
theorem Keep.drewN (h : Keep F a b) (n : Nat) : Keep F a (b.drewN n) := ⟨h.os, h.tape, h.output, h.size, h.block⟩
theorem Keep.of_drew (h : Keep F a.drew b) : Keep F a b := ⟨h.os, h.tape, h.output, h.size, h.block⟩
theorem Keep.of_drewN {n : Nat} (h : Keep F (a.drewN n) b) : Keep F a b := ⟨h.os, h.tape, h.output, h.size, h.block⟩
theorem Keep.alloc (h : Keep F a b) (o : Obj) : Keep F a (b.alloc o) :=
  h.trans ⟨rfl, rfl, rfl, by simp, fun k hk _ => Below.heap_alloc _ _ _ hk⟩
theorem Keep.setCell (h : Keep F a b) {p : Addr} (hp : p.block ∈ F ∨ a.heap.size ≤ p.block) (u : Value) : Keep F a (b.setCell p u) :=
  ⟨h.os, h.tape, h.output, by simpa [World.setCell] using h.size, fun k hk hn => (Below.heap_setCell b p u k (by
    rintro rfl
    rcases hp with hp | hp
    · exact hn hp
    · omega)).trans (h.block k hk hn)⟩
theorem Keep.grown (h : Keep F a b) {row : Option Nat} (hg : b.grownBy c row) (hr : ∀ k, row = some k → k ∈ F ∨ a.heap.size ≤ k) : Keep F a c :=
  h.step (Keep.of_grown (F := row.toList) hg (fun k hk => by simp [hk])) (fun i hi => hr i (by simpa [Option.mem_toList] using hi))
theorem Keep.cell (h : Keep F a b) {p : Addr} (hp : p.block < a.heap.size) (hn : p.block ∉ F) : b.cell? p = a.cell? p := World.cell?_of_block (h.block _ hp hn)
end

/-! ### a block that is known whole -/
def Blk (w : World) (g : Nat) (t : TypeId) (cs : Array Value) : Prop := w.heap[g]? = some (.cells cs t (0, 0))
section
variable {w w' : World} {g : Nat} {t : TypeId} {cs : Array Value} {F : List Nat}
theorem lt_of_some {w : World} {g : Nat} {o : Obj} (h : w.heap[g]? = some o) : g < w.heap.size := by
  rcases Nat.lt_or_ge g w.heap.size with hlt | hge
  · exact hlt
  · rw [Array.getElem?_eq_none hge] at h; cases h
theorem Blk.lt (h : Blk w g t cs) : g < w.heap.size := lt_of_some h
theorem Blk.cell (h : Blk w g t cs) (i : Nat) : w.cell? ⟨g, i, none⟩ = cs[i]? := cell_of_row w g i cs t (0, 0) h
theorem Blk.free (h : Blk w g t cs) (i : Nat) : w.frozen? ⟨g, i, none⟩ = false := by
  unfold Blk at h
  simp [World.frozen?, h]
theorem Blk.keep (h : Blk w g t cs) (k : Keep F w w') (hn : g ∉ F) : Blk w' g t cs := (k.block g h.lt hn).trans h
theorem Blk.drew (h : Blk w g t cs) : Blk w.drew g t cs := h
theorem Blk.drewN (h : Blk w g t cs) (n : Nat) : Blk (w.drewN n) g t cs := h
theorem Blk.alloc (h : Blk w g t cs) (o : Obj) : Blk (w.alloc o) g t cs := (Below.heap_alloc w o g h.lt).trans h
theorem Blk.new (w : World) (t : TypeId) (cs : Array Value) : Blk (w.alloc (.cells cs t)) w.heap.size t cs := heap_alloc_new w _
theorem Blk.set_ (h : Blk w g t cs) (i : Nat) (u : Value) : Blk (w.setCell ⟨g, i, none⟩ u) g t (cs.setIfInBounds i u) := by
  unfold Blk at h ⊢
  simp [World.setCell, Array.getElem?_modify, h]
theorem Blk.far (h : Blk w g t cs) {p : Addr} (hp : g ≠ p.block) (u : Value) : Blk (w.setCell p u) g t cs := (Below.heap_setCell w p u g hp).trans h
theorem Blk.grown {row : Option Nat} (h : Blk w g t cs) (hb : w.grownBy w' row) (hg : some g ≠ row) : Blk w' g t cs := (hb.block g h.lt hg).trans h
theorem Blk.ne_ {g' : Nat} {t' : TypeId} {cs' : Array Value} (h : Blk w g t cs) (h' : Blk w g' t' cs') (hne : t ≠ t') : g ≠ g' := by
  rintro rfl
  unfold Blk at h h'
  rw [h] at h'
  injection h' with h'
  injection h' with _ ht
  exact hne ht
end

/-! ### a slice that reads as bytes; what it reads lies below `base`, or in a block of bytes (type tb) -/
def ByteBlk (base : Nat) (tb : TypeId) (w : World) (k : Nat) : Prop := k < w.heap.size ∧ (k < base ∨ ∃ cur fr, w.heap[k]? = some (.cells cur tb fr))
/-- nothing in F is a block of bytes, or old -/
def NoByte (base : Nat) (tb : TypeId) (w : World) (F : List Nat) : Prop := ∀ k, k ∈ F → ¬ ByteBlk base tb w k
def Reads (base : Nat) (tb : TypeId) (w : World) (v : Value) (bs : List UInt8) : Prop :=
  ∃ A c, v = .slice A bs.length c ∧ bs.length ≤ c ∧ c ≤ maxLen ∧
    (bs ≠ [] → ∃ a, A = some a ∧ ByteBlk base tb w a.block ∧ ∀ i (h : i < bs.length), w.cell? (a.add i) = some (.int .u8 bs[i].toNat))
section
variable {base : Nat} {tb : TypeId} {w w' : World} {v : Value} {bs : List UInt8} {F : List Nat}
theorem add_block (a : Addr) (n : Nat) : (a.add n).block = a.block := by unfold Addr.add; split <;> rfl
theorem add_add (a : Addr) (i j : Nat) : (a.add i).add j = a.add (i + j) := by
  unfold Addr.add
  by_cases hi : i = 0 <;> by_cases hj : j = 0 <;> simp [hi, hj, Nat.add_assoc]
theorem add_mk (g o i : Nat) : (⟨g, o, none⟩ : Addr).add i = ⟨g, o + i, none⟩ := by
  unfold Addr.add; split <;> simp_all
theorem ByteBlk.keep {k : Nat} (h : ByteBlk base tb w k) (hk : Keep F w w') (hn : k ∉ F) : ByteBlk base tb w' k := by
  refine ⟨Nat.lt_of_lt_of_le h.1 hk.size, ?_⟩
  rcases h.2 with h1 | ⟨cur, fr, h1⟩
  · exact .inl h1
  · exact .inr ⟨cur, fr, (hk.block k h.1 hn).trans h1⟩
theorem Reads.keep (h : Reads base tb w v bs) (hk : Keep F w w') (hn : NoByte base tb w F) : Reads base tb w' v bs := by
  obtain ⟨A, c, rfl, h1, h2, h3⟩ := h
  refine ⟨A, c, rfl, h1, h2, fun hne => ?_⟩
  obtain ⟨a, rfl, hb, hc⟩ := h3 hne
  have hnf : a.block ∉ F := fun hf => hn _ hf hb
  exact ⟨a, rfl, hb.keep hk hnf, fun i hi => (hk.cell (by rw [add_block]; exact hb.1) (by rw [add_block]; exact hnf)).trans (hc i hi)⟩
theorem Reads.nil (base : Nat) (tb : TypeId) (w : World) : Reads base tb w (.slice none 0 0) [] := ⟨none, 0, rfl, by simp, by simp [maxLen], fun h => absurd rfl h⟩
theorem noByte_nil : NoByte base tb w [] := fun _ h => by simp at h
theorem noByte_cons {g : Nat} {t : TypeId} {cs : Array Value} (hb : Blk w g t cs) (ht : t ≠ tb) (hg : base ≤ g) (h : NoByte base tb w F) : NoByte base tb w (g :: F) := by
  intro k hk
  rcases List.mem_cons.1 hk with rfl | hk
  · rintro ⟨_, h1 | ⟨cur, fr, h1⟩⟩
    · omega
    · unfold Blk at hb; rw [hb] at h1; injection h1 with h1; injection h1 with _ h1; exact ht h1
  · exact h k hk
theorem noByte_map {g : Nat} {es : Array MapEntry} {cl : Nat} (hb : w.heap[g]? = some (.map es cl)) (hg : base ≤ g) (h : NoByte base tb w F) : NoByte base tb w (g :: F) := by
  intro k hk
  rcases List.mem_cons.1 hk with rfl | hk
  · rintro ⟨_, h1 | ⟨cur, fr, h1⟩⟩
    · omega
    · rw [hb] at h1; cases h1
  · exact h k hk
theorem noByte_own {base' : Nat} {e : TypeId} {size n : Nat} {v : Value} {xs : List Value} (h : w.ownsRow base' e size v n xs) (hbb : base ≤ base') (ht : e ≠ tb) (hF : NoByte base tb w F) : NoByte base tb w (v.ownBlock.toList ++ F) := by
  intro k hk
  rcases List.mem_append.1 hk with hk | hk
  · rcases h.2 with ⟨rfl, _⟩ | ⟨g, cap, cur, rfl, hg, hh, _⟩
    · simp [Value.ownBlock] at hk
    · simp [Value.ownBlock] at hk
      subst hk
      rintro ⟨_, h1 | ⟨cur', fr, h1⟩⟩
      · omega
      · rw [hh] at h1; injection h1 with h1; injection h1 with _ h1; exact ht h1
  · exact hF k hk
end
end Go.Sal
set_option linter.unusedVariables false
set_option linter.unusedSimpArgs false
namespace Go.Sal
open Go.RowKit

section
variable {P : Program} (w : World)
/-- the cells of a source: `m` elements of `size` cells, at A -/
def Src (w : World) (size : Nat) (A : Option Addr) (m : Nat) (news : List Value) : Prop :=
  news.length = m * size ∧ (0 < m → ∃ a, A = some a ∧ ∀ j u, news[j]? = some u → w.cell? (a.add j) = some u)

theorem run_append_nil_src (base : Nat) (t ty e : TypeId) (i : TypeInfo) (size : Nat) (ht : P.underlying t = some (.slice e)) (hi : P.info? e = some i)
    (v : Value) (n : Nat) (xs : List Value) (hown : w.ownsRow base e size v n xs) (c : Nat) : (Builtin.append_ #[t, t] ty #[v, .slice none 0 c]).run P w = .ok v w := by
  rcases hown.2 with ⟨rfl, rfl⟩ | ⟨g, cap, cur, rfl, _, _, hnc, _⟩
  · simp [Builtin.append_, run_underlying ht, sizeOf, typeInfo, hi, Builtin.lenOf, Builtin.firstCells]
  · simp [Builtin.append_, run_underlying ht, sizeOf, typeInfo, hi, Builtin.lenOf, Builtin.firstCells, hnc, storeCells]

theorem run_append_src (t ty e : TypeId) (z : Value) (size bytes base : Nat) (ht : P.underlying t = some (.slice e))
    (hinfo : (P.info? e).map (fun i => (i.zero, i.size, i.bytes)) = some (some z, size, bytes)) (hzs : z.cells.size = size) (hsz : 0 < size)
    (v : Value) (n : Nat) (xs : List Value) (hown : w.ownsRow base e size v n xs)
    (A : Option Addr) (m c : Nat) (news : List Value) (hs : Src w size A m news) (h1 : ∀ u ∈ news, u.oneCell' = true)
    (h63 : n + m ≤ maxLen) (hbytes : (n + m) * bytes ≤ 140737488355328) (hbase : base ≤ w.heap.size) :
    ∃ v' w', (Builtin.append_ #[t, t] ty #[v, .slice A m c]).run P w = .ok v' w' ∧ w'.ownsRow base e size v' (n + m) (xs ++ news) ∧ w.grownBy w' v.ownBlock ∧
      (v'.ownBlock = v.ownBlock ∨ v'.ownBlock = some w.heap.size) := by
  obtain ⟨i, hi, hz, hsize, hby⟩ : ∃ i, P.info? e = some i ∧ i.zero = some z ∧ i.size = size ∧ i.bytes = bytes := by
    cases hx : P.info? e with
    | none => rw [hx] at hinfo; cases hinfo
    | some i =>
      rw [hx] at hinfo
      simp only [Option.map_some, Option.some.injEq, Prod.mk.injEq] at hinfo
      exact ⟨i, rfl, hinfo.1, hinfo.2.1, hinfo.2.2⟩
  rcases A with _ | ad
  · have hm : m = 0 := by
      rcases Nat.eq_zero_or_pos m with h0 | h0
      · exact h0
      · obtain ⟨ad, h, _⟩ := hs.2 h0
        cases h
    subst hm
    have hn : news = [] := List.eq_nil_of_length_eq_zero (by simpa using hs.1)
    subst hn
    exact ⟨v, w, run_append_nil_src w base t ty e i size ht hi v n xs hown c, by simpa using hown, ⟨rfl, rfl, rfl, Nat.le_refl _, fun _ _ _ => rfl⟩, .inl rfl⟩
  · have hcells : ∀ j u, news[j]? = some u → w.cell? (ad.add j) = some u := by
      intro j u hu
      rcases Nat.eq_zero_or_pos m with h0 | h0
      · subst h0
        have hn : news = [] := List.eq_nil_of_length_eq_zero (by simpa using hs.1)
        subst hn
        simp at hu
      · obtain ⟨ad', h, hc⟩ := hs.2 h0
        injection h with h
        subst h
        exact hc j u hu
    obtain ⟨v', w', hrun, h2, h3, _, h5⟩ := run_append_own_at (P := P) w base t ty e i z size bytes ht hi hz hsize hby hzs hsz v n xs hown ad m c news hs.1 hcells h1 h63 hbytes hbase
    exact ⟨v', w', hrun, h2, h3, h5⟩
end

section
variable {base : Nat} {tb : TypeId} {w w' : World} {v : Value} {bs : List UInt8} {F : List Nat}
/-- the cells that bytes lie in -/
def byteCells (bs : List UInt8) : List Value := bs.map fun b => .int .u8 b.toNat
theorem byteCells_len (bs : List UInt8) : (byteCells bs).length = bs.length := by simp [byteCells]
theorem byteCells_one (bs : List UInt8) : ∀ u ∈ byteCells bs, u.oneCell' = true := by
  intro u hu
  simp only [byteCells, List.mem_map] at hu
  obtain ⟨b, _, rfl⟩ := hu
  rfl
theorem Reads.src {A : Option Addr} {n c : Nat} (h : Reads base tb w (.slice A n c) bs) : n = bs.length ∧ Src w 1 A n (byteCells bs) := by
  obtain ⟨A', c', h0, h1, h2, h3⟩ := h
  injection h0 with e1 e2 e3
  subst e1; subst e2; subst e3
  refine ⟨rfl, by simp [byteCells], fun hn => ?_⟩
  obtain ⟨a, rfl, _, hc⟩ := h3 (fun e => by subst e; simp at hn)
  refine ⟨a, rfl, fun j u hu => ?_⟩
  simp only [byteCells, List.getElem?_map, Option.map_eq_some_iff] at hu
  obtain ⟨b, hb, rfl⟩ := hu
  obtain ⟨hj, rfl⟩ := List.getElem?_eq_some_iff.1 hb
  exact hc j hj
/-- what the call owns reads as bytes -/
theorem Reads.of_own {n : Nat} (h : w.ownsRow base tb 1 v n (byteCells bs)) : Reads base tb w v bs := by
  have hl := h.1
  rw [byteCells_len] at hl
  have hn : n = bs.length := by omega
  subst hn
  rcases h.2 with ⟨rfl, h0⟩ | ⟨g, cap, cur, rfl, hb, hh, hc, hm, hs, ht⟩
  · exact ⟨none, 0, by rw [h0], by omega, by simp [maxLen], fun hne => absurd (List.eq_nil_of_length_eq_zero h0) hne⟩
  · refine ⟨some ⟨g, 0, none⟩, cap, rfl, hc, hm, fun _ => ⟨_, rfl, ⟨lt_of_some hh, .inr ⟨_, _, hh⟩⟩, fun i hi => ?_⟩⟩
    refine h.cells (g := g) rfl i _ ?_
    simp [byteCells, hi]
end

theorem ownsRow_keep {base n size : Nat} {e : TypeId} {v : Value} {xs : List Value} {w w' : World} {F : List Nat} (h : w.ownsRow base e size v n xs) (k : Keep F w w') (hn : ∀ g, v.ownBlock = some g → g ∉ F) : w'.ownsRow base e size v n xs := by
  refine ⟨h.1, ?_⟩
  rcases h.2 with h0 | ⟨g, cap, cur, rfl, hb, hh, r⟩
  · exact .inl h0
  · exact .inr ⟨g, cap, cur, rfl, hb, (k.block g (lt_of_some hh) (hn g rfl)).trans hh, r⟩
/-- the block of an owned row is a row of cells of its type: no map's block, no block of another type -/
theorem own_ne_map {base n size b : Nat} {e : TypeId} {v : Value} {xs : List Value} {w : World} {es : Array MapEntry} {cl : Nat} (h : w.ownsRow base e size v n xs) (hm : w.heap[b]? = some (.map es cl)) : v.ownBlock ≠ some b := by
  rcases h.2 with ⟨rfl, _⟩ | ⟨g, cap, cur, rfl, _, hh, _⟩
  · simp [Value.ownBlock]
  · intro he
    have : g = b := by simpa [Value.ownBlock] using he
    subst this
    rw [hh] at hm
    cases hm
theorem own_ne_blk {base n size g : Nat} {e t : TypeId} {v : Value} {xs : List Value} {w : World} {cs : Array Value} (h : w.ownsRow base e size v n xs) (hb : Blk w g t cs) (hne : e ≠ t) : v.ownBlock ≠ some g := by
  rcases h.2 with ⟨rfl, _⟩ | ⟨g', cap, cur, rfl, _, hh, _⟩
  · simp [Value.ownBlock]
  · intro he
    have : g' = g := by simpa [Value.ownBlock] using he
    subst this
    unfold Blk at hb
    rw [hh] at hb
    injection hb with hb
    injection hb with _ hb
    exact hne hb
/-- the one element that `append(l, x)` lays first -/
theorem src_new (w : World) (t : TypeId) (size : Nat) (cs : List Value) (h : cs.length = size) : Src (w.alloc (.cells cs.toArray t)) size (some ⟨w.heap.size, 0, none⟩) 1 cs :=
  ⟨by omega, fun _ => ⟨_, rfl, fun j u hu => by rw [add_mk, Nat.zero_add, (Blk.new w t cs.toArray).cell j]; simpa using hu⟩⟩

theorem slice_head {P : Program} (t e : TypeId) (ht : P.underlying t = some (.slice e)) (A : Option Addr) (n cap k : Nat) (hk : k ≤ cap) (W : World) (size : Nat) (hs : (P.info? e).map (·.size) = some size) :
    (Instr.slice t (.slice A n cap) none (some (.int .i64 (k : Int))) none).run P W = .ok (.slice A k cap) W := by
  cases hx : P.info? e with
  | none => rw [hx] at hs; cases hs
  | some i =>
    have h0 : (0 : Int) ≤ (k : Int) ∧ (k : Int) ≤ (cap : Int) := by omega
    simp [Instr.slice, run_underlying ht, Instr.sliceBounds, Instr.sliceBound, asIntOf, hk, sizeOf, typeInfo, hx]
    by_cases hc : cap = 0
    · simp [hc]
    · cases A <;> simp [hc, Addr.add]
theorem slice_tail {P : Program} (t e : TypeId) (ht : P.underlying t = some (.slice e)) (A : Option Addr) (n cap k : Nat) (hk : k ≤ n) (W : World) (size : Nat) (hs : (P.info? e).map (·.size) = some size) :
    (Instr.slice t (.slice A n cap) (some (.int .i64 (k : Int))) none none).run P W = .ok (.slice (if cap = k then A else A.map (·.add (k * size))) (n - k) (cap - k)) W := by
  cases hx : P.info? e with
  | none => rw [hx] at hs; cases hs
  | some i =>
    rw [hx] at hs
    simp at hs
    subst hs
    simp [Instr.slice, run_underlying ht, Instr.sliceBounds, Instr.sliceBound, asIntOf, hk, sizeOf, typeInfo, hx]
/-- what a cut of a source reads as -/
theorem Src.head {w : World} {size n k : Nat} {A : Option Addr} {xs : List Value} (h : Src w size A n xs) (hk : k ≤ n) : Src w size A k (xs.take (k * size)) := by
  refine ⟨?_, fun h0 => ?_⟩
  · rw [List.length_take, h.1]
    exact Nat.min_eq_left (Nat.mul_le_mul_right _ hk)
  · obtain ⟨a, ha, hc⟩ := h.2 (by omega)
    refine ⟨a, ha, fun j u hu => hc j u ?_⟩
    rw [List.getElem?_take] at hu
    split at hu
    · exact hu
    · cases hu
theorem Src.tail {w : World} {size n k cap : Nat} {A : Option Addr} {xs : List Value} (h : Src w size A n xs) (hk : k ≤ n) (hc : n ≤ cap) :
    Src w size (if cap = k then A else A.map (·.add (k * size))) (n - k) (xs.drop (k * size)) := by
  refine ⟨by rw [List.length_drop, h.1, Nat.sub_mul], fun h0 => ?_⟩
  obtain ⟨a, rfl, hcell⟩ := h.2 (by omega)
  rw [if_neg (by omega)]
  refine ⟨_, rfl, fun j u hu => ?_⟩
  rw [add_add]
  exact hcell _ u (by rw [← hu, List.getElem?_drop])
theorem Src.keep {w w' : World} {size n : Nat} {A : Option Addr} {xs : List Value} {F : List Nat} (h : Src w size A n xs) (k : Keep F w w') (hA : ∀ a, A = some a → a.block < w.heap.size ∧ a.block ∉ F) : Src w' size A n xs := by
  refine ⟨h.1, fun h0 => ?_⟩
  obtain ⟨a, rfl, hc⟩ := h.2 h0
  obtain ⟨h1, h2⟩ := hA a rfl
  exact ⟨a, rfl, fun j u hu => (k.cell (by rw [add_block]; exact h1) (by rw [add_block]; exact h2)).trans (hc j u hu)⟩
theorem Src.of_own {base size n cap : Nat} {e : TypeId} {A : Option Addr} {xs : List Value} {w : World} (h : w.ownsRow base e size (.slice A n cap) n xs) : Src w size A n xs := by
  refine ⟨h.1, fun h0 => ?_⟩
  rcases h.2 with ⟨_, h1⟩ | ⟨g, c, cur, hv, _⟩
  · omega
  · injection hv with hv
    subst hv
    exact ⟨_, rfl, h.cells (g := g) rfl⟩

/-! ### a builtin of two arguments whose run is known, at the operation -/
section
variable {P : Program} {w w' : World} {o : Oper} {a : Act} {Q : Exit → Act → World → Prop} {v1 v2 r : Value} {t1 t2 : TypeId}
theorem wp_append2 {K : Act → World → Prop} (s x : Operand) (ho : o.op = .call { callee := .builtin .append, args := #[s, x], argTypes := #[t1, t2] })
    (hs : a.eval s = v1) (hx : a.eval x = v2) (hrun : (Builtin.append_ #[t1, t2] o.type #[v1, v2]).run P w = .ok r w') (h : K (a.put o.dst r) w') : o.wp P a w K Q := by
  unfold Oper.wp execOp
  simp only [ho, resolve, invoke, builtin, Sem.run_bind, Sem.run_pure, Result.andThen_ok, List.map_toArray, List.map_cons, List.map_nil, hs, hx, hrun]
  exact h
theorem wpList_append2 {ops : Array Oper} {rest : List Oper} (hgd : o.guard = none) (s x : Operand) (ho : o.op = .call { callee := .builtin .append, args := #[s, x], argTypes := #[t1, t2] })
    (hs : a.eval s = v1) (hx : a.eval x = v2) (hrun : (Builtin.append_ #[t1, t2] o.type #[v1, v2]).run P w = .ok r w') (h : wpList P ops Q rest (a.put o.dst r) w') : wpList P ops Q (o :: rest) a w :=
  wpList_plain hgd fun _ hK => wp_append2 s x ho hs hx hrun (hK _ _ h)
theorem step_append2 {ops : Array Oper} {K : Act → World → Prop} {E : Prop} (hgd : o.guard = none) (s x : Operand) (ho : o.op = .call { callee := .builtin .append, args := #[s, x], argTypes := #[t1, t2] })
    (hs : a.eval s = v1) (hx : a.eval x = v2) (hrun : (Builtin.append_ #[t1, t2] o.type #[v1, v2]).run P w = .ok r w') (h : K (a.put o.dst r) w') :
    if Region.wanted o (yielded ops a.tmps) = true then Oper.wp P o a w K Q else E := by
  have hw : Region.wanted o (yielded ops a.tmps) = true := by simp [Region.wanted, hgd]
  rw [if_pos hw]
  exact wp_append2 s x ho hs hx hrun h
theorem wp_delete2 {K : Act → World → Prop} (s x : Operand) (ho : o.op = .call { callee := .builtin .delete, args := #[s, x], argTypes := #[t1, t2] })
    (hs : a.eval s = v1) (hx : a.eval x = v2) (hrun : (Builtin.delete_ #[t1, t2] o.type #[v1, v2]).run P w = .ok r w') (h : K (a.put o.dst r) w') : o.wp P a w K Q := by
  unfold Oper.wp execOp
  simp only [ho, resolve, invoke, builtin, Sem.run_bind, Sem.run_pure, Result.andThen_ok, List.map_toArray, List.map_cons, List.map_nil, hs, hx, hrun]
  exact h
theorem step_delete2 {ops : Array Oper} {K : Act → World → Prop} {E : Prop} (hgd : o.guard = none) (s x : Operand) (ho : o.op = .call { callee := .builtin .delete, args := #[s, x], argTypes := #[t1, t2] })
    (hs : a.eval s = v1) (hx : a.eval x = v2) (hrun : (Builtin.delete_ #[t1, t2] o.type #[v1, v2]).run P w = .ok r w') (h : K (a.put o.dst r) w') :
    if Region.wanted o (yielded ops a.tmps) = true then Oper.wp P o a w K Q else E := by
  have hw : Region.wanted o (yielded ops a.tmps) = true := by simp [Region.wanted, hgd]
  rw [if_pos hw]
  exact wp_delete2 s x ho hs hx hrun h
end

theorem run_empty_slice {P : Program} (t e : TypeId) (z : Option Value) (size bytes : Nat) (ht : P.underlying t = some (.slice e))
    (hinfo : (P.info? e).map (fun i => (i.zero, i.size, i.bytes)) = some (z, size, bytes)) (w : World) :
    (Instr.buildSlice t 0 #[]).run P w = .ok (.slice (some ⟨w.heap.size, 0, none⟩) 0 0) (w.alloc (.cells #[] e)) := by
  cases hx : P.info? e with
  | none => rw [hx] at hinfo; cases hinfo
  | some i => simp [Instr.buildSlice, run_underlying ht, sizeOf, typeInfo, hx, Instr.fill, newRow, show (Array.range 0) = #[] from Array.eq_empty_of_size_eq_zero (by simp)]

/-! ### a map with int keys: its entries in the order in which they were laid -/
def mlook {α : Type} (l : List (Int × α)) (k : Int) : Option α := (l.find? fun p => p.1 == k).map (·.2)
def mdrop {α : Type} (l : List (Int × α)) (k : Int) : List (Int × α) := l.eraseP fun p => p.1 == k
structure MapIs (w : World) (b : Nat) (l : List (Int × Value)) (es : Array MapEntry) (cl : Nat) : Prop where
  heap : w.heap[b]? = some (.map es cl)
  rows : es.toList.map (fun e => (e.key, e.val)) = l.map fun p => (Value.int .i64 p.1, p.2)
  born : (es.toList.map (·.born)).Nodup
  old : ∀ e ∈ es.toList, e.born < cl

theorem MapIs.keep {F : List Nat} {w w' : World} {b : Nat} {l : List (Int × Value)} {es : Array MapEntry} {cl : Nat} (h : MapIs w b l es cl) (k : Keep F w w') (hn : b ∉ F) : MapIs w' b l es cl :=
  ⟨(k.block b (lt_of_some h.heap) hn).trans h.heap, h.rows, h.born, h.old⟩

theorem findNow_int (k : Int) : ∀ (es : List MapEntry) (l : List (Int × Value)) (i : Nat), es.map (fun e => (e.key, e.val)) = l.map (fun p => (Value.int .i64 p.1, p.2)) →
    Instr.findNow (.int .i64) (.int .i64 k) es i = some ((l.findIdx? fun p => p.1 == k).map fun j => (i + j, (mlook l k).getD undef))
  | [], [], i, _ => by simp [Instr.findNow]
  | [], _ :: _, _, h => by simp at h
  | _ :: _, [], _, h => by simp at h
  | e :: es, p :: l, i, h => by
    simp only [List.map_cons, List.cons.injEq, Prod.mk.injEq] at h
    obtain ⟨⟨hk, hv⟩, ht⟩ := h
    have ih := findNow_int k es l (i + 1) ht
    unfold Instr.findNow
    rw [hk]
    by_cases hp : p.1 = k
    · simp [Instr.sameNow, List.findIdx?_cons, mlook, hp, hv]
    · have h1 : (k == p.1) = false := by simp; exact fun e => hp e.symm
      have h2 : (p.1 == k) = false := by simpa using hp
      simp only [Instr.sameNow, if_true, h1]
      rw [ih]
      simp only [List.findIdx?_cons, h2, mlook, List.find?_cons]
      cases List.findIdx? (fun p => p.1 == k) l
      · simp
      · simp; omega

section
variable {P : Program} {w : World} {b : Nat} {l : List (Int × Value)} {es : Array MapEntry} {cl : Nat} {t k e : TypeId}
theorem look_none {α : Type} {l : List (Int × α)} {k : Int} : mlook l k = none ↔ ∀ p ∈ l, p.1 ≠ k := by
  unfold mlook
  rw [Option.map_eq_none_iff, List.find?_eq_none]
  simp
theorem findIdx_look {α : Type} (l : List (Int × α)) (k : Int) : (l.findIdx? fun p => p.1 == k).isSome = (mlook l k).isSome := by
  unfold mlook
  induction l with
  | nil => rfl
  | cons p l ih =>
    simp only [List.findIdx?_cons, List.find?_cons]
    cases hp : (p.1 == k)
    · simp only [Bool.false_eq_true, if_false, Option.isSome_map]
      rw [ih, Option.isSome_map]
    · simp

theorem run_findKey (hk : P.underlying k = some (.int .i64)) (h : MapIs w b l es cl) (x : Int) :
    (Instr.findKey k (.int .i64 x) es.toList).run P w = .ok ((l.findIdx? fun p => p.1 == x).map fun j => (j, (mlook l x).getD undef)) w := by
  unfold Instr.findKey
  have := findNow_int x es.toList l 0 h.rows
  simp only [Nat.zero_add] at this
  simp [run_underlying hk, this]

theorem run_checkKey (hk : P.underlying k = some (.int .i64)) (emp : Bool) (x : Int) (w : World) : (Instr.checkKey emp 10000 k (.int .i64 x)).run P w = .ok () w := by
  have : ∀ n, (Instr.checkKey emp (n + 1) k (.int .i64 x)).run P w = .ok () w := fun n => by simp [Instr.checkKey, run_underlying hk]
  exact this 9999

theorem run_lookup_ok (ht : P.underlying t = some (.map k e)) (hk : P.underlying k = some (.int .i64)) (z : Value) (hz : (zeroValue e).run P w = .ok z w) (h : MapIs w b l es cl) (x : Int) :
    (Instr.lookup t (.map (some b)) (.int .i64 x) true).run P w = .ok (.tuple #[(mlook l x).getD z, .bool (mlook l x).isSome]) w := by
  have hf := run_findKey (P := P) (k := k) hk h x
  have hi := findIdx_look l x
  have hh := h.heap
  unfold Instr.lookup
  cases hl : mlook l x with
  | none =>
    rw [hl] at hi
    have hn : (l.findIdx? fun p => p.1 == x) = none := by simpa using hi
    rw [hn] at hf
    simp [run_underlying ht, hh, run_checkKey hk, hf, hz, getObj, Sem.run]
  | some v =>
    rw [hl] at hi
    obtain ⟨j, hj⟩ := Option.isSome_iff_exists.1 hi
    rw [hj, hl] at hf
    simp [run_underlying ht, hh, run_checkKey hk, hf, getObj, Sem.run]

/-- a store under a key that is not there -/
theorem run_mapUpdate_new (ht : P.underlying t = some (.map k e)) (hk : P.underlying k = some (.int .i64)) (h : MapIs w b l es cl) (x : Int) (v : Value) (hx : mlook l x = none) :
    ∃ w', (Instr.mapUpdate t (.map (some b)) (.int .i64 x) v).run P w = .ok () w' ∧ MapIs w' b (l ++ [(x, v)]) (es.push { key := .int .i64 x, val := v, born := cl }) (cl + 1) ∧ Keep [b] w w' ∧ w'.heap.size = w.heap.size := by
  have hf := run_findKey (P := P) (k := k) hk h x
  have hi := findIdx_look l x
  rw [hx] at hi
  have hn : (l.findIdx? fun p => p.1 == x) = none := by simpa using hi
  rw [hn] at hf
  have hh := h.heap
  have hlt := lt_of_some hh
  refine ⟨{ w with heap := w.heap.setIfInBounds b (.map (es.push { key := .int .i64 x, val := v, born := cl }) (cl + 1)) }, ?_, ⟨?_, ?_, ?_, ?_⟩, ⟨rfl, rfl, rfl, by simp, ?_⟩, by simp⟩
  · unfold Instr.mapUpdate
    simp [run_underlying ht, hh, run_checkKey hk, hf, getObj, setObj, Sem.run]
  · simp [hlt]
  · simp [h.rows]
  · have := h.born
    simp only [Array.toList_push, List.map_append, List.map_cons, List.map_nil]
    rw [List.nodup_append]
    refine ⟨this, by simp, ?_⟩
    intro a ha c hc
    simp only [List.mem_map] at ha
    obtain ⟨e0, he0, rfl⟩ := ha
    have := h.old e0 he0
    simp at hc
    omega
  · intro e0 he0
    simp only [Array.toList_push, List.mem_append, List.mem_singleton] at he0
    rcases he0 with he0 | rfl
    · have := h.old e0 he0; omega
    · simp
  · intro i hi hn
    simp at hn
    simp [Ne.symm hn]

theorem eraseIdx_findIdx {α : Type} (p : α → Bool) : ∀ (l : List α) (j : Nat), l.findIdx? p = some j → l.eraseIdx j = l.eraseP p
  | [], j, h => by simp at h
  | x :: l, j, h => by
    rw [List.findIdx?_cons] at h
    cases hx : p x
    · rw [hx] at h
      simp only [Bool.false_eq_true, if_false, Option.map_eq_some_iff] at h
      obtain ⟨j', hj', rfl⟩ := h
      rw [List.eraseIdx_cons_succ, List.eraseP_cons_of_neg (by simp [hx]), eraseIdx_findIdx p l j' hj']
    · rw [hx] at h
      simp at h
      subst h
      rw [List.eraseIdx_cons_zero, List.eraseP_cons_of_pos hx]

theorem map_eraseIdx' {α β : Type} (f : α → β) (l : List α) (j : Nat) : (l.eraseIdx j).map f = (l.map f).eraseIdx j := by
  induction l generalizing j with
  | nil => simp
  | cons x l ih => cases j <;> simp [ih]

/-- delete of a key that is there -/
theorem run_delete_there (ht : P.underlying t = some (.map k e)) (hk : P.underlying k = some (.int .i64)) (h : MapIs w b l es cl) (x : Int) (tk ty : TypeId) (hx : (mlook l x).isSome = true) :
    ∃ w' es', (Builtin.delete_ #[t, tk] ty #[.map (some b), .int .i64 x]).run P w = .ok (.tuple #[]) w' ∧ MapIs w' b (mdrop l x) es' cl ∧ Keep [b] w w' ∧ w'.heap.size = w.heap.size := by
  have hf := run_findKey (P := P) (k := k) hk h x
  have hi := findIdx_look l x
  rw [hx] at hi
  obtain ⟨j, hj⟩ := Option.isSome_iff_exists.1 hi
  rw [hj] at hf
  have hh := h.heap
  have hlt := lt_of_some hh
  have hl : (es.eraseIdxIfInBounds j).toList = es.toList.eraseIdx j := by simp
  refine ⟨{ w with heap := w.heap.setIfInBounds b (.map (es.eraseIdxIfInBounds j) cl) }, es.eraseIdxIfInBounds j, ?_, ⟨?_, ?_, ?_, ?_⟩, ⟨rfl, rfl, rfl, by simp, ?_⟩, by simp⟩
  · unfold Builtin.delete_
    simp [run_underlying ht, hh, run_checkKey hk, hf, getObj, setObj, Sem.run]
  · simp [hlt]
  · rw [hl, map_eraseIdx', h.rows, ← map_eraseIdx', eraseIdx_findIdx _ l j hj]; rfl
  · rw [hl]
    exact h.born.sublist ((List.eraseIdx_sublist _ _).map _)
  · intro e0 he0
    rw [hl] at he0
    exact h.old e0 (List.mem_of_mem_eraseIdx he0)
  · intro i hi hn
    simp at hn
    simp [Ne.symm hn]

/-! ### ranging over such a map while nobody writes it -/
def IterIs (w : World) (r b cl : Nat) (seen : Array Nat) : Prop := w.heap[r]? = some (.mapIter (some b) cl seen cl)
theorem smap_range (ht : P.underlying t = some (.map k e)) (h : MapIs w b l es cl) :
    (Instr.range t (.map (some b))).run P w = .ok (.pointer (some ⟨w.heap.size, 0, none⟩)) (w.alloc (.mapIter (some b) cl #[] cl)) := by
  have hh := h.heap
  unfold Instr.range
  simp [run_underlying ht, hh, getObj, newObj, Sem.run]
theorem smap_next {r : Nat} {seen : Array Nat} (h : MapIs w b l es cl) (hr : IterIs w r b cl seen) (ty : TypeId) :
    ((∀ e ∈ es.toList, e.born ∈ seen.toList) ∧ (Instr.next (.pointer (some ⟨r, 0, none⟩)) false ty).run P w = .ok (.tuple #[.bool false]) w) ∨
    ∃ e w', e ∈ es.toList ∧ e.born ∉ seen.toList ∧ (Instr.next (.pointer (some ⟨r, 0, none⟩)) false ty).run P w = .ok (.tuple #[.bool true, e.key, e.val]) w' ∧
      (Instr.entry (.pointer (some ⟨r, 0, none⟩))).run P w' = .ok (.tuple #[e.key, e.val]) w' ∧ IterIs w' r b cl (seen.push e.born) ∧ Keep [r] w w' ∧ w'.heap.size = w.heap.size := by
  have hlt := lt_of_some hr
  have hrb : r ≠ b := by
    rintro rfl
    unfold IterIs at hr
    rw [h.heap] at hr
    cases hr
  rcases run_next_at (P := P) w ty r b cl cl seen es cl hr h.heap h.old (Nat.le_refl _) with ⟨h0, hrun⟩ | ⟨e0, he0, w1, hw1, hrun⟩
  · refine .inl ⟨fun e1 he1 => ?_, hrun⟩
    apply Classical.byContradiction
    intro hn
    have : e1 ∈ leftOf es seen := by unfold leftOf; simp; exact ⟨by simpa using he1, by simpa using hn⟩
    rw [Array.eq_empty_of_size_eq_zero h0] at this
    simp at this
  · have hin : e0 ∈ es.toList ∧ e0.born ∉ seen.toList := by unfold leftOf at he0; simpa using he0
    have e1 : (ChangeMaps.setBlock w1 r (.mapIter (some b) cl (seen.push e0.born) cl)).heap = w.heap.setIfInBounds r (.mapIter (some b) cl (seen.push e0.born) cl) := by
      rcases hw1 with rfl | rfl <;> rfl
    have hit : IterIs (ChangeMaps.setBlock w1 r (.mapIter (some b) cl (seen.push e0.born) cl)) r b cl (seen.push e0.born) := by
      unfold IterIs; rw [e1]; simp [hlt]
    have hk : Keep [r] w (ChangeMaps.setBlock w1 r (.mapIter (some b) cl (seen.push e0.born) cl)) := by
      refine ⟨?_, ?_, ?_, by rw [e1]; simp, fun i hi hn => ?_⟩
      · rcases hw1 with rfl | rfl <;> rfl
      · rcases hw1 with rfl | rfl <;> rfl
      · rcases hw1 with rfl | rfl <;> rfl
      · simp at hn
        rw [e1]
        simp [Ne.symm hn]
    refine .inr ⟨e0, _, hin.1, hin.2, hrun, run_entry_at _ r b cl seen es cl e0 hit ?_ hin.1 h.born, hit, hk, by rw [e1]; simp⟩
    rw [hk.block b (lt_of_some h.heap) (by simp; exact fun e => hrb e.symm)]
    exact h.heap
end
end Go.Sal
set_option linter.unusedVariables false
set_option linter.unusedSimpArgs false
namespace Go.Sal
open Go.RowKit
section
variable {α : Type} {f : α → List Value} {size : Nat}
theorem rf_len (hf : ∀ x, (f x).length = size) (l : List α) : (l.flatMap f).length = l.length * size := by
  induction l with
  | nil => simp
  | cons x l ih => rw [List.flatMap_cons, List.length_append, hf, ih, List.length_cons, Nat.add_mul]; omega
theorem rf_get (hf : ∀ x, (f x).length = size) : ∀ (l : List α) (k j : Nat) (hk : k < l.length) (hj : j < size), (l.flatMap f)[k * size + j]? = (f l[k])[j]?
  | [], k, j, hk, _ => by simp at hk
  | x :: l, 0, j, _, hj => by
    rw [List.flatMap_cons, Nat.zero_mul, Nat.zero_add, List.getElem?_append_left (by rw [hf]; exact hj)]
    rfl
  | x :: l, k + 1, j, hk, hj => by
    rw [List.flatMap_cons, List.getElem?_append_right (by rw [hf, Nat.add_mul]; omega), hf]
    have e : (k + 1) * size + j - size = k * size + j := by rw [Nat.add_mul]; omega
    rw [e, rf_get hf l k j (by simpa using hk) hj]
    rfl
theorem rf_set (hf : ∀ x, (f x).length = size) : ∀ (l : List α) (k j : Nat) (hk : k < l.length) (hj : j < size) (u : Value) (x' : α), f x' = (f l[k]).set j u → (l.flatMap f).set (k * size + j) u = (l.set k x').flatMap f
  | [], k, j, hk, _, _, _, _ => by simp at hk
  | x :: l, 0, j, _, hj, u, x', h => by
    rw [List.flatMap_cons, Nat.zero_mul, Nat.zero_add, List.set_append_left _ _ (by rw [hf]; exact hj), List.set_cons_zero, List.flatMap_cons, h]
    rfl
  | x :: l, k + 1, j, hk, hj, u, x', h => by
    rw [List.flatMap_cons, List.set_append_right _ _ (by rw [hf, Nat.add_mul]; omega), hf]
    have e : (k + 1) * size + j - size = k * size + j := by rw [Nat.add_mul]; omega
    rw [e, rf_set hf l k j (by simpa using hk) hj u x' h, List.set_cons_succ, List.flatMap_cons]
theorem rf_drop (hf : ∀ x, (f x).length = size) : ∀ (l : List α) (k : Nat), (l.drop k).flatMap f = (l.flatMap f).drop (k * size)
  | [], k => by simp
  | x :: l, 0 => by simp
  | x :: l, k + 1 => by
    rw [List.drop_succ_cons, rf_drop hf l k, List.flatMap_cons, List.drop_append, hf]
    have e : (k + 1) * size - size = k * size := by rw [Nat.add_mul]; omega
    rw [e, List.drop_eq_nil_of_le (as := f x) (by rw [hf, Nat.add_mul]; omega), List.nil_append]
theorem rf_take (hf : ∀ x, (f x).length = size) : ∀ (l : List α) (k : Nat), (l.take k).flatMap f = (l.flatMap f).take (k * size)
  | [], k => by simp
  | x :: l, 0 => by simp
  | x :: l, k + 1 => by
    rw [List.take_succ_cons, List.flatMap_cons, rf_take hf l k, List.flatMap_cons, List.take_append, hf]
    have e : (k + 1) * size - size = k * size := by rw [Nat.add_mul]; omega
    rw [e, List.take_of_length_le (l := f x) (by rw [hf, Nat.add_mul]; omega)]
end
/-- an owned row behind a store into one of its cells -/
theorem ownsRow_set {w : World} {base n size cap g : Nat} {e : TypeId} {xs : List Value} (h : w.ownsRow base e size (.slice (some ⟨g, 0, none⟩) n cap) n xs) (j : Nat) (hj : j < n * size) (u : Value) :
    (w.setCell ⟨g, j, none⟩ u).ownsRow base e size (.slice (some ⟨g, 0, none⟩) n cap) n (xs.set j u) := by
  refine ⟨by rw [List.length_set]; exact h.1, ?_⟩
  rcases h.2 with ⟨h0, _⟩ | ⟨g', cap', cur, hv, hb, hh, h1, h2, h3, h4⟩
  · cases h0
  · injection hv with hv1 _ hv2
    injection hv1 with hv1
    injection hv1 with hv1
    subst hv1
    subst hv2
    refine .inr ⟨g, cap, cur.setIfInBounds j u, rfl, hb, ?_, h1, h2, by simpa using h3, ?_⟩
    · have := Blk.set_ (w := w) (g := g) (t := e) (cs := cur) hh j u
      exact this
    · rw [← h4, Array.toList_setIfInBounds, List.take_set]
theorem ownsRow_cell {w : World} {base n size cap g : Nat} {e : TypeId} {xs : List Value} (h : w.ownsRow base e size (.slice (some ⟨g, 0, none⟩) n cap) n xs) {j : Nat} {u : Value} (hj : xs[j]? = some u) :
    w.cell? ⟨g, j, none⟩ = some u ∧ w.frozen? ⟨g, j, none⟩ = false := by
  have h1 := h.cells (g := g) rfl j u hj
  rw [add_mk, Nat.zero_add] at h1
  refine ⟨h1, ?_⟩
  rcases h.2 with ⟨h0, _⟩ | ⟨g', cap', cur, hv, hb, hh, _⟩
  · cases h0
  · injection hv with hv1 _ _
    injection hv1 with hv1
    injection hv1 with hv1
    subst hv1
    exact Blk.free (cs := cur) (t := e) hh j
theorem own_some {base n size c : Nat} {e : TypeId} {A : Option Addr} {xs : List Value} {w : World} (h : w.ownsRow base e size (.slice A n c) n xs) (hn : 0 < n) : ∃ g, A = some ⟨g, 0, none⟩ ∧ g < w.heap.size ∧ base ≤ g := by
  obtain ⟨g, cap, hv, h1, h2⟩ := h.form hn
  injection hv with hv
  exact ⟨g, hv, h2, h1⟩
end Go.Sal
