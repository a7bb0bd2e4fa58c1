/- Words for memory that the walks of this claim use: what a call keeps, a block that is known whole, a slice that reads as bytes, a map with int keys as a row of entries. -/
import Derived.WalkKit
import Derived.WalkSpells
import Derived.Deep.AppendLies
import Derived.Maps.AppendAt
import Derived.Deep.Draws
import Derived.RegionTactic
import Derived.OwnWalk
set_option linter.unusedVariables false
set_option linter.unusedSimpArgs false
namespace Go.Sal
open Go.RowKit

/-! ### what a call keeps: every old block but those of F -/
structure Keep (F : List Nat) (w w' : World) : Prop where
  os : w'.os = w.os
  tape : w'.tape = w.tape
  output : w'.output = w.output
  size : w.heap.size ≤ w'.heap.size
  block : ∀ k, k < w.heap.size → k ∉ F → w'.heap[k]? = w.heap[k]?

section
variable {F G : List Nat} {w w' a b c : World}
theorem Keep.refl (F : List Nat) (w : World) : Keep F w w := ⟨rfl, rfl, rfl, Nat.le_refl _, fun _ _ _ => rfl⟩
theorem Keep.trans (h : Keep F a b) (k : Keep F b c) : Keep F a c :=
  ⟨k.os.trans h.os, k.tape.trans h.tape, k.output.trans h.output, Nat.le_trans h.size k.size,
    fun i hi hn => (k.block i (Nat.lt_of_lt_of_le hi h.size) hn).trans (h.block i hi hn)⟩
/-- the second step may also write what is new since a -/
theorem Keep.step (h : Keep F a b) (k : Keep G b c) (hG : ∀ i, i ∈ G → i ∈ F ∨ a.heap.size ≤ i) : Keep F a c :=
  ⟨k.os.trans h.os, k.tape.trans h.tape, k.output.trans h.output, Nat.le_trans h.size k.size,
    fun i hi hn => (k.block i (Nat.lt_of_lt_of_le hi h.size) (fun hg => by
      rcases hG i hg with h1 | h1
      · exact hn h1
      · omega)).trans (h.block i hi hn)⟩
theorem Keep.mono (h : Keep F a b) (hF : ∀ i, i ∈ F → i ∈ G) : Keep G a b :=
  ⟨h.os, h.tape, h.output, h.size, fun i hi hn => h.block i hi (fun hf => hn (hF i hf))⟩
theorem Keep.below (h : Keep [] a b) : Below a.heap.size a b := ⟨h.os, h.tape, h.output, h.size, fun k hk => h.block k hk (by simp)⟩
theorem Keep.belowB {B : Nat} (h : Keep F a b) (hB : B ≤ a.heap.size) (hF : ∀ i, i ∈ F → B ≤ i) : Below B a b :=
  ⟨h.os, h.tape, h.output, h.size, fun k hk => h.block k (by omega) (fun hf => by have := hF k hf; omega)⟩
theorem Keep.of_below (h : Below a.heap.size a b) : Keep F a b := ⟨h.os, h.tape, h.output, h.size, fun k hk _ => h.block k hk⟩
theorem Keep.of_grown {row : Option Nat} (h : a.grownBy b row) (hr : ∀ k, row = some k → k ∈ F) : Keep F a b :=
  ⟨h.os, h.tape, h.output, h.size, fun k hk hn => h.block k hk (fun e => hn (hr k e.symm))⟩
theorem Keep.drew (h : Keep F a b) : Keep F a b.drew := ⟨h.os, h.tape, h.output, h.size, h.block⟩
theorem Keep.drewN (h : Keep F a b) (n : Nat) : Keep F a (b.drewN n) := ⟨h.os, h.tape, h.output, h.size, h.block⟩
theorem Keep.of_drew (h : Keep F a.drew b) : Keep F a b := ⟨h.os, h.tape, h.output, h.size, h.block⟩
theorem Keep.of_drewN {n : Nat} (h : Keep F (a.drewN n) b) : Keep F a b := ⟨h.os, h.tape, h.output, h.size, h.block⟩
theorem Keep.alloc (h : Keep F a b) (o : Obj) : Keep F a (b.alloc o) :=
  h.trans ⟨rfl, rfl, rfl, by simp, fun k hk _ => Below.heap_alloc _ _ _ hk⟩
theorem Keep.setCell (h : Keep F a b) {p : Addr} (hp : p.block ∈ F ∨ a.heap.size ≤ p.block) (u : Value) : Keep F a (b.setCell p u) :=
  ⟨h.os, h.tape, h.output, by simpa [World.setCell] using h.size, fun k hk hn => (Below.heap_setCell b p u k (by
    rintro rfl
    rcases hp with hp | hp
    · exact hn hp
    · omega)).trans (h.block k hk hn)⟩
theorem Keep.grown (h : Keep F a b) {row : Option Nat} (hg : b.grownBy c row) (hr : ∀ k, row = some k → k ∈ F ∨ a.heap.size ≤ k) : Keep F a c :=
  h.step (Keep.of_grown (F := row.toList) hg (fun k hk => by simp [hk])) (fun i hi => hr i (by simpa [Option.mem_toList] using hi))
theorem Keep.cell (h : Keep F a b) {p : Addr} (hp : p.block < a.heap.size) (hn : p.block ∉ F) : b.cell? p = a.cell? p := World.cell?_of_block (h.block _ hp hn)
end

/-! ### a block that is known whole -/
def Blk (w : World) (g : Nat) (t : TypeId) (cs : Array Value) : Prop := w.heap[g]? = some (.cells cs t (0, 0))
section
variable {w w' : World} {g : Nat} {t : TypeId} {cs : Array Value} {F : List Nat}
theorem lt_of_some {w : World} {g : Nat} {o : Obj} (h : w.heap[g]? = some o) : g < w.heap.size := by
  rcases Nat.lt_or_ge g w.heap.size with hlt | hge
  · exact hlt
  · rw [Array.getElem?_eq_none hge] at h; cases h
theorem Blk.lt (h : Blk w g t cs) : g < w.heap.size := lt_of_some h
theorem Blk.cell (h : Blk w g t cs) (i : Nat) : w.cell? ⟨g, i, none⟩ = cs[i]? := cell_of_row w g i cs t (0, 0) h
theorem Blk.free (h : Blk w g t cs) (i : Nat) : w.frozen? ⟨g, i, none⟩ = false := by
  unfold Blk at h
  simp [World.frozen?, h]
theorem Blk.keep (h : Blk w g t cs) (k : Keep F w w') (hn : g ∉ F) : Blk w' g t cs := (k.block g h.lt hn).trans h
theorem Blk.drew (h : Blk w g t cs) : Blk w.drew g t cs := h
theorem Blk.drewN (h : Blk w g t cs) (n : Nat) : Blk (w.drewN n) g t cs := h
theorem Blk.alloc (h : Blk w g t cs) (o : Obj) : Blk (w.alloc o) g t cs := (Below.heap_alloc w o g h.lt).trans h
theorem Blk.new (w : World) (t : TypeId) (cs : Array Value) : Blk (w.alloc (.cells cs t)) w.heap.size t cs := heap_alloc_new w _
theorem Blk.set_ (h : Blk w g t cs) (i : Nat) (u : Value) : Blk (w.setCell ⟨g, i, none⟩ u) g t (cs.setIfInBounds i u) := by
  unfold Blk at h ⊢
  simp [World.setCell, Array.getElem?_modify, h]
theorem Blk.far (h : Blk w g t cs) {p : Addr} (hp : g ≠ p.block) (u : Value) : Blk (w.setCell p u) g t cs := (Below.heap_setCell w p u g hp).trans h
theorem Blk.grown {row : Option Nat} (h : Blk w g t cs) (hb : w.grownBy w' row) (hg : some g ≠ row) : Blk w' g t cs := (hb.block g h.lt hg).trans h
theorem Blk.ne_ {g' : Nat} {t' : TypeId} {cs' : Array Value} (h : Blk w g t cs) (h' : Blk w g' t' cs') (hne : t ≠ t') : g ≠ g' := by
  rintro rfl
  unfold Blk at h h'
  rw [h] at h'
  injection h' with h'
  injection h' with _ ht
  exact hne ht
end

/-! ### a slice that reads as bytes; what it reads lies below `base`, or in a block of bytes (type tb) -/
def ByteBlk (base : Nat) (tb : TypeId) (w : World) (k : Nat) : Prop := k < w.heap.size ∧ (k < base ∨ ∃ cur fr, w.heap[k]? = some (.cells cur tb fr))
/-- nothing in F is a block of bytes, or old -/
def NoByte (base : Nat) (tb : TypeId) (w : World) (F : List Nat) : Prop := ∀ k, k ∈ F → ¬ ByteBlk base tb w k
def Reads (base : Nat) (tb : TypeId) (w : World) (v : Value) (bs : List UInt8) : Prop :=
  ∃ A c, v = .slice A bs.length c ∧ bs.length ≤ c ∧ c ≤ maxLen ∧
    (bs ≠ [] → ∃ a, A = some a ∧ ByteBlk base tb w a.block ∧ ∀ i (h : i < bs.length), w.cell? (a.add i) = some (.int .u8 bs[i].toNat))
section
variable {base : Nat} {tb : TypeId} {w w' : World} {v : Value} {bs : List UInt8} {F : List Nat}
theorem add_block (a : Addr) (n : Nat) : (a.add n).block = a.block := by unfold Addr.add; split <;> rfl
theorem add_add (a : Addr) (i j : Nat) : (a.add i).add j = a.add (i + j) := by
  unfold Addr.add
  by_cases hi : i = 0 <;> by_cases hj : j = 0 <;> simp [hi, hj, Nat.add_assoc]
theorem add_mk (g o i : Nat) : (⟨g, o, none⟩ : Addr).add i = ⟨g, o + i, none⟩ := by
  unfold Addr.add; split <;> simp_all
theorem ByteBlk.keep {k : Nat} (h : ByteBlk base tb w k) (hk : Keep F w w') (hn : k ∉ F) : ByteBlk base tb w' k := by
  refine ⟨Nat.lt_of_lt_of_le h.1 hk.size, ?_⟩
  rcases h.2 with h1 | ⟨cur, fr, h1⟩
  · exact .inl h1
  · exact .inr ⟨cur, fr, (hk.block k h.1 hn).trans h1⟩
theorem Reads.keep (h : Reads base tb w v bs) (hk : Keep F w w') (hn : NoByte base tb w F) : Reads base tb w' v bs := by
  obtain ⟨A, c, rfl, h1, h2, h3⟩ := h
  refine ⟨A, c, rfl, h1, h2, fun hne => ?_⟩
  obtain ⟨a, rfl, hb, hc⟩ := h3 hne
  have hnf : a.block ∉ F := fun hf => hn _ hf hb
  exact ⟨a, rfl, hb.keep hk hnf, fun i hi => (hk.cell (by rw [add_block]; exact hb.1) (by rw [add_block]; exact hnf)).trans (hc i hi)⟩
theorem Reads.nil (base : Nat) (tb : TypeId) (w : World) : Reads base tb w (.slice none 0 0) [] := ⟨none, 0, rfl, by simp, by simp [maxLen], fun h => absurd rfl h⟩
theorem noByte_nil : NoByte base tb w [] := fun _ h => by simp at h
theorem noByte_cons {g : Nat} {t : TypeId} {cs : Array Value} (hb : Blk w g t cs) (ht : t ≠ tb) (hg : base ≤ g) (h : NoByte base tb w F) : NoByte base tb w (g :: F) := by
  intro k hk
  rcases List.mem_cons.1 hk with rfl | hk
  · rintro ⟨_, h1 | ⟨cur, fr, h1⟩⟩
    · omega
    · unfold Blk at hb; rw [hb] at h1; injection h1 with h1; injection h1 with _ h1; exact ht h1
  · exact h k hk
theorem noByte_map {g : Nat} {es : Array MapEntry} {cl : Nat} (hb : w.heap[g]? = some (.map es cl)) (hg : base ≤ g) (h : NoByte base tb w F) : NoByte base tb w (g :: F) := by
  intro k hk
  rcases List.mem_cons.1 hk with rfl | hk
  · rintro ⟨_, h1 | ⟨cur, fr, h1⟩⟩
    · omega
    · rw [hb] at h1; cases h1
  · exact h k hk
theorem noByte_own {base' : Nat} {e : TypeId} {size n : Nat} {v : Value} {xs : List Value} (h : w.ownsRow base' e size v n xs) (hbb : base ≤ base') (ht : e ≠ tb) (hF : NoByte base tb w F) : NoByte base tb w (v.ownBlock.toList ++ F) := by
  intro k hk
  rcases List.mem_append.1 hk with hk | hk
  · rcases h.2 with ⟨rfl, _⟩ | ⟨g, cap, cur, rfl, hg, hh, _⟩
    · simp [Value.ownBlock] at hk
    · simp [Value.ownBlock] at hk
      subst hk
      rintro ⟨_, h1 | ⟨cur', fr, h1⟩⟩
      · omega
      · rw [hh] at h1; injection h1 with h1; injection h1 with _ h1; exact ht h1
  · exact hF k hk
end
end Go.Sal
