/- add, line. -/
import Derived.Test.YtopfbbnpbobhaaaDoorT3
set_option linter.unusedVariables false
set_option linter.unusedSimpArgs false
namespace Go.Proofs.YtopfbbnpbobhaaaDoor
open Go.RowKit Go.Sal

/-- the cells that strings lie in -/
def strRow (l : List (List UInt8)) : List Value := l.map fun s => .string ⟨s.toArray⟩
theorem info9 : (Tryd.prog.info? 9).map (fun i => (i.zero, i.size, i.bytes)) = some (some (.string ⟨#[]⟩), 1, 16) := by kernel_rfl
/-- the words so far, behind the captured variable -/
def WordsIs (base bw : Nat) (l : List (List UInt8)) (w : World) : Prop := base ≤ bw ∧ ∃ A c, Blk w bw 90 #[.slice A l.length c] ∧ w.ownsRow base 9 1 (.slice A l.length c) l.length (strRow l)
theorem WordsIs.keep {base bw : Nat} {l : List (List UInt8)} {w w' : World} (h : WordsIs base bw l w) (k : Keep [] w w') : WordsIs base bw l w' := by
  obtain ⟨h0, A, c, h1, h2⟩ := h
  exact ⟨h0, A, c, h1.keep k (by simp), ownsRow_keep h2 k (by simp)⟩
theorem WordsIs.far {base bw : Nat} {l : List (List UInt8)} {w : World} (h : WordsIs base bw l w) {g i : Nat} {t : TypeId} {cs : Array Value} (hb : Blk w g t cs) (ht : t ≠ 90) (ht2 : t ≠ 9) (u : Value) : WordsIs base bw l (w.setCell ⟨g, i, none⟩ u) := by
  obtain ⟨h0, A, c, h1, h2⟩ := h
  refine ⟨h0, A, c, h1.far (fun e => ?_) u, ownsRow_keep h2 ((Keep.refl [g] w).setCell (.inl (by simp)) u) (fun k hk hm => ?_)⟩
  · exact (h1.ne_ hb (fun e2 => ht e2.symm)) e
  · simp only [List.mem_cons, List.not_mem_nil, or_false] at hm
    subst hm
    exact own_ne_blk h2 hb (fun e => ht2 e.symm) hk
def AddR (base bw : Nat) (l : List (List UInt8)) (s : List UInt8) (w : World) (e : Ending) (w' : World) : Prop :=
  (∃ v, e = .returned v) ∧ WordsIs base bw (l ++ [s]) w' ∧ Below base w w' ∧ (∀ (g : Nat) (t : TypeId) (cs : Array Value) (ff : Nat × Nat), w.heap[g]? = some (Obj.cells cs t ff) → t ≠ 90 → t ≠ 9 → w'.heap[g]? = some (Obj.cells cs t ff))
set_option maxRecDepth 20000 in
set_option maxHeartbeats 4000000 in
theorem add_any (base bw : Nat) (l : List (List UInt8)) (s : List UInt8) (w : World) (h : WordsIs base bw l w) (hB : base ≤ w.heap.size) (hl : l.length ≤ 1000) :
    Calls Tryd.prog 60 #[.string ⟨s.toArray⟩, .pointer (some ⟨bw, 0, none⟩)] w fun e w' => AddR base bw l s w e w' := by
  obtain ⟨h0, A, c, hb, ho⟩ := h
  have c0 : w.cell? ⟨bw, 0, none⟩ = some (.slice A l.length c) := hb.cell 0
  obtain ⟨v', w7, hrun, hown, hgr, hor⟩ := run_append_src (P := Tryd.prog) (w.alloc (.cells #[.string ⟨s.toArray⟩] 9)) 90 90 9 (.string ⟨#[]⟩) 1 16 base Tryd.underlying90 info9 rfl (by decide) (.slice A l.length c) l.length (strRow l) (ho.alloc _) (some ⟨w.heap.size, 0, none⟩) 1 1 (strRow [s]) (src_new w 9 1 [.string ⟨s.toArray⟩] rfl) (by intro u hu; simp [strRow] at hu; subst hu; rfl) (by unfold maxLen; omega) (by omega) (by simp; omega)
  obtain ⟨A', c', rfl⟩ : ∃ A' c', v' = .slice A' (l.length + 1) c' := by
    rcases hown.2 with ⟨rfl, h1⟩ | ⟨g, cap, cur, rfl, _⟩
    · omega
    · exact ⟨_, _, rfl⟩
  have hne : (Value.slice A l.length c).ownBlock ≠ some bw := own_ne_blk ho hb (by decide)
  have hb7 : Blk w7 bw 90 #[.slice A l.length c] := (hb.alloc _).grown hgr (fun e => hne e.symm)
  have d0 : w7.cell? ⟨bw, 0, none⟩ = some (.slice A l.length c) := hb7.cell 0
  have df : w7.frozen? ⟨bw, 0, none⟩ = false := hb7.free 0
  have hb8 := hb7.set_ 0 (.slice A' (l.length + 1) c')
  have hne7 : (Value.slice A' (l.length + 1) c').ownBlock ≠ some bw := own_ne_blk hown hb7 (by decide)
  have hfin : Hid (WordsIs base bw (l ++ [s]) (w7.setCell ⟨bw, 0, none⟩ (.slice A' (l.length + 1) c')) ∧ Below base w (w7.setCell ⟨bw, 0, none⟩ (.slice A' (l.length + 1) c')) ∧ (∀ (g : Nat) (t : TypeId) (cs : Array Value) (ff : Nat × Nat), w.heap[g]? = some (Obj.cells cs t ff) → t ≠ 90 → t ≠ 9 → (w7.setCell ⟨bw, 0, none⟩ (.slice A' (l.length + 1) c')).heap[g]? = some (Obj.cells cs t ff))) := by
    refine Lib.hid ⟨⟨h0, A', c', ?_, ?_⟩, ?_, fun g t cs ff hg ht ht2 => ?_⟩
    · rw [List.length_append]; exact hb8
    · rw [List.length_append]
      have e : strRow (l ++ [s]) = strRow l ++ strRow [s] := by simp [strRow]
      rw [e]
      exact ownsRow_keep hown ((Keep.refl [bw] w7).setCell (.inl (by simp)) _) (fun g hg hm => by
        simp only [List.mem_cons, List.not_mem_nil, or_false] at hm
        subst hm
        exact hne7 hg)
    · exact (((Below.refl base w).alloc hB _).grown hgr (by simp; omega) (fun g hg => (ho.lt g hg).1)).setCell (p := ⟨bw, 0, none⟩) h0 _
    · have hlt := lt_of_some hg
      have n1 : g ≠ bw := fun e => by
        subst e
        rw [show w.heap[g]? = _ from hb] at hg
        injection hg with hg
        injection hg with _ hg _
        exact ht hg.symm
      have n2 : some g ≠ (Value.slice A l.length c).ownBlock := fun e => by
        rcases ho.2 with ⟨h1, _⟩ | ⟨g', cap', cur, h1, _, hh, _⟩
        · rw [h1] at e; cases e
        · rw [h1] at e
          cases e
          rw [hh] at hg
          injection hg with hg
          injection hg with _ hg _
          exact ht2 hg.symm
      rw [Below.heap_setCell _ _ _ _ n1, hgr.block g (by simp; omega) n2, Below.heap_alloc _ _ _ hlt]
      exact hg
  clear hb ho hown hgr hor hne hb7 hb8 hne7 h0
  go_enter Tryd.func60, Tryd.ntmps60
  go_wp2_with (at_builtin; refine wpList_append2 (v1 := .slice A l.length c) (v2 := .slice (some ⟨w.heap.size, 0, none⟩) 1 1) rfl (.tmp 3) (.tmp 5) rfl rfl rfl hrun ?_)
  go_end0
  exact ⟨⟨_, rfl⟩, hfin.out⟩
/-- []byte(s) -/
theorem conv_bytes (l : List UInt8) (w : World) : ∃ (cap : Nat) (w2 : World) (fa : Array Value × (Nat × Nat)), (convert 9 22 (.string ⟨l.toArray⟩)).run Tryd.prog w = .ok (.slice (some ⟨w.heap.size, 0, none⟩) l.length cap) w2 ∧ l.length ≤ cap ∧
    Hid (w2.heap[w.heap.size]? = some (.cells fa.1 5 fa.2) ∧ (∀ j (h : j < l.length), fa.1[j]? = some (.int .u8 (l[j].toNat : Int))) ∧ Keep [] w w2) := by
  have hr := run_bytes_of_string (P := Tryd.prog) w 9 22 5 ⟨l.toArray⟩ Tryd.underlying9 Tryd.underlying22 Tryd.underlying5
  refine ⟨_, _, (_, _), hr, ?_, Lib.hid ⟨World.alloc_heap_new _ _, fun j hj => ?_, ((Keep.refl [] w).drew).alloc _⟩⟩
  · exact grownCap_ge w l.length 0 5
  · simp only [bytesRow, Array.getElem?_append, Array.size_map, List.size_toArray, hj, if_true, Array.getElem?_map, List.getElem?_toArray, List.getElem?_eq_getElem hj]
    rfl
/-- Hex at whatever bytes -/
theorem hexg_any (b : List UInt8) (A : Option Addr) (cap : Nat) (w : World) (h : RD encB w A b) (hcap : b.length ≤ cap) (hlen : b.length ≤ 3000) (htab : Lib.TabIs Tryd.prog w "internal/strconv.uint64pow10" .u64 Lib.pow10Tab) :
    Calls Tryd.prog 9 #[.slice A b.length cap] w fun e w' => e = .returned (.string ⟨(hexS b).toArray⟩) ∧ Below w.heap.size w w' := by
  by_cases hb : b = []
  · subst hb
    clear h hcap htab
    go_enter Tryd.func9, Tryd.ntmps9
    go_wp2
    go_ret
    exact ⟨rfl, Below.refl _ _⟩
  · obtain ⟨g, o, rfl, hg, hc⟩ := h hb
    refine (hex_any b g o cap w hb hg hcap hlen hc htab).mono ?_
    rintro e w' ⟨h1, h2⟩
    unfold hexS
    rw [if_neg hb]
    exact ⟨h1, h2⟩
/-- a deed's cells -/
def DvA (d : Dd) (bv kv : Value) : Array Value := #[.int .i64 d.kind, .int .i64 d.a, .string ⟨d.path.toArray⟩, bv, .int .i64 d.frm, .int .i64 d.n, kv]
def shA (d : Dd) (bv kv : Value) (l : List UInt8) : Array Value :=
  #[.int .i64 d.kind, .int .i64 (if 97 ∈ l then d.a else 0), .string ⟨(if 112 ∈ l then d.path else []).toArray⟩, if 98 ∈ l then bv else .slice none 0 0, .int .i64 (if 102 ∈ l then d.frm else 0), .int .i64 (if 110 ∈ l then d.n else 0), if 107 ∈ l then kv else .slice none 0 0]
structure LS (base : Nat) (w : World) (d : Dd) (bv kv : Value) (pd pr ps pw g4 : Nat) (fa : Array Value × (Nat × Nat)) (sa : Array Value) (ws : List (List UInt8)) (wr : World) : Prop where
  deed : Blk wr pd 72 (DvA d bv kv)
  res : Blk wr pr 72 (shA ⟨0, 0, [], [], 0, 0, []⟩ bv kv [])
  shown : Blk wr ps 72 sa
  words : WordsIs base pw ws wr
  row : wr.heap[g4]? = some (.cells fa.1 5 fa.2)
  below : Below base w wr
  hbs : base ≤ w.heap.size
  bd : base ≤ pd ∧ base ≤ pr ∧ base ≤ ps ∧ pd ≠ ps ∧ pr ≠ ps
section
variable {base : Nat} {w : World} {d : Dd} {bv kv : Value} {pd pr ps pw g4 : Nat} {fa : Array Value × (Nat × Nat)} {sa : Array Value} {ws : List (List UInt8)} {wr w' : World}
theorem LS.keep (h : LS base w d bv kv pd pr ps pw g4 fa sa ws wr) (k : Keep [] wr w') : LS base w d bv kv pd pr ps pw g4 fa sa ws w' :=
  ⟨h.deed.keep k (by simp), h.res.keep k (by simp), h.shown.keep k (by simp), h.words.keep k, (k.block _ (lt_of_some h.row) (by simp)).trans h.row, h.below.trans (k.belowB (Nat.le_trans h.hbs h.below.size) (by simp)), h.hbs, h.bd⟩
theorem LS.set (h : LS base w d bv kv pd pr ps pw g4 fa sa ws wr) (k : Nat) (u : Value) : LS base w d bv kv pd pr ps pw g4 fa (sa.setIfInBounds k u) ws (wr.setCell ⟨ps, k, none⟩ u) :=
  ⟨h.deed.far h.bd.2.2.2.1 u, h.res.far h.bd.2.2.2.2 u, h.shown.set_ k u, h.words.far h.shown (by decide) (by decide) u, (Below.heap_setCell _ _ _ _ (fun e => by have h1 := h.row; have h2 : wr.heap[ps]? = _ := h.shown; simp only at e; rw [e, h2] at h1; injection h1 with h1; injection h1 with _ h1 _; exact absurd h1 (by decide))).trans h.row, h.below.setCell (p := ⟨ps, k, none⟩) h.bd.2.2.1 u, h.hbs, h.bd⟩
theorem LS.add (h : LS base w d bv kv pd pr ps pw g4 fa sa ws wr) {s : List UInt8} {e : Ending} (r : AddR base pw ws s wr e w') : LS base w d bv kv pd pr ps pw g4 fa sa (ws ++ [s]) w' := by
  obtain ⟨_, h1, h2, h3⟩ := r
  exact ⟨h3 _ _ _ _ h.deed (by decide) (by decide), h3 _ _ _ _ h.res (by decide) (by decide), h3 _ _ _ _ h.shown (by decide) (by decide), h1, h3 _ _ _ _ h.row (by decide) (by decide), h.below.trans h2, h.hbs, h.bd⟩
end
theorem mem_snoc {x y : UInt8} {l : List UInt8} : (x ∈ l ++ [y]) = (x ∈ l ∨ x = y) := by simp
theorem shA_a (d : Dd) (bv kv : Value) (l : List UInt8) : (shA d bv kv l).setIfInBounds 1 (.int .i64 d.a) = shA d bv kv (l ++ [97]) := by simp [shA, mem_snoc]
theorem shA_p (d : Dd) (bv kv : Value) (l : List UInt8) : (shA d bv kv l).setIfInBounds 2 (.string ⟨d.path.toArray⟩) = shA d bv kv (l ++ [112]) := by simp [shA, mem_snoc]
theorem shA_b (d : Dd) (bv kv : Value) (l : List UInt8) : (shA d bv kv l).setIfInBounds 3 bv = shA d bv kv (l ++ [98]) := by simp [shA, mem_snoc]
theorem shA_f (d : Dd) (bv kv : Value) (l : List UInt8) : (shA d bv kv l).setIfInBounds 4 (.int .i64 d.frm) = shA d bv kv (l ++ [102]) := by simp [shA, mem_snoc]
theorem shA_n (d : Dd) (bv kv : Value) (l : List UInt8) : (shA d bv kv l).setIfInBounds 5 (.int .i64 d.n) = shA d bv kv (l ++ [110]) := by simp [shA, mem_snoc]
theorem shA_k (d : Dd) (bv kv : Value) (l : List UInt8) : (shA d bv kv l).setIfInBounds 6 kv = shA d bv kv (l ++ [107]) := by simp [shA, mem_snoc]
end Go.Proofs.YtopfbbnpbobhaaaDoor
