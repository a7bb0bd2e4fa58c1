/- The reference's Bits and Pack, walked. -/
import Derived.Test.YtknjjodkpknglaaC4
import Derived.Test.YtknjjodkpknglaaE1
set_option linter.unusedVariables false
set_option linter.unusedSimpArgs false
namespace Go.Huf
/-- the row of bits, when the last t are laid -/
def bRow (c n t : Nat) : List Bool := (List.range n).map fun j => decide (n - t ≤ j) && bitAt c n j
theorem bRow_len (c n t : Nat) : (bRow c n t).length = n := by simp [bRow]
theorem bRow_zero (c n : Nat) : bRow c n 0 = List.replicate n false := by
  apply List.ext_getElem
  · simp [bRow]
  · intro j h1 h2
    have : j < n := by simpa [bRow] using h1
    simp [bRow]
    omega
theorem bRow_all (c n : Nat) : bRow c n n = bitsK c n := by
  unfold bRow bitsK
  refine List.map_congr_left (fun j hj => ?_)
  simp
theorem bRow_set {c n t : Nat} (h : t < n) : (bRow c n t).set (n - 1 - t) (decide (c / 2 ^ t % 2 = 1)) = bRow c n (t + 1) := by
  apply List.ext_getElem
  · simp [bRow]
  · intro j h1 h2
    have hj : j < n := by simpa [bRow] using h2
    rw [List.getElem_set]
    simp only [bRow, List.getElem_map, List.getElem_range]
    by_cases he : n - 1 - t = j
    · rw [if_pos he]
      have h3 : n - (t + 1) ≤ j := by omega
      unfold bitAt
      rw [show n - 1 - j = t by omega]
      simp [h3]
    · rw [if_neg he]
      have : (n - (t + 1) ≤ j) ↔ (n - t ≤ j) := by omega
      simp only [this]
theorem half_pow (c t : Nat) : c / 2 ^ t / 2 = c / 2 ^ (t + 1) := by rw [Nat.div_div_eq_div_mul, Nat.pow_succ]
end Go.Huf
namespace Go.Proofs.Ytknjjodkpknglaa
open Go.RowKit Go.Sal Go.Huf
def inL (l : List Bool) : List Value := l.map fun (b : Bool) => .bool b
theorem inL_len (l : List Bool) : (inL l).length = l.length := by simp [inL]
theorem inL_one (l : List Bool) : ∀ u ∈ inL l, u.oneCell' = true := by
  intro u hu; obtain ⟨k, _, rfl⟩ := List.mem_map.1 hu; rfl
theorem boolinfo : (Try.prog.info? 4).map (fun i => (i.zero, i.size, i.bytes)) = some (some (.bool false), 1, 1) := by kernel_rfl
theorem made_bools : ∀ n : Nat, (madeCells (Value.bool false).cells (n * 1)).toList = inL (List.replicate n false) := fun n => by
  apply List.ext_getElem
  · simp [madeCells, inL, Value.cells]
  · intro i h1 h2
    simp [madeCells, inL, Value.cells, Nat.mod_one]
/-- make([]bool, n) -/
theorem wpList_make_bools {w : World} {ops : Array Oper} {rest : List Oper} {o : Oper} {a : Act} {Q : Exit → Act → World → Prop} (base n : Nat)
    (hg : o.guard = none) (l c : Operand) (hop : o.op = Op.makeSlice 42 l c) (hl : a.eval l = .int .i64 (n : Int)) (hc : a.eval c = .int .i64 (n : Int)) (hn : n ≤ 1000000) (hB : base ≤ w.heap.size)
    (hK : ∀ w', w'.ownsRow base 4 1 (.slice (some ⟨w.heap.size, 0, none⟩) n n) n (inL (List.replicate n false)) → Keep [] w w' → wpList Try.prog ops Q rest (a.put o.dst (.slice (some ⟨w.heap.size, 0, none⟩) n n)) w') :
    wpList Try.prog ops Q (o :: rest) a w := by
  obtain ⟨i, hi, hz, hs, hby⟩ : ∃ i, Try.prog.info? 4 = some i ∧ i.zero = some (.bool false) ∧ i.size = 1 ∧ i.bytes = 1 := by
    cases hx : Try.prog.info? 4 with
    | none => have := boolinfo; rw [hx] at this; cases this
    | some i =>
      have := boolinfo
      rw [hx] at this
      simp only [Option.map_some, Option.some.injEq, Prod.mk.injEq] at this
      exact ⟨i, rfl, this.1, this.2.1, this.2.2⟩
  refine wpList_make_full w hg l c 42 hop base 4 i (.bool false) 1 Try.underlying42 hi hz hs .i64 .i64 _ _ n hl hc rfl rfl (by rw [hby]; omega) (by unfold maxLen; omega) hB ?_
  intro w' h1 h2
  rw [made_bools] at h1
  exact hK w' h1 ((Keep.refl [] w).grown h2 (fun k hk => by cases hk))
theorem inL_cell {w : World} {base g n cap i : Nat} {l : List Bool} (h : w.ownsRow base 4 1 (.slice (some ⟨g, 0, none⟩) n cap) n (inL l)) (hi : i < l.length) :
    w.cell? ⟨g, i, none⟩ = some (.bool l[i]) ∧ w.frozen? ⟨g, i, none⟩ = false := ownsRow_cell h (show (inL l)[i]? = some (.bool l[i]) by simp [inL, hi])
theorem inL_set {w : World} {base g n cap i : Nat} {l : List Bool} (h : w.ownsRow base 4 1 (.slice (some ⟨g, 0, none⟩) n cap) n (inL l)) (hi : i < n) (x : Bool) :
    (w.setCell ⟨g, i, none⟩ (.bool x)).ownsRow base 4 1 (.slice (some ⟨g, 0, none⟩) n cap) n (inL (l.set i x)) := by
  have := ownsRow_set h i (by omega) (.bool x)
  rwa [show (inL l).set i (.bool x) = inL (l.set i x) by simp [inL, List.map_set]] at this
def BtI (w w2 : World) (g c n t : Nat) (wr : World) : Prop :=
  wr.ownsRow w.heap.size 4 1 (.slice (some ⟨g, 0, none⟩) n n) n (inL (bRow c n t)) ∧ Keep [g] w2 wr

set_option maxRecDepth 20000 in
set_option maxHeartbeats 4000000 in
theorem rbits_any (c n : Nat) (w : World) (hc : c < 65536) (hn : n ≤ 1000) :
    Calls Try.prog 22 #[.int .u16 (c : Nat), .int .i64 (n : Nat)] w fun e w' => ∃ AO, e = .returned (.slice AO n n) ∧
      w'.ownsRow w.heap.size 4 1 (.slice AO n n) n (inL (bitsK c n)) ∧ Keep [] w w' := by
  have hwn : IntKind.i64.wrap ((n : Int) - 1) = (n : Int) - 1 := by rw [IntKind.wrap_i64]; omega
  go_enter Try.func22, Try.ntmps22
  go_wp2_with (at_make; refine wpList_make_bools w.heap.size n rfl (.tmp 7) (.tmp 7) rfl rfl rfl (by omega) (Nat.le_refl _) ?_; intro w2 hown2 hk2; have Hown2 := Lib.hid hown2; have Hk2 := Lib.hid hk2; clear hown2 hk2)
  obtain ⟨g, hg⟩ : ∃ g, g = w.heap.size := ⟨_, rfl⟩
  have Hg := Lib.hid hg
  have H0 : Hid (BtI w w2 g c n 0 w2) := Lib.hid ⟨by rw [bRow_zero, hg]; exact Hown2.out, Keep.refl _ _⟩
  rw [← hg]
  clear Hown2 hg
  go_loopw [0, 6] (fun vc vi wr => ∃ t x : Nat, vi = .int .i64 ((n : Int) - 1 - t) ∧ t ≤ n ∧ vc = .int .u16 x ∧ x < 65536 ∧ Hid (x = c / 2 ^ t) ∧ Hid (BtI w w2 g c n t wr)) (fun _ vi _ => (intOf vi + 1).toNat)
  case atStart => exact ⟨0, c, by simp, by omega, rfl, hc, Lib.hid (by simp), H0⟩
  case round =>
    obtain ⟨t, x, rfl, ht, rfl, hx, hxe, hI⟩ := hrel
    clear H0
    rcases Nat.lt_or_ge t n with htn | htn
    · as_aux_lemma =>
        obtain ⟨hown, hkp⟩ := hI.out
        obtain ⟨i, hi⟩ : ∃ i : Nat, (n : Int) - 1 - t = i := ⟨n - 1 - t, by omega⟩
        have hi2 : n - 1 - t = i := by omega
        have hset := inL_set hown (show i < n by omega) (decide (c / 2 ^ t % 2 = 1))
        rw [← hi2, bRow_set htn, hi2, ← hxe.out] at hset
        obtain ⟨m1', m2⟩ := inL_cell hown (i := i) (by rw [bRow_len]; omega)
        obtain ⟨old, m1⟩ : ∃ b, wr.cell? ⟨g, i, none⟩ = some (.bool b) := ⟨_, m1'⟩
        clear m1'
        have HN : Hid (BtI w w2 g c n (t + 1) (wr.setCell ⟨g, i, none⟩ (.bool (decide (x % 2 = 1))))) := Lib.hid ⟨hset, hkp.setCell (.inl (by simp)) _⟩
        have Hx2 : Hid (x / 2 = c / 2 ^ (t + 1)) := Lib.hid (by rw [hxe.out, half_pow])
        have htm : (x : Int).tmod 2 = ((x % 2 : Nat) : Int) := by rw [Int.tmod_eq_emod_of_nonneg (by omega)]; omega
        have htd : (x : Int).tdiv 2 = ((x / 2 : Nat) : Int) := by rw [Int.tdiv_eq_ediv_of_nonneg (by omega)]; omega
        have hwm : IntKind.u16.wrap ((x % 2 : Nat) : Int) = ((x % 2 : Nat) : Int) := by rw [IntKind.wrap_u16]; omega
        have hwd : IntKind.u16.wrap ((x / 2 : Nat) : Int) = ((x / 2 : Nat) : Int) := by rw [IntKind.wrap_u16]; omega
        have hwi : IntKind.i64.wrap ((i : Int) - 1) = (i : Int) - 1 := by rw [IntKind.wrap_i64]; omega
        have hbe : (((x % 2 : Nat) : Int) == 1) = decide (x % 2 = 1) := by
          by_cases h1 : x % 2 = 1
          · simp [h1]
          · have : x % 2 = 0 := by omega
            simp [this]
        have hin : (i : Int) < n := by omega
        have Hx := Lib.hid (show x / 2 < 65536 by omega)
        have Hi := Lib.hid hi
        generalize hb : decide (x % 2 = 1) = bb at *
        generalize x % 2 = xm at *
        generalize x / 2 = xd at *
        clear hI hown hkp hset hxe hi hi2 hb
        rw [Hi.out]
        go_wp2
        have hi := Hi.out
        exact ⟨⟨t + 1, xd, by congr 1; omega, by omega, rfl, Hx.out, Hx2, HN⟩, by simp [intOf]⟩
    · obtain rfl : t = n := by omega
      have hneg : (t : Int) - 1 - t = -1 := by omega
      have HR : Hid (wr.ownsRow w.heap.size 4 1 (.slice (some ⟨g, 0, none⟩) t t) t (inL (bitsK c t))) := by
        rw [← bRow_all]; exact Lib.hid hI.out.1
      have HK : Hid (Keep [] w wr) := Lib.hid (Hk2.out.step hI.out.2 (fun i hi => by have := Hg.out; simp at hi; right; omega))
      rw [hneg]
      clear hI hxe hneg
      go_wp2
      go_ret
      exact ⟨_, rfl, HR.out, HK.out⟩
end Go.Proofs.Ytknjjodkpknglaa
