/- A number as bytes in the reference; a number read of bytes, in the program and in the reference. -/
import Derived.Test.YtdnaahbhfjclpaaGreatDoorCp1
import Derived.Test.YtdnaahbhfjclpaaGreatDoorH4
import Derived.Test.YtdnaahbhfjclpaaGreatDoorWc
set_option linter.unusedVariables false
set_option linter.unusedSimpArgs false
namespace Go.Proofs.YtdnaahbhfjclpaaGreatDoor
open Go.RowKit Go.Sal Go.Huf
def inB (l : List Nat) : List Value := l.map fun (k : Nat) => .int .u8 (k : Int)
theorem inB_len (l : List Nat) : (inB l).length = l.length := by simp [inB]
theorem inB_one (l : List Nat) : ∀ u ∈ inB l, u.oneCell' = true := by
  intro u hu; obtain ⟨k, _, rfl⟩ := List.mem_map.1 hu; rfl
theorem u8info : (Tryz.prog.info? 5).map (fun i => (i.zero, i.size, i.bytes)) = some (some (.int .u8 0), 1, 1) := by kernel_rfl
theorem inB_cell {w : World} {base g n cap i : Nat} {l : List Nat} (h : w.ownsRow base 5 1 (.slice (some ⟨g, 0, none⟩) n cap) n (inB l)) (hi : i < l.length) :
    w.cell? ⟨g, i, none⟩ = some (.int .u8 (l[i] : Nat)) ∧ w.frozen? ⟨g, i, none⟩ = false := ownsRow_cell h (show (inB l)[i]? = some (.int .u8 (l[i] : Nat)) by simp [inB, hi])
theorem inB_set {w : World} {base g n cap i : Nat} {l : List Nat} (h : w.ownsRow base 5 1 (.slice (some ⟨g, 0, none⟩) n cap) n (inB l)) (hi : i < n) (x : Nat) :
    (w.setCell ⟨g, i, none⟩ (.int .u8 (x : Int))).ownsRow base 5 1 (.slice (some ⟨g, 0, none⟩) n cap) n (inB (l.set i x)) := by
  have := ownsRow_set h i (by omega) (.int .u8 (x : Int))
  rwa [show (inB l).set i (.int .u8 (x : Int)) = inB (l.set i x) by simp [inB, List.map_set]] at this
theorem byte_append {base n c : Nat} {A : Option Addr} {f : List Nat} {w : World} (h : w.ownsRow base 5 1 (.slice A n c) n (inB f)) (hn : n = f.length) (hn2 : n ≤ 10000000) (hB : base ≤ w.heap.size) :
    ∃ A' c' w', (Builtin.append_ #[22, 22] 22 #[.slice A n c, .slice (some ⟨w.heap.size, 0, none⟩) 1 1]).run Tryz.prog (w.alloc (.cells #[.int .u8 0] 5)) = .ok (.slice A' (n + 1) c') w' ∧
      w'.ownsRow base 5 1 (.slice A' (n + 1) c') (n + 1) (inB (f ++ [0])) ∧ Keep (Value.slice A n c).ownBlock.toList w w' := by
  have hka : Keep [] w (w.alloc (.cells #[.int .u8 0] 5)) := (Keep.refl [] w).alloc _
  obtain ⟨v', w', hrun, hown, hg, hat⟩ := run_append_src (P := Tryz.prog) (w.alloc (.cells #[.int .u8 0] 5)) 22 22 5 (.int .u8 0) 1 1 base Tryz.underlying22 u8info rfl (by omega) (.slice A n c) n (inB f) (ownsRow_keep h hka (by simp))
    (some ⟨w.heap.size, 0, none⟩) 1 1 [.int .u8 0] (src_new w 5 1 [.int .u8 0] rfl) (by simp [Value.oneCell']) (by unfold maxLen; omega) (by omega) (by simp; omega)
  obtain ⟨A', c', rfl, _⟩ := own_slice hown
  exact ⟨A', c', w', hrun, by simpa [inB] using hown, (hka.mono (by simp)).grown hg (fun k hk => .inl (by simp [hk]))⟩
structure EI (w : World) (ls : List Int) (AC : Option Addr) (cC : Nat) (l : List Bool) (A : Option Addr) (c : Nat) (wr : World) : Prop where
  own : wr.ownsRow w.heap.size 5 1 (.slice A (pack l).length c) (pack l).length (inB (pack l))
  cod : wr.ownsRow w.heap.size 168 1 (.slice AC ls.length cC) ls.length (inU (codesL ls))
  kp : Keep [] w wr
structure EO (w : World) (ls : List Int) (AC : Option Addr) (cC : Nat) (l : List Bool) (A : Option Addr) (c : Nat) (wr : World) : Prop where
  own : wr.ownsRow w.heap.size 5 1 (.slice A (l.length / 8 + 1) c) (l.length / 8 + 1) (inB (packO l))
  cod : wr.ownsRow w.heap.size 168 1 (.slice AC ls.length cC) ls.length (inU (codesL ls))
  kp : Keep [] w wr
section
variable {w wr : World} {ls : List Int} {AC A : Option Addr} {cC c g : Nat} {l : List Bool}
theorem EI.new (h : EI w ls AC cC l A c wr) (h8 : l.length % 8 = 0) (hn : l.length ≤ 10000000) :
    (pack l).length = l.length / 8 ∧ ∃ A' c' w', (Builtin.append_ #[22, 22] 22 #[.slice A (l.length / 8) c, .slice (some ⟨wr.heap.size, 0, none⟩) 1 1]).run Tryz.prog (wr.alloc (.cells #[.int .u8 0] 5)) = .ok (.slice A' (l.length / 8 + 1) c') w' ∧ EO w ls AC cC l A' c' w' := by
  have hpl : (pack l).length = l.length / 8 := by rw [pack_len]; omega
  have hown := h.own
  rw [hpl] at hown
  obtain ⟨A', c', w', hrun, hown2, hk⟩ := byte_append hown hpl.symm (by omega) h.kp.size
  refine ⟨hpl, A', c', w', hrun, by rw [packO_new h8]; exact hown2, ?_, ?_⟩
  · exact ownsRow_keep h.cod hk (fun i hi hm => by
      have hm' : (Value.slice A (l.length / 8) c).ownBlock = some i := by simpa using hm
      exact own_ne_own h.cod hown (by decide) hi hm')
  · exact h.kp.step hk (fun j hj => .inr (hown.lt j (by simpa using hj)).1)
theorem EI.old (h : EI w ls AC cC l A c wr) (h8 : l.length % 8 ≠ 0) : (pack l).length = l.length / 8 + 1 ∧ EO w ls AC cC l A c wr := by
  have hpl : (pack l).length = l.length / 8 + 1 := by rw [pack_len]; omega
  have hown := h.own
  rw [hpl] at hown
  exact ⟨hpl, by rw [packO_old h8]; exact hown, h.cod, h.kp⟩
theorem EO.drew (h : EO w ls AC cC l A c wr) : EO w ls AC cC l A c wr.drew :=
  ⟨ownsRow_keep h.own ((Keep.refl [] wr).drew) (by simp), ownsRow_keep h.cod ((Keep.refl [] wr).drew) (by simp), h.kp.drew⟩
theorem EO.cell (h : EO w ls AC cC l A c wr) : ∃ g, A = some ⟨g, 0, none⟩ ∧ g < wr.heap.size ∧ w.heap.size ≤ g ∧
    wr.cell? ⟨g, l.length / 8, none⟩ = some (.int .u8 (byteAt l (l.length / 8) : Nat)) ∧ wr.frozen? ⟨g, l.length / 8, none⟩ = false := by
  obtain ⟨g, rfl, h1, h2⟩ := own_some h.own (by omega)
  have := inB_cell h.own (i := l.length / 8) (by rw [packO_len]; omega)
  rw [packO_get] at this
  exact ⟨g, rfl, h1, h2, this⟩
theorem EO.code (h : EO w ls AC cC l A c wr) {s : Nat} (hs : s < ls.length) : ∃ g, AC = some ⟨g, 0, none⟩ ∧ g < wr.heap.size ∧ wr.cell? ⟨g, s, none⟩ = some (.int .u16 (codeV ls s : Nat)) := by
  obtain ⟨g, rfl, h1, h2⟩ := own_some h.cod (by omega)
  have := inU_cell h.cod (i := s) (by rw [codesL_len]; omega)
  refine ⟨g, rfl, h1, ?_⟩
  rw [this.1]
  simp [codesL]
theorem EO.store (h : EO w ls AC cC l (some ⟨g, 0, none⟩) c wr) (x : Bool) :
    EI w ls AC cC (l ++ [x]) (some ⟨g, 0, none⟩) c (wr.setCell ⟨g, l.length / 8, none⟩ (.int .u8 ((byteAt l (l.length / 8) + (if x then 2 ^ (7 - l.length % 8) else 0) : Nat) : Int))) := by
  have hset := inB_set h.own (i := l.length / 8) (by omega) (byteAt l (l.length / 8) + (if x then 2 ^ (7 - l.length % 8) else 0))
  rw [pack_snoc] at hset
  have hpl : (pack (l ++ [x])).length = l.length / 8 + 1 := by rw [pack_len, List.length_append, List.length_singleton]; omega
  have hge : w.heap.size ≤ g := (h.own.lt g rfl).1
  refine ⟨by rw [hpl]; exact hset, ?_, h.kp.setCell (.inr hge) _⟩
  refine ownsRow_keep h.cod ((Keep.refl [g] wr).setCell (.inl (by simp)) _) (fun i hi hm => ?_)
  simp at hm
  subst hm
  exact own_ne_own h.cod h.own (by decide) hi rfl
end
theorem bits_or_u8 {a b : Nat} (ha : a < 256) (hb : b < 256) (hc : a ||| b < 256) : bits .or .u8 (a : Int) (b : Int) = ((a ||| b : Nat) : Int) := by
  show IntKind.u8.wrap ((BitVec.ofInt 8 (a : Int) ||| BitVec.ofInt 8 (b : Int)).toNat : Int) = _
  rw [or8 ha hb, IntKind.wrap_u8]
  omega
theorem shl8 {x r : Nat} (hx : x ≤ 1) (hr : r < 8) : ((x : Nat) : Int) % 256 * 2 ^ (7 - r) % 256 = ((x * 2 ^ (7 - r) : Nat) : Int) ∧ x * 2 ^ (7 - r) < 256 := by
  have h1 : 2 ^ (7 - r) ≤ 2 ^ 7 := Nat.pow_le_pow_right (by omega) (by omega)
  have h2 : x * 2 ^ (7 - r) ≤ 1 * 2 ^ 7 := Nat.mul_le_mul hx h1
  have h3 : ((x : Nat) : Int) % 256 = x := by omega
  refine ⟨?_, by omega⟩
  rw [h3]
  have : ((x : Int) * 2 ^ (7 - r)) = ((x * 2 ^ (7 - r) : Nat) : Int) := by simp
  rw [this]
  omega
end Go.Proofs.YtdnaahbhfjclpaaGreatDoor

namespace Go.Huf
def bRow (c n t : Nat) : List Bool := (List.range n).map fun j => decide (n - t ≤ j) && bitAt c n j
theorem bRow_len (c n t : Nat) : (bRow c n t).length = n := by simp [bRow]
theorem bRow_zero (c n : Nat) : bRow c n 0 = List.replicate n false := by
  apply List.ext_getElem
  · simp [bRow]
  · intro j h1 h2
    have : j < n := by simpa [bRow] using h1
    simp [bRow]
    omega
theorem bRow_all (c n : Nat) : bRow c n n = bitsK c n := by
  unfold bRow bitsK
  refine List.map_congr_left (fun j hj => ?_)
  simp
theorem bRow_set {c n t : Nat} (h : t < n) : (bRow c n t).set (n - 1 - t) (decide (c / 2 ^ t % 2 = 1)) = bRow c n (t + 1) := by
  apply List.ext_getElem
  · simp [bRow]
  · intro j h1 h2
    have hj : j < n := by simpa [bRow] using h2
    rw [List.getElem_set]
    simp only [bRow, List.getElem_map, List.getElem_range]
    by_cases he : n - 1 - t = j
    · rw [if_pos he]
      have h3 : n - (t + 1) ≤ j := by omega
      unfold bitAt
      rw [show n - 1 - j = t by omega]
      simp [h3]
    · rw [if_neg he]
      have : (n - (t + 1) ≤ j) ↔ (n - t ≤ j) := by omega
      simp only [this]
theorem half_pow (c t : Nat) : c / 2 ^ t / 2 = c / 2 ^ (t + 1) := by rw [Nat.div_div_eq_div_mul, Nat.pow_succ]
end Go.Huf
namespace Go.Proofs.YtdnaahbhfjclpaaGreatDoor
open Go.RowKit Go.Sal Go.Huf
def inL (l : List Bool) : List Value := l.map fun (b : Bool) => .bool b
theorem inL_one (l : List Bool) : ∀ u ∈ inL l, u.oneCell' = true := by
  intro u hu; obtain ⟨k, _, rfl⟩ := List.mem_map.1 hu; rfl
theorem boolinfo : (Tryz.prog.info? 4).map (fun i => (i.zero, i.size, i.bytes)) = some (some (.bool false), 1, 1) := by kernel_rfl
theorem made_bools : ∀ n : Nat, (madeCells (Value.bool false).cells (n * 1)).toList = inL (List.replicate n false) := fun n => by
  apply List.ext_getElem
  · simp [madeCells, inL, Value.cells]
  · intro i h1 h2
    simp [madeCells, inL, Value.cells, Nat.mod_one]
theorem wpList_make_bools {w : World} {ops : Array Oper} {rest : List Oper} {o : Oper} {a : Act} {Q : Exit → Act → World → Prop} (base n : Nat)
    (hg : o.guard = none) (l c : Operand) (hop : o.op = Op.makeSlice 176 l c) (hl : a.eval l = .int .i64 (n : Int)) (hc : a.eval c = .int .i64 (n : Int)) (hn : n ≤ 1000000) (hB : base ≤ w.heap.size)
    (hK : ∀ w', w'.ownsRow base 4 1 (.slice (some ⟨w.heap.size, 0, none⟩) n n) n (inL (List.replicate n false)) → Keep [] w w' → wpList Tryz.prog ops Q rest (a.put o.dst (.slice (some ⟨w.heap.size, 0, none⟩) n n)) w') :
    wpList Tryz.prog ops Q (o :: rest) a w := by
  obtain ⟨i, hi, hz, hs, hby⟩ : ∃ i, Tryz.prog.info? 4 = some i ∧ i.zero = some (.bool false) ∧ i.size = 1 ∧ i.bytes = 1 := by
    cases hx : Tryz.prog.info? 4 with
    | none => have := boolinfo; rw [hx] at this; cases this
    | some i =>
      have := boolinfo
      rw [hx] at this
      simp only [Option.map_some, Option.some.injEq, Prod.mk.injEq] at this
      exact ⟨i, rfl, this.1, this.2.1, this.2.2⟩
  refine wpList_make_full w hg l c 176 hop base 4 i (.bool false) 1 Tryz.underlying176 hi hz hs .i64 .i64 _ _ n hl hc rfl rfl (by rw [hby]; omega) (by unfold maxLen; omega) hB ?_
  intro w' h1 h2
  rw [made_bools] at h1
  exact hK w' h1 ((Keep.refl [] w).grown h2 (fun k hk => by cases hk))
theorem inL_cell {w : World} {base g n cap i : Nat} {l : List Bool} (h : w.ownsRow base 4 1 (.slice (some ⟨g, 0, none⟩) n cap) n (inL l)) (hi : i < l.length) :
    w.cell? ⟨g, i, none⟩ = some (.bool l[i]) ∧ w.frozen? ⟨g, i, none⟩ = false := ownsRow_cell h (show (inL l)[i]? = some (.bool l[i]) by simp [inL, hi])
theorem inL_set {w : World} {base g n cap i : Nat} {l : List Bool} (h : w.ownsRow base 4 1 (.slice (some ⟨g, 0, none⟩) n cap) n (inL l)) (hi : i < n) (x : Bool) :
    (w.setCell ⟨g, i, none⟩ (.bool x)).ownsRow base 4 1 (.slice (some ⟨g, 0, none⟩) n cap) n (inL (l.set i x)) := by
  have := ownsRow_set h i (by omega) (.bool x)
  rwa [show (inL l).set i (.bool x) = inL (l.set i x) by simp [inL, List.map_set]] at this
def BtI (w w2 : World) (g c n t : Nat) (wr : World) : Prop :=
  wr.ownsRow w.heap.size 4 1 (.slice (some ⟨g, 0, none⟩) n n) n (inL (bRow c n t)) ∧ Keep [g] w2 wr
set_option maxRecDepth 20000 in
set_option maxHeartbeats 4000000 in
theorem rbits_any (c n : Nat) (w : World) (hc : c < 65536) (hn : n ≤ 1000) :
    Calls Tryz.prog 118 #[.int .u16 (c : Nat), .int .i64 (n : Nat)] w fun e w' => ∃ AO, e = .returned (.slice AO n n) ∧
      w'.ownsRow w.heap.size 4 1 (.slice AO n n) n (inL (bitsK c n)) ∧ Keep [] w w' := by
  have hwn : IntKind.i64.wrap ((n : Int) - 1) = (n : Int) - 1 := by rw [IntKind.wrap_i64]; omega
  go_enter Tryz.func118, Tryz.ntmps118
  go_wp2_with (at_make; refine wpList_make_bools w.heap.size n rfl (.tmp 7) (.tmp 7) rfl rfl rfl (by omega) (Nat.le_refl _) ?_; intro w2 hown2 hk2; have Hown2 := Lib.hid hown2; have Hk2 := Lib.hid hk2; clear hown2 hk2)
  obtain ⟨g, hg⟩ : ∃ g, g = w.heap.size := ⟨_, rfl⟩
  have Hg := Lib.hid hg
  have H0 : Hid (BtI w w2 g c n 0 w2) := Lib.hid ⟨by rw [bRow_zero, hg]; exact Hown2.out, Keep.refl _ _⟩
  rw [← hg]
  clear Hown2 hg
  go_loopw [0, 6] (fun vc vi wr => ∃ t x : Nat, vi = .int .i64 ((n : Int) - 1 - t) ∧ t ≤ n ∧ vc = .int .u16 x ∧ x < 65536 ∧ Hid (x = c / 2 ^ t) ∧ Hid (BtI w w2 g c n t wr)) (fun _ vi _ => (intOf vi + 1).toNat)
  case atStart => exact ⟨0, c, by simp, by omega, rfl, hc, Lib.hid (by simp), H0⟩
  case round =>
    obtain ⟨t, x, rfl, ht, rfl, hx, hxe, hI⟩ := hrel
    clear H0
    rcases Nat.lt_or_ge t n with htn | htn
    · as_aux_lemma =>
        obtain ⟨hown, hkp⟩ := hI.out
        obtain ⟨i, hi⟩ : ∃ i : Nat, (n : Int) - 1 - t = i := ⟨n - 1 - t, by omega⟩
        have hi2 : n - 1 - t = i := by omega
        have hset := inL_set hown (show i < n by omega) (decide (c / 2 ^ t % 2 = 1))
        rw [← hi2, bRow_set htn, hi2, ← hxe.out] at hset
        obtain ⟨m1', m2⟩ := inL_cell hown (i := i) (by rw [bRow_len]; omega)
        obtain ⟨old, m1⟩ : ∃ b, wr.cell? ⟨g, i, none⟩ = some (.bool b) := ⟨_, m1'⟩
        clear m1'
        have HN : Hid (BtI w w2 g c n (t + 1) (wr.setCell ⟨g, i, none⟩ (.bool (decide (x % 2 = 1))))) := Lib.hid ⟨hset, hkp.setCell (.inl (by simp)) _⟩
        have Hx2 : Hid (x / 2 = c / 2 ^ (t + 1)) := Lib.hid (by rw [hxe.out, half_pow])
        have htm : (x : Int).tmod 2 = ((x % 2 : Nat) : Int) := by rw [Int.tmod_eq_emod_of_nonneg (by omega)]; omega
        have htd : (x : Int).tdiv 2 = ((x / 2 : Nat) : Int) := by rw [Int.tdiv_eq_ediv_of_nonneg (by omega)]; omega
        have hwm : IntKind.u16.wrap ((x % 2 : Nat) : Int) = ((x % 2 : Nat) : Int) := by rw [IntKind.wrap_u16]; omega
        have hwd : IntKind.u16.wrap ((x / 2 : Nat) : Int) = ((x / 2 : Nat) : Int) := by rw [IntKind.wrap_u16]; omega
        have hwi : IntKind.i64.wrap ((i : Int) - 1) = (i : Int) - 1 := by rw [IntKind.wrap_i64]; omega
        have hbe : (((x % 2 : Nat) : Int) == 1) = decide (x % 2 = 1) := by
          by_cases h1 : x % 2 = 1
          · simp [h1]
          · have : x % 2 = 0 := by omega
            simp [this]
        have hin : (i : Int) < n := by omega
        have Hx := Lib.hid (show x / 2 < 65536 by omega)
        have Hi := Lib.hid hi
        generalize hb : decide (x % 2 = 1) = bb at *
        generalize x % 2 = xm at *
        generalize x / 2 = xd at *
        clear hI hown hkp hset hxe hi hi2 hb
        rw [Hi.out]
        go_wp2
        have hi := Hi.out
        exact ⟨⟨t + 1, xd, by congr 1; omega, by omega, rfl, Hx.out, Hx2, HN⟩, by simp [intOf]⟩
    · obtain rfl : t = n := by omega
      have hneg : (t : Int) - 1 - t = -1 := by omega
      have HR : Hid (wr.ownsRow w.heap.size 4 1 (.slice (some ⟨g, 0, none⟩) t t) t (inL (bitsK c t))) := by
        rw [← bRow_all]; exact Lib.hid hI.out.1
      have HK : Hid (Keep [] w wr) := Lib.hid (Hk2.out.step hI.out.2 (fun i hi => by have := Hg.out; simp at hi; right; omega))
      rw [hneg]
      clear hI hxe hneg
      go_wp2
      go_ret
      exact ⟨_, rfl, HR.out, HK.out⟩
end Go.Proofs.YtdnaahbhfjclpaaGreatDoor
namespace Go.Huf
end Go.Huf
namespace Go.Proofs.YtdnaahbhfjclpaaGreatDoor
open Go.RowKit Go.Sal Go.Huf
theorem EO.yes {w wr : World} {ls : List Int} {AC : Option Addr} {cC c g : Nat} {l : List Bool} (h : EO w ls AC cC l (some ⟨g, 0, none⟩) c wr) : (pack (l ++ [true])).length = l.length / 8 + 1 ∧
    EI w ls AC cC (l ++ [true]) (some ⟨g, 0, none⟩) c (wr.setCell ⟨g, l.length / 8, none⟩ (.int .u8 ((byteAt l (l.length / 8) + 2 ^ (7 - l.length % 8) : Nat) : Int))) ∧ byteAt l (l.length / 8) + 2 ^ (7 - l.length % 8) < 256 := by
  have hp : (pack (l ++ [true])).length = l.length / 8 + 1 := by rw [pack_len, List.length_append, List.length_singleton]; omega
  have h1 := h.store true
  have h2 := byte_or_lt l true
  simp only [if_true] at h1 h2
  exact ⟨hp, h1, h2⟩
end Go.Proofs.YtdnaahbhfjclpaaGreatDoor

namespace Go.Proofs.YtdnaahbhfjclpaaGreatDoor
open Go.RowKit Go.Sal Go.Huf
def BySrc (w : World) (A : Option Addr) (l : List Nat) : Prop := (∀ i (h : i < l.length), ∃ g o, A = some ⟨g, o, none⟩ ∧ g < w.heap.size ∧ w.cell? ⟨g, o + i, none⟩ = some (.int .u8 (l[i] : Nat))) ∧ ∀ x ∈ l, x < 256
theorem BySrc.keep {w w' : World} {A : Option Addr} {l : List Nat} {F : List Nat} (h : BySrc w A l) (k : Keep F w w') (hF : ∀ a, A = some a → a.block ∉ F) : BySrc w' A l := ⟨fun i hi => by
  obtain ⟨g, o, rfl, h1, h2⟩ := h.1 i hi
  exact ⟨g, o, rfl, Nat.lt_of_lt_of_le h1 k.size, (k.cell (p := ⟨g, o + i, none⟩) h1 (hF ⟨g, o, none⟩ rfl)).trans h2⟩, h.2⟩
end Go.Proofs.YtdnaahbhfjclpaaGreatDoor

namespace Go.Proofs.YtdnaahbhfjclpaaGreatDoor
open Go.RowKit Go.Sal Go.Huf Go.Cod
theorem byte_app {base n c : Nat} {A : Option Addr} {f : List Nat} {w : World} (h : w.ownsRow base 5 1 (.slice A n c) n (inB f)) (x : Nat) (hn2 : n ≤ 10000000) (hB : base ≤ w.heap.size) :
    ∃ A' c' w', (Builtin.append_ #[22, 22] 22 #[.slice A n c, .slice (some ⟨w.heap.size, 0, none⟩) 1 1]).run Tryz.prog (w.alloc (.cells #[.int .u8 (x : Nat)] 5)) = .ok (.slice A' (n + 1) c') w' ∧
      w'.ownsRow base 5 1 (.slice A' (n + 1) c') (n + 1) (inB (f ++ [x])) ∧ Keep (Value.slice A n c).ownBlock.toList w w' := by
  have hka : Keep [] w (w.alloc (.cells #[.int .u8 (x : Nat)] 5)) := (Keep.refl [] w).alloc _
  obtain ⟨v', w', hrun, hown, hg, hat⟩ := run_append_src (P := Tryz.prog) (w.alloc (.cells #[.int .u8 (x : Nat)] 5)) 22 22 5 (.int .u8 0) 1 1 base Tryz.underlying22 u8info rfl (by omega) (.slice A n c) n (inB f) (ownsRow_keep h hka (by simp))
    (some ⟨w.heap.size, 0, none⟩) 1 1 [.int .u8 (x : Nat)] (src_new w 5 1 [.int .u8 (x : Nat)] rfl) (by simp [Value.oneCell']) (by unfold maxLen; omega) (by omega) (by simp; omega)
  obtain ⟨A', c', rfl, _⟩ := own_slice hown
  exact ⟨A', c', w', hrun, by simpa [inB] using hown, (hka.mono (by simp)).grown hg (fun k hk => .inl (by simp [hk]))⟩
theorem bytes_app {base n c m d : Nat} {A B : Option Addr} {f g : List Nat} {w : World} (h : w.ownsRow base 5 1 (.slice A n c) n (inB f)) (hs : Src w 1 B m (inB g)) (hn2 : n ≤ 10000000) (hm : m ≤ 10000000) (hB : base ≤ w.heap.size) :
    ∃ A' c' w', (Builtin.append_ #[22, 22] 22 #[.slice A n c, .slice B m d]).run Tryz.prog w = .ok (.slice A' (n + m) c') w' ∧
      w'.ownsRow base 5 1 (.slice A' (n + m) c') (n + m) (inB (f ++ g)) ∧ Keep (Value.slice A n c).ownBlock.toList w w' := by
  obtain ⟨v', w', hrun, hown, hg, hat⟩ := run_append_src (P := Tryz.prog) w 22 22 5 (.int .u8 0) 1 1 base Tryz.underlying22 u8info rfl (by omega) (.slice A n c) n (inB f) h
    B m d (inB g) hs (inB_one g) (by unfold maxLen; omega) (by omega) hB
  obtain ⟨A', c', rfl, _⟩ := own_slice hown
  exact ⟨A', c', w', hrun, by simpa [inB] using hown, (Keep.refl _ w).grown hg (fun k hk => .inl (by simp [hk]))⟩
theorem bsrc_src {w : World} {A : Option Addr} {l : List Nat} (h : BySrc w A l) : Src w 1 A l.length (inB l) := by
  refine ⟨by simp [inB], fun h0 => ?_⟩
  obtain ⟨g, o, rfl, hg, _⟩ := h.1 0 h0
  refine ⟨_, rfl, fun j u hu => ?_⟩
  have hj : j < l.length := by
    have := (List.getElem?_eq_some_iff.1 hu).1
    simpa [inB] using this
  obtain ⟨g', o', e, _, hc⟩ := h.1 j hj
  injection e with e
  injection e with e1 e2
  subst e1; subst e2
  rw [add_mk, hc]
  simpa [inB, hj] using hu
theorem bsrc_own {w : World} {base c n : Nat} {A : Option Addr} {l : List Nat} (h : w.ownsRow base 5 1 (.slice A n c) n (inB l)) (hl : ∀ x ∈ l, x < 256) : BySrc w A l := by
  refine ⟨fun i hi => ?_, hl⟩
  have hn : n = l.length := by
    have := h.1
    rw [inB_len] at this
    omega
  obtain ⟨g, rfl, hg, _⟩ := own_some h (by omega)
  exact ⟨g, 0, rfl, hg, by rw [Nat.zero_add]; exact (inB_cell h hi).1⟩
def VI (w : World) (x0 : Nat) (l : List Nat) (x f : Nat) (A : Option Addr) (c : Nat) (wr : World) : Prop :=
  wr.ownsRow w.heap.size 5 1 (.slice A l.length c) l.length (inB l) ∧ Keep [] w wr ∧ varP x0 = l ++ varF f x ∧ x < 128 ^ (f + 1) ∧ l.length + f = 9
theorem VI.start (w : World) (x0 : Nat) (h : x0 < 18446744073709551616) : VI w x0 [] x0 9 none 0 w :=
  ⟨World.ownsRow_nil _ _ _ _, Keep.refl _ _, rfl, by omega, rfl⟩
theorem VI.next {w wr : World} {x0 x f c : Nat} {l : List Nat} {A : Option Addr} (h : VI w x0 l x f A c wr) (hx : 128 ≤ x) :
    ∃ A' c' w', (Builtin.append_ #[22, 22] 22 #[.slice A l.length c, .slice (some ⟨wr.heap.size, 0, none⟩) 1 1]).run Tryz.prog (wr.alloc (.cells #[.int .u8 ((x % 128 + 128 : Nat) : Int)] 5)) = .ok (.slice A' (l.length + 1) c') w' ∧
      ∃ f', VI w x0 (l ++ [x % 128 + 128]) (x / 128) f' A' c' w' := by
  obtain ⟨hown, hk, he, hlt, hl⟩ := h
  cases f with
  | zero => simp at hlt; omega
  | succ f =>
    obtain ⟨A', c', w', hrun, hown', hk'⟩ := byte_app hown (x % 128 + 128) (by omega) hk.size
    refine ⟨A', c', w', hrun, f, ?_⟩
    have hl' : (l ++ [x % 128 + 128]).length = l.length + 1 := by simp
    refine ⟨by rw [hl']; exact hown', hk.step hk' (fun i hi => .inr ?_), ?_, ?_, by rw [hl']; omega⟩
    · rcases hown.2 with ⟨h0, _⟩ | ⟨g, cap, cur, h0, hg, _⟩
      · rw [h0] at hi; simp [Value.ownBlock] at hi
      · rw [h0] at hi; simp [Value.ownBlock] at hi; omega
    · rw [he, varF, if_neg (by omega), List.append_assoc]; rfl
    · rw [Nat.pow_succ] at hlt
      exact Nat.div_lt_of_lt_mul (by omega)
theorem VI.last {w wr : World} {x0 x f c : Nat} {l : List Nat} {A : Option Addr} (h : VI w x0 l x f A c wr) (hx : x < 128) :
    ∃ A' c' w', (Builtin.append_ #[22, 22] 22 #[.slice A l.length c, .slice (some ⟨wr.heap.size, 0, none⟩) 1 1]).run Tryz.prog (wr.alloc (.cells #[.int .u8 (x : Nat)] 5)) = .ok (.slice A' (varP x0).length c') w' ∧
      w'.ownsRow w.heap.size 5 1 (.slice A' (varP x0).length c') (varP x0).length (inB (varP x0)) ∧ Keep [] w w' := by
  obtain ⟨hown, hk, he, hlt, hl⟩ := h
  have hv : varF f x = [x] := by
    cases f with
    | zero => rfl
    | succ f => rw [varF, if_pos hx]
  rw [hv] at he
  obtain ⟨A', c', w', hrun, hown', hk'⟩ := byte_app hown x (by omega) hk.size
  have hl' : (l ++ [x]).length = l.length + 1 := by simp
  refine ⟨A', c', w', by rw [he, hl']; exact hrun, by rw [he, hl']; exact hown', hk.step hk' (fun i hi => .inr ?_)⟩
  rcases hown.2 with ⟨h0, _⟩ | ⟨g, cap, cur, h0, hg, _⟩
  · rw [h0] at hi; simp [Value.ownBlock] at hi
  · rw [h0] at hi; simp [Value.ownBlock] at hi; omega
def RowB (w : World) (l : List Nat) (e : Ending) (w' : World) : Prop := ∃ A c, e = .returned (.slice A l.length c) ∧ w'.ownsRow w.heap.size 5 1 (.slice A l.length c) l.length (inB l) ∧ Keep [] w w'
theorem or128 {x : Nat} : bits .or .u8 ((x : Int) % 256) 128 = ((x % 128 + 128 : Nat) : Int) := by
  have h1 : x % 256 ||| 128 = x % 128 + 128 := by
    have e : x % 256 = x % 128 + (x / 128 % 2) * 128 := by omega
    have hlt : x % 128 < 2 ^ 7 := by omega
    have h0 := Nat.two_pow_add_eq_or_of_lt hlt 1
    rcases Nat.mod_two_eq_zero_or_one (x / 128) with h | h
    · rw [e, h, Nat.zero_mul, Nat.add_zero, Nat.or_comm, show (128 : Nat) = 2 ^ 7 * 1 by rfl, ← h0]; omega
    · rw [e, h, Nat.one_mul, show x % 128 + 128 = 2 ^ 7 * 1 + x % 128 by omega, h0, Nat.or_comm, ← Nat.or_assoc]
      rw [show (128 ||| 2 ^ 7 * 1) = 2 ^ 7 * 1 by rfl]
  have := bits_or_u8 (a := x % 256) (b := 128) (by omega) (by omega) (by rw [h1]; omega)
  rw [h1] at this
  rw [← this]
  rfl
set_option maxRecDepth 20000 in
set_option maxHeartbeats 2000000 in
theorem varint_any (x0 : Nat) (w : World) (hx : x0 < 18446744073709551616) :
    Calls Tryz.prog 68 #[.int .u64 (x0 : Nat)] w fun e w' => RowB w (varP x0) e w' := by
  have H0 := Lib.hid (VI.start w x0 hx)
  go_enter Tryz.func68, Tryz.ntmps68
  go_wp2
  go_loopw [0, 3] (fun vx vb wr => ∃ (x n f : Nat) (l : List Nat) (A : Option Addr) (c : Nat), vx = .int .u64 x ∧ x < 18446744073709551616 ∧ vb = .slice A n c ∧ Hid (n = l.length ∧ VI w x0 l x f A c wr)) (fun vx _ _ => (intOf vx).toNat)
  case atStart => exact ⟨x0, 0, 9, [], none, 0, rfl, hx, rfl, Lib.hid ⟨rfl, H0.out⟩⟩
  case round =>
    obtain ⟨x, n, f, l, A, c, rfl, hxl, rfl, hI⟩ := hrel
    clear H0
    rcases Nat.lt_or_ge x 128 with h1 | h1
    · as_aux_lemma =>
        obtain ⟨hn, hV⟩ := hI.out
        obtain ⟨A', c', w', hrun, hown, hk⟩ := hV.last h1
        rw [← hn] at hrun
        have HR : Hid (RowB w (varP x0) (.returned (.slice A' (varP x0).length c')) w') := Lib.hid ⟨A', c', rfl, hown, hk⟩
        have hxi : ¬ (128 : Int) ≤ x := by omega
        have hwx : IntKind.u8.wrap (x : Int) = (x : Int) := by rw [IntKind.wrap_u8]; omega
        clear hI hn hV hown hk
        have Hrun := Lib.hid hrun
        clear hrun
        have hap := Hrun.out
        go_wp2_with (at_builtin; refine wpList_append2 (v1 := .slice A n c) (v2 := .slice (some ⟨wr.heap.size, 0, none⟩) 1 1) rfl (.tmp 14) (.tmp 17) rfl rfl rfl hap ?_)
        go_ret
        exact HR.out
    · as_aux_lemma =>
        obtain ⟨hn, hV⟩ := hI.out
        obtain ⟨A', c', w', hrun, f', hV'⟩ := hV.next h1
        rw [← hn] at hrun
        have hxi : (128 : Int) ≤ x := by omega
        have hor := or128 (x := x)
        have hsh : (x : Int) / 2 ^ 7 = ((x / 128 : Nat) : Int) := by omega
        have hws : IntKind.u64.wrap ((x / 128 : Nat) : Int) = ((x / 128 : Nat) : Int) := by rw [IntKind.wrap_u64]; omega
        have HN : Hid (n + 1 = (l ++ [x % 128 + 128]).length ∧ VI w x0 (l ++ [x % 128 + 128]) (x / 128) f' A' c' w') := Lib.hid ⟨by simp [hn], hV'⟩
        have hlt : x / 128 < x := by omega
        have hlt2 : x / 128 < 18446744073709551616 := by omega
        have Hrun := Lib.hid hrun
        clear hI hn hV hV' hrun
        generalize l ++ [x % 128 + 128] = l2 at *
        generalize x % 128 + 128 = xm at *
        obtain ⟨xd, hxd⟩ : ∃ xd, x / 128 = xd := ⟨_, rfl⟩
        rw [hxd] at hsh hws HN hlt hlt2
        have hap := Hrun.out
        have HX := Lib.hid hxd
        clear hxd
        go_wp2_with (at_builtin; refine wpList_append2 (v1 := .slice A n c) (v2 := .slice (some ⟨wr.heap.size, 0, none⟩) 1 1) rfl (.tmp 6) (.tmp 10) rfl rfl rfl hap ?_)
        go_roundw
        case rel => exact ⟨xd, n + 1, f', l2, A', c', by have := HX.out; congr 1, hlt2, by simp, HN⟩
        case measure => simp [intOf]; omega
end Go.Proofs.YtdnaahbhfjclpaaGreatDoor

namespace Go.Proofs.YtdnaahbhfjclpaaGreatDoor
open Go.RowKit Go.Sal Go.Pck Go.Huf
theorem xor_ones {x : Nat} (h : x < 4294967296) : 4294967295 ^^^ x = not32 x := by
  unfold not32
  have e : 4294967295 - x = 2 ^ 32 - (x + 1) := by omega
  rw [e]
  apply Nat.eq_of_testBit_eq
  intro i
  rw [Nat.testBit_xor, Nat.testBit_two_pow_sub_succ (show x < 2 ^ 32 by omega), show (4294967295 : Nat) = 2 ^ 32 - 1 by decide, Nat.testBit_two_pow_sub_one]
  by_cases hi : i < 32
  · simp [hi]
  · have : x.testBit i = false := Nat.testBit_lt_two_pow (Nat.lt_of_lt_of_le h (show 4294967296 ≤ 2 ^ i from Nat.le_trans (by decide : 4294967296 ≤ 2 ^ 32) (Nat.pow_le_pow_right (by omega) (by omega))))
    simp [hi, this]
theorem unot32 (x : Nat) (h : x < 4294967296) : bits .xor .u32 IntKind.u32.max (x : Int) = ((not32 x : Nat) : Int) := by
  rw [← xor_ones h]
  exact u32_xor_nat 4294967295 x (by omega) h
set_option maxRecDepth 20000 in
set_option maxHeartbeats 1000000 in
theorem add_any (s : Nat) (l : List Nat) (A : Option Addr) (c : Nat) (w : World) (hs : s < 4294967296) (hl : l.length ≤ 1000000) (hb : BySrc w A l) :
    Calls Tryz.prog 45 #[.int .u32 (s : Nat), .slice A l.length c] w fun e w' => e = .returned (.int .u32 (crcA s l : Nat)) ∧ w' = w := by
  have Hb := Lib.hid hb
  have hn0 := unot32 s hs
  have h0 := not_lt s
  have HF : Hid (crcA s l = not32 (crcF (not32 s) l)) := Lib.hid rfl
  generalize not32 s = r0 at *
  clear hb
  go_enter Tryz.func45, Tryz.ntmps45
  go_wp2
  go_loop [12, 5] (fun v12 v5 => ∃ (k r : Nat), v12 = .int .i64 k ∧ v5 = .int .u32 r ∧ k ≤ l.length ∧ r < 4294967296 ∧ Hid (crcF r (l.drop k) = crcF r0 l)) (fun v12 _ => l.length - (intOf v12).toNat)
  case atStart => exact ⟨0, r0, rfl, rfl, by omega, h0, Lib.hid rfl⟩
  case round =>
    obtain ⟨k, r, rfl, rfl, hk, hr, hI⟩ := hrel
    rcases Nat.lt_or_ge k l.length with hkl | hkl
    · have hki : (k : Int) < l.length := by omega
      have hwk : IntKind.i64.wrap ((k : Int) + 1) = (k : Int) + 1 := by rw [IntKind.wrap_i64]; omega
      obtain ⟨g, o, rfl, hg, d0⟩ := Hb.out.1 k hkl
      have hx := Hb.out.2 _ (List.getElem_mem hkl)
      have hdr : l.drop k = l[k] :: l.drop (k + 1) := List.drop_eq_getElem_cons hkl
      have HN : Hid (crcF (inR r l[k]) (l.drop (k + 1)) = crcF r0 l) := Lib.hid (by rw [← hI.out, hdr]; rfl)
      generalize l[k] = x at *
      have HI := Lib.hid (in_any r x w hr hx)
      have hlt := inR_lt hr hx
      generalize inR r x = q at *
      clear hI hdr
      go_wp2_with (go_at_call 83; refine HI.out.mono ?_; rintro e w' ⟨rfl, rfl⟩)
      exact ⟨⟨k + 1, q, by simp, rfl, by omega, hlt, HN⟩, by simp [intOf]; omega⟩
    · obtain rfl : k = l.length := by omega
      have hki : ¬ (l.length : Int) < l.length := by omega
      have hn1 := unot32 r hr
      have HE : Hid (crcA s l = not32 r) := Lib.hid (by rw [HF.out, ← hI.out, List.drop_length]; rfl)
      clear hI
      generalize not32 r = q at *
      go_wp2
      go_ret
      exact ⟨by rw [HE.out]; rfl, rfl⟩
end Go.Proofs.YtdnaahbhfjclpaaGreatDoor

namespace Go.Cod
open Go.Huf
def RI (bl : List Nat) (k acc : Nat) : Prop :=
  k ≤ bl.length ∧ k ≤ 9 ∧ acc < 128 ^ k ∧ rdV 0 bl = (rdV k (bl.drop k)).map fun p => (acc + 128 ^ k * p.1, p.2 + k)
theorem RI.start (bl : List Nat) : RI bl 0 0 := by
  refine ⟨by omega, by omega, by simp, ?_⟩
  simp only [List.drop_zero, Nat.pow_zero, Nat.one_mul, Nat.zero_add, Nat.add_zero]
  cases rdV 0 bl <;> rfl
theorem lt_step {v acc u : Nat} (h : acc < v) (hu : u ≤ v * 127) : acc + u < v * 128 := by omega
section
variable {bl : List Nat} {k acc : Nat}
theorem RI.bad (h : RI bl k acc) (hk : k < bl.length) (hc : k = 9 ∧ bl[k] ≠ 1 ∨ 0 < k ∧ bl[k] = 0) : rdV 0 bl = none := by
  rw [h.2.2.2, List.drop_eq_getElem_cons hk, rdV, if_pos hc]; rfl
theorem RI.ends (h : RI bl k acc) (hk : k = bl.length) : rdV 0 bl = none := by
  rw [h.2.2.2, List.drop_of_length_le (by omega), rdV]; rfl
theorem RI.last (h : RI bl k acc) (hk : k < bl.length) (hc : ¬ (k = 9 ∧ bl[k] ≠ 1 ∨ 0 < k ∧ bl[k] = 0)) (hl : bl[k] < 128) : rdV 0 bl = some (acc + 128 ^ k * bl[k], k + 1) := by
  rw [h.2.2.2, List.drop_eq_getElem_cons hk, rdV, if_neg hc, if_pos hl]
  simp [Nat.add_comm]
set_option maxRecDepth 20000 in
theorem RI.next (h : RI bl k acc) (hk : k < bl.length) (hc : ¬ (k = 9 ∧ bl[k] ≠ 1 ∨ 0 < k ∧ bl[k] = 0)) (hl : ¬ bl[k] < 128) (hb : bl[k] < 256) : RI bl (k + 1) (acc + 128 ^ k * (bl[k] - 128)) := by
  obtain ⟨h1, h2, h3, h4⟩ := h
  have hk9 : k + 1 ≤ 9 := by clear h3 h4; omega
  refine ⟨hk, hk9, ?_, ?_⟩
  · have hx : bl[k] - 128 ≤ 127 := by clear h3 h4; omega
    rw [Nat.pow_succ]
    clear h4
    generalize 128 ^ k = P at *
    exact lt_step h3 (Nat.mul_le_mul_left P hx)
  · rw [h4, List.drop_eq_getElem_cons hk, rdV, if_neg hc, if_neg hl, Option.map_map]
    congr 1
    funext p
    simp only [Function.comp_apply, Prod.mk.injEq]
    refine ⟨?_, by omega⟩
    rw [Nat.mul_add, Nat.pow_succ, Nat.mul_assoc, Nat.add_assoc]
end
theorem rdV_bd : ∀ (l : List Nat) (k x n : Nat), (∀ c ∈ l, c < 256) → k ≤ 9 → rdV k l = some (x, n) → 1 ≤ n ∧ n ≤ l.length ∧ x < 2 ^ (64 - 7 * k) ∧ n + k ≤ 10
  | [], k, x, n, _, _, h => by simp [rdV] at h
  | c :: l, k, x, n, hb, hk, h => by
    rw [rdV] at h
    split at h
    · cases h
    · rename_i hc
      split at h
      · rename_i hl
        injection h with h
        injection h with e1 e2
        subst e1; subst e2
        simp
        refine ⟨?_, by omega⟩
        rcases Nat.lt_or_ge k 9 with h9 | h9
        · have : 2 ^ 7 ≤ 2 ^ (64 - 7 * k) := Nat.pow_le_pow_right (by omega) (by omega)
          omega
        · obtain rfl : k = 9 := by omega
          have : c = 1 := by omega
          subst this
          decide
      · rename_i hl
        cases hx : rdV (k + 1) l with
        | none => rw [hx] at h; cases h
        | some p =>
          rw [hx] at h
          obtain ⟨y, m⟩ := p
          simp only [Option.map_some, Option.some.injEq, Prod.mk.injEq] at h
          obtain ⟨rfl, rfl⟩ := h
          have hk8 : k ≤ 8 := by
            apply Classical.byContradiction
            intro h8
            obtain rfl : k = 9 := by omega
            exact hc (.inl ⟨rfl, by omega⟩)
          have ih := rdV_bd l (k + 1) y m (fun c hc => hb c (List.mem_cons_of_mem _ hc)) (by omega) hx
          have hc2 := hb c (by simp)
          have he : 2 ^ (64 - 7 * k) = 2 ^ (64 - 7 * (k + 1)) * 128 := by
            rw [show 64 - 7 * k = (64 - 7 * (k + 1)) + 7 by omega, Nat.pow_add]
          rw [he]
          simp only [List.length_cons]
          omega
end Go.Cod

namespace Go.Proofs.YtdnaahbhfjclpaaGreatDoor
open Go.RowKit Go.Sal Go.Huf Go.Cod
def RdE (r : Option (Nat × Nat)) (e : Ending) : Prop := match r with
  | some (x, n) => e = .returned (.tuple #[.int .u64 (x : Nat), .int .i64 (n : Nat), .int .i64 0])
  | none => ∃ n E : Int, e = .returned (.tuple #[.int .u64 0, .int .i64 n, .int .i64 E]) ∧ E ≠ 0
theorem RdE.none_ {n E : Int} (h : E ≠ 0) : RdE none (.returned (.tuple #[.int .u64 0, .int .i64 n, .int .i64 E])) := ⟨n, E, rfl, h⟩
end Go.Proofs.YtdnaahbhfjclpaaGreatDoor

