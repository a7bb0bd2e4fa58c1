/- The reference's Bits and Pack, walked. -/
import Derived.Test.YtknjjodkpknglaaC4
import Derived.Test.YtknjjodkpknglaaE1
set_option linter.unusedVariables false
set_option linter.unusedSimpArgs false
namespace Go.Huf
/-- the row of bits, when the last t are laid -/
def bRow (c n t : Nat) : List Bool := (List.range n).map fun j => decide (n - t ≤ j) && bitAt c n j
theorem bRow_len (c n t : Nat) : (bRow c n t).length = n := by simp [bRow]
theorem bRow_zero (c n : Nat) : bRow c n 0 = List.replicate n false := by
  apply List.ext_getElem
  · simp [bRow]
  · intro j h1 h2
    have : j < n := by simpa [bRow] using h1
    simp [bRow]
    omega
theorem bRow_all (c n : Nat) : bRow c n n = bitsK c n := by
  unfold bRow bitsK
  refine List.map_congr_left (fun j hj => ?_)
  simp
theorem bRow_set {c n t : Nat} (h : t < n) : (bRow c n t).set (n - 1 - t) (decide (c / 2 ^ t % 2 = 1)) = bRow c n (t + 1) := by
  apply List.ext_getElem
  · simp [bRow]
  · intro j h1 h2
    have hj : j < n := by simpa [bRow] using h2
    rw [List.getElem_set]
    simp only [bRow, List.getElem_map, List.getElem_range]
    by_cases he : n - 1 - t = j
    · rw [if_pos he]
      have h3 : n - (t + 1) ≤ j := by omega
      unfold bitAt
      rw [show n - 1 - j = t by omega]
      simp [h3]
    · rw [if_neg he]
      have : (n - (t + 1) ≤ j) ↔ (n - t ≤ j) := by omega
      simp only [this]
theorem half_pow (c t : Nat) : c / 2 ^ t / 2 = c / 2 ^ (t + 1) := by rw [Nat.div_div_eq_div_mul, Nat.pow_succ]
end Go.Huf
namespace Go.Proofs.Ytknjjodkpknglaa
open Go.RowKit Go.Sal Go.Huf
def inL (l : List Bool) : List Value := l.map fun (b : Bool) => .bool b
theorem inL_len (l : List Bool) : (inL l).length = l.length := by simp [inL]
theorem inL_one (l : List Bool) : ∀ u ∈ inL l, u.oneCell' = true := by
  intro u hu; obtain ⟨k, _, rfl⟩ := List.mem_map.1 hu; rfl
theorem boolinfo : (Try.prog.info? 4).map (fun i => (i.zero, i.size, i.bytes)) = some (some (.bool false), 1, 1) := by kernel_rfl
theorem made_bools : ∀ n : Nat, (madeCells (Value.bool false).cells (n * 1)).toList = inL (List.replicate n false) := fun n => by
  apply List.ext_getElem
  · simp [madeCells, inL, Value.cells]
  · intro i h1 h2
    simp [madeCells, inL, Value.cells, Nat.mod_one]
/-- make([]bool, n) -/
theorem wpList_make_bools {w : World} {ops : Array Oper} {rest : List Oper} {o : Oper} {a : Act} {Q : Exit → Act → World → Prop} (base n : Nat)
    (hg : o.guard = none) (l c : Operand) (hop : o.op = Op.makeSlice 42 l c) (hl : a.eval l = .int .i64 (n : Int)) (hc : a.eval c = .int .i64 (n : Int)) (hn : n ≤ 1000000) (hB : base ≤ w.heap.size)
    (hK : ∀ w', w'.ownsRow base 4 1 (.slice (some ⟨w.heap.size, 0, none⟩) n n) n (inL (List.replicate n false)) → Keep [] w w' → wpList Try.prog ops Q rest (a.put o.dst (.slice (some ⟨w.heap.size, 0, none⟩) n n)) w') :
    wpList Try.prog ops Q (o :: rest) a w := by
  obtain ⟨i, hi, hz, hs, hby⟩ : ∃ i, Try.prog.info? 4 = some i ∧ i.zero = some (.bool false) ∧ i.size = 1 ∧ i.bytes = 1 := by
    cases hx : Try.prog.info? 4 with
    | none => have := boolinfo; rw [hx] at this; cases this
    | some i =>
      have := boolinfo
      rw [hx] at this
      simp only [Option.map_some, Option.some.injEq, Prod.mk.injEq] at this
      exact ⟨i, rfl, this.1, this.2.1, this.2.2⟩
  refine wpList_make_full w hg l c 42 hop base 4 i (.bool false) 1 Try.underlying42 hi hz hs .i64 .i64 _ _ n hl hc rfl rfl (by rw [hby]; omega) (by unfold maxLen; omega) hB ?_
  intro w' h1 h2
  rw [made_bools] at h1
  exact hK w' h1 ((Keep.refl [] w).grown h2 (fun k hk => by cases hk))
theorem inL_cell {w : World} {base g n cap i : Nat} {l : List Bool} (h : w.ownsRow base 4 1 (.slice (some ⟨g, 0, none⟩) n cap) n (inL l)) (hi : i < l.length) :
    w.cell? ⟨g, i, none⟩ = some (.bool l[i]) ∧ w.frozen? ⟨g, i, none⟩ = false := ownsRow_cell h (show (inL l)[i]? = some (.bool l[i]) by simp [inL, hi])
theorem inL_set {w : World} {base g n cap i : Nat} {l : List Bool} (h : w.ownsRow base 4 1 (.slice (some ⟨g, 0, none⟩) n cap) n (inL l)) (hi : i < n) (x : Bool) :
    (w.setCell ⟨g, i, none⟩ (.bool x)).ownsRow base 4 1 (.slice (some ⟨g, 0, none⟩) n cap) n (inL (l.set i x)) := by
  have := ownsRow_set h i (by omega) (.bool x)
  rwa [show (inL l).set i (.bool x) = inL (l.set i x) by simp [inL, List.map_set]] at this
def BtI (w w2 : World) (g c n t : Nat) (wr : World) : Prop :=
  wr.ownsRow w.heap.size 4 1 (.slice (some ⟨g, 0, none⟩) n n) n (inL (bRow c n t)) ∧ Keep [g] w2 wr

set_option maxRecDepth 20000 in
set_option maxHeartbeats 4000000 in
theorem rbits_any (c n : Nat) (w : World) (hc : c < 65536) (hn : n ≤ 1000) :
    Calls Try.prog 22 #[.int .u16 (c : Nat), .int .i64 (n : Nat)] w fun e w' => ∃ AO, e = .returned (.slice AO n n) ∧
      w'.ownsRow w.heap.size 4 1 (.slice AO n n) n (inL (bitsK c n)) ∧ Keep [] w w' := by
  have hwn : IntKind.i64.wrap ((n : Int) - 1) = (n : Int) - 1 := by rw [IntKind.wrap_i64]; omega
  go_enter Try.func22, Try.ntmps22
  go_wp2_with (at_make; refine wpList_make_bools w.heap.size n rfl (.tmp 7) (.tmp 7) rfl rfl rfl (by omega) (Nat.le_refl _) ?_; intro w2 hown2 hk2; have Hown2 := Lib.hid hown2; have Hk2 := Lib.hid hk2; clear hown2 hk2)
  obtain ⟨g, hg⟩ : ∃ g, g = w.heap.size := ⟨_, rfl⟩
  have Hg := Lib.hid hg
  have H0 : Hid (BtI w w2 g c n 0 w2) := Lib.hid ⟨by rw [bRow_zero, hg]; exact Hown2.out, Keep.refl _ _⟩
  rw [← hg]
  clear Hown2 hg
  go_loopw [0, 6] (fun vc vi wr => ∃ t x : Nat, vi = .int .i64 ((n : Int) - 1 - t) ∧ t ≤ n ∧ vc = .int .u16 x ∧ x < 65536 ∧ Hid (x = c / 2 ^ t) ∧ Hid (BtI w w2 g c n t wr)) (fun _ vi _ => (intOf vi + 1).toNat)
  case atStart => exact ⟨0, c, by simp, by omega, rfl, hc, Lib.hid (by simp), H0⟩
  case round =>
    obtain ⟨t, x, rfl, ht, rfl, hx, hxe, hI⟩ := hrel
    clear H0
    rcases Nat.lt_or_ge t n with htn | htn
    · as_aux_lemma =>
        obtain ⟨hown, hkp⟩ := hI.out
        obtain ⟨i, hi⟩ : ∃ i : Nat, (n : Int) - 1 - t = i := ⟨n - 1 - t, by omega⟩
        have hi2 : n - 1 - t = i := by omega
        have hset := inL_set hown (show i < n by omega) (decide (c / 2 ^ t % 2 = 1))
        rw [← hi2, bRow_set htn, hi2, ← hxe.out] at hset
        obtain ⟨m1', m2⟩ := inL_cell hown (i := i) (by rw [bRow_len]; omega)
        obtain ⟨old, m1⟩ : ∃ b, wr.cell? ⟨g, i, none⟩ = some (.bool b) := ⟨_, m1'⟩
        clear m1'
        have HN : Hid (BtI w w2 g c n (t + 1) (wr.setCell ⟨g, i, none⟩ (.bool (decide (x % 2 = 1))))) := Lib.hid ⟨hset, hkp.setCell (.inl (by simp)) _⟩
        have Hx2 : Hid (x / 2 = c / 2 ^ (t + 1)) := Lib.hid (by rw [hxe.out, half_pow])
        have htm : (x : Int).tmod 2 = ((x % 2 : Nat) : Int) := by rw [Int.tmod_eq_emod_of_nonneg (by omega)]; omega
        have htd : (x : Int).tdiv 2 = ((x / 2 : Nat) : Int) := by rw [Int.tdiv_eq_ediv_of_nonneg (by omega)]; omega
        have hwm : IntKind.u16.wrap ((x % 2 : Nat) : Int) = ((x % 2 : Nat) : Int) := by rw [IntKind.wrap_u16]; omega
        have hwd : IntKind.u16.wrap ((x / 2 : Nat) : Int) = ((x / 2 : Nat) : Int) := by rw [IntKind.wrap_u16]; omega
        have hwi : IntKind.i64.wrap ((i : Int) - 1) = (i : Int) - 1 := by rw [IntKind.wrap_i64]; omega
        have hbe : (((x % 2 : Nat) : Int) == 1) = decide (x % 2 = 1) := by
          by_cases h1 : x % 2 = 1
          · simp [h1]
          · have : x % 2 = 0 := by omega
            simp [this]
        have hin : (i : Int) < n := by omega
        have Hx := Lib.hid (show x / 2 < 65536 by omega)
        have Hi := Lib.hid hi
        generalize hb : decide (x % 2 = 1) = bb at *
        generalize x % 2 = xm at *
        generalize x / 2 = xd at *
        clear hI hown hkp hset hxe hi hi2 hb
        rw [Hi.out]
        go_wp2
        have hi := Hi.out
        exact ⟨⟨t + 1, xd, by congr 1; omega, by omega, rfl, Hx.out, Hx2, HN⟩, by simp [intOf]⟩
    · obtain rfl : t = n := by omega
      have hneg : (t : Int) - 1 - t = -1 := by omega
      have HR : Hid (wr.ownsRow w.heap.size 4 1 (.slice (some ⟨g, 0, none⟩) t t) t (inL (bitsK c t))) := by
        rw [← bRow_all]; exact Lib.hid hI.out.1
      have HK : Hid (Keep [] w wr) := Lib.hid (Hk2.out.step hI.out.2 (fun i hi => by have := Hg.out; simp at hi; right; omega))
      rw [hneg]
      clear hI hxe hneg
      go_wp2
      go_ret
      exact ⟨_, rfl, HR.out, HK.out⟩
end Go.Proofs.Ytknjjodkpknglaa
namespace Go.Huf
theorem pack_false (l : List Bool) : pack (l ++ [false]) = packO l := by
  rw [← pack_snoc]
  have hk : l.length / 8 < (packO l).length := by rw [packO_len]; omega
  have : byteAt l (l.length / 8) + (if false = true then 2 ^ (7 - l.length % 8) else 0) = (packO l)[l.length / 8] := by rw [packO_get]; simp
  rw [this, List.set_getElem_self]
theorem half_two {t : Nat} (h : t < 7) : 2 ^ (7 - t) / 2 = 2 ^ (7 - (t + 1)) := by
  rw [show 7 - t = (7 - (t + 1)) + 1 by omega, Nat.pow_succ, Nat.mul_div_cancel _ (by omega)]
theorem pow7 (t : Nat) : 1 ≤ 2 ^ (7 - t) ∧ 2 ^ (7 - t) ≤ 128 := by
  have h1 : 2 ^ (7 - t) ≤ 2 ^ 7 := Nat.pow_le_pow_right (by omega) (by omega)
  have h2 := Nat.two_pow_pos (7 - t)
  omega
end Go.Huf
namespace Go.Proofs.Ytknjjodkpknglaa
open Go.RowKit Go.Sal Go.Huf
theorem EO.no_ {w wr : World} {ls : List Int} {AC A : Option Addr} {cC c : Nat} {l : List Bool} (h : EO w ls AC cC l A c wr) : (pack (l ++ [false])).length = l.length / 8 + 1 ∧ EI w ls AC cC (l ++ [false]) A c wr := by
  have hp : (pack (l ++ [false])).length = l.length / 8 + 1 := by rw [pack_false, packO_len]
  refine ⟨hp, ?_, h.cod, h.kp⟩
  rw [hp, pack_false]
  exact h.own
theorem EO.yes {w wr : World} {ls : List Int} {AC : Option Addr} {cC c g : Nat} {l : List Bool} (h : EO w ls AC cC l (some ⟨g, 0, none⟩) c wr) : (pack (l ++ [true])).length = l.length / 8 + 1 ∧
    EI w ls AC cC (l ++ [true]) (some ⟨g, 0, none⟩) c (wr.setCell ⟨g, l.length / 8, none⟩ (.int .u8 ((byteAt l (l.length / 8) + 2 ^ (7 - l.length % 8) : Nat) : Int))) ∧ byteAt l (l.length / 8) + 2 ^ (7 - l.length % 8) < 256 := by
  have hp : (pack (l ++ [true])).length = l.length / 8 + 1 := by rw [pack_len, List.length_append, List.length_singleton]; omega
  have h1 := h.store true
  have h2 := byte_or_lt l true
  simp only [if_true] at h1 h2
  exact ⟨hp, h1, h2⟩

set_option maxRecDepth 20000 in
set_option maxHeartbeats 4000000 in
theorem rpack_any (bs : List Bool) (A : Option Addr) (c b0 : Nat) (w : World) (hs : w.ownsRow b0 4 1 (.slice A bs.length c) bs.length (inL bs)) (hn : bs.length ≤ 2000000) :
    Calls Try.prog 34 #[.slice A bs.length c] w fun e w' => ∃ AO cO, e = .returned (.slice AO (pack bs).length cO) ∧
      w'.ownsRow w.heap.size 5 1 (.slice AO (pack bs).length cO) (pack bs).length (inB (pack bs)) ∧ Keep [] w w' := by
  have Hs := Lib.hid hs
  have H0 : Hid (EI w [] none 0 (bs.take 0) none 0 w) := Lib.hid ⟨by rw [List.take_zero]; exact World.ownsRow_nil _ _ _ _, World.ownsRow_nil _ _ _ _, Keep.refl _ _⟩
  have hb0 : (pack (bs.take 0)).length = 0 := by simp [pack]
  clear hs
  go_enter Try.func34, Try.ntmps34
  go_wp2
  go_loopw [3, 4] (fun vb vi wr => ∃ (k : Nat) (A3 : Option Addr) (c3 : Nat), vi = .int .i64 k ∧ k ≤ bs.length ∧ vb = .slice A3 (pack (bs.take k)).length c3 ∧ Hid (EI w [] none 0 (bs.take k) A3 c3 wr)) (fun _ vi _ => bs.length - (intOf vi).toNat)
  case atStart => exact ⟨0, none, 0, rfl, by omega, by rw [hb0], H0⟩
  case round =>
    obtain ⟨k, A3, c3, rfl, hk, rfl, hI⟩ := hrel
    clear H0
    rcases Nat.lt_or_ge k bs.length with hkl | hkl
    · as_aux_lemma =>
        have htk : bs.take (k + 1) = bs.take k ++ [bs[k]] := List.take_succ_eq_append_getElem hkl
        have hl : (bs.take k).length = k := by rw [List.length_take]; omega
        obtain ⟨gs, rfl, hgs, _⟩ := own_some Hs.out (by omega)
        obtain ⟨q, hq⟩ : ∃ q, k / 8 = q := ⟨_, rfl⟩
        obtain ⟨r, hr⟩ : ∃ r, k % 8 = r := ⟨_, rfl⟩
        have hr8 : r < 8 := by omega
        have htd : (k : Int).tdiv 8 = (q : Int) := by rw [Int.tdiv_eq_ediv_of_nonneg (by omega)]; omega
        have htm : (k : Int).tmod 8 = (r : Int) := by rw [Int.tmod_eq_emod_of_nonneg (by omega)]; omega
        have hwq : IntKind.i64.wrap (q : Int) = (q : Int) := by rw [IntKind.wrap_i64]; omega
        have hwr : IntKind.i64.wrap (r : Int) = (r : Int) := by rw [IntKind.wrap_i64]; omega
        have hwk : IntKind.i64.wrap ((k : Int) + 1) = (k : Int) + 1 := by rw [IntKind.wrap_i64]; omega
        have hqb : (q : Int) < (q : Int) + 1 := by omega
        have hki : (k : Int) < bs.length := by omega
        -- what is known once there is room
        have Hroom : Hid (∀ (A4 : Option Addr) (c4 : Nat) (W : World), EO w [] none 0 (bs.take k) A4 c4 W → ∃ g, A4 = some ⟨g, 0, none⟩ ∧ W.cell? ⟨gs, k, none⟩ = some (.bool bs[k]) ∧
            W.cell? ⟨g, q, none⟩ = some (.int .u8 (byteAt (bs.take k) q : Nat)) ∧ W.frozen? ⟨g, q, none⟩ = false ∧
            (bs[k] = false → (pack (bs.take (k + 1))).length = q + 1 ∧ EI w [] none 0 (bs.take (k + 1)) A4 c4 W) ∧
            (bs[k] = true → (pack (bs.take (k + 1))).length = q + 1 ∧ EI w [] none 0 (bs.take (k + 1)) A4 c4 (W.setCell ⟨g, q, none⟩ (.int .u8 ((byteAt (bs.take k) q + 2 ^ (7 - r) : Nat) : Int))) ∧ byteAt (bs.take k) q + 2 ^ (7 - r) < 256)) := by
          refine Lib.hid (fun A4 c4 W hO => ?_)
          obtain ⟨g, rfl, hg1, hg2, m1, m2⟩ := hO.cell
          rw [hl, hq] at m1 m2
          refine ⟨g, rfl, ((hO.kp.cell (p := ⟨gs, k, none⟩) hgs (by simp)).trans (inL_cell Hs.out hkl).1), m1, m2, fun hb => ?_, fun hb => ?_⟩
          · have := hO.no_
            rw [hl, hq] at this
            rw [htk, hb]
            exact this
          · have := hO.yes
            rw [hl, hq, hr] at this
            rw [htk, hb]
            exact this
        obtain ⟨pl, hpl⟩ : ∃ pl, pl = (pack (bs.take k)).length := ⟨_, rfl⟩
        rw [← hpl]
        have hcase : Hid (r = 0 ∧ pl = q ∧ (∃ A' c' w', (Builtin.append_ #[32, 32] 32 #[.slice A3 q c3, .slice (some ⟨wr.heap.size, 0, none⟩) 1 1]).run Try.prog (wr.alloc (.cells #[.int .u8 0] 5)) = .ok (.slice A' (q + 1) c') w' ∧ EO w [] none 0 (bs.take k) A' c' w') ∨
            r ≠ 0 ∧ pl = q + 1 ∧ EO w [] none 0 (bs.take k) A3 c3 wr) := by
          rcases Nat.eq_zero_or_pos r with h0 | h0
          · have := hI.out.new (by omega) (by omega)
            rw [hl, hq, ← hpl] at this
            exact Lib.hid (.inl ⟨h0, this⟩)
          · have := hI.out.old (by omega)
            rw [hl, hq, ← hpl] at this
            exact Lib.hid (.inr ⟨by omega, this⟩)
        have hba := byteAt_lt (bs.take k) q
        generalize byteAt (bs.take k) q = ba at *
        generalize bs[k] = bt at *
        have HL := Lib.hid (And.intro hl hkl)
        clear hI htk hl hq hr hpl
        rcases hcase.out with ⟨hr0, hplq, A4, c4, w4, hap, hO⟩ | ⟨hr0, hplq, hO⟩
        · have hrz : ((r : Int) == 0) = true := by simpa using hr0
          subst hplq
          obtain ⟨g, rfl, m0, m1, m2, hf, ht⟩ := Hroom.out _ _ _ hO
          have Hf := Lib.hid hf
          have Ht := Lib.hid ht
          have Hap := Lib.hid hap
          clear hcase hO hf ht hr0 Hroom hap
          have hap := Hap.out
          cases bt with
          | false =>
            have HN := Lib.hid (Hf.out rfl)
            clear Hf Ht
            go_wp2_with (at_builtin; refine wpList_append2 (v1 := .slice A3 pl c3) (v2 := .slice (some ⟨wr.heap.size, 0, none⟩) 1 1) rfl (.tmp 16) (.tmp 17) rfl rfl rfl hap ?_)
            exact ⟨⟨k + 1, _, _, by simp, by have := HL.out; omega, by rw [HN.out.1], Lib.hid HN.out.2⟩, by have := HL.out; simp [intOf]; omega⟩
          | true =>
            have HN := Lib.hid (Ht.out rfl)
            clear Hf Ht
            go_wp2_with (at_builtin; refine wpList_append2 (v1 := .slice A3 pl c3) (v2 := .slice (some ⟨wr.heap.size, 0, none⟩) 1 1) rfl (.tmp 16) (.tmp 17) rfl rfl rfl hap ?_)
            go_loop [5, 6] (fun vx vj => ∃ t x : Nat, vj = .int .i64 t ∧ t ≤ r ∧ vx = .int .u8 x ∧ Hid (x = 2 ^ (7 - t))) (fun _ vj => r - (intOf vj).toNat)
            case atStart => exact ⟨0, 128, rfl, by omega, rfl, Lib.hid rfl⟩
            case round =>
              obtain ⟨t, x, rfl, ht, rfl, hx⟩ := hrel
              have hxb : 1 ≤ x ∧ x ≤ 128 := by rw [hx.out]; exact pow7 t
              rcases Nat.lt_or_ge t r with htr | htr
              · have htri : (t : Int) < r := by omega
                have hwt : IntKind.i64.wrap ((t : Int) + 1) = (t : Int) + 1 := by rw [IntKind.wrap_i64]; omega
                have hxd : (x : Int).tdiv 2 = ((x / 2 : Nat) : Int) := by rw [Int.tdiv_eq_ediv_of_nonneg (by omega)]; omega
                have hwx : IntKind.u8.wrap ((x / 2 : Nat) : Int) = ((x / 2 : Nat) : Int) := by rw [IntKind.wrap_u8]; omega
                have HX : Hid (x / 2 = 2 ^ (7 - (t + 1))) := Lib.hid (by rw [hx.out, half_two (by omega)])
                generalize x / 2 = xd at *
                clear hx
                go_wp2
                exact ⟨⟨t + 1, xd, by simp, by omega, rfl, HX⟩, by simp [intOf]; omega⟩
              · obtain rfl : t = r := by omega
                have hlt := HN.out.2.2
                rw [← hx.out] at hlt
                have HE := Lib.hid HN.out.2.1
                rw [← hx.out] at HE
                have HP := Lib.hid HN.out.1
                have hwx : IntKind.u8.wrap ((ba : Int) + x) = ((ba + x : Nat) : Int) := by rw [IntKind.wrap_u8]; omega
                have hti : ¬ (t : Int) < t := by omega
                clear hx HN
                go_wp2_with fail
                go_roundw
                case rel => exact ⟨k + 1, _, _, by simp, by have := HL.out; omega, by rw [HP.out], by simpa using HE⟩
                case measure => have := HL.out; simp [intOf]; omega
        · have hrz : ((r : Int) == 0) = false := by simpa using hr0
          subst hplq
          obtain ⟨g, rfl, m0, m1, m2, hf, ht⟩ := Hroom.out _ _ _ hO
          have Hf := Lib.hid hf
          have Ht := Lib.hid ht
          clear hcase hO hf ht hr0 Hroom
          cases bt with
          | false =>
            have HN := Lib.hid (Hf.out rfl)
            clear Hf Ht
            go_wp2_with fail
            exact ⟨⟨k + 1, _, _, by simp, by have := HL.out; omega, by rw [HN.out.1], Lib.hid HN.out.2⟩, by have := HL.out; simp [intOf]; omega⟩
          | true =>
            have HN := Lib.hid (Ht.out rfl)
            clear Hf Ht
            go_wp2_with fail
            go_loop [5, 6] (fun vx vj => ∃ t x : Nat, vj = .int .i64 t ∧ t ≤ r ∧ vx = .int .u8 x ∧ Hid (x = 2 ^ (7 - t))) (fun _ vj => r - (intOf vj).toNat)
            case atStart => exact ⟨0, 128, rfl, by omega, rfl, Lib.hid rfl⟩
            case round =>
              obtain ⟨t, x, rfl, ht, rfl, hx⟩ := hrel
              have hxb : 1 ≤ x ∧ x ≤ 128 := by rw [hx.out]; exact pow7 t
              rcases Nat.lt_or_ge t r with htr | htr
              · have htri : (t : Int) < r := by omega
                have hwt : IntKind.i64.wrap ((t : Int) + 1) = (t : Int) + 1 := by rw [IntKind.wrap_i64]; omega
                have hxd : (x : Int).tdiv 2 = ((x / 2 : Nat) : Int) := by rw [Int.tdiv_eq_ediv_of_nonneg (by omega)]; omega
                have hwx : IntKind.u8.wrap ((x / 2 : Nat) : Int) = ((x / 2 : Nat) : Int) := by rw [IntKind.wrap_u8]; omega
                have HX : Hid (x / 2 = 2 ^ (7 - (t + 1))) := Lib.hid (by rw [hx.out, half_two (by omega)])
                generalize x / 2 = xd at *
                clear hx
                go_wp2
                exact ⟨⟨t + 1, xd, by simp, by omega, rfl, HX⟩, by simp [intOf]; omega⟩
              · obtain rfl : t = r := by omega
                have hlt := HN.out.2.2
                rw [← hx.out] at hlt
                have HE := Lib.hid HN.out.2.1
                rw [← hx.out] at HE
                have HP := Lib.hid HN.out.1
                have hwx : IntKind.u8.wrap ((ba : Int) + x) = ((ba + x : Nat) : Int) := by rw [IntKind.wrap_u8]; omega
                have hti : ¬ (t : Int) < t := by omega
                clear hx HN
                go_wp2_with fail
                go_roundw
                case rel => exact ⟨k + 1, _, _, by simp, by have := HL.out; omega, by rw [HP.out], by simpa using HE⟩
                case measure => have := HL.out; simp [intOf]; omega
    · obtain rfl : k = bs.length := by omega
      rw [List.take_length] at hI
      have HR := Lib.hid hI.out.own
      have HK := Lib.hid hI.out.kp
      rw [List.take_length]
      clear hI
      go_wp2
      go_ret
      exact ⟨_, _, rfl, HR.out, HK.out⟩
end Go.Proofs.Ytknjjodkpknglaa
