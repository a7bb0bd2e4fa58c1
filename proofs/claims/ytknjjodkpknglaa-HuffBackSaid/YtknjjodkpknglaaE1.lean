/- Encode, walked. -/
import Derived.Test.YtknjjodkpknglaaC2
import Derived.Test.YtknjjodkpknglaaHfB
set_option linter.unusedVariables false
set_option linter.unusedSimpArgs false
namespace Go.Proofs.Ytknjjodkpknglaa
open Go.RowKit Go.Sal Go.Huf
def inB (l : List Nat) : List Value := l.map fun (k : Nat) => .int .u8 (k : Int)
theorem inB_len (l : List Nat) : (inB l).length = l.length := by simp [inB]
theorem inB_one (l : List Nat) : ∀ u ∈ inB l, u.oneCell' = true := by
  intro u hu; obtain ⟨k, _, rfl⟩ := List.mem_map.1 hu; rfl
theorem u8info : (Try.prog.info? 5).map (fun i => (i.zero, i.size, i.bytes)) = some (some (.int .u8 0), 1, 1) := by kernel_rfl
theorem inB_cell {w : World} {base g n cap i : Nat} {l : List Nat} (h : w.ownsRow base 5 1 (.slice (some ⟨g, 0, none⟩) n cap) n (inB l)) (hi : i < l.length) :
    w.cell? ⟨g, i, none⟩ = some (.int .u8 (l[i] : Nat)) ∧ w.frozen? ⟨g, i, none⟩ = false := ownsRow_cell h (show (inB l)[i]? = some (.int .u8 (l[i] : Nat)) by simp [inB, hi])
theorem inB_set {w : World} {base g n cap i : Nat} {l : List Nat} (h : w.ownsRow base 5 1 (.slice (some ⟨g, 0, none⟩) n cap) n (inB l)) (hi : i < n) (x : Nat) :
    (w.setCell ⟨g, i, none⟩ (.int .u8 (x : Int))).ownsRow base 5 1 (.slice (some ⟨g, 0, none⟩) n cap) n (inB (l.set i x)) := by
  have := ownsRow_set h i (by omega) (.int .u8 (x : Int))
  rwa [show (inB l).set i (.int .u8 (x : Int)) = inB (l.set i x) by simp [inB, List.map_set]] at this
/-- a zero byte behind a row of bytes -/
theorem byte_append {base n c : Nat} {A : Option Addr} {f : List Nat} {w : World} (h : w.ownsRow base 5 1 (.slice A n c) n (inB f)) (hn : n = f.length) (hn2 : n ≤ 10000000) (hB : base ≤ w.heap.size) :
    ∃ A' c' w', (Builtin.append_ #[32, 32] 32 #[.slice A n c, .slice (some ⟨w.heap.size, 0, none⟩) 1 1]).run Try.prog (w.alloc (.cells #[.int .u8 0] 5)) = .ok (.slice A' (n + 1) c') w' ∧
      w'.ownsRow base 5 1 (.slice A' (n + 1) c') (n + 1) (inB (f ++ [0])) ∧ Keep (Value.slice A n c).ownBlock.toList w w' := by
  have hka : Keep [] w (w.alloc (.cells #[.int .u8 0] 5)) := (Keep.refl [] w).alloc _
  obtain ⟨v', w', hrun, hown, hg, hat⟩ := run_append_src (P := Try.prog) (w.alloc (.cells #[.int .u8 0] 5)) 32 32 5 (.int .u8 0) 1 1 base Try.underlying32 u8info rfl (by omega) (.slice A n c) n (inB f) (ownsRow_keep h hka (by simp))
    (some ⟨w.heap.size, 0, none⟩) 1 1 [.int .u8 0] (src_new w 5 1 [.int .u8 0] rfl) (by simp [Value.oneCell']) (by unfold maxLen; omega) (by omega) (by simp; omega)
  obtain ⟨A', c', rfl, _⟩ := own_slice hown
  exact ⟨A', c', w', hrun, by simpa [inB] using hown, (hka.mono (by simp)).grown hg (fun k hk => .inl (by simp [hk]))⟩
/-- what Encode answers where the lengths are no code's -/
theorem encode_bad (ls : List Int) (A : Option Addr) (c : Nat) (V : Value) (w : World) (hs : ISrc w A ls) (hn : ls.length ≤ 100000000) (h : ¬ okL ls) :
    Calls Try.prog 17 #[.slice A ls.length c, V] w fun e w' => e = .returned (.tuple #[.slice none 0 0, .int .i64 0, .int .i64 51]) ∧ Keep [] w w' := by
  have Hc := Lib.hid (codes_bad ls A c w hs hn h)
  clear hs h
  go_enter Try.func17, Try.ntmps17
  go_wp2_with (go_at_call 21; refine Hc.out.mono ?_; rintro e w' ⟨rfl, hk⟩; have Hk := Lib.hid hk; clear hk)
  go_ret3
  exact ⟨rfl, Hk.out⟩
structure EI (w : World) (ls : List Int) (AC : Option Addr) (cC : Nat) (l : List Bool) (A : Option Addr) (c : Nat) (wr : World) : Prop where
  own : wr.ownsRow w.heap.size 5 1 (.slice A (pack l).length c) (pack l).length (inB (pack l))
  cod : wr.ownsRow w.heap.size 44 1 (.slice AC ls.length cC) ls.length (inU (codesL ls))
  kp : Keep [] w wr
/-- the same with room for one more bit -/
structure EO (w : World) (ls : List Int) (AC : Option Addr) (cC : Nat) (l : List Bool) (A : Option Addr) (c : Nat) (wr : World) : Prop where
  own : wr.ownsRow w.heap.size 5 1 (.slice A (l.length / 8 + 1) c) (l.length / 8 + 1) (inB (packO l))
  cod : wr.ownsRow w.heap.size 44 1 (.slice AC ls.length cC) ls.length (inU (codesL ls))
  kp : Keep [] w wr
section
variable {w wr : World} {ls : List Int} {AC A : Option Addr} {cC c g : Nat} {l : List Bool}
theorem EI.new (h : EI w ls AC cC l A c wr) (h8 : l.length % 8 = 0) (hn : l.length ≤ 10000000) :
    (pack l).length = l.length / 8 ∧ ∃ A' c' w', (Builtin.append_ #[32, 32] 32 #[.slice A (l.length / 8) c, .slice (some ⟨wr.heap.size, 0, none⟩) 1 1]).run Try.prog (wr.alloc (.cells #[.int .u8 0] 5)) = .ok (.slice A' (l.length / 8 + 1) c') w' ∧ EO w ls AC cC l A' c' w' := by
  have hpl : (pack l).length = l.length / 8 := by rw [pack_len]; omega
  have hown := h.own
  rw [hpl] at hown
  obtain ⟨A', c', w', hrun, hown2, hk⟩ := byte_append hown hpl.symm (by omega) h.kp.size
  refine ⟨hpl, A', c', w', hrun, by rw [packO_new h8]; exact hown2, ?_, ?_⟩
  · exact ownsRow_keep h.cod hk (fun i hi hm => by
      have hm' : (Value.slice A (l.length / 8) c).ownBlock = some i := by simpa using hm
      exact own_ne_own h.cod hown (by decide) hi hm')
  · exact h.kp.step hk (fun j hj => .inr (hown.lt j (by simpa using hj)).1)
theorem EI.old (h : EI w ls AC cC l A c wr) (h8 : l.length % 8 ≠ 0) : (pack l).length = l.length / 8 + 1 ∧ EO w ls AC cC l A c wr := by
  have hpl : (pack l).length = l.length / 8 + 1 := by rw [pack_len]; omega
  have hown := h.own
  rw [hpl] at hown
  exact ⟨hpl, by rw [packO_old h8]; exact hown, h.cod, h.kp⟩
theorem EO.drew (h : EO w ls AC cC l A c wr) : EO w ls AC cC l A c wr.drew :=
  ⟨ownsRow_keep h.own ((Keep.refl [] wr).drew) (by simp), ownsRow_keep h.cod ((Keep.refl [] wr).drew) (by simp), h.kp.drew⟩
theorem EO.cell (h : EO w ls AC cC l A c wr) : ∃ g, A = some ⟨g, 0, none⟩ ∧ g < wr.heap.size ∧ w.heap.size ≤ g ∧
    wr.cell? ⟨g, l.length / 8, none⟩ = some (.int .u8 (byteAt l (l.length / 8) : Nat)) ∧ wr.frozen? ⟨g, l.length / 8, none⟩ = false := by
  obtain ⟨g, rfl, h1, h2⟩ := own_some h.own (by omega)
  have := inB_cell h.own (i := l.length / 8) (by rw [packO_len]; omega)
  rw [packO_get] at this
  exact ⟨g, rfl, h1, h2, this⟩
theorem EO.code (h : EO w ls AC cC l A c wr) {s : Nat} (hs : s < ls.length) : ∃ g, AC = some ⟨g, 0, none⟩ ∧ g < wr.heap.size ∧ wr.cell? ⟨g, s, none⟩ = some (.int .u16 (codeV ls s : Nat)) := by
  obtain ⟨g, rfl, h1, h2⟩ := own_some h.cod (by omega)
  have := inU_cell h.cod (i := s) (by rw [codesL_len]; omega)
  refine ⟨g, rfl, h1, ?_⟩
  rw [this.1]
  simp [codesL]
theorem EO.store (h : EO w ls AC cC l (some ⟨g, 0, none⟩) c wr) (x : Bool) :
    EI w ls AC cC (l ++ [x]) (some ⟨g, 0, none⟩) c (wr.setCell ⟨g, l.length / 8, none⟩ (.int .u8 ((byteAt l (l.length / 8) + (if x then 2 ^ (7 - l.length % 8) else 0) : Nat) : Int))) := by
  have hset := inB_set h.own (i := l.length / 8) (by omega) (byteAt l (l.length / 8) + (if x then 2 ^ (7 - l.length % 8) else 0))
  rw [pack_snoc] at hset
  have hpl : (pack (l ++ [x])).length = l.length / 8 + 1 := by rw [pack_len, List.length_append, List.length_singleton]; omega
  have hge : w.heap.size ≤ g := (h.own.lt g rfl).1
  refine ⟨by rw [hpl]; exact hset, ?_, h.kp.setCell (.inr hge) _⟩
  refine ownsRow_keep h.cod ((Keep.refl [g] wr).setCell (.inl (by simp)) _) (fun i hi hm => ?_)
  simp at hm
  subst hm
  exact own_ne_own h.cod h.own (by decide) hi rfl
end
def EncP (w : World) (ls ss : List Int) (e : Ending) (w' : World) : Prop :=
  (∀ s ∈ ss, okS ls s) ∧ (∃ AO cO, e = .returned (.tuple #[.slice AO (pack (bitsOf ls ss)).length cO, .int .i64 ((bitsOf ls ss).length : Nat), .int .i64 0]) ∧
    w'.ownsRow w.heap.size 5 1 (.slice AO (pack (bitsOf ls ss)).length cO) (pack (bitsOf ls ss)).length (inB (pack (bitsOf ls ss))) ∧ Keep [] w w') ∨
  (¬ ∀ s ∈ ss, okS ls s) ∧ e = .returned (.tuple #[.slice none 0 0, .int .i64 0, .int .i64 53]) ∧ Keep [] w w'
theorem bits_or_u8 {a b : Nat} (ha : a < 256) (hb : b < 256) (hc : a ||| b < 256) : bits .or .u8 (a : Int) (b : Int) = ((a ||| b : Nat) : Int) := by
  show IntKind.u8.wrap ((BitVec.ofInt 8 (a : Int) ||| BitVec.ofInt 8 (b : Int)).toNat : Int) = _
  rw [or8 ha hb, IntKind.wrap_u8]
  omega
theorem bits_and1_u16 {a : Nat} (ha : a < 65536) : bits .and .u16 (a : Int) 1 = ((a % 2 : Nat) : Int) := by
  show IntKind.u16.wrap ((BitVec.ofInt 16 (a : Int) &&& BitVec.ofInt 16 1).toNat : Int) = _
  rw [and16 ha, IntKind.wrap_u16]
  omega
theorem shl8 {x r : Nat} (hx : x ≤ 1) (hr : r < 8) : ((x : Nat) : Int) % 256 * 2 ^ (7 - r) % 256 = ((x * 2 ^ (7 - r) : Nat) : Int) ∧ x * 2 ^ (7 - r) < 256 := by
  have h1 : 2 ^ (7 - r) ≤ 2 ^ 7 := Nat.pow_le_pow_right (by omega) (by omega)
  have h2 : x * 2 ^ (7 - r) ≤ 1 * 2 ^ 7 := Nat.mul_le_mul hx h1
  have h3 : ((x : Nat) : Int) % 256 = x := by omega
  refine ⟨?_, by omega⟩
  rw [h3]
  have : ((x : Int) * 2 ^ (7 - r)) = ((x * 2 ^ (7 - r) : Nat) : Int) := by simp
  rw [this]
  omega
/-- the byte as the code says it -/
theorem enc_byte {ba cv i r s : Nat} {bt : Bool} (hb : b2n bt = cv / 2 ^ i % 2) (hbn : b2n bt ≤ 1) (hcv : cv < 32768) (hr : r < 8) (hlow : ba ||| b2n bt * 2 ^ (7 - r) = s) (hlt : s < 256) (hba : ba < 256) :
    bits BinOp.or IntKind.u8 (ba : Int) (bits BinOp.and IntKind.u16 ((cv : Int) / 2 ^ i) 1 % 256 * 2 ^ (7 - r) % 256) = (s : Int) := by
  have h1 : (cv : Int) / 2 ^ i = ((cv / 2 ^ i : Nat) : Int) := by simp
  have h2 : cv / 2 ^ i ≤ cv := Nat.div_le_self _ _
  rw [h1, bits_and1_u16 (by omega), ← hb]
  obtain ⟨h3, h4⟩ := shl8 hbn hr
  rw [h3, bits_or_u8 hba h4 (by omega), hlow]
theorem shr_cast (c i : Nat) : (c : Int) / 2 ^ i = ((c / 2 ^ i : Nat) : Int) := by simp

set_option maxRecDepth 20000 in
set_option maxHeartbeats 4000000 in
theorem encode_any {N : Nat} (H : StabOK N) (hN : N ≤ 100000) (ls ss : List Int) (A As : Option Addr) (c cs : Nat) (w : World) (hs : ISrc w A ls) (hss : ISrc w As ss) (hl : ls.length ≤ N) (hm : ss.length ≤ 100000) (h : okL ls) :
    Calls Try.prog 17 #[.slice A ls.length c, .slice As ss.length cs] w fun e w' => EncP w ls ss e w' := by
  have hl5 := h.1
  have Hc := Lib.hid (codes_ok H hN ls A c w hs hl h)
  have Hs := Lib.hid hs
  have Hss := Lib.hid hss
  have Hok := Lib.hid h
  clear hs hss h H
  go_enter Try.func17, Try.ntmps17
  go_wp2_with (go_at_call 21; refine Hc.out.mono ?_; rintro e w1 ⟨AC, cC, rfl, hown1, hk1⟩; have H0 := Lib.hid (EI.mk (A := none) (c := 0) (l := []) (World.ownsRow_nil _ _ _ _) hown1 hk1); clear hown1 hk1)
  have hb0 : (pack (bitsOf ls (ss.take 0))).length = 0 := by rw [List.take_zero]; simp [bitsOf, pack]
  go_loopw [9, 10, 24] (fun b n i wr => ∃ (k : Nat) (A9 : Option Addr) (c9 : Nat), i = .int .i64 k ∧ k ≤ ss.length ∧ n = .int .i64 ((bitsOf ls (ss.take k)).length : Nat) ∧ b = .slice A9 (pack (bitsOf ls (ss.take k))).length c9 ∧
    Hid (EI w ls AC cC (bitsOf ls (ss.take k)) A9 c9 wr ∧ ∀ j (h : j < ss.length), j < k → okS ls ss[j])) (fun _ _ i _ => ss.length - (intOf i).toNat)
  case atStart => exact ⟨0, none, 0, rfl, by omega, rfl, by rw [hb0], Lib.hid ⟨H0.out, fun j h hj => by omega⟩⟩
  case round =>
    obtain ⟨k, A9, c9, rfl, hk, rfl, rfl, hI⟩ := hrel
    clear H0
    rcases Nat.lt_or_ge k ss.length with hkl | hkl
    · as_aux_lemma =>
        obtain ⟨⟨hown, hcod, hkp⟩, hall⟩ := hI.out
        obtain ⟨gs, os, rfl, hgs, hcs⟩ := Hss.out k hkl
        have d0 := (hkp.cell (p := ⟨gs, os + k, none⟩) hgs (by simp)).trans hcs
        have Hbad := Lib.hid (show ¬ okS ls ss[k] → ¬ ∀ s ∈ ss, okS ls s from fun hb h => hb (h _ (List.getElem_mem hkl)))
        have Hkp := Lib.hid hkp
        have Hst := Lib.hid (show okS ls ss[k] → ∀ j (h : j < ss.length), j < k + 1 → okS ls ss[j] from fun hb j h hj => by
          rcases Nat.lt_succ_iff_lt_or_eq.1 hj with h1 | rfl
          · exact hall j h h1
          · exact hb)
        have htk : ss.take (k + 1) = ss.take k ++ [ss[k]] := List.take_succ_eq_append_getElem hkl
        have hwk : IntKind.i64.wrap ((k : Int) + 1) = (k : Int) + 1 := by rw [IntKind.wrap_i64]; omega
        have hbl := bitsOf_len Hok.out.2.1 (ss.take k)
        rw [List.length_take, Nat.min_eq_left (by omega)] at hbl
        have HI := Lib.hid (EI.mk hown hcod hkp)
        generalize hB : bitsOf ls (ss.take k) = B at *
        generalize ss[k] = x at *
        clear hI hown hcod hkp hall hcs
        by_cases h1 : x < 0
        · have hb := Lib.hid (Hbad.out (fun h => by have := h.1; omega))
          clear htk hB
          go_wp2
          go_ret3
          exact .inr ⟨hb.out, rfl, Hkp.out⟩
        · obtain ⟨s, rfl⟩ : ∃ s : Nat, x = s := ⟨x.toNat, by omega⟩
          by_cases h2 : s < ls.length
          · obtain ⟨gl, ol, rfl, hgl, hcl⟩ := Hs.out s h2
            have d1 := (Hkp.out.cell (p := ⟨gl, ol + s, none⟩) hgl (by simp)).trans hcl
            have hlg := ln_good Hok.out.2.1 s
            have hle := ln_eq h2
            have h2i : ¬ (ls.length : Int) ≤ s := by omega
            have h2i' : (s : Int) < ls.length := by omega
            by_cases h3 : ls[s] = 0
            · have hb := Lib.hid (Hbad.out (fun h => by have := h.2.2; rw [Int.toNat_natCast, hle] at this; exact this h3))
              rw [h3] at d1
              clear htk hB hle hcl h3
              go_wp2
              go_ret3
              exact .inr ⟨hb.out, rfl, Hkp.out⟩
            · have h3n : (ls[s] == 0) = false := by simpa using h3
              have hok : okS ls s := ⟨by omega, by omega, by rw [Int.toNat_natCast, hle]; exact h3⟩
              have HSt := Lib.hid (Hst.out hok)
              obtain ⟨L, hL⟩ : ∃ L : Nat, ls[s] = L := ⟨ls[s].toNat, by omega⟩
              have hsb : symBits ls s = bitsK (codeV ls s) L := by unfold symBits; rw [Int.toNat_natCast, hle, hL, Int.toNat_natCast]
              have hnx : bitsOf ls (ss.take (k + 1)) = B ++ bitsK (codeV ls s) L := by rw [htk, bitsOf_snoc, hB, hsb]
              have Hnx := Lib.hid hnx
              have hcv := codeV_small Hok.out h2
              have hL15 : L ≤ 15 := by omega
              have hL1 : 1 ≤ L := by omega
              rw [hL] at d1 h3n
              have hwL : IntKind.i64.wrap ((L : Int) - 1) = (L : Int) - 1 := by rw [IntKind.wrap_i64]; omega
              have hcg : (codesL ls)[s]? = some (codeV ls s) := by simp [codesL, h2]
              have Hcg := Lib.hid hcg
              clear htk hB hle hcl h3 hsb hnx hL Hbad Hst hok hcg hlg
              obtain ⟨cv, hcve⟩ : ∃ cv, codeV ls s = cv := ⟨_, rfl⟩
              rw [hcve] at hcv Hnx
              have Hcv := Lib.hid hcve
              rw [hcve] at Hcg
              clear hcve
              go_wp2
              go_loopw [9, 10, 13] (fun b n i wr => ∃ (j nq : Nat) (A9 : Option Addr) (c9 : Nat), i = .int .i64 ((L : Int) - 1 - j) ∧ j ≤ L ∧ nq = B.length + j ∧ n = .int .i64 (nq : Int) ∧ b = .slice A9 (pack (B ++ (bitsK cv L).take j)).length c9 ∧
                Hid (EI w ls AC cC (B ++ (bitsK cv L).take j) A9 c9 wr)) (fun _ _ i _ => (intOf i + 1).toNat)
              case atStart => exact ⟨0, B.length, A9, c9, by simp, by omega, rfl, rfl, by simp, by simpa using HI⟩
              case round =>
                obtain ⟨j, nq, A9', c9', rfl, hj, hnq, rfl, rfl, hJ⟩ := hrel
                clear HI
                rcases Nat.lt_or_ge j L with hjl | hjl
                · as_aux_lemma =>
                    have hnl : (B ++ (bitsK cv L).take j).length = B.length + j := by
                      rw [List.length_append, List.length_take, bitsK_len]; omega
                    have htj : (B ++ (bitsK cv L).take j) ++ [bitAt cv L j] = B ++ (bitsK cv L).take (j + 1) := by rw [List.append_assoc, bitsK_take cv L hjl]
                    have hb2 := b2n_bit cv L j
                    generalize hBj : B ++ (bitsK cv L).take j = Bj at *
                    rw [← hnq] at hnl
                    have hge : (0 : Int) ≤ (L : Int) - 1 - j := by omega
                    have hnq2 : nq ≤ 15 * k + 15 := by omega
                    obtain ⟨i, hi⟩ : ∃ i : Nat, (L : Int) - 1 - j = i := ⟨L - 1 - j, by omega⟩
                    have hi2 : L - 1 - j = i := by omega
                    rw [hi2] at hb2
                    rw [hi]
                    have hi15 : i ≤ 14 := by omega
                    have hlow := byte_or Bj (bitAt cv L j)
                    have hlt := byte_or_lt Bj (bitAt cv L j)
                    have hat := byteAt_lt Bj (Bj.length / 8)
                    have hsn := pack_snoc Bj (bitAt cv L j)
                    rw [htj] at hsn
                    rw [hnl] at hlow hlt hat hsn
                    obtain ⟨q, hq⟩ : ∃ q, nq / 8 = q := ⟨_, rfl⟩
                    obtain ⟨r, hr⟩ : ∃ r, nq % 8 = r := ⟨_, rfl⟩
                    have hr8 : r < 8 := by omega
                    have hqb : (q : Int) < (q : Int) + 1 := by omega
                    have htd : (nq : Int).tdiv 8 = (q : Int) := by rw [Int.tdiv_eq_ediv_of_nonneg (by omega)]; omega
                    have htm : (nq : Int).tmod 8 = (r : Int) := by rw [Int.tmod_eq_emod_of_nonneg (by omega)]; omega
                    have hwq : IntKind.i64.wrap (q : Int) = (q : Int) := by rw [IntKind.wrap_i64]; omega
                    have hwr : IntKind.i64.wrap (r : Int) = (r : Int) := by rw [IntKind.wrap_i64]; omega
                    have hw7 : IntKind.i64.wrap (7 - (r : Int)) = ((7 - r : Nat) : Int) := by rw [IntKind.wrap_i64]; omega
                    have hwi : IntKind.u64.wrap (i : Int) = (i : Int) := by rw [IntKind.wrap_u64]; omega
                    have hw7u : IntKind.u64.wrap ((7 - r : Nat) : Int) = ((7 - r : Nat) : Int) := by rw [IntKind.wrap_u64]; omega
                    have hwn : IntKind.i64.wrap ((nq : Int) + 1) = (nq : Int) + 1 := by rw [IntKind.wrap_i64]; omega
                    have hwi1 : IntKind.i64.wrap ((i : Int) - 1) = (i : Int) - 1 := by rw [IntKind.wrap_i64]; omega
                    rw [hr, hq] at hlow hlt hsn
                    rw [hq] at hat
                    generalize hbt : bitAt cv L j = bt at *
                    have hbn : b2n bt ≤ 1 := by unfold b2n; split <;> omega
                    rcases Nat.eq_zero_or_pos r with hr0 | hr0
                    · obtain ⟨hpl, A2, c2, w2, hap, hO⟩ := hJ.out.new (by omega) (by omega)
                      obtain ⟨gb, rfl, hgb1, hgb2, m1, m2⟩ := hO.cell
                      obtain ⟨gc, rfl, hgc1, m3⟩ := hO.code h2
                      have HN := Lib.hid (hO.drew.store bt)
                      rw [hnl, hq] at hap hpl m1 m2 HN
                      rw [hr] at HN
                      have hlen0 : (nq : Int).tmod 8 = 0 := by rw [htm]; omega
                      rw [Hcv.out] at m3
                      rw [hpl]
                      have Hap := Lib.hid hap
                      clear hap
                      have Hby := Lib.hid (enc_byte (cv := cv) (i := i) hb2 hbn hcv hr8 hlow hlt hat)
                      generalize hsm : byteAt Bj q + (if bt then 2 ^ (7 - r) else 0) = sm at *
                      generalize hba : byteAt Bj q = ba at *
                      have HSS : Hid (∀ W : World, Keep [] w2 W → W.cell? ⟨gb, q, none⟩ = some (.int .u8 (ba : Nat)) ∧ W.cell? ⟨gc, s, none⟩ = some (.int .u16 (cv : Nat))) := Lib.hid (fun W k => ⟨(k.cell (p := ⟨gb, q, none⟩) hgb1 (by simp)).trans m1, (k.cell (p := ⟨gc, s, none⟩) hgc1 (by simp)).trans m3⟩)
                      have hS16 := HSS.out _ ((Keep.refl [] w2).drew)
                      have Hnq := Lib.hid hnq
                      have Hi := Lib.hid hi
                      have HpN : Hid ((pack (B ++ (bitsK cv L).take (j + 1))).length = q + 1) := Lib.hid (by rw [← htj, pack_len, List.length_append, hnl, List.length_singleton]; omega)
                      rw [htj] at HN
                      clear hJ hO m1 m3 hpl htj hsn hlow hlt hnq hnl hq hr hi hi2
                      have hap := Hap.out
                      go_wp2_with (at_builtin; refine wpList_append2 (v1 := .slice A9' q c9') (v2 := .slice (some ⟨wr.heap.size, 0, none⟩) 1 1) rfl (.tmp 55) (.tmp 56) rfl rfl rfl hap ?_)
                      refine wp_region_G (fun W => W.cell? ⟨gb, q, none⟩ = some (.int .u8 (ba : Nat)) ∧ W.cell? ⟨gc, s, none⟩ = some (.int .u16 (cv : Nat))) [21] #[false, false, false, false, false, false, false, false, false, false, false, false, false, false, false, false, false, false, false, false, false, false] 22 (by kernel_rfl) (by kernel_rfl) (by kernel_rfl) ?_
                      refine wpAnyG_take0 (i := 0) (oi := { dst := some 58, op := Go.Op.move (Go.Operand.tmp 9), type := 32, pos := "huff.go:181", after := #[], guard := none }) (v := ?vg1_0) rfl (by kernel_rfl) (by kernel_rfl) (by kernel_rfl) (by kernel_rfl) (fun _ _ _ h => h) (fun _ => hS16) (Or.inl ⟨by rfl, ?hg1_0⟩) ?_
                      case hg1_0 => intro w _; go_simp; (try with_reducible rfl)
                      try simp only [Act.put, List.setIfInBounds_toArray, List.set_cons_zero, List.set_cons_succ]
                      refine wpAnyG_take0 (i := 1) (oi := { dst := some 59, op := Go.Op.move (Go.Operand.tmp 10), type := 3, pos := "huff.go:181", after := #[], guard := none }) (v := ?vg1_1) rfl (by kernel_rfl) (by kernel_rfl) (by kernel_rfl) (by kernel_rfl) (fun _ _ _ h => h) (fun _ => hS16) (Or.inl ⟨by rfl, ?hg1_1⟩) ?_
                      case hg1_1 => intro w _; go_simp; (try with_reducible rfl)
                      try simp only [Act.put, List.setIfInBounds_toArray, List.set_cons_zero, List.set_cons_succ]
                      refine wpAnyG_take0 (i := 2) (oi := { dst := some 60, op := Go.Op.binOp Go.BinOp.quo 3 (Go.Operand.tmp 59) (Go.Operand.const (Go.Value.int Go.IntKind.i64 8)) 3, type := 3, pos := "huff.go:181", after := #[{ on := 1, ground := Go.Ground.data }], guard := none }) (v := ?vg1_2) rfl (by kernel_rfl) (by kernel_rfl) (by kernel_rfl) (by kernel_rfl) (fun _ _ _ h => h) (fun _ => hS16) (Or.inl ⟨by rfl, ?hg1_2⟩) ?_
                      case hg1_2 => intro w _; go_simp; (try with_reducible rfl)
                      try simp only [Act.put, List.setIfInBounds_toArray, List.set_cons_zero, List.set_cons_succ]
                      refine wpAnyG_take0 (i := 3) (oi := { dst := some 61, op := Go.Op.indexAddr 32 (Go.Operand.tmp 58) (Go.Operand.tmp 60), type := 0, pos := "huff.go:181", after := #[{ on := 0, ground := Go.Ground.data }, { on := 2, ground := Go.Ground.data }], guard := none }) (v := ?vg1_3) rfl (by kernel_rfl) (by kernel_rfl) (by kernel_rfl) (by kernel_rfl) (fun _ _ _ h => h) (fun _ => hS16) (Or.inl ⟨by rfl, ?hg1_3⟩) ?_
                      case hg1_3 => intro w _; go_simp; (try with_reducible rfl)
                      try simp only [Act.put, List.setIfInBounds_toArray, List.set_cons_zero, List.set_cons_succ]
                      refine wpAnyG_take (i := 4) (oi := { dst := some 62, op := Go.Op.load 5 (Go.Operand.tmp 61), type := 5, pos := "huff.go:181", after := #[{ on := 3, ground := Go.Ground.data }], guard := none }) (v := ?vg1_4) [4, 19, 20, 21] rfl (by kernel_rfl) (by kernel_rfl) (by kernel_rfl) (by kernel_rfl) (by kernel_rfl) (fun _ _ _ h => h) (fun _ => hS16) (Or.inl ⟨by rfl, ?hg1_4⟩) ?_
                      case hg1_4 => intro w hSw; (try dsimp only at hSw); go_simp; (try with_reducible rfl)
                      try simp only [Act.put, List.setIfInBounds_toArray, List.set_cons_zero, List.set_cons_succ]
                      refine wpAnyG_take0 (i := 5) (oi := { dst := some 63, op := Go.Op.move (Go.Operand.tmp 7), type := 39, pos := "huff.go:181", after := #[], guard := none }) (v := ?vg1_5) rfl (by kernel_rfl) (by kernel_rfl) (by kernel_rfl) (by kernel_rfl) (fun _ _ _ h => h) (fun _ => hS16) (Or.inl ⟨by rfl, ?hg1_5⟩) ?_
                      case hg1_5 => intro w _; go_simp; (try with_reducible rfl)
                      try simp only [Act.put, List.setIfInBounds_toArray, List.set_cons_zero, List.set_cons_succ]
                      refine wpAnyG_take0 (i := 6) (oi := { dst := some 64, op := Go.Op.move (Go.Operand.tmp 12), type := 3, pos := "huff.go:181", after := #[], guard := none }) (v := ?vg1_6) rfl (by kernel_rfl) (by kernel_rfl) (by kernel_rfl) (by kernel_rfl) (fun _ _ _ h => h) (fun _ => hS16) (Or.inl ⟨by rfl, ?hg1_6⟩) ?_
                      case hg1_6 => intro w _; go_simp; (try with_reducible rfl)
                      try simp only [Act.put, List.setIfInBounds_toArray, List.set_cons_zero, List.set_cons_succ]
                      refine wpAnyG_take0 (i := 7) (oi := { dst := some 65, op := Go.Op.indexAddr 39 (Go.Operand.tmp 63) (Go.Operand.tmp 64), type := 0, pos := "huff.go:181", after := #[{ on := 5, ground := Go.Ground.data }, { on := 6, ground := Go.Ground.data }], guard := none }) (v := ?vg1_7) rfl (by kernel_rfl) (by kernel_rfl) (by kernel_rfl) (by kernel_rfl) (fun _ _ _ h => h) (fun _ => hS16) (Or.inl ⟨by rfl, ?hg1_7⟩) ?_
                      case hg1_7 => intro w _; go_simp; (try with_reducible rfl)
                      try simp only [Act.put, List.setIfInBounds_toArray, List.set_cons_zero, List.set_cons_succ]
                      refine wpAnyG_take (i := 8) (oi := { dst := some 66, op := Go.Op.load 44 (Go.Operand.tmp 65), type := 44, pos := "huff.go:181", after := #[{ on := 7, ground := Go.Ground.data }], guard := none }) (v := ?vg1_8) [8, 11, 12, 13, 18, 19, 20, 21] rfl (by kernel_rfl) (by kernel_rfl) (by kernel_rfl) (by kernel_rfl) (by kernel_rfl) (fun _ _ _ h => h) (fun _ => hS16) (Or.inl ⟨by rfl, ?hg1_8⟩) ?_
                      case hg1_8 => intro w hSw; (try dsimp only at hSw); go_simp; (try with_reducible rfl)
                      try simp only [Act.put, List.setIfInBounds_toArray, List.set_cons_zero, List.set_cons_succ]
                      refine wpAnyG_take0 (i := 9) (oi := { dst := some 67, op := Go.Op.move (Go.Operand.tmp 13), type := 3, pos := "huff.go:181", after := #[], guard := none }) (v := ?vg1_9) rfl (by kernel_rfl) (by kernel_rfl) (by kernel_rfl) (by kernel_rfl) (fun _ _ _ h => h) (fun _ => hS16) (Or.inl ⟨by rfl, ?hg1_9⟩) ?_
                      case hg1_9 => intro w _; go_simp; (try with_reducible rfl)
                      try simp only [Act.put, List.setIfInBounds_toArray, List.set_cons_zero, List.set_cons_succ]
                      refine wpAnyG_take0 (i := 10) (oi := { dst := some 68, op := Go.Op.convert 3 58 (Go.Operand.tmp 67), type := 58, pos := "huff.go:181", after := #[{ on := 9, ground := Go.Ground.data }], guard := none }) (v := ?vg1_10) rfl (by kernel_rfl) (by kernel_rfl) (by kernel_rfl) (by kernel_rfl) (fun _ _ _ h => h) (fun _ => hS16) (Or.inl ⟨by rfl, ?hg1_10⟩) ?_
                      case hg1_10 => intro w _; go_simp; (try with_reducible rfl)
                      try simp only [Act.put, List.setIfInBounds_toArray, List.set_cons_zero, List.set_cons_succ]
                      refine wpAnyG_take0 (i := 11) (oi := { dst := some 69, op := Go.Op.binOp Go.BinOp.shr 44 (Go.Operand.tmp 66) (Go.Operand.tmp 68) 58, type := 44, pos := "huff.go:181", after := #[{ on := 8, ground := Go.Ground.data }, { on := 10, ground := Go.Ground.data }], guard := none }) (v := ?vg1_11) rfl (by kernel_rfl) (by kernel_rfl) (by kernel_rfl) (by kernel_rfl) (fun _ _ _ h => h) (fun _ => hS16) (Or.inl ⟨by rfl, ?hg1_11⟩) ?_
                      case hg1_11 => intro w _; go_simp; (try with_reducible rfl)
                      try simp only [Act.put, List.setIfInBounds_toArray, List.set_cons_zero, List.set_cons_succ]
                      refine wpAnyG_take0 (i := 12) (oi := { dst := some 70, op := Go.Op.binOp Go.BinOp.and 44 (Go.Operand.tmp 69) (Go.Operand.const (Go.Value.int Go.IntKind.u16 1)) 44, type := 44, pos := "huff.go:181", after := #[{ on := 11, ground := Go.Ground.data }], guard := none }) (v := ?vg1_12) rfl (by kernel_rfl) (by kernel_rfl) (by kernel_rfl) (by kernel_rfl) (fun _ _ _ h => h) (fun _ => hS16) (Or.inl ⟨by rfl, ?hg1_12⟩) ?_
                      case hg1_12 => intro w _; go_simp; (try with_reducible rfl)
                      try simp only [Act.put, List.setIfInBounds_toArray, List.set_cons_zero, List.set_cons_succ]
                      refine wpAnyG_take0 (i := 13) (oi := { dst := some 71, op := Go.Op.convert 44 5 (Go.Operand.tmp 70), type := 5, pos := "huff.go:181", after := #[{ on := 12, ground := Go.Ground.data }], guard := none }) (v := ?vg1_13) rfl (by kernel_rfl) (by kernel_rfl) (by kernel_rfl) (by kernel_rfl) (fun _ _ _ h => h) (fun _ => hS16) (Or.inl ⟨by rfl, ?hg1_13⟩) ?_
                      case hg1_13 => intro w _; go_simp; (try with_reducible rfl)
                      try simp only [Act.put, List.setIfInBounds_toArray, List.set_cons_zero, List.set_cons_succ]
                      refine wpAnyG_take0 (i := 14) (oi := { dst := some 72, op := Go.Op.move (Go.Operand.tmp 10), type := 3, pos := "huff.go:181", after := #[], guard := none }) (v := ?vg1_14) rfl (by kernel_rfl) (by kernel_rfl) (by kernel_rfl) (by kernel_rfl) (fun _ _ _ h => h) (fun _ => hS16) (Or.inl ⟨by rfl, ?hg1_14⟩) ?_
                      case hg1_14 => intro w _; go_simp; (try with_reducible rfl)
                      try simp only [Act.put, List.setIfInBounds_toArray, List.set_cons_zero, List.set_cons_succ]
                      refine wpAnyG_take0 (i := 15) (oi := { dst := some 73, op := Go.Op.binOp Go.BinOp.rem 3 (Go.Operand.tmp 72) (Go.Operand.const (Go.Value.int Go.IntKind.i64 8)) 3, type := 3, pos := "huff.go:181", after := #[{ on := 14, ground := Go.Ground.data }], guard := none }) (v := ?vg1_15) rfl (by kernel_rfl) (by kernel_rfl) (by kernel_rfl) (by kernel_rfl) (fun _ _ _ h => h) (fun _ => hS16) (Or.inl ⟨by rfl, ?hg1_15⟩) ?_
                      case hg1_15 => intro w _; go_simp; (try with_reducible rfl)
                      try simp only [Act.put, List.setIfInBounds_toArray, List.set_cons_zero, List.set_cons_succ]
                      refine wpAnyG_take0 (i := 16) (oi := { dst := some 74, op := Go.Op.binOp Go.BinOp.sub 3 (Go.Operand.const (Go.Value.int Go.IntKind.i64 7)) (Go.Operand.tmp 73) 3, type := 3, pos := "huff.go:181", after := #[{ on := 15, ground := Go.Ground.data }], guard := none }) (v := ?vg1_16) rfl (by kernel_rfl) (by kernel_rfl) (by kernel_rfl) (by kernel_rfl) (fun _ _ _ h => h) (fun _ => hS16) (Or.inl ⟨by rfl, ?hg1_16⟩) ?_
                      case hg1_16 => intro w _; go_simp; (try with_reducible rfl)
                      try simp only [Act.put, List.setIfInBounds_toArray, List.set_cons_zero, List.set_cons_succ]
                      refine wpAnyG_take0 (i := 17) (oi := { dst := some 75, op := Go.Op.convert 3 58 (Go.Operand.tmp 74), type := 58, pos := "huff.go:181", after := #[{ on := 16, ground := Go.Ground.data }], guard := none }) (v := ?vg1_17) rfl (by kernel_rfl) (by kernel_rfl) (by kernel_rfl) (by kernel_rfl) (fun _ _ _ h => h) (fun _ => hS16) (Or.inl ⟨by rfl, ?hg1_17⟩) ?_
                      case hg1_17 => intro w _; go_simp; (try with_reducible rfl)
                      try simp only [Act.put, List.setIfInBounds_toArray, List.set_cons_zero, List.set_cons_succ]
                      refine wpAnyG_take0 (i := 18) (oi := { dst := some 76, op := Go.Op.binOp Go.BinOp.shl 5 (Go.Operand.tmp 71) (Go.Operand.tmp 75) 58, type := 5, pos := "huff.go:181", after := #[{ on := 13, ground := Go.Ground.data }, { on := 17, ground := Go.Ground.data }], guard := none }) (v := ?vg1_18) rfl (by kernel_rfl) (by kernel_rfl) (by kernel_rfl) (by kernel_rfl) (fun _ _ _ h => h) (fun _ => hS16) (Or.inl ⟨by rfl, ?hg1_18⟩) ?_
                      case hg1_18 => intro w _; go_simp; (try with_reducible rfl)
                      try simp only [Act.put, List.setIfInBounds_toArray, List.set_cons_zero, List.set_cons_succ]
                      refine wpAnyG_take0 (i := 19) (oi := { dst := some 77, op := Go.Op.binOp Go.BinOp.or 5 (Go.Operand.tmp 62) (Go.Operand.tmp 76) 5, type := 5, pos := "huff.go:181", after := #[{ on := 4, ground := Go.Ground.data }, { on := 18, ground := Go.Ground.data }], guard := none }) (v := ?vg1_19) rfl (by kernel_rfl) (by kernel_rfl) (by kernel_rfl) (by kernel_rfl) (fun _ _ _ h => h) (fun _ => hS16) (Or.inl ⟨by rfl, ?hg1_19⟩) ?_
                      case hg1_19 => intro w _; go_simp; (try with_reducible rfl)
                      try simp only [Act.put, List.setIfInBounds_toArray, List.set_cons_zero, List.set_cons_succ]
                      refine wpAnyG_take0 (i := 20) (oi := { dst := some 78, op := Go.Op.indexAddr 32 (Go.Operand.tmp 58) (Go.Operand.tmp 60), type := 0, pos := "huff.go:181", after := #[{ on := 0, ground := Go.Ground.data }, { on := 2, ground := Go.Ground.data }, { on := 0, ground := Go.Ground.phase }, { on := 1, ground := Go.Ground.phase }, { on := 2, ground := Go.Ground.phase }, { on := 3, ground := Go.Ground.phase }, { on := 4, ground := Go.Ground.phase }, { on := 5, ground := Go.Ground.phase }, { on := 6, ground := Go.Ground.phase }, { on := 7, ground := Go.Ground.phase }, { on := 8, ground := Go.Ground.phase }, { on := 9, ground := Go.Ground.phase }, { on := 10, ground := Go.Ground.phase }, { on := 11, ground := Go.Ground.phase }, { on := 12, ground := Go.Ground.phase }, { on := 13, ground := Go.Ground.phase }, { on := 14, ground := Go.Ground.phase }, { on := 15, ground := Go.Ground.phase }, { on := 16, ground := Go.Ground.phase }, { on := 17, ground := Go.Ground.phase }, { on := 18, ground := Go.Ground.phase }, { on := 19, ground := Go.Ground.phase }], guard := none }) (v := ?vg1_20) rfl (by kernel_rfl) (by kernel_rfl) (by kernel_rfl) (by kernel_rfl) (fun _ _ _ h => h) (fun _ => hS16) (Or.inl ⟨by rfl, ?hg1_20⟩) ?_
                      case hg1_20 => intro w _; go_simp; (try with_reducible rfl)
                      try simp only [Act.put, List.setIfInBounds_toArray, List.set_cons_zero, List.set_cons_succ]
                      refine wpAnyG_step (i := 21) (oi := { dst := none, op := Go.Op.store 5 (Go.Operand.tmp 78) (Go.Operand.tmp 77), type := 0, pos := "huff.go:181", after := #[{ on := 20, ground := Go.Ground.data }, { on := 19, ground := Go.Ground.data }, { on := 0, ground := Go.Ground.phase }, { on := 1, ground := Go.Ground.phase }, { on := 2, ground := Go.Ground.phase }, { on := 3, ground := Go.Ground.phase }, { on := 4, ground := Go.Ground.phase }, { on := 5, ground := Go.Ground.phase }, { on := 6, ground := Go.Ground.phase }, { on := 7, ground := Go.Ground.phase }, { on := 8, ground := Go.Ground.phase }, { on := 9, ground := Go.Ground.phase }, { on := 10, ground := Go.Ground.phase }, { on := 11, ground := Go.Ground.phase }, { on := 12, ground := Go.Ground.phase }, { on := 13, ground := Go.Ground.phase }, { on := 14, ground := Go.Ground.phase }, { on := 15, ground := Go.Ground.phase }, { on := 16, ground := Go.Ground.phase }, { on := 17, ground := Go.Ground.phase }, { on := 18, ground := Go.Ground.phase }, { on := 19, ground := Go.Ground.phase }], guard := none }) rfl (by kernel_rfl) (by rfl) (fun K hK => ?_)
                      go_simp
                      refine hK _ _ (fun h => absurd h (Bool.eq_false_iff.1 (by kernel_rfl))) (fun _ => ?_)
                      clear hK
                      try simp only [Act.put, List.setIfInBounds_toArray, List.set_cons_zero, List.set_cons_succ]
                      refine wpAnyG_done (by kernel_rfl) ?_ _
                      go_wp2_with fail
                      refine ⟨⟨j + 1, nq + 1, _, _, by rw [← Hi.out]; congr 1; omega, by omega, by have := Hnq.out; omega, by simp, by rw [HpN.out], ?_⟩, by simp [intOf]⟩
                      rw [show (128 : Int) = 2 ^ (7 - r) by rw [hr0]; rfl, Hby.out]
                      exact HN
                    · obtain ⟨hpl, hO⟩ := hJ.out.old (by omega)
                      obtain ⟨gb, rfl, hgb1, hgb2, m1, m2⟩ := hO.cell
                      obtain ⟨gc, rfl, hgc1, m3⟩ := hO.code h2
                      have HN := Lib.hid (hO.drew.store bt)
                      rw [hnl, hq] at hpl m1 m2 HN
                      rw [hr] at HN
                      have hrn : ((r : Int) == 0) = false := by simpa using (by omega : (r : Int) ≠ 0)
                      rw [Hcv.out] at m3
                      rw [hpl]
                      have Hby := Lib.hid (enc_byte (cv := cv) (i := i) hb2 hbn hcv hr8 hlow hlt hat)
                      generalize hsm : byteAt Bj q + (if bt then 2 ^ (7 - r) else 0) = sm at *
                      generalize hba : byteAt Bj q = ba at *
                      have HSS : Hid (∀ W : World, Keep [] wr W → W.cell? ⟨gb, q, none⟩ = some (.int .u8 (ba : Nat)) ∧ W.cell? ⟨gc, s, none⟩ = some (.int .u16 (cv : Nat))) := Lib.hid (fun W k => ⟨(k.cell (p := ⟨gb, q, none⟩) hgb1 (by simp)).trans m1, (k.cell (p := ⟨gc, s, none⟩) hgc1 (by simp)).trans m3⟩)
                      have hS16 := HSS.out _ ((Keep.refl [] wr).drew)
                      have Hnq := Lib.hid hnq
                      have Hi := Lib.hid hi
                      have HpN : Hid ((pack (B ++ (bitsK cv L).take (j + 1))).length = q + 1) := Lib.hid (by rw [← htj, pack_len, List.length_append, hnl, List.length_singleton]; omega)
                      rw [htj] at HN
                      clear hJ hO m1 m3 hpl htj hsn hlow hlt hnq hnl hq hr hi hi2
                      go_wp2_with fail
                      refine wp_region_G (fun W => W.cell? ⟨gb, q, none⟩ = some (.int .u8 (ba : Nat)) ∧ W.cell? ⟨gc, s, none⟩ = some (.int .u16 (cv : Nat))) [21] #[false, false, false, false, false, false, false, false, false, false, false, false, false, false, false, false, false, false, false, false, false, false] 22 (by kernel_rfl) (by kernel_rfl) (by kernel_rfl) ?_
                      refine wpAnyG_take0 (i := 0) (oi := { dst := some 58, op := Go.Op.move (Go.Operand.tmp 9), type := 32, pos := "huff.go:181", after := #[], guard := none }) (v := ?vg2_0) rfl (by kernel_rfl) (by kernel_rfl) (by kernel_rfl) (by kernel_rfl) (fun _ _ _ h => h) (fun _ => hS16) (Or.inl ⟨by rfl, ?hg2_0⟩) ?_
                      case hg2_0 => intro w _; go_simp; (try with_reducible rfl)
                      try simp only [Act.put, List.setIfInBounds_toArray, List.set_cons_zero, List.set_cons_succ]
                      refine wpAnyG_take0 (i := 1) (oi := { dst := some 59, op := Go.Op.move (Go.Operand.tmp 10), type := 3, pos := "huff.go:181", after := #[], guard := none }) (v := ?vg2_1) rfl (by kernel_rfl) (by kernel_rfl) (by kernel_rfl) (by kernel_rfl) (fun _ _ _ h => h) (fun _ => hS16) (Or.inl ⟨by rfl, ?hg2_1⟩) ?_
                      case hg2_1 => intro w _; go_simp; (try with_reducible rfl)
                      try simp only [Act.put, List.setIfInBounds_toArray, List.set_cons_zero, List.set_cons_succ]
                      refine wpAnyG_take0 (i := 2) (oi := { dst := some 60, op := Go.Op.binOp Go.BinOp.quo 3 (Go.Operand.tmp 59) (Go.Operand.const (Go.Value.int Go.IntKind.i64 8)) 3, type := 3, pos := "huff.go:181", after := #[{ on := 1, ground := Go.Ground.data }], guard := none }) (v := ?vg2_2) rfl (by kernel_rfl) (by kernel_rfl) (by kernel_rfl) (by kernel_rfl) (fun _ _ _ h => h) (fun _ => hS16) (Or.inl ⟨by rfl, ?hg2_2⟩) ?_
                      case hg2_2 => intro w _; go_simp; (try with_reducible rfl)
                      try simp only [Act.put, List.setIfInBounds_toArray, List.set_cons_zero, List.set_cons_succ]
                      refine wpAnyG_take0 (i := 3) (oi := { dst := some 61, op := Go.Op.indexAddr 32 (Go.Operand.tmp 58) (Go.Operand.tmp 60), type := 0, pos := "huff.go:181", after := #[{ on := 0, ground := Go.Ground.data }, { on := 2, ground := Go.Ground.data }], guard := none }) (v := ?vg2_3) rfl (by kernel_rfl) (by kernel_rfl) (by kernel_rfl) (by kernel_rfl) (fun _ _ _ h => h) (fun _ => hS16) (Or.inl ⟨by rfl, ?hg2_3⟩) ?_
                      case hg2_3 => intro w _; go_simp; (try with_reducible rfl)
                      try simp only [Act.put, List.setIfInBounds_toArray, List.set_cons_zero, List.set_cons_succ]
                      refine wpAnyG_take (i := 4) (oi := { dst := some 62, op := Go.Op.load 5 (Go.Operand.tmp 61), type := 5, pos := "huff.go:181", after := #[{ on := 3, ground := Go.Ground.data }], guard := none }) (v := ?vg2_4) [4, 19, 20, 21] rfl (by kernel_rfl) (by kernel_rfl) (by kernel_rfl) (by kernel_rfl) (by kernel_rfl) (fun _ _ _ h => h) (fun _ => hS16) (Or.inl ⟨by rfl, ?hg2_4⟩) ?_
                      case hg2_4 => intro w hSw; (try dsimp only at hSw); go_simp; (try with_reducible rfl)
                      try simp only [Act.put, List.setIfInBounds_toArray, List.set_cons_zero, List.set_cons_succ]
                      refine wpAnyG_take0 (i := 5) (oi := { dst := some 63, op := Go.Op.move (Go.Operand.tmp 7), type := 39, pos := "huff.go:181", after := #[], guard := none }) (v := ?vg2_5) rfl (by kernel_rfl) (by kernel_rfl) (by kernel_rfl) (by kernel_rfl) (fun _ _ _ h => h) (fun _ => hS16) (Or.inl ⟨by rfl, ?hg2_5⟩) ?_
                      case hg2_5 => intro w _; go_simp; (try with_reducible rfl)
                      try simp only [Act.put, List.setIfInBounds_toArray, List.set_cons_zero, List.set_cons_succ]
                      refine wpAnyG_take0 (i := 6) (oi := { dst := some 64, op := Go.Op.move (Go.Operand.tmp 12), type := 3, pos := "huff.go:181", after := #[], guard := none }) (v := ?vg2_6) rfl (by kernel_rfl) (by kernel_rfl) (by kernel_rfl) (by kernel_rfl) (fun _ _ _ h => h) (fun _ => hS16) (Or.inl ⟨by rfl, ?hg2_6⟩) ?_
                      case hg2_6 => intro w _; go_simp; (try with_reducible rfl)
                      try simp only [Act.put, List.setIfInBounds_toArray, List.set_cons_zero, List.set_cons_succ]
                      refine wpAnyG_take0 (i := 7) (oi := { dst := some 65, op := Go.Op.indexAddr 39 (Go.Operand.tmp 63) (Go.Operand.tmp 64), type := 0, pos := "huff.go:181", after := #[{ on := 5, ground := Go.Ground.data }, { on := 6, ground := Go.Ground.data }], guard := none }) (v := ?vg2_7) rfl (by kernel_rfl) (by kernel_rfl) (by kernel_rfl) (by kernel_rfl) (fun _ _ _ h => h) (fun _ => hS16) (Or.inl ⟨by rfl, ?hg2_7⟩) ?_
                      case hg2_7 => intro w _; go_simp; (try with_reducible rfl)
                      try simp only [Act.put, List.setIfInBounds_toArray, List.set_cons_zero, List.set_cons_succ]
                      refine wpAnyG_take (i := 8) (oi := { dst := some 66, op := Go.Op.load 44 (Go.Operand.tmp 65), type := 44, pos := "huff.go:181", after := #[{ on := 7, ground := Go.Ground.data }], guard := none }) (v := ?vg2_8) [8, 11, 12, 13, 18, 19, 20, 21] rfl (by kernel_rfl) (by kernel_rfl) (by kernel_rfl) (by kernel_rfl) (by kernel_rfl) (fun _ _ _ h => h) (fun _ => hS16) (Or.inl ⟨by rfl, ?hg2_8⟩) ?_
                      case hg2_8 => intro w hSw; (try dsimp only at hSw); go_simp; (try with_reducible rfl)
                      try simp only [Act.put, List.setIfInBounds_toArray, List.set_cons_zero, List.set_cons_succ]
                      refine wpAnyG_take0 (i := 9) (oi := { dst := some 67, op := Go.Op.move (Go.Operand.tmp 13), type := 3, pos := "huff.go:181", after := #[], guard := none }) (v := ?vg2_9) rfl (by kernel_rfl) (by kernel_rfl) (by kernel_rfl) (by kernel_rfl) (fun _ _ _ h => h) (fun _ => hS16) (Or.inl ⟨by rfl, ?hg2_9⟩) ?_
                      case hg2_9 => intro w _; go_simp; (try with_reducible rfl)
                      try simp only [Act.put, List.setIfInBounds_toArray, List.set_cons_zero, List.set_cons_succ]
                      refine wpAnyG_take0 (i := 10) (oi := { dst := some 68, op := Go.Op.convert 3 58 (Go.Operand.tmp 67), type := 58, pos := "huff.go:181", after := #[{ on := 9, ground := Go.Ground.data }], guard := none }) (v := ?vg2_10) rfl (by kernel_rfl) (by kernel_rfl) (by kernel_rfl) (by kernel_rfl) (fun _ _ _ h => h) (fun _ => hS16) (Or.inl ⟨by rfl, ?hg2_10⟩) ?_
                      case hg2_10 => intro w _; go_simp; (try with_reducible rfl)
                      try simp only [Act.put, List.setIfInBounds_toArray, List.set_cons_zero, List.set_cons_succ]
                      refine wpAnyG_take0 (i := 11) (oi := { dst := some 69, op := Go.Op.binOp Go.BinOp.shr 44 (Go.Operand.tmp 66) (Go.Operand.tmp 68) 58, type := 44, pos := "huff.go:181", after := #[{ on := 8, ground := Go.Ground.data }, { on := 10, ground := Go.Ground.data }], guard := none }) (v := ?vg2_11) rfl (by kernel_rfl) (by kernel_rfl) (by kernel_rfl) (by kernel_rfl) (fun _ _ _ h => h) (fun _ => hS16) (Or.inl ⟨by rfl, ?hg2_11⟩) ?_
                      case hg2_11 => intro w _; go_simp; (try with_reducible rfl)
                      try simp only [Act.put, List.setIfInBounds_toArray, List.set_cons_zero, List.set_cons_succ]
                      refine wpAnyG_take0 (i := 12) (oi := { dst := some 70, op := Go.Op.binOp Go.BinOp.and 44 (Go.Operand.tmp 69) (Go.Operand.const (Go.Value.int Go.IntKind.u16 1)) 44, type := 44, pos := "huff.go:181", after := #[{ on := 11, ground := Go.Ground.data }], guard := none }) (v := ?vg2_12) rfl (by kernel_rfl) (by kernel_rfl) (by kernel_rfl) (by kernel_rfl) (fun _ _ _ h => h) (fun _ => hS16) (Or.inl ⟨by rfl, ?hg2_12⟩) ?_
                      case hg2_12 => intro w _; go_simp; (try with_reducible rfl)
                      try simp only [Act.put, List.setIfInBounds_toArray, List.set_cons_zero, List.set_cons_succ]
                      refine wpAnyG_take0 (i := 13) (oi := { dst := some 71, op := Go.Op.convert 44 5 (Go.Operand.tmp 70), type := 5, pos := "huff.go:181", after := #[{ on := 12, ground := Go.Ground.data }], guard := none }) (v := ?vg2_13) rfl (by kernel_rfl) (by kernel_rfl) (by kernel_rfl) (by kernel_rfl) (fun _ _ _ h => h) (fun _ => hS16) (Or.inl ⟨by rfl, ?hg2_13⟩) ?_
                      case hg2_13 => intro w _; go_simp; (try with_reducible rfl)
                      try simp only [Act.put, List.setIfInBounds_toArray, List.set_cons_zero, List.set_cons_succ]
                      refine wpAnyG_take0 (i := 14) (oi := { dst := some 72, op := Go.Op.move (Go.Operand.tmp 10), type := 3, pos := "huff.go:181", after := #[], guard := none }) (v := ?vg2_14) rfl (by kernel_rfl) (by kernel_rfl) (by kernel_rfl) (by kernel_rfl) (fun _ _ _ h => h) (fun _ => hS16) (Or.inl ⟨by rfl, ?hg2_14⟩) ?_
                      case hg2_14 => intro w _; go_simp; (try with_reducible rfl)
                      try simp only [Act.put, List.setIfInBounds_toArray, List.set_cons_zero, List.set_cons_succ]
                      refine wpAnyG_take0 (i := 15) (oi := { dst := some 73, op := Go.Op.binOp Go.BinOp.rem 3 (Go.Operand.tmp 72) (Go.Operand.const (Go.Value.int Go.IntKind.i64 8)) 3, type := 3, pos := "huff.go:181", after := #[{ on := 14, ground := Go.Ground.data }], guard := none }) (v := ?vg2_15) rfl (by kernel_rfl) (by kernel_rfl) (by kernel_rfl) (by kernel_rfl) (fun _ _ _ h => h) (fun _ => hS16) (Or.inl ⟨by rfl, ?hg2_15⟩) ?_
                      case hg2_15 => intro w _; go_simp; (try with_reducible rfl)
                      try simp only [Act.put, List.setIfInBounds_toArray, List.set_cons_zero, List.set_cons_succ]
                      refine wpAnyG_take0 (i := 16) (oi := { dst := some 74, op := Go.Op.binOp Go.BinOp.sub 3 (Go.Operand.const (Go.Value.int Go.IntKind.i64 7)) (Go.Operand.tmp 73) 3, type := 3, pos := "huff.go:181", after := #[{ on := 15, ground := Go.Ground.data }], guard := none }) (v := ?vg2_16) rfl (by kernel_rfl) (by kernel_rfl) (by kernel_rfl) (by kernel_rfl) (fun _ _ _ h => h) (fun _ => hS16) (Or.inl ⟨by rfl, ?hg2_16⟩) ?_
                      case hg2_16 => intro w _; go_simp; (try with_reducible rfl)
                      try simp only [Act.put, List.setIfInBounds_toArray, List.set_cons_zero, List.set_cons_succ]
                      refine wpAnyG_take0 (i := 17) (oi := { dst := some 75, op := Go.Op.convert 3 58 (Go.Operand.tmp 74), type := 58, pos := "huff.go:181", after := #[{ on := 16, ground := Go.Ground.data }], guard := none }) (v := ?vg2_17) rfl (by kernel_rfl) (by kernel_rfl) (by kernel_rfl) (by kernel_rfl) (fun _ _ _ h => h) (fun _ => hS16) (Or.inl ⟨by rfl, ?hg2_17⟩) ?_
                      case hg2_17 => intro w _; go_simp; (try with_reducible rfl)
                      try simp only [Act.put, List.setIfInBounds_toArray, List.set_cons_zero, List.set_cons_succ]
                      refine wpAnyG_take0 (i := 18) (oi := { dst := some 76, op := Go.Op.binOp Go.BinOp.shl 5 (Go.Operand.tmp 71) (Go.Operand.tmp 75) 58, type := 5, pos := "huff.go:181", after := #[{ on := 13, ground := Go.Ground.data }, { on := 17, ground := Go.Ground.data }], guard := none }) (v := ?vg2_18) rfl (by kernel_rfl) (by kernel_rfl) (by kernel_rfl) (by kernel_rfl) (fun _ _ _ h => h) (fun _ => hS16) (Or.inl ⟨by rfl, ?hg2_18⟩) ?_
                      case hg2_18 => intro w _; go_simp; (try with_reducible rfl)
                      try simp only [Act.put, List.setIfInBounds_toArray, List.set_cons_zero, List.set_cons_succ]
                      refine wpAnyG_take0 (i := 19) (oi := { dst := some 77, op := Go.Op.binOp Go.BinOp.or 5 (Go.Operand.tmp 62) (Go.Operand.tmp 76) 5, type := 5, pos := "huff.go:181", after := #[{ on := 4, ground := Go.Ground.data }, { on := 18, ground := Go.Ground.data }], guard := none }) (v := ?vg2_19) rfl (by kernel_rfl) (by kernel_rfl) (by kernel_rfl) (by kernel_rfl) (fun _ _ _ h => h) (fun _ => hS16) (Or.inl ⟨by rfl, ?hg2_19⟩) ?_
                      case hg2_19 => intro w _; go_simp; (try with_reducible rfl)
                      try simp only [Act.put, List.setIfInBounds_toArray, List.set_cons_zero, List.set_cons_succ]
                      refine wpAnyG_take0 (i := 20) (oi := { dst := some 78, op := Go.Op.indexAddr 32 (Go.Operand.tmp 58) (Go.Operand.tmp 60), type := 0, pos := "huff.go:181", after := #[{ on := 0, ground := Go.Ground.data }, { on := 2, ground := Go.Ground.data }, { on := 0, ground := Go.Ground.phase }, { on := 1, ground := Go.Ground.phase }, { on := 2, ground := Go.Ground.phase }, { on := 3, ground := Go.Ground.phase }, { on := 4, ground := Go.Ground.phase }, { on := 5, ground := Go.Ground.phase }, { on := 6, ground := Go.Ground.phase }, { on := 7, ground := Go.Ground.phase }, { on := 8, ground := Go.Ground.phase }, { on := 9, ground := Go.Ground.phase }, { on := 10, ground := Go.Ground.phase }, { on := 11, ground := Go.Ground.phase }, { on := 12, ground := Go.Ground.phase }, { on := 13, ground := Go.Ground.phase }, { on := 14, ground := Go.Ground.phase }, { on := 15, ground := Go.Ground.phase }, { on := 16, ground := Go.Ground.phase }, { on := 17, ground := Go.Ground.phase }, { on := 18, ground := Go.Ground.phase }, { on := 19, ground := Go.Ground.phase }], guard := none }) (v := ?vg2_20) rfl (by kernel_rfl) (by kernel_rfl) (by kernel_rfl) (by kernel_rfl) (fun _ _ _ h => h) (fun _ => hS16) (Or.inl ⟨by rfl, ?hg2_20⟩) ?_
                      case hg2_20 => intro w _; go_simp; (try with_reducible rfl)
                      try simp only [Act.put, List.setIfInBounds_toArray, List.set_cons_zero, List.set_cons_succ]
                      refine wpAnyG_step (i := 21) (oi := { dst := none, op := Go.Op.store 5 (Go.Operand.tmp 78) (Go.Operand.tmp 77), type := 0, pos := "huff.go:181", after := #[{ on := 20, ground := Go.Ground.data }, { on := 19, ground := Go.Ground.data }, { on := 0, ground := Go.Ground.phase }, { on := 1, ground := Go.Ground.phase }, { on := 2, ground := Go.Ground.phase }, { on := 3, ground := Go.Ground.phase }, { on := 4, ground := Go.Ground.phase }, { on := 5, ground := Go.Ground.phase }, { on := 6, ground := Go.Ground.phase }, { on := 7, ground := Go.Ground.phase }, { on := 8, ground := Go.Ground.phase }, { on := 9, ground := Go.Ground.phase }, { on := 10, ground := Go.Ground.phase }, { on := 11, ground := Go.Ground.phase }, { on := 12, ground := Go.Ground.phase }, { on := 13, ground := Go.Ground.phase }, { on := 14, ground := Go.Ground.phase }, { on := 15, ground := Go.Ground.phase }, { on := 16, ground := Go.Ground.phase }, { on := 17, ground := Go.Ground.phase }, { on := 18, ground := Go.Ground.phase }, { on := 19, ground := Go.Ground.phase }], guard := none }) rfl (by kernel_rfl) (by rfl) (fun K hK => ?_)
                      go_simp
                      refine hK _ _ (fun h => absurd h (Bool.eq_false_iff.1 (by kernel_rfl))) (fun _ => ?_)
                      clear hK
                      try simp only [Act.put, List.setIfInBounds_toArray, List.set_cons_zero, List.set_cons_succ]
                      refine wpAnyG_done (by kernel_rfl) ?_ _
                      go_wp2_with fail
                      refine ⟨⟨j + 1, nq + 1, _, _, by rw [← Hi.out]; congr 1; omega, by omega, by have := Hnq.out; omega, by simp, by rw [HpN.out], ?_⟩, by simp [intOf]⟩
                      rw [Hby.out]
                      exact HN
                · have hjL : j = L := by omega
                  have htl : (bitsK cv L).take j = bitsK cv L := by rw [hjL]; exact List.take_of_length_le (by rw [bitsK_len]; omega)
                  have hbl2 : (B ++ bitsK cv L).length = nq := by rw [List.length_append, bitsK_len]; omega
                  rw [htl] at hJ
                  rw [htl]
                  have hneg : (L : Int) - 1 - j = -1 := by omega
                  have HN := Lib.hid (⟨hJ.out, HSt.out⟩ : EI w ls AC cC (B ++ bitsK cv L) A9' c9' wr ∧ _)
                  have Hbl := Lib.hid hbl2
                  rw [hneg]
                  clear hJ htl hbl2 hneg hnq hjL
                  go_wp2_with fail
                  go_roundw
                  case rel => exact ⟨k + 1, A9', c9', by simp, by omega, by rw [Hnx.out, Hbl.out], by rw [Hnx.out], by rw [Hnx.out]; exact HN⟩
                  case measure => simp [intOf]; omega
          · have hb := Lib.hid (Hbad.out (fun h => by have := h.2.1; omega))
            have h2i : (ls.length : Int) ≤ s := by omega
            clear htk hB
            go_wp2
            go_ret3
            exact .inr ⟨hb.out, rfl, Hkp.out⟩
    · obtain rfl : k = ss.length := by omega
      rw [List.take_length] at hI
      have HI := Lib.hid hI.out
      have hall : ∀ s ∈ ss, okS ls s := fun s hs => by
        obtain ⟨j, hj, rfl⟩ := List.mem_iff_getElem.1 hs
        exact hI.out.2 j hj hj
      have Hall := Lib.hid hall
      rw [List.take_length]
      clear hI hall
      generalize hB : (bitsOf ls ss).length = nb at *
      go_wp2
      go_ret3
      exact .inl ⟨Hall.out, A9, c9, by rw [hB]; rfl, HI.out.1.own, HI.out.1.kp⟩
end Go.Proofs.Ytknjjodkpknglaa
