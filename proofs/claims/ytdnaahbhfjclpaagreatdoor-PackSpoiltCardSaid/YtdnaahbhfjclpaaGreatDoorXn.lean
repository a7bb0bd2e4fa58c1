/- A chunk's blocks, walked. -/
import Derived.Test.YtdnaahbhfjclpaaGreatDoorXk
import Derived.Test.YtdnaahbhfjclpaaGreatDoorXi
import Derived.Test.YtdnaahbhfjclpaaGreatDoorWz
import Derived.Test.YtdnaahbhfjclpaaGreatDoorF6
import Derived.Test.YtdnaahbhfjclpaaGreatDoorXj
set_option linter.unusedVariables false
set_option linter.unusedSimpArgs false
namespace Go.Pck
theorem numP_bd {l : List Nat} (h : ∀ x ∈ l, x < 256) (n : Nat) (hn : l.length ≤ 2) (o : Nat) : numP o l < 65536 := by
  have h1 := numP_lt o h
  have h2 : 2 ^ (8 * l.length) ≤ 2 ^ 16 := Nat.pow_le_pow_right (by omega) (by omega)
  omega
end Go.Pck
namespace Go.Proofs.YtdnaahbhfjclpaaGreatDoor
open Go.RowKit Go.Sal Go.Pck Go.Huf Go.Cod
end Go.Proofs.YtdnaahbhfjclpaaGreatDoor

namespace Go.Pck
def allZ (l : List Nat) : Prop := ∀ x ∈ l, x = 0
def sameZ (r l : List Nat) : Prop := allZ r ↔ allZ l
end Go.Pck
namespace Go.Proofs.YtdnaahbhfjclpaaGreatDoor
open Go.RowKit Go.Sal Go.Pck Go.Huf Go.Cod
def TrL (w : World) (l : List Nat) (e : Ending) (w' : World) : Prop := ∃ A' m c', e = .returned (.slice A' m c') ∧ Keep [] w w' ∧ (m = 0 ↔ allZ l)
set_option maxRecDepth 20000 in
set_option maxHeartbeats 1000000 in
theorem trimr_any (l : List Nat) (A : Option Addr) (c : Nat) (w : World) (hs : BySrc w A l) (hc : l.length ≤ c) (hl : l.length ≤ 1000000) :
    Calls Tryz.prog 48 #[.slice A l.length c, .int .u8 0] w fun e w' => ∃ n, e = .returned (.slice A n c) ∧ w' = w ∧ n ≤ l.length ∧ (allZ (l.take n) ↔ allZ l) := by
  have Hs := Lib.hid hs
  have Hc := Lib.hid hc
  have H0 : Hid (allZ (l.drop l.length)) := Lib.hid (fun x hx => by simp at hx)
  clear hs hc
  go_enter Tryz.func48, Tryz.ntmps48
  go_wp2
  go_loop [0] (fun v0 => ∃ n : Nat, v0 = .slice A n c ∧ n ≤ l.length ∧ Hid (allZ (l.drop n))) (fun v0 => sLen v0)
  case atStart => exact ⟨l.length, rfl, Nat.le_refl _, H0⟩
  case round =>
    obtain ⟨n, rfl, hn, hI⟩ := hrel
    clear H0
    rcases Nat.eq_zero_or_pos n with h0 | h0
    · subst h0
      have HF : Hid (allZ (l.take 0) ↔ allZ l) := Lib.hid ⟨fun _ => by simpa using hI.out, fun _ x hx => by simp at hx⟩
      clear hI
      go_wp2
      go_ret
      exact ⟨0, rfl, rfl, hn, HF.out⟩
    · obtain ⟨m, rfl⟩ : ∃ m, n = m + 1 := ⟨n - 1, by omega⟩
      have hpos : (0 : Int) < ((m + 1 : Nat) : Int) := by omega
      have hwm : IntKind.i64.wrap (((m + 1 : Nat) : Int) - 1) = (m : Int) := by rw [IntKind.wrap_i64]; omega
      have hml : (m : Int) < ((m + 1 : Nat) : Int) := by omega
      obtain ⟨g, o, rfl, hg, d0⟩ := Hs.out.1 m (by omega)
      have hx := Hs.out.2 _ (List.getElem_mem (show m < l.length by omega))
      have hst : ∀ W, (Instr.slice 22 (.slice (some ⟨g, o, none⟩) (m + 1) c) none (some (.int .i64 (m : Int))) none).run Tryz.prog W = .ok (.slice (some ⟨g, o, none⟩) m c) W := fun W =>
        slice_head (P := Tryz.prog) 22 5 Tryz.underlying22 (some ⟨g, o, none⟩) (m + 1) c m (by have := Hc.out; omega) W 1 (by kernel_rfl)
      have hdr : l.drop m = l[m] :: l.drop (m + 1) := List.drop_eq_getElem_cons (by omega)
      have htk : l.take (m + 1) = l.take m ++ [l[m]] := List.take_succ_eq_append_getElem (by omega)
      by_cases hz : l[m] = 0
      · as_aux_lemma =>
          rw [hz] at d0
          have HN : Hid (allZ (l.drop m)) := Lib.hid (fun x hx => by
            rw [hdr] at hx
            rcases List.mem_cons.1 hx with rfl | hx
            · exact hz
            · exact hI.out x hx)
          clear hI hdr htk hx hz
          generalize hq : m + 1 = q at *
          have Hq := Lib.hid hq
          clear hq
          go_wp2
          exact ⟨⟨m, rfl, by have := Hq.out; omega, HN⟩, by have := Hq.out; simp [sLen]; omega⟩
      · as_aux_lemma =>
          have HF : Hid (allZ (l.take (m + 1)) ↔ allZ l) := Lib.hid ⟨fun h => (hz (h _ (by rw [htk]; exact List.mem_append.2 (.inr (List.mem_singleton.2 rfl))))).elim, fun h x hx => h x (List.mem_of_mem_take hx)⟩
          have hne : ¬ ((l[m] : Nat) : Int) = 0 := by omega
          clear hI hdr htk
          generalize l[m] = y at *
          generalize hq : m + 1 = q at *
          have Hq := Lib.hid hq
          clear hq
          go_wp2
          go_ret
          exact ⟨q, rfl, rfl, hn, HF.out⟩
set_option maxRecDepth 20000 in
set_option maxHeartbeats 1000000 in
theorem triml_any (l : List Nat) (A : Option Addr) (c : Nat) (w : World) (hs : BySrc w A l) (hc : l.length ≤ c) (hl : l.length ≤ 1000000) :
    Calls Tryz.prog 47 #[.slice A l.length c, .int .u8 0] w fun e w' => TrL w l e w' ∧ w' = w := by
  have H0 : Hid (BySrc w A l ∧ l.length ≤ c ∧ l.length ≤ 1000000 ∧ sameZ l l) := Lib.hid ⟨hs, hc, hl, Iff.rfl⟩
  clear hs hc hl
  go_enter Tryz.func47, Tryz.ntmps47
  go_wp2
  go_loop [0] (fun v0 => ∃ (r : List Nat) (A' : Option Addr) (c' : Nat), v0 = .slice A' r.length c' ∧ Hid (BySrc w A' r ∧ r.length ≤ c' ∧ r.length ≤ 1000000 ∧ sameZ r l)) (fun v0 => sLen v0)
  case atStart => exact ⟨l, A, c, rfl, H0⟩
  case round =>
    obtain ⟨r, A', c', rfl, hI⟩ := hrel
    clear H0
    cases r with
    | nil =>
      have HF : Hid (allZ l) := Lib.hid (hI.out.2.2.2.1 (fun x hx => by simp at hx))
      clear hI
      simp only [List.length_nil]
      go_wp2
      go_ret
      exact ⟨⟨none, 0, 0, rfl, Keep.refl _ _, by simpa using HF.out⟩, rfl⟩
    | cons x r =>
      obtain ⟨g, o, rfl, hg, d0⟩ := hI.out.1.1 0 (by simp)
      have hx := hI.out.1.2 x (by simp)
      have d0 : w.cell? ⟨g, o, none⟩ = some (.int .u8 (x : Nat)) := by simpa using d0
      have hpos : (0 : Int) < (((x :: r).length : Nat) : Int) := by simp
      have hll := hI.out.2.2.1
      obtain ⟨A2, hA2⟩ : ∃ A2, (if c' = 1 then some (⟨g, o, none⟩ : Addr) else (some (⟨g, o, none⟩ : Addr)).map (·.add (1 * 1))) = A2 := ⟨_, rfl⟩
      have hst : ∀ W, (Instr.slice 22 (.slice (some ⟨g, o, none⟩) (x :: r).length c') (some (.int .i64 1)) none none).run Tryz.prog W = .ok (.slice A2 r.length (c' - 1)) W := fun W => by
        have := slice_tail (P := Tryz.prog) 22 5 Tryz.underlying22 (some ⟨g, o, none⟩) (x :: r).length c' 1 (by simp) W 1 (by kernel_rfl)
        rw [hA2] at this
        exact this
      by_cases hz : x = 0
      · as_aux_lemma =>
          subst hz
          have HN : Hid (BySrc w A2 r ∧ r.length ≤ c' - 1 ∧ r.length ≤ 1000000 ∧ sameZ r l) := Lib.hid (by
            obtain ⟨q1, q2, q3, q4⟩ := hI.out
            have hd := bsrc_drop q1 1 c' (by simp) q2
            rw [hA2] at hd
            refine ⟨hd, by simp at q2; omega, by simp at q3; omega, ⟨fun h => q4.1 (fun y hy => ?_), fun h y hy => q4.2 h y (by simp [hy])⟩⟩
            rcases List.mem_cons.1 hy with rfl | hy
            · rfl
            · exact h y hy)
          clear hI hA2
          generalize hq : (0 :: r).length = q at *
          have Hq := Lib.hid hq
          clear hq
          go_wp2
          exact ⟨⟨r, A2, c' - 1, rfl, HN⟩, by have := Hq.out; simp [sLen]; simp at this; omega⟩
      · as_aux_lemma =>
          have HF : Hid (¬ allZ l) := Lib.hid (fun h => hz (hI.out.2.2.2.2 h x (by simp)))
          have hne : ¬ ((x : Nat) : Int) = 0 := by omega
          have hq0 : ¬ (x :: r).length = 0 := by simp
          clear hI hA2
          generalize (x :: r).length = q at *
          go_wp2
          go_ret
          exact ⟨⟨_, q, c', rfl, Keep.refl _ _, ⟨fun h => (hq0 h).elim, fun h => (HF.out h).elim⟩⟩, rfl⟩
set_option maxRecDepth 20000 in
set_option maxHeartbeats 1000000 in
theorem trim_any (l : List Nat) (A : Option Addr) (c : Nat) (w : World) (hs : BySrc w A l) (hc : l.length ≤ c) (hl : l.length ≤ 1000000) :
    Calls Tryz.prog 29 #[.slice A l.length c, .string ⟨#[0]⟩] w fun e w' => TrL w l e w' := by
  rcases Nat.eq_zero_or_pos l.length with h0 | h0
  · have hz : l = [] := List.eq_nil_of_length_eq_zero h0
    subst hz
    simp only [List.length_nil]
    clear hs hc hl h0
    go_enter Tryz.func29, Tryz.ntmps29
    go_wp2
    go_ret
    exact ⟨none, 0, 0, rfl, Keep.refl _ _, by simp [allZ]⟩
  have HR : Hid (∀ W, Keep [] w W → Calls Tryz.prog 48 #[.slice A l.length c, .int .u8 0] W fun e w' => ∃ n, e = .returned (.slice A n c) ∧ w' = W ∧ n ≤ l.length ∧ (allZ (l.take n) ↔ allZ l)) := Lib.hid (fun W k => trimr_any l A c W (hs.keep k (fun a _ => by simp)) hc hl)
  have HL : Hid (∀ n, n ≤ l.length → ∀ W, Keep [] w W → Calls Tryz.prog 47 #[.slice A n c, .int .u8 0] W fun e w' => TrL W (l.take n) e w' ∧ w' = W) := Lib.hid (fun n hn W k => by
    have e : (l.take n).length = n := by rw [List.length_take]; omega
    have := triml_any (l.take n) A c W (bsrc_head (hs.keep k (fun a _ => by simp)) n) (by omega) (by omega)
    rw [e] at this
    exact this)
  have hne : ¬ l.length = 0 := by omega
  have hne2 : ¬ (l.length : Int) = 0 := by omega
  clear hs hc hl h0
  generalize l.length = q at *
  go_enter Tryz.func29, Tryz.ntmps29
  go_upto_region 6 with (fail)
  refine wp_region_G (fun W => Keep [] w W) [] #[false, false, false, false, false, false, false, false] 8 (by kernel_rfl) (by kernel_rfl) (by kernel_rfl) ?_
  refine wpAnyG_take0 (i := 0) (oi := ⟨_, _, _, _, _, _⟩) (v := ?vg1_0) rfl (by kernel_rfl) (by kernel_rfl) (by kernel_rfl) (by kernel_rfl) (fun _ _ _ h => h) (fun _ => ((Keep.refl [] w).drew)) (Or.inl ⟨by rfl, ?hg1_0⟩) ?_
  case hg1_0 => intro w _; go_simp; (try with_reducible rfl)
  try simp only [Act.put, List.setIfInBounds_toArray, List.set_cons_zero, List.set_cons_succ]
  refine wpAnyG_take0 (i := 1) (oi := ⟨_, _, _, _, _, _⟩) (v := ?vg1_1) rfl (by kernel_rfl) (by kernel_rfl) (by kernel_rfl) (by kernel_rfl) (fun _ _ _ h => h) (fun _ => ((Keep.refl [] w).drew)) (Or.inl ⟨by rfl, ?hg1_1⟩) ?_
  case hg1_1 => intro w _; go_simp; (try with_reducible rfl)
  try simp only [Act.put, List.setIfInBounds_toArray, List.set_cons_zero, List.set_cons_succ]
  refine wpAnyG_take0 (i := 2) (oi := ⟨_, _, _, _, _, _⟩) (v := ?vg1_2) rfl (by kernel_rfl) (by kernel_rfl) (by kernel_rfl) (by kernel_rfl) (fun _ _ _ h => h) (fun _ => ((Keep.refl [] w).drew)) (Or.inl ⟨by rfl, ?hg1_2⟩) ?_
  case hg1_2 => intro w _; go_simp; (try with_reducible rfl)
  try simp only [Act.put, List.setIfInBounds_toArray, List.set_cons_zero, List.set_cons_succ]
  refine wpAnyG_take0 (i := 4) (oi := ⟨_, _, _, _, _, _⟩) (v := ?vg1_4) rfl (by kernel_rfl) (by kernel_rfl) (by kernel_rfl) (by kernel_rfl) (fun _ _ _ h => h) (fun _ => ((Keep.refl [] w).drew)) (Or.inl ⟨by rfl, ?hg1_4⟩) ?_
  case hg1_4 => intro w _; go_simp; (try with_reducible rfl)
  try simp only [Act.put, List.setIfInBounds_toArray, List.set_cons_zero, List.set_cons_succ]
  refine wpAnyG_take0 (i := 5) (oi := ⟨_, _, _, _, _, _⟩) (v := ?vg1_5) rfl (by kernel_rfl) (by kernel_rfl) (by kernel_rfl) (by kernel_rfl) (fun _ _ _ h => h) (fun _ => ((Keep.refl [] w).drew)) (Or.inl ⟨by rfl, ?hg1_5⟩) ?_
  case hg1_5 => intro w _; go_simp; (try with_reducible rfl)
  try simp only [Act.put, List.setIfInBounds_toArray, List.set_cons_zero, List.set_cons_succ]
  refine wpAnyG_step (i := 3) (oi := ⟨_, _, _, _, _, _⟩) rfl (by kernel_rfl) (by rfl) (fun K hK => ?_)
  go_simp
  go_at_call 48
  refine (HR.out _ (Keep.refl [] w).drew).mono ?_
  rintro e w' ⟨n, rfl, rfl, hn1, hn2⟩
  have HN := Lib.hid (And.intro hn1 hn2)
  have HLn := Lib.hid (HL.out n hn1)
  clear hn1 hn2
  refine hK _ _ ?_ (fun hSg1_3 => ?_)
  · intro _; exact (Keep.refl [] w).drew
  replace hSg1_3 := hSg1_3 (by kernel_rfl)
  clear hK
  try simp only [Act.put, List.setIfInBounds_toArray, List.set_cons_zero, List.set_cons_succ]
  refine wpAnyG_step (i := 6) (oi := ⟨_, _, _, _, _, _⟩) rfl (by kernel_rfl) (by rfl) (fun K hK => ?_)
  go_simp
  go_at_call 47
  refine (HLn.out _ (Keep.refl [] w).drew).mono ?_
  rintro e w' ⟨⟨A', m, c', rfl, -, hm⟩, rfl⟩
  have HM := Lib.hid hm
  clear hm
  refine hK _ _ ?_ (fun hSg1_6 => ?_)
  · intro _; exact (Keep.refl [] w).drew
  replace hSg1_6 := hSg1_6 (by kernel_rfl)
  clear hK
  try simp only [Act.put, List.setIfInBounds_toArray, List.set_cons_zero, List.set_cons_succ]
  refine wpAnyG_take0 (i := 7) (oi := ⟨_, _, _, _, _, _⟩) (v := ?vg1_7) rfl (by kernel_rfl) (by kernel_rfl) (by kernel_rfl) (by kernel_rfl) (fun _ _ _ h => h) (fun _ => hSg1_6) (Or.inl ⟨by rfl, ?hg1_7⟩) ?_
  case hg1_7 => intro w _; go_simp; (try with_reducible rfl)
  try simp only [Act.put, List.setIfInBounds_toArray, List.set_cons_zero, List.set_cons_succ]
  refine wpAnyG_done (by kernel_rfl) ?_ _
  have HFF : Hid (m = 0 ↔ allZ l) := Lib.hid (HM.out.trans HN.out.2)
  have HK : Hid (Keep [] w w.drew) := Lib.hid (Keep.refl [] w).drew
  go_wp2
  go_ret
  exact ⟨A', m, c', rfl, HK.out, HFF.out⟩
end Go.Proofs.YtdnaahbhfjclpaaGreatDoor

namespace Go.Proofs.YtdnaahbhfjclpaaGreatDoor
open Go.RowKit Go.Sal Go.Huf Go.Cod
def RowBE (w : World) (l : List Nat) (E : Int) (e : Ending) (w' : World) : Prop := ∃ A c, e = .returned (.tuple #[.slice A l.length c, .int .i64 E]) ∧ w'.ownsRow w.heap.size 5 1 (.slice A l.length c) l.length (inB l) ∧ Keep [] w w'
theorem row_one (w : World) (x base : Nat) (hb : base ≤ w.heap.size) : (w.alloc (.cells #[.int .u8 (x : Nat)] 5)).ownsRow base 5 1 (.slice (some ⟨w.heap.size, 0, none⟩) 1 1) 1 (inB [x]) :=
  ⟨rfl, .inr ⟨w.heap.size, 1, _, rfl, hb, heap_alloc_new w _, Nat.le_refl _, by simp [maxLen], rfl, rfl⟩⟩
theorem two_app {w wr : World} {A6 AP : Option Addr} {c6 cP b6 : Nat} {s p : List Nat} (k : Keep [] w wr) (x : Nat) (h6 : wr.ownsRow b6 5 1 (.slice A6 s.length c6) s.length (inB s)) (hp : BySrc wr AP p) (l1 : s.length ≤ 1000000) (l2 : p.length ≤ 1000000) :
    ∃ A1 c1 w1 k1, (Builtin.append_ #[22, 22] 22 #[.slice (some ⟨wr.heap.size, 0, none⟩) 1 1, .slice A6 s.length c6]).run Tryz.prog (wr.alloc (.cells #[.int .u8 (x : Nat)] 5)) = .ok (.slice A1 k1 c1) w1 ∧
      ∃ A2 c2 w2 k2, (Builtin.append_ #[22, 22] 22 #[.slice A1 k1 c1, .slice AP p.length cP]).run Tryz.prog w1 = .ok (.slice A2 k2 c2) w2 ∧ RowBE w (x :: (s ++ p)) 0 (.returned (.tuple #[.slice A2 k2 c2, .int .i64 0])) w2 := by
  have ka : Keep [] wr (wr.alloc (.cells #[.int .u8 (x : Nat)] 5)) := (Keep.refl [] wr).alloc _
  have h0 := row_one wr x w.heap.size k.size
  obtain ⟨A1, c1, w1, k1, hk1, hr1, ho1, hkp1⟩ := bytes_app' (d := c6) h0 (Src.of_own (ownsRow_keep h6 ka (by simp))) (by omega) (by omega) (k.trans ka).size
  have kw1 : Keep [] wr w1 := ka.step hkp1 (fun i hi => .inr (by simp [Value.ownBlock] at hi; omega))
  obtain ⟨A2, c2, w2, k2, hk2, hr2, ho2, hkp2⟩ := bytes_app' (d := cP) ho1 (bsrc_src (hp.keep kw1 (by simp))) (by omega) (by omega) (k.trans kw1).size
  refine ⟨A1, c1, w1, k1, hr1, A2, c2, w2, k2, hr2, ?_⟩
  have e : k2 = (x :: (s ++ p)).length := by rw [hk2, hk1]; simp; omega
  have e2 : [x] ++ s ++ p = x :: (s ++ p) := by simp
  rw [e2] at ho2
  subst e
  exact ⟨A2, c2, rfl, ho2, (k.trans kw1).step hkp2 (fun i hi => .inr (own_far ho1 i hi))⟩
theorem okT_bd {t : Tk} (h : okT t = true) (h2 : t.2.2 < 256) : bdT t := by
  unfold bdT
  rcases okT_cases h with h | h <;> omega
theorem tokP_bd {b : List Nat} (hb : ∀ x ∈ b, x < 256) : ∀ t ∈ tokP b, bdT t := fun t ht => by
  obtain ⟨h1, h2⟩ := tokF_all hb _ _ t ht
  exact okT_bd h1 h2
set_option maxRecDepth 20000 in
set_option maxHeartbeats 1000000 in
theorem encode_any (bl : List Nat) (AB : Option Addr) (cB : Nat) (w : World) (hs : BySrc w AB bl) (hc : bl.length ≤ cB) (hl : bl.length ≤ 20000) :
    Calls Tryz.prog 35 #[.slice AB bl.length cB] w fun e w' => RowBE w (encP bl) 0 e w' := by
  have hbd := tokP_bd hs.2
  have htl : (tokP bl).length ≤ bl.length := tok_len _ 0
  have HT := Lib.hid (tokens_any bl AB cB w hs hc (by omega))
  have HV := Lib.hid (fun w1 => varint_any bl.length w1 (by omega))
  have HP := Lib.hid (fun (w1 : World) (A : Option Addr) (c : Nat) (h : TSrc w1 A (tokP bl)) => packR_any (tokP bl) A c w1 h (by omega))
  have hpl := packR_lt (l := tokP bl) (by omega)
  have hvl := varP_len bl.length
  have HE : Hid (encP bl = if (packR (tokP bl)).length < bl.length then 1 :: (varP bl.length ++ packR (tokP bl)) else 0 :: (varP bl.length ++ bl)) := Lib.hid rfl
  have Hs := Lib.hid hs
  have Hbd := Lib.hid hbd
  have Hpl := Lib.hid hpl
  have hwl : IntKind.u64.wrap (bl.length : Int) = (bl.length : Int) := by rw [IntKind.wrap_u64]; omega
  clear hs hbd hpl
  generalize tokP bl = tl at *
  generalize varP bl.length = vl at *
  go_enter Tryz.func35, Tryz.ntmps35
  go_upto_region 4 with (go_at_call 67; refine HT.out.mono ?_; rintro e w1 ⟨A1, c1, rfl, ho1, hk1⟩; have H1 := Lib.hid (And.intro ho1 hk1); clear ho1 hk1)
  go_upto_region 5 with (go_at_call 68; refine (HV.out _).mono ?_; rintro e w2 ⟨A2, c2, rfl, ho2, hk2⟩; have H2 := Lib.hid (And.intro (ownsRow_keep H1.out.1 hk2 (by simp)) (And.intro (H1.out.2.trans hk2) ho2)); clear ho2 hk2)
  go_upto_region 6 with (go_at_call 69; refine (HP.out _ _ _ (tsrc_own H2.out.1 rfl Hbd.out)).mono ?_; rintro e w3 ⟨A3, c3, rfl, ho3, hk3⟩; have H3 := Lib.hid (And.intro (ownsRow_keep H2.out.2.2 hk3 (by simp)) (And.intro (H2.out.2.1.trans hk3) ho3)); clear ho3 hk3)
  clear HT HV HP H1 H2
  by_cases h : (packR tl).length < bl.length
  · have hi : ((packR tl).length : Int) < bl.length := by omega
    obtain ⟨A4, c4, w4, k4, ha4, A5, c5, w5, k5, ha5, hR⟩ := two_app (cP := c3) H3.out.2.1 1 H3.out.1 (bsrc_own H3.out.2.2 Hpl.out) (by omega) (by omega)
    have HR := Lib.hid hR
    have HF := HE.out
    rw [if_pos h] at HF
    have HG := Lib.hid HF
    clear hR HF HE
    generalize (packR tl).length = pn at *
    go_wp2_with (first
      | (at_builtin; refine wpList_append2 (v1 := .slice (some ⟨w3.heap.size, 0, none⟩) 1 1) (v2 := .slice A2 vl.length c2) rfl (.tmp 31) (.tmp 32) rfl rfl rfl ha4 ?_)
      | (at_builtin; refine wpList_append2 (v1 := .slice A4 k4 c4) (v2 := .slice A3 pn c3) rfl (.tmp 33) (.tmp 34) rfl rfl rfl ha5 ?_))
    go_ret2
    rw [HG.out]
    exact HR.out
  · have hi : ¬ ((packR tl).length : Int) < bl.length := by omega
    obtain ⟨A4, c4, w4, k4, ha4, A5, c5, w5, k5, ha5, hR⟩ := two_app (cP := cB) H3.out.2.1 0 H3.out.1 (Hs.out.keep H3.out.2.1 (by simp)) (by omega) (by omega)
    have HR := Lib.hid hR
    have HF := HE.out
    rw [if_neg h] at HF
    have HG := Lib.hid HF
    clear hR HF HE
    generalize (packR tl).length = pn at *
    go_wp2_with (first
      | (at_builtin; refine wpList_append2 (v1 := .slice (some ⟨w3.heap.size, 0, none⟩) 1 1) (v2 := .slice A2 vl.length c2) rfl (.tmp 36) (.tmp 37) rfl rfl rfl ha4 ?_)
      | (at_builtin; refine wpList_append2 (v1 := .slice A4 k4 c4) (v2 := .slice AB bl.length cB) rfl (.tmp 38) (.tmp 39) rfl rfl rfl ha5 ?_))
    go_ret2
    rw [HG.out]
    exact HR.out
end Go.Proofs.YtdnaahbhfjclpaaGreatDoor

namespace Go.Pck
open Go.Cod
def hdP (c : List Nat) : List Nat := hdB c.length (encP c).length (shaP c)
def sumP (c : List Nat) : Nat := crcL 0 [hdP c, encP c]
def blkB (c : List Nat) : List Nat := hdP c ++ bytP 2 4 (sumP c) ++ encP c ++ List.replicate (512 * blksP (encP c).length - (44 + (encP c).length)) 0
theorem hdB_len {r k : Nat} {d : List Nat} (h : d.length = 32) : (hdB r k d).length = 40 := by simp [hdB, bytP_len, h]
theorem hdP_len (c : List Nat) : (hdP c).length = 40 := hdB_len (shaP_len c)
theorem hdB_lt {r k : Nat} {d : List Nat} (h : ∀ x ∈ d, x < 256) : ∀ x ∈ hdB r k d, x < 256 := by
  intro x hx
  unfold hdB at hx
  rcases List.mem_append.1 hx with hx | hx
  · rcases List.mem_append.1 hx with hx | hx
    · rcases List.mem_append.1 hx with hx | hx
      · simp at hx; omega
      · exact bytP_lt _ _ _ x hx
    · exact bytP_lt _ _ _ x hx
  · exact h x hx
theorem crcL_lt : ∀ (L : List (List Nat)) (s : Nat), s < 4294967296 → crcL s L < 4294967296
  | [], s, h => h
  | l :: L, s, h => crcL_lt L _ (crcA_lt s l)
theorem sumP_lt (c : List Nat) : sumP c < 4294967296 := crcL_lt _ _ (by omega)
end Go.Pck
namespace Go.Proofs.YtdnaahbhfjclpaaGreatDoor
open Go.RowKit Go.Sal Go.Pck Go.Huf Go.Cod
theorem built58f (r k : Nat) (f : Nat → Nat) : Tryz.prog.built 58 [(0, .int .i64 (r : Int)), (1, .int .i64 (k : Int)), (2, .agg (inB ((List.range 32).map f)).toArray)] = some (headC r k ((List.range 32).map f)).toArray := by kernel_rfl
theorem built58d (r k : Nat) (d : List Nat) (hd : d.length = 32) : Tryz.prog.built 58 [(0, .int .i64 (r : Int)), (1, .int .i64 (k : Int)), (2, .agg (inB d).toArray)] = some (headC r k d).toArray := by
  have e : d = (List.range 32).map fun i => d.getD i 0 := by
    apply List.ext_getElem (by simp [hd])
    intro i h1 h2
    simp [List.getD, h1]
  generalize (fun i => d.getD i 0) = f at e
  subst e
  exact built58f r k f
theorem own_weaken {w : World} {base base2 n size : Nat} {e : TypeId} {v : Value} {xs : List Value} (h : w.ownsRow base e size v n xs) (hb : base2 ≤ base) : w.ownsRow base2 e size v n xs := by
  refine ⟨h.1, ?_⟩
  rcases h.2 with h0 | ⟨g, cap, cur, h1, h2, h3⟩
  · exact .inl h0
  · exact .inr ⟨g, cap, cur, h1, by omega, h3⟩
theorem rows2 {w : World} {g : Nat} {A B : Option Addr} {l m : List Nat} {c d : Nat} (hb : Blk w g 22 #[.slice A l.length c, .slice B m.length d]) (hA : BySrc w A l) (hB : BySrc w B m) (h1 : l.length ≤ 1000000) (h2 : m.length ≤ 1000000) : RowsAt w g [(A, l, c), (B, m, d)] := fun i hi => by
  match i, hi with
  | 0, _ => exact ⟨by rw [hb.cell]; rfl, hA, h1⟩
  | 1, _ => exact ⟨by rw [hb.cell]; rfl, hB, h2⟩
theorem rows1 {w : World} {g : Nat} {A : Option Addr} {l : List Nat} {c : Nat} (hb : Blk w g 22 #[.slice A l.length c]) (hA : BySrc w A l) (h1 : l.length ≤ 1000000) : RowsAt w g [(A, l, c)] := fun i hi => by
  match i, hi with
  | 0, _ => exact ⟨by rw [hb.cell]; rfl, hA, h1⟩
theorem OwB.zeros {w wr : World} {A : Option Addr} {c n : Nat} {l : List Nat} (h : OwB w A c l wr) (tn : TypeId) (kn : IntKind) (htn : Tryz.prog.underlying tn = some (.int kn)) (hn : n = l.length) (k : Nat) (hk : n + k ≤ 1000000) :
    ∃ A' c' w' m, m = (l ++ List.replicate k 0).length ∧ (Builtin.append_ #[22, tn] 22 #[.slice A n c, .int kn k]).run Tryz.prog wr = .ok (.slice A' m c') w' ∧ OwB w A' c' (l ++ List.replicate k 0) w' := by
  subst hn
  obtain ⟨A', c', w', m, hm, hrun, ho, hkp⟩ := zeros_app tn kn htn h.1 k hk h.2.size
  have e := own_b ho
  exact ⟨A', c', w', m, e, hrun, by rw [← e]; exact ho, h.2.step hkp (fun i hi => .inr (own_far h.1 i hi))⟩
set_option maxRecDepth 20000 in
set_option maxHeartbeats 1000000 in
theorem pbytes_any (c : List Nat) (AB : Option Addr) (cB : Nat) (w : World) (hs : BySrc w AB c) (hc : c.length ≤ cB) (hA : ∀ a, AB = some a → a.block < w.heap.size) (h1 : 1 ≤ c.length) (hl : c.length ≤ 2000) :
    Calls Tryz.prog 13 #[.slice AB c.length cB] w fun e w' => RowBE w (blkB c) 0 e w' := by
  have n1 : ¬ (c.length : Int) < 1 := by omega
  have n2 : ¬ (4096 : Int) < (c.length : Int) := by omega
  have HE := Lib.hid (encode_any c AB cB w hs hc (by omega))
  have hel := enc_len (b := c) (by omega)
  have helt := enc_lt hs.2 (by omega)
  have HH := Lib.hid (And.intro hs (And.intro hA (And.intro hel (And.intro helt hl))))
  have z := zero58
  have hZC : ((headC 0 0 (List.replicate 32 0)).toArray).size = 34 := rfl
  generalize (headC 0 0 (List.replicate 32 0)).toArray = ZC at *
  clear hs hc hA hel helt h1
  go_enter Tryz.func13, Tryz.ntmps13
  go_upto_region 6 with (go_at_call 35; refine HE.out.mono ?_; rintro e w1 ⟨A1, c1, rfl, ho1, hk1⟩; have H1 := Lib.hid (And.intro ho1 hk1); clear ho1 hk1)
  obtain ⟨w2, hw2⟩ : ∃ w2, w1.alloc (.cells #[.slice AB c.length cB] 22) = w2 := ⟨_, rfl⟩
  refine wp_region_lit ?_
  iterate 6 (refine wpList_plain rfl (fun K hK => ?_); go_simp; refine hK _ _ ?_; clear hK K)
  obtain ⟨gR, hgR⟩ : ∃ gR, gR = w1.heap.size := ⟨_, rfl⟩
  have H2 : Hid (Keep [] w w2 ∧ OwB w A1 c1 (encP c) w2 ∧ BySrc w2 AB c ∧ Blk w2 gR 22 #[.slice AB c.length cB] ∧ gR < w2.heap.size) := Lib.hid (by
    have k2 : Keep [] w1 w2 := by rw [← hw2]; exact (Keep.refl _ w1).alloc _
    have hb : Blk w2 gR 22 #[.slice AB c.length cB] := by rw [← hw2, hgR]; exact Blk.new w1 22 _
    exact ⟨H1.out.2.trans k2, ⟨ownsRow_keep H1.out.1 k2 (by simp), H1.out.2.trans k2⟩, HH.out.1.keep (H1.out.2.trans k2) (fun a _ => by simp), hb, hb.lt⟩)
  have HS : Hid (Calls Tryz.prog 21 #[.slice (some ⟨gR, 0, none⟩) 1 1] w2 fun e w' => e = .returned (.agg (inB (shaP c)).toArray) ∧ Keep [] w2 w') := Lib.hid (by
    obtain ⟨q1, q2, q3, q4, q5⟩ := H2.out
    have h := sum_any [(AB, c, cB)] gR 1 1 w2 rfl (by omega) (rows1 q4 q3 (by omega)) q5 (fun r hr a ha => by
      simp at hr
      subst hr
      exact Nat.lt_of_lt_of_le (HH.out.2.1 a ha) q1.size) (by simp [allR]; omega)
    have e : allR [(AB, c, cB)] = c := by simp [allR]
    rw [e] at h
    exact h)
  have Hw2 := Lib.hid hw2
  rw [← hgR]
  clear hw2 H1 HE
  obtain ⟨CL, hCL⟩ : ∃ CL, CL = headC c.length (encP c).length (shaP c) := ⟨_, rfl⟩
  have hb58 := built58d c.length (encP c).length (shaP c) (shaP_len c)
  rw [← hCL] at hb58
  have hC34 : CL.toArray.size = 34 := by rw [List.size_toArray, hCL, headC_len (shaP_len c)]
  have hoC : CL.toArray.all (·.oneCell') = true := by rw [hCL]; exact all_oneCell_toArray (headC_one _ _ _)
  have HCL := Lib.hid hCL
  have HgR := Lib.hid hgR
  clear hCL hgR
  generalize (inB (shaP c)).toArray = D at *
  generalize hlen : c.length = lc at *
  generalize hen : (encP c).length = le at *
  have Hlen := Lib.hid (And.intro hlen hen)
  clear hlen hen
  refine wpList_plain rfl (fun K hK => ?_)
  go_simp
  go_at_call 21
  refine HS.out.mono ?_
  rintro e w3 ⟨rfl, hk3⟩
  have H3 := Lib.hid (H2.out.1.trans hk3)
  have H3b := Lib.hid hk3
  refine hK _ _ ?_
  clear hK K hk3 HS
  refine wpList_buildTo rfl 58 _ rfl (some 33) rfl CL.toArray (by simp only [List.map_toArray, List.map_cons, List.map_nil]; exact hb58) ?_
  refine wpList_plain rfl (fun K hK => ?_)
  go_simp
  refine hK _ _ ?_
  clear hK K
  refine wpList_store_rowTo rfl 58 (.tmp 6) (.tmp 33) rfl rfl w3.heap.size CL.toArray rfl rfl 58 ZC (heap_alloc_last w3 _) (by rw [hC34]; exact size58) (by rw [hC34]; exact hZC) hoC ?_
  rw [World.setRow_alloc_new]
  obtain ⟨h, hh⟩ : ∃ h, h = w3.heap.size := ⟨_, rfl⟩
  obtain ⟨w4, hw4⟩ : ∃ w4, w3.alloc (.cells CL.toArray 58) = w4 := ⟨_, rfl⟩
  rw [hw4, ← hh]
  have H4 : Hid (Keep [] w w4 ∧ Keep [] w2 w4 ∧ Blk w4 h 58 CL.toArray) := Lib.hid (by
    have k4 : Keep [] w3 w4 := by rw [← hw4]; exact (Keep.refl _ w3).alloc _
    exact ⟨H3.out.trans k4, H3b.out.trans k4, by rw [← hw4, hh]; exact Blk.new w3 58 _⟩)
  clear hw4 hh H3 H3b hb58
  have HB : Hid (Calls Tryz.prog 28 #[.agg CL.toArray] w4 fun e w' => RowB w4 (hdP c) e w') := Lib.hid (by
    have := hbytes_any c.length (encP c).length (shaP c) w4 (by have := HH.out.2.2.2.2; have := Hlen.out; omega) (by have := HH.out.2.2.1; have := HH.out.2.2.2.2; have := Hlen.out; omega) (shaP_len c) (shaP_lt c)
    have e : headC c.length (encP c).length (shaP c) = CL := by rw [HCL.out, Hlen.out.1, Hlen.out.2]
    rw [e] at this
    exact this)
  have hr7 := H4.out.2.2
  go_upto_region 7 with (fail)
  refine wp_region_lit ?_
  refine wpList_load_row rfl 58 (.tmp 6) rfl h rfl 58 CL.toArray (0, 0) _ hr7 Tryz.underlying58 rfl (by rw [hC34]; exact size58) ?_
  refine wpList_plain rfl (fun K hK => ?_)
  go_simp
  go_at_call 28
  refine HB.out.mono ?_
  rintro e w5 hq
  obtain ⟨A5, c5, rfl, ho5⟩ := rowB_own hq
  have H5 := Lib.hid ho5
  refine hK _ _ ?_
  clear hK K hq ho5 HB hr7
  have hl40 := hdP_len c
  rw [hl40]
  go_upto_region 8 with (fail)
  obtain ⟨w6, hw6⟩ : ∃ w6, w5.alloc (.cells #[.slice A5 40 c5, .slice A1 le c1] 22) = w6 := ⟨_, rfl⟩
  refine wp_region_lit ?_
  iterate 3 (refine wpList_plain rfl (fun K hK => ?_); go_simp; refine hK _ _ ?_; clear hK K)
  obtain ⟨g6, hg6⟩ : ∃ g6, g6 = w5.heap.size := ⟨_, rfl⟩
  have H6 : Hid (Keep [] w5 w6 ∧ OwB w4 A5 c5 (hdP c) w6 ∧ OwB w A1 c1 (encP c) w6 ∧ Blk w6 g6 22 #[.slice A5 (hdP c).length c5, .slice A1 (encP c).length c1]) := Lib.hid (by
    have k6 : Keep [] w5 w6 := by rw [← hw6]; exact (Keep.refl _ w5).alloc _
    refine ⟨k6, H5.out.keep k6, H2.out.2.1.keep (H4.out.2.1.trans (H5.out.2.trans k6)), ?_⟩
    rw [hl40, Hlen.out.2, ← hw6, hg6]
    exact Blk.new w5 22 _)
  have HOf : Hid (Calls Tryz.prog 27 #[.slice (some ⟨g6, 0, none⟩) 2 2] w6 fun e w' => e = .returned (.int .u32 (sumP c : Nat)) ∧ w' = w6) := Lib.hid (by
    obtain ⟨q1, q2, q3, q4⟩ := H6.out
    exact of_any [(A5, hdP c, c5), (A1, encP c, c1)] g6 2 2 w6 rfl (by omega) (rows2 q4 (q2.src (hdB_lt (shaP_lt c))) (q3.src HH.out.2.2.2.1) (by rw [hl40]; omega) (by have := HH.out.2.2.1; have := HH.out.2.2.2.2; have := Hlen.out; omega)) q4.lt)
  rw [← hg6]
  clear hw6 hg6
  have hwu : IntKind.u64.wrap ((sumP c : Nat) : Int) = ((sumP c : Nat) : Int) := by rw [IntKind.wrap_u64]; have := sumP_lt c; omega
  have HBy : Hid (∀ w, Calls Tryz.prog 36 #[.int .u64 (sumP c : Nat), .int .i64 32, .int .i64 2] w fun e w' => ∃ A c', e = .returned (.tuple #[.slice A 4 c', .int .i64 0]) ∧ OwB w A c' (bytP 2 4 (sumP c)) w') := Lib.hid (fun W => by
    have h4 : (bytP 2 4 (sumP c)).length = 4 := bytP_len _ _ _
    refine (bytes_any (sumP c) 4 2 (by have := sumP_lt c; omega) (by unfold okB; omega) (.inr rfl) W).mono ?_
    rintro e w' ⟨A, c', rfl, ho, hk⟩
    exact ⟨A, c', rfl, by rw [h4]; exact ho, hk⟩)
  have HN : Hid (blkB c = hdP c ++ bytP 2 4 (sumP c) ++ encP c ++ List.replicate (512 * blksP (encP c).length - (44 + (encP c).length)) 0) := Lib.hid rfl
  go_upto_region 9 with (first
    | (go_at_call 27; refine HOf.out.mono ?_; rintro e w6' ⟨rfl, hww⟩; subst hww)
    | (go_at_call 36; refine (HBy.out _).mono ?_; rintro e w7 ⟨A7, c7, rfl, ho7⟩; have H7 := Lib.hid ho7; clear ho7))
  have hb4 : (bytP 2 4 (sumP c)).length = 4 := bytP_len _ _ _
  obtain ⟨A8, c8, w8, k8, hk8, hrun8, ho8, hkp8, hkb8⟩ := (H6.out.2.1.keep H7.out.2).app (d := c7) (H7.out.src (bytP_lt _ _ _)) hl40.symm (by rw [hl40]; omega) (by rw [hb4]; omega)
  rw [hb4] at hrun8
  have hle : le ≤ 3000 := by have := HH.out.2.2.1; have := HH.out.2.2.2.2; omega
  have hkk8 : Keep [] w2 w8 := H4.out.2.1.trans ho8.2
  obtain ⟨A9, c9, w9, k9, hk9, hrun9, ho9, -, hkb9⟩ := ho8.app (d := c1) (n := k8) ((H2.out.2.1.keep hkk8).src HH.out.2.2.2.1) hk8 (by rw [← hk8, hk8, List.length_append, hl40, hb4]; omega) (by rw [Hlen.out.2]; omega)
  rw [Hlen.out.2] at hrun9
  have hk9' : k9 = 44 + le := by rw [hk9, List.length_append, List.length_append, hl40, hb4, Hlen.out.2]
  obtain ⟨n, hn⟩ : ∃ n, n = blksP le := ⟨_, rfl⟩
  obtain ⟨q, hq⟩ : ∃ q, q = 512 * n - k9 := ⟨_, rfl⟩
  obtain ⟨m5, hm5⟩ : ∃ m5, m5 = n * 512 := ⟨_, rfl⟩
  have hnb : n ≤ 10 ∧ k9 ≤ 512 * n := by rw [hn, hk9']; unfold blksP; omega
  have e1 : IntKind.i64.wrap ((n : Int) * 512) = (m5 : Int) := by rw [IntKind.wrap_i64]; omega
  have e2 : IntKind.i64.wrap ((m5 : Int) - (k9 : Int)) = (q : Int) := by rw [IntKind.wrap_i64]; omega
  have hr10 : Blk w9 h 58 CL.toArray := by
    have h5 := H4.out.2.2.keep (H5.out.2.trans (H6.out.1.trans H7.out.2)) (by simp)
    exact hkb9 _ _ _ (hkb8 _ _ _ h5 (by decide)) (by decide)
  have HBl : Hid (Calls Tryz.prog 24 #[.agg CL.toArray] w9 fun e w' => e = .returned (.int .i64 n) ∧ Keep [] w9 w') := Lib.hid (by
    have := blocks_any c.length (encP c).length (shaP c) w9 (by rw [Hlen.out.2]; omega)
    have e : headC c.length (encP c).length (shaP c) = CL := by rw [HCL.out, Hlen.out.1, Hlen.out.2]
    rw [e, Hlen.out.2, ← hn] at this
    exact this)
  have HZ : Hid (∀ w10, Keep [] w9 w10 → ∃ A' c' w' m, m = (blkB c).length ∧ (Builtin.append_ #[22, 3] 22 #[.slice A9 k9 c9, .int .i64 q]).run Tryz.prog w10 = .ok (.slice A' m c') w' ∧ w'.ownsRow w.heap.size 5 1 (.slice A' m c') m (inB (blkB c)) ∧ Keep [] w w') := Lib.hid (fun w10 k10 => by
    obtain ⟨A', c', w', m, hm, hrun, ho⟩ := (ho9.keep k10).zeros 3 .i64 Tryz.underlying3 hk9 q (by omega)
    have e : hdP c ++ bytP 2 4 (sumP c) ++ encP c ++ List.replicate q 0 = blkB c := by rw [HN.out, hq, hn, hk9', Hlen.out.2]
    rw [e] at hm ho
    refine ⟨A', c', w', m, hm, hrun, ?_, H4.out.1.trans ho.2⟩
    rw [hm]
    exact own_weaken ho.1 H4.out.1.size)
  have Hq := Lib.hid (And.intro hq (And.intro hn hm5))
  clear hk8 ho8 hkp8 hkb8 hkk8 hk9 ho9 hkb9 hk9' hn hq hm5 hb4 H2 H4 H5 H6 H7 HOf HBy HN hnb hle hl40 hwu
  go_upto_region 10 with (first
    | (at_builtin; refine wpList_append2 (v1 := .slice A5 40 c5) (v2 := .slice A7 4 c7) rfl (.tmp 45) (.tmp 46) rfl rfl rfl hrun8 ?_)
    | (at_builtin; refine wpList_append2 (v1 := .slice A8 k8 c8) (v2 := .slice A1 le c1) rfl (.tmp 47) (.tmp 48) rfl rfl rfl hrun9 ?_))
  refine wp_region_lit ?_
  refine wpList_plain rfl (fun K hK => ?_)
  go_simp
  refine hK _ _ ?_
  clear hK K
  refine wpList_load_row rfl 58 (.tmp 6) rfl h rfl 58 CL.toArray (0, 0) _ hr10 Tryz.underlying58 rfl (by rw [hC34]; exact size58) ?_
  refine wpList_plain rfl (fun K hK => ?_)
  go_simp
  go_at_call 24
  refine HBl.out.mono ?_
  rintro e w10 ⟨rfl, hk10⟩
  obtain ⟨A11, c11, w11, m11, hm11, hrun11, ho11, hkp11⟩ := HZ.out w10 hk10
  have H11 := Lib.hid (And.intro hm11 (And.intro ho11 hkp11))
  refine hK _ _ ?_
  clear hK K HZ HBl hrun8 hrun9 hr10 hk10 hm11 ho11 hkp11
  go_wp2_with (at_builtin; refine wpList_append2 (v1 := .slice A9 k9 c9) (v2 := .int .i64 q) rfl (.tmp 50) (.tmp 56) rfl rfl rfl hrun11 ?_)
  go_ret2
  obtain ⟨rfl, ho, hk⟩ := H11.out
  exact ⟨A11, c11, rfl, ho, hk⟩
end Go.Proofs.YtdnaahbhfjclpaaGreatDoor

