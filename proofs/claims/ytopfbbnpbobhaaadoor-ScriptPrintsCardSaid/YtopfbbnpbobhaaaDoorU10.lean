/- few. -/
import Derived.Test.YtopfbbnpbobhaaaDoorU9
set_option linter.unusedVariables false
set_option linter.unusedSimpArgs false
namespace Go.Proofs.YtopfbbnpbobhaaaDoor
open Go.RowKit Go.Sal

/-- A deed as it lies in memory: its data, and where its slices lie. -/
structure DR where
  d : Dd
  Ab : Option Addr
  cb : Nat
  Ak : Option Addr
  ck : Nat
def DR.av (r : DR) : Array Value := DvA r.d (.slice r.Ab r.d.bs.length r.cb) (.slice r.Ak r.d.keep.length r.ck)
def i64R (n : Int) : Prop := -9223372036854775808 ≤ n ∧ n ≤ 9223372036854775807
structure DR.ok (w : World) (r : DR) : Prop where
  bs : RD encB w r.Ab r.d.bs
  keep : RD encT w r.Ak r.d.keep
  lb : r.d.bs.length ≤ r.cb
  mb : r.cb ≤ maxLen
  lk : r.d.keep.length ≤ r.ck
  mk_ : r.ck ≤ maxLen
  kd : i64R r.d.kind
  a : i64R r.d.a
  f : i64R r.d.frm
  n : i64R r.d.n
  lp : r.d.path.length ≤ 9223372036854775807
theorem DR.ok.below {w w' : World} {r : DR} (h : r.ok w) (k : Below w.heap.size w w') : r.ok w' :=
  ⟨RD.below h.bs k, RD.below h.keep k, h.lb, h.mb, h.lk, h.mk_, h.kd, h.a, h.f, h.n, h.lp⟩
def cutR (r : DR) : DR := ⟨cutD r.d, r.Ab, r.cb, r.Ak, r.ck⟩
theorem cutR_ok {w : World} {r : DR} (h : r.ok w) : (cutR r).ok w :=
  ⟨RD.take h.bs _, RD.take h.keep _, Nat.le_trans (by simp [cutR, cutD]; omega) h.lb, h.mb, Nat.le_trans (by simp [cutR, cutD]; omega) h.lk, h.mk_, h.kd, h.a, h.f, h.n, Nat.le_trans (by simp [cutR, cutD]; omega) h.lp⟩
def rowsOf (rs : List DR) : List Value := (rs.map fun r => r.av.toList).flatten
theorem rowsOf_snoc (rs : List DR) (r : DR) : rowsOf (rs ++ [r]) = rowsOf rs ++ r.av.toList := by simp [rowsOf]
theorem info72 : (Tryd.prog.info? 72).map (fun i => (i.zero, i.size, i.bytes)) = some (some (.agg #[.int .i64 0, .int .i64 0, .string ⟨#[]⟩, .slice none 0 0, .int .i64 0, .int .i64 0, .slice none 0 0]), 7, 96) := by kernel_rfl
/-- a slice of deeds that reads as rs -/
def RS (w : World) (A : Option Addr) (rs : List DR) : Prop := rs ≠ [] → ∃ g o, A = some ⟨g, o, none⟩ ∧ g < w.heap.size ∧ ∀ j (h : j < rs.length) k, k < 7 → w.cell? ⟨g, o + j * 7 + k, none⟩ = (rs[j]).av[k]?
theorem RS.below {w w' : World} {A : Option Addr} {rs : List DR} (h : RS w A rs) (k : Below w.heap.size w w') : RS w' A rs := fun hn => by
  obtain ⟨g, o, h1, h2, h3⟩ := h hn
  exact ⟨g, o, h1, Nat.lt_of_lt_of_le h2 k.size, fun j hj i hi => (k.cell (p := ⟨g, o + j * 7 + i, none⟩) h2).trans (h3 j hj i hi)⟩
def fewR (rs : List DR) (i : Nat) : List DR := (rs.take i).map cutR
theorem fewR_succ (rs : List DR) (i : Nat) (h : i < rs.length) : fewR rs (i + 1) = fewR rs i ++ [cutR rs[i]] := by
  unfold fewR
  rw [List.map_take, List.map_take, List.take_add_one]
  simp [h]
theorem fewR_len (rs : List DR) (i : Nat) (h : i ≤ rs.length) : (fewR rs i).length = i := by simp [fewR]; omega
theorem ownDeed {base : Nat} {A : Option Addr} {c i : Nat} {l : List DR} {w : World} (ho : w.ownsRow base 72 7 (.slice A i c) i (rowsOf l)) (hB : base ≤ w.heap.size) (av : Array Value) (r : DR) (hr : r.av = av) (hl : i ≤ 1000) :
    ∃ A' c' w7, (Builtin.append_ #[41, 41] 41 #[.slice A i c, .slice (some ⟨w.heap.size, 0, none⟩) 1 1]).run Tryd.prog (w.alloc (.cells av 72)) = .ok (.slice A' (i + 1) c') w7 ∧
      Hid (w7.ownsRow base 72 7 (.slice A' (i + 1) c') (i + 1) (rowsOf (l ++ [r])) ∧ Below base w w7) := by
  subst hr
  obtain ⟨v', w7, hrun, hown, hgr, hor⟩ := run_append_src (P := Tryd.prog) (w.alloc (.cells r.av 72)) 41 41 72 (.agg #[.int .i64 0, .int .i64 0, .string ⟨#[]⟩, .slice none 0 0, .int .i64 0, .int .i64 0, .slice none 0 0]) 7 96 base Tryd.underlying41 info72 rfl (by decide) (.slice A i c) i (rowsOf l) (ho.alloc _) (some ⟨w.heap.size, 0, none⟩) 1 1 r.av.toList (src_new w 72 7 r.av.toList rfl) (by
    intro u hu
    simp only [DR.av, DvA, List.mem_cons, List.not_mem_nil, or_false] at hu
    rcases hu with rfl | rfl | rfl | rfl | rfl | rfl | rfl <;> rfl) (by unfold maxLen; omega) (by omega) (by simp; omega)
  obtain ⟨A', c', rfl⟩ : ∃ A' c', v' = .slice A' (i + 1) c' := by
    rcases hown.2 with ⟨rfl, h1⟩ | ⟨g, cap, cur, rfl, _⟩
    · omega
    · exact ⟨_, _, rfl⟩
  refine ⟨A', c', w7, hrun, Lib.hid ⟨?_, ((Below.refl base w).alloc hB _).grown hgr (by simp; omega) (fun g hg => (ho.lt g hg).1)⟩⟩
  rw [rowsOf_snoc]
  exact hown
set_option maxRecDepth 200000 in
set_option maxHeartbeats 4000000 in
theorem few_any (rs : List DR) (A : Option Addr) (c : Nat) (w : World) (hS : RS w A rs) (hok : ∀ r ∈ rs, r.ok w) :
    Calls Tryd.prog 12 #[.slice A rs.length c] w fun e w' => ∃ A' c', e = .returned (.slice A' (fewR rs 25).length c') ∧ w'.ownsRow w.heap.size 72 7 (.slice A' (fewR rs 25).length c') (fewR rs 25).length (rowsOf (fewR rs 25)) ∧ Below w.heap.size w w' := by
  have HS_ := Lib.hid hS
  have Hok := Lib.hid hok
  have Hown0 : Hid (w.ownsRow w.heap.size 72 7 (.slice none 0 0) 0 (rowsOf (fewR rs 0)) ∧ Below w.heap.size w w) := Lib.hid ⟨⟨rfl, .inl ⟨rfl, rfl⟩⟩, Below.refl _ _⟩
  clear hS hok
  go_enter Tryd.func12, Tryd.ntmps12
  go_wp2
  go_loopw [3, 4] (fun s o wr => ∃ (i : Nat) (A' : Option Addr) (c' : Nat), s = .slice A' i c' ∧ o = .int .i64 i ∧ i ≤ 25 ∧ i ≤ rs.length ∧ Hid (wr.ownsRow w.heap.size 72 7 (.slice A' i c') i (rowsOf (fewR rs i)) ∧ Below w.heap.size w wr)) (fun s o _ => 25 - (intOf o).toNat)
  case atStart => exact ⟨0, none, 0, rfl, rfl, by omega, by omega, Hown0⟩
  case round =>
    obtain ⟨i, A', c', rfl, rfl, hi, hir, hI⟩ := hrel
    rcases Nat.lt_or_ge i rs.length with hlt | hge
    · have hil : (i : Int) < (rs.length : Int) := by omega
      rcases Nat.lt_or_ge i 25 with h25 | h25
      · have hi2 : (i : Int) < 25 := by omega
        obtain ⟨g, o, rfl, hg, hcl⟩ := RS.below HS_.out hI.out.2 (by rintro rfl; simp at hlt)
        have hx := hcl i hlt
        have hrk := Hok.out _ (List.getElem_mem hlt)
        have hfs := Lib.hid (fewR_succ rs i hlt)
        have hwi : IntKind.i64.wrap ((i : Int) + 1) = (i : Int) + 1 := by rw [IntKind.wrap_i64]; omega
        have Hi1 : Hid (i + 1 ≤ 25 ∧ i + 1 ≤ rs.length ∧ i ≤ 24) := Lib.hid (by omega)
        generalize hri : rs[i] = r at *
        clear hri hcl
        obtain ⟨⟨kd, a, p, b, f, n, kp⟩, Ab, cb, Ak, ck⟩ := r
        have c0 : wr.cell? ⟨g, o + i * 7, none⟩ = some (.int .i64 kd) := hx 0 (by omega)
        have c1 : wr.cell? ⟨g, o + i * 7 + 1, none⟩ = some (.int .i64 a) := hx 1 (by omega)
        have c2 : wr.cell? ⟨g, o + i * 7 + 2, none⟩ = some (.string ⟨p.toArray⟩) := hx 2 (by omega)
        have c3 : wr.cell? ⟨g, o + i * 7 + 3, none⟩ = some (.slice Ab b.length cb) := hx 3 (by omega)
        have c4 : wr.cell? ⟨g, o + i * 7 + 4, none⟩ = some (.int .i64 f) := hx 4 (by omega)
        have c5 : wr.cell? ⟨g, o + i * 7 + 5, none⟩ = some (.int .i64 n) := hx 5 (by omega)
        have c6 : wr.cell? ⟨g, o + i * 7 + 6, none⟩ = some (.slice Ak kp.length ck) := hx 6 (by omega)
        obtain ⟨q, hq⟩ : ∃ q, q = p.take 300 := ⟨_, rfl⟩
        obtain ⟨m3, hm3⟩ : ∃ m, m = (b.take 1500).length := ⟨_, rfl⟩
        obtain ⟨m6, hm6⟩ : ∃ m, m = (kp.take 100).length := ⟨_, rfl⟩
        have hcut : Hid (Calls Tryd.prog 29 #[.agg #[.int .i64 kd, .int .i64 a, .string ⟨p.toArray⟩, .slice Ab b.length cb, .int .i64 f, .int .i64 n, .slice Ak kp.length ck]] wr fun e w' => e = .returned (.agg #[.int .i64 kd, .int .i64 a, .string ⟨q.toArray⟩, .slice Ab m3 cb, .int .i64 f, .int .i64 n, .slice Ak m6 ck]) ∧ Below wr.heap.size wr w') := Lib.hid (by
          rw [hq, hm3, hm6]
          exact cut_any ⟨kd, a, p, b, f, n, kp⟩ Ab Ak cb ck wr hrk.lb hrk.mb hrk.lk hrk.mk_ hrk.lp)
        have hav : Hid ((cutR ⟨⟨kd, a, p, b, f, n, kp⟩, Ab, cb, Ak, ck⟩).av = #[.int .i64 kd, .int .i64 a, .string ⟨q.toArray⟩, .slice Ab m3 cb, .int .i64 f, .int .i64 n, .slice Ak m6 ck]) := Lib.hid (by rw [hq, hm3, hm6]; rfl)
        clear hx hrk hq hm3 hm6 hlt h25 hi hir
        go_wp2_with (fail)
        refine hcut.out.mono ?_
        rintro e w5 ⟨rfl, hb5⟩
        obtain ⟨A7, c7, w7, hrun, hX⟩ := ownDeed (ownsRow_keep hI.out.1 (Keep.of_below (F := []) hb5) (by simp)) (Nat.le_trans hI.out.2.size hb5.size) _ _ hav.out (by have := Hi1.out; omega)
        have hI7 : Hid (w7.ownsRow w.heap.size 72 7 (.slice A7 (i + 1) c7) (i + 1) (rowsOf (fewR rs (i + 1))) ∧ Below w.heap.size w w7) := Lib.hid (by
          rw [hfs.out]
          exact ⟨hX.out.1, (hI.out.2.trans (hb5.mono hI.out.2.size)).trans hX.out.2⟩)
        clear hb5 hX hI hcut hfs hav
        go_wp2_with (at_builtin; refine wpList_append2 (v1 := .slice A' i c') (v2 := .slice (some ⟨w5.heap.size, 0, none⟩) 1 1) rfl (.tmp 15) (.tmp 21) rfl rfl rfl hrun ?_)
        go_roundw
        case rel => exact ⟨i + 1, A7, c7, rfl, by simp, Hi1.out.1, Hi1.out.2.1, hI7⟩
        case measure => have := Hi1.out; simp [intOf]; omega
      · obtain rfl : i = 25 := by omega
        have hfl : Hid ((fewR rs 25).length = 25) := Lib.hid (fewR_len _ _ hir)
        clear hlt h25 hi hir
        go_wp2
        go_ret
        rw [hfl.out]
        exact ⟨_, _, rfl, hI.out.1, hI.out.2⟩
    · obtain rfl : i = rs.length := by omega
      have hil : ¬ (rs.length : Int) < (rs.length : Int) := by omega
      have hfl : Hid (fewR rs 25 = fewR rs rs.length) := Lib.hid (by unfold fewR; rw [List.take_of_length_le (by omega), List.take_of_length_le (by omega)])
      have hfl2 : Hid ((fewR rs rs.length).length = rs.length) := Lib.hid (fewR_len _ _ (by omega))
      clear hge hi hir
      go_wp2
      go_ret
      rw [hfl.out, hfl2.out]
      exact ⟨_, _, rfl, hI.out.1, hI.out.2⟩
end Go.Proofs.YtopfbbnpbobhaaaDoor
