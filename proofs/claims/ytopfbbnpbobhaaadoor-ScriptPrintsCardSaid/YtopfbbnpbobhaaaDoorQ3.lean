/- The reference's pair and Hex. -/
import Derived.Test.YtopfbbnpbobhaaaDoorQ2
import Derived.Test.YtopfbbnpbobhaaaDoorP4
import Derived.Lib.AppendStr
import Derived.Deep.CutBlock
import Derived.Deep.DeepCutAuto
set_option linter.unusedVariables false
set_option linter.unusedSimpArgs false
namespace Go.Proofs.YtopfbbnpbobhaaaDoor
open Go.RowKit Go.Sal

set_option maxRecDepth 20000 in
set_option maxHeartbeats 2000000 in
theorem rpair_any (c : UInt8) (w : World) : Calls Tryd.prog 26 #[.int .u8 (c.toNat : Int)] w fun e w' => e = .returned (.string ⟨(pr c).toArray⟩) ∧ Keep [] w w' := by
  have hc : c.toNat < 256 := c.toNat_lt
  have hix1 : ∀ W, (Instr.index 9 (.string { data := #[48, 49, 50, 51, 52, 53, 54, 55, 56, 57, 97, 98, 99, 100, 101, 102] }) (.int .u8 ((c.toNat : Int) / 16))).run Tryd.prog W = .ok (.int .u8 ((hx (c.toNat / 16)).toNat : Int)) W := fun W => digits_at (c.toNat / 16) (by omega) W
  have hix2 : ∀ W, (Instr.index 9 (.string { data := #[48, 49, 50, 51, 52, 53, 54, 55, 56, 57, 97, 98, 99, 100, 101, 102] }) (.int .u8 ((c.toNat : Int) % 16))).run Tryd.prog W = .ok (.int .u8 ((hx (c.toNat % 16)).toNat : Int)) W := fun W => digits_at (c.toNat % 16) (by omega) W
  have hwr : IntKind.u8.wrap ((c.toNat : Int) / 16) = (c.toNat : Int) / 16 := by rw [IntKind.wrap_u8]; omega
  have htm : ((c.toNat : Int)).tmod 16 = (c.toNat : Int) % 16 := Int.tmod_eq_emod_of_nonneg (by omega)
  go_enter Tryd.func26, Tryd.ntmps26
  go_wp2
  refine wp_region_G (fun W => Keep [] w W) [6] #[false, false, false, false, false, false, false, false, false] 9 (by kernel_rfl) (by kernel_rfl) (by kernel_rfl) ?_
  refine wpAnyG_take0 (i := 0) (oi := { dst := some 3, op := Go.Op.move (Go.Operand.tmp 0), type := 5, pos := "ref.go:22", after := #[], guard := none }) (v := ?vg1_0) rfl (by kernel_rfl) (by kernel_rfl) (by kernel_rfl) (by kernel_rfl) (fun _ _ _ h => h) (fun _ => ((Keep.refl [] w).drew)) (Or.inl ⟨by rfl, ?hg1_0⟩) ?_
  case hg1_0 => intro w _; go_simp; (try with_reducible rfl)
  try simp only [Act.put, List.setIfInBounds_toArray, List.set_cons_zero, List.set_cons_succ]
  refine wpAnyG_take0 (i := 1) (oi := { dst := some 4, op := Go.Op.binOp Go.BinOp.quo 5 (Go.Operand.tmp 3) (Go.Operand.const (Go.Value.int Go.IntKind.u8 16)) 5, type := 5, pos := "ref.go:22", after := #[{ on := 0, ground := Go.Ground.data }], guard := none }) (v := ?vg1_1) rfl (by kernel_rfl) (by kernel_rfl) (by kernel_rfl) (by kernel_rfl) (fun _ _ _ h => h) (fun _ => ((Keep.refl [] w).drew)) (Or.inl ⟨by rfl, ?hg1_1⟩) ?_
  case hg1_1 => intro w _; go_simp; (try with_reducible rfl)
  try simp only [Act.put, List.setIfInBounds_toArray, List.set_cons_zero, List.set_cons_succ]
  refine wpAnyG_take0 (i := 2) (oi := { dst := some 5, op := Go.Op.index 9 (Go.Operand.const (Go.Value.string { data := #[48, 49, 50, 51, 52, 53, 54, 55, 56, 57, 97, 98, 99, 100, 101, 102] })) (Go.Operand.tmp 4), type := 5, pos := "ref.go:22", after := #[{ on := 1, ground := Go.Ground.data }], guard := none }) (v := ?vg1_2) rfl (by kernel_rfl) (by kernel_rfl) (by kernel_rfl) (by kernel_rfl) (fun _ _ _ h => h) (fun _ => ((Keep.refl [] w).drew)) (Or.inl ⟨by rfl, ?hg1_2⟩) ?_
  case hg1_2 => intro w _; go_simp; (try with_reducible rfl)
  try simp only [Act.put, List.setIfInBounds_toArray, List.set_cons_zero, List.set_cons_succ]
  refine wpAnyG_take0 (i := 3) (oi := { dst := some 6, op := Go.Op.move (Go.Operand.tmp 0), type := 5, pos := "ref.go:22", after := #[], guard := none }) (v := ?vg1_3) rfl (by kernel_rfl) (by kernel_rfl) (by kernel_rfl) (by kernel_rfl) (fun _ _ _ h => h) (fun _ => ((Keep.refl [] w).drew)) (Or.inl ⟨by rfl, ?hg1_3⟩) ?_
  case hg1_3 => intro w _; go_simp; (try with_reducible rfl)
  try simp only [Act.put, List.setIfInBounds_toArray, List.set_cons_zero, List.set_cons_succ]
  refine wpAnyG_take0 (i := 4) (oi := { dst := some 7, op := Go.Op.binOp Go.BinOp.rem 5 (Go.Operand.tmp 6) (Go.Operand.const (Go.Value.int Go.IntKind.u8 16)) 5, type := 5, pos := "ref.go:22", after := #[{ on := 3, ground := Go.Ground.data }], guard := none }) (v := ?vg1_4) rfl (by kernel_rfl) (by kernel_rfl) (by kernel_rfl) (by kernel_rfl) (fun _ _ _ h => h) (fun _ => ((Keep.refl [] w).drew)) (Or.inl ⟨by rfl, ?hg1_4⟩) ?_
  case hg1_4 => intro w _; go_simp; (try with_reducible rfl)
  try simp only [Act.put, List.setIfInBounds_toArray, List.set_cons_zero, List.set_cons_succ]
  refine wpAnyG_take0 (i := 5) (oi := { dst := some 8, op := Go.Op.index 9 (Go.Operand.const (Go.Value.string { data := #[48, 49, 50, 51, 52, 53, 54, 55, 56, 57, 97, 98, 99, 100, 101, 102] })) (Go.Operand.tmp 7), type := 5, pos := "ref.go:22", after := #[{ on := 4, ground := Go.Ground.data }], guard := none }) (v := ?vg1_5) rfl (by kernel_rfl) (by kernel_rfl) (by kernel_rfl) (by kernel_rfl) (fun _ _ _ h => h) (fun _ => ((Keep.refl [] w).drew)) (Or.inl ⟨by rfl, ?hg1_5⟩) ?_
  case hg1_5 => intro w _; go_simp; (try with_reducible rfl)
  try simp only [Act.put, List.setIfInBounds_toArray, List.set_cons_zero, List.set_cons_succ]
  refine wpAnyG_step (i := 6) (oi := { dst := some 9, op := Go.Op.buildSlice 22 2 #[(0, Go.Operand.tmp 5), (1, Go.Operand.tmp 8)], type := 22, pos := "ref.go:22", after := #[{ on := 2, ground := Go.Ground.data }, { on := 5, ground := Go.Ground.data }], guard := none }) rfl (by kernel_rfl) (by rfl) (fun K hK => ?_)
  go_simp
  refine hK _ _ (fun h => absurd h (Bool.eq_false_iff.1 (by kernel_rfl))) (fun _ => ?_)
  clear hK
  try simp only [Act.put, List.setIfInBounds_toArray, List.set_cons_zero, List.set_cons_succ]
  refine wpAnyG_step (i := 7) (oi := { dst := some 10, op := Go.Op.convert 22 9 (Go.Operand.tmp 9), type := 9, pos := "ref.go:22", after := #[{ on := 6, ground := Go.Ground.data }], guard := none }) rfl (by kernel_rfl) (by rfl) (fun K hK => ?_)
  go_simp
  rw [conv2]
  go_simp
  refine hK _ _ (fun h => absurd h (Bool.eq_false_iff.1 (by kernel_rfl))) (fun _ => ?_)
  clear hK
  try simp only [Act.put, List.setIfInBounds_toArray, List.set_cons_zero, List.set_cons_succ]
  refine wpAnyG_take0 (i := 8) (oi := { dst := some 2, op := Go.Op.assign (Go.Operand.tmp 10), type := 9, pos := "ref.go:22", after := #[{ on := 7, ground := Go.Ground.data }, { on := 0, ground := Go.Ground.phase }, { on := 1, ground := Go.Ground.phase }, { on := 2, ground := Go.Ground.phase }, { on := 3, ground := Go.Ground.phase }, { on := 4, ground := Go.Ground.phase }, { on := 5, ground := Go.Ground.phase }, { on := 6, ground := Go.Ground.phase }, { on := 7, ground := Go.Ground.phase }], guard := none }) (v := ?vg1_8) rfl (by kernel_rfl) (by kernel_rfl) (by kernel_rfl) (by kernel_rfl) (fun _ _ _ h => h) (fun h => absurd h (Bool.eq_false_iff.1 (by kernel_rfl))) (Or.inl ⟨by rfl, ?hg1_8⟩) ?_
  case hg1_8 => intro w _; go_simp; (try with_reducible rfl)
  try simp only [Act.put, List.setIfInBounds_toArray, List.set_cons_zero, List.set_cons_succ]
  refine wpAnyG_done (by kernel_rfl) ?_ _
  go_wp2
  go_ret
  refine ⟨rfl, ?_⟩
  exact (((Keep.refl [] w).alloc _).drew)
/-- append of a string onto an owned row -/
theorem ownStr {base : Nat} {A : Option Addr} {cp : Nat} {b : List UInt8} {w : World} (h : OwnB base A cp b w) (hB : base ≤ w.heap.size) (t : List UInt8) (ht : 0 < t.length) (hl : b.length + t.length ≤ 10000000) :
    ∃ A' c' w7, (Builtin.append_ #[22, 9] 22 #[.slice A b.length cp, .string ⟨t.toArray⟩]).run Tryd.prog w = .ok (.slice A' (b.length + t.length) c') w7 ∧ Hid (OwnB base A' c' (b ++ t) w7) ∧ Hid (Below base w w7) := by
  obtain ⟨i, hi, hz, hs, hby⟩ := info5p
  obtain ⟨v', w7, hrun, hown, hgr, _⟩ := Lib.run_append_own_string (P := Tryd.prog) w base 22 9 22 5 i Tryd.underlying22 Tryd.underlying9 hi hz hs hby (.slice A b.length cp) b.length (byteCells b) h ⟨t.toArray⟩ (by simp [ByteArray.size, maxLen]; omega) (by simp [ByteArray.size]; omega) hB
  have hsz : (⟨t.toArray⟩ : ByteArray).size = t.length := rfl
  rw [hsz] at hown
  obtain ⟨A', c', rfl⟩ : ∃ A' c', v' = .slice A' (b.length + t.length) c' := by
    rcases hown.2 with ⟨rfl, h1⟩ | ⟨g, cap, cur, rfl, _⟩
    · omega
    · exact ⟨_, _, rfl⟩
  refine ⟨A', c', w7, hrun, Lib.hid ?_, Lib.hid ?_⟩
  · unfold OwnB
    have e : byteCells (b ++ t) = byteCells b ++ Lib.strCells ⟨t.toArray⟩ := by simp [byteCells, Lib.strCells]
    rw [e, List.length_append]
    exact hown
  · exact (Below.refl base w).grown hgr hB (fun g hg => (World.ownsRow.lt h g hg).1)
theorem OwnB.keep {base : Nat} {A : Option Addr} {cp : Nat} {b : List UInt8} {w w' : World} (h : OwnB base A cp b w) (k : Keep [] w w') : OwnB base A cp b w' := ownsRow_keep h k (by simp)
theorem repeatL_succ (l : List UInt8) : ∀ k, Lib.repeatL l (k + 1) = Lib.repeatL l k ++ l
  | 0 => by simp [Lib.repeatL]
  | k + 1 => by
    have := repeatL_succ l k
    show l ++ Lib.repeatL l (k + 1) = (l ++ Lib.repeatL l k) ++ l
    rw [this, List.append_assoc]
theorem runT_pos (c : UInt8) (n : Nat) (h : 1 ≤ n) : 0 < (runT c n).length := by
  unfold runT
  split
  · rw [repeatL_len]
    simp [pr]
    omega
  · simp [pr]
set_option maxRecDepth 200000 in
set_option maxHeartbeats 8000000 in
theorem rhex_any (b : List UInt8) (g o cap : Nat) (w : World) (h0 : b ≠ []) (hg : g < w.heap.size) (hcap : b.length ≤ cap) (hlen : b.length ≤ 3000)
    (hd : ∀ j (h : j < b.length), w.cell? ⟨g, o + j, none⟩ = some (.int .u8 (b[j].toNat : Int))) :
    Calls Tryd.prog 10 #[.slice (some ⟨g, o, none⟩) b.length cap] w fun e w' => e = .returned (.string ⟨(hexRow b).toArray⟩) ∧ Below w.heap.size w w' := by
  have hb0 : ((b.length : Int) == 0) = false := by
    have := List.length_pos_iff.2 h0
    rw [beq_eq_false_iff_ne]
    omega
  have hb1 : ¬ (b.length : Int) = 0 := by simpa using hb0
  have hlen' : (b.length : Int) ≤ 3000 := by omega
  have Hd := Lib.hid hd
  have H0 := Lib.hid h0
  have Hg := Lib.hid hg
  have hOw : Hid (OwnB w.heap.size none 0 [] w) := Lib.hid (OwnB.nil _ _)
  have hBw : Hid (Below w.heap.size w w) := Lib.hid (Below.refl _ _)
  clear hd h0 hg
  go_enter Tryd.func10, Tryd.ntmps10
  go_wp2
  go_loopw [3, 4] (fun v3 v4 wr => ∃ (A : Option Addr) (cp : Nat) (out : List UInt8) (i : Nat), v3 = .slice A out.length cp ∧ v4 = .int .i64 i ∧ i ≤ b.length ∧ out.length ≤ 24 * i ∧ (0 < i → out ≠ []) ∧ Hid (OwnB w.heap.size A cp out wr) ∧ Hid (Below w.heap.size w wr) ∧ Hid (hexRow b = out ++ hexRow (b.drop i))) (fun _ v4 _ => b.length - (intOf v4).toNat)
  case atStart => exact ⟨none, 0, [], 0, rfl, rfl, by omega, by simp, by simp, hOw, hBw, Lib.hid rfl⟩
  case round =>
    obtain ⟨A, cp, out, i, rfl, rfl, hi, hol, hone, hO, hB, hR⟩ := hrel
    rcases Nat.lt_or_ge i b.length with hlt | hge
    · have hil : (i : Int) < (b.length : Int) := by omega
      obtain ⟨c0, t0, hct⟩ : ∃ c0 t0, b.drop i = c0 :: t0 := by
        cases hdd : b.drop i with
        | nil => have := congrArg List.length hdd; simp at this; omega
        | cons x t => exact ⟨x, t, rfl⟩
      obtain ⟨d, hdd⟩ : ∃ d, d = b.drop i := ⟨_, rfl⟩
      have hdl : d.length = b.length - i := by rw [hdd]; simp
      have hDd : Hid (∀ j (h : j < d.length) W, Below w.heap.size w W → W.cell? ⟨g, o + (i + j), none⟩ = some (.int .u8 (d[j].toNat : Int))) := Lib.hid (fun j h W hW => by
        have := (hW.cell (p := ⟨g, o + (i + j), none⟩) Hg.out).trans (Hd.out (i + j) (by omega))
        rw [this]
        subst hdd
        simp)
      have hrle := rl_le c0 d
      have hrpos : 1 ≤ rl c0 d := by rw [hdd, hct]; exact rl_pos c0 t0
      have hRR : hexRow b = (out ++ runT c0 (rl c0 d)) ++ hexRow (b.drop (i + rl c0 d)) := by
        rw [hR.out, hct, hexRow_cons, ← hct, ← hdd, List.append_assoc]
        congr 3
        rw [hdd, List.drop_drop]
      have hd0 : d[0]? = some c0 := by rw [hdd, hct]; rfl
      have hcell0 : Hid (∀ W, Below w.heap.size w W → W.cell? ⟨g, o + i, none⟩ = some (.int .u8 (c0.toNat : Int))) := Lib.hid (fun W hW => by
        have := hDd.out 0 (by omega) W hW
        rw [Nat.add_zero] at this
        rw [this]
        simp [hdd, hct])
      have HRR := Lib.hid hRR
      have Hd0 := Lib.hid hd0
      have Hdl := Lib.hid hdl
      have Hr1 := Lib.hid hrle
      have Hr2 := Lib.hid hrpos
      have hst1 : Hid (∀ j, j < 1 → d[j]? = some c0) := Lib.hid (fun j hj => by
        have e : j = 0 := by omega
        rw [e]
        exact Hd0.out)
      clear hct hdd hdl hrle hrpos hRR hd0 hR
      have hi' : (i : Int) ≤ 3000 := by omega
      obtain ⟨wo, rfl⟩ : ∃ wo : World, wo = wr := ⟨_, rfl⟩
      go_upto_block 2 with fail
      go_cut [5] (fun v5 wx => v5 = .int .i64 ((rl c0 d : Nat) : Int) ∧ Hid (OwnB w.heap.size A cp out wx) ∧ Hid (Below w.heap.size w wx))
      case first =>
        go_wp2_with fail
        go_loopw [5] (fun v5 wx => ∃ (q z : Nat), v5 = .int .i64 z ∧ 1 ≤ z ∧ z ≤ b.length - i ∧ wx = wo.drewN q ∧ Hid (∀ j, j < z → d[j]? = some c0)) (fun v5 _ => b.length - i - (intOf v5).toNat)
        case atStart => exact ⟨0, 1, rfl, by omega, by omega, rfl, hst1⟩
        case round =>
          obtain ⟨q, z, rfl, hz1, hz2, rfl, hI⟩ := hrel
          have hz3 : (z : Int) ≤ 3000 := by omega
          have hBq : Below w.heap.size w (wo.drewN q) := hB.out.trans (((Keep.refl [] _).drewN q).below.mono hB.out.size)
          have hci := hcell0.out wo hB.out
          rcases Nat.lt_or_ge z (b.length - i) with hzl | hzg
          · have hzi : (i : Int) + (z : Int) < (b.length : Int) := by omega
            have hzj : decide ((i : Int) + (z : Int) < (b.length : Int)) = true := decide_eq_true hzi
            have hzk : decide (i + z < b.length) = true := decide_eq_true (by omega)
            have hdz : z < d.length := by rw [Hdl.out]; exact hzl
            have hz0 : (0 : Int) ≤ (i : Int) + (z : Int) := by omega
            have htn : ((i : Int) + (z : Int)).toNat = i + z := by omega
            have hcz := hDd.out z hdz wo hB.out
            have hcz2 : wo.cell? ⟨g, o + i + z, none⟩ = some (.int .u8 (d[z].toNat : Int)) := by rw [Nat.add_assoc]; exact hcz
            have hwz : IntKind.i64.wrap ((z : Int) + 1) = (z : Int) + 1 := by rw [IntKind.wrap_i64]; omega
            have hwi : IntKind.i64.wrap ((i : Int) + (z : Int)) = (i : Int) + (z : Int) := by rw [IntKind.wrap_i64]; omega
            have hyes : Hid (d[z] = c0 → ∀ j, j < z + 1 → d[j]? = some c0) := Lib.hid (fun he j hj => by
              rcases Nat.lt_succ_iff_lt_or_eq.1 hj with h | rfl
              · exact hI.out j h
              · rw [List.getElem?_eq_getElem hdz, he])
            have hno : Hid (d[z] ≠ c0 → rl c0 d = z) := Lib.hid (fun he => rl_stop c0 d z hI.out (fun x hx => by
              rw [List.getElem?_eq_getElem hdz] at hx
              cases hx
              exact he))
            generalize d[z] = y at *
            have HBq := Lib.hid hBq
            clear hI hdz hBq
            by_cases hy : y = c0
            · subst hy
              have HS := Lib.hid (hyes.out rfl)
              clear hyes hno
              go_wp2
              go_quiet (fail)
              go_wp2
              go_roundw
              case rel => exact ⟨_, z + 1, by simp, by omega, by omega, rfl, HS⟩
              case measure => simp [intOf]; omega
            · have hyn : y.toNat ≠ c0.toNat := fun e => hy (UInt8.toNat_inj.1 e)
              have hyb : ((y.toNat : Int) == (c0.toNat : Int)) = false := by rw [beq_eq_false_iff_ne]; omega
              have hyb2 : (y.toNat == c0.toNat) = false := by simpa using hyn
              have Hz9 := Lib.hid (hno.out hy)
              clear hyes hno hyn hy
              go_wp2
              go_quiet (fail)
              go_wp2
              go_meet
              exact ⟨by rw [Hz9.out], Lib.hid ((hO.out.drewN _).drewN _), Lib.hid (HBq.out.trans (((Keep.refl [] _).drewN _).below.mono HBq.out.size))⟩
          · obtain rfl : z = b.length - i := by omega
            have Hz9 := Lib.hid (rl_stop c0 d (b.length - i) hI.out (fun x hx => by
              rw [List.getElem?_eq_none_iff.2 (by rw [Hdl.out]; omega)] at hx
              cases hx))
            generalize hzv : b.length - i = z at *
            have Hzv := Lib.hid hzv
            have hzi : ¬ (i : Int) + (z : Int) < (b.length : Int) := by omega
            have hzj : decide ((i : Int) + (z : Int) < (b.length : Int)) = false := decide_eq_false hzi
            have hzk : decide (i + z < b.length) = false := decide_eq_false (by omega)
            have hwi : IntKind.i64.wrap ((i : Int) + (z : Int)) = (i : Int) + (z : Int) := by rw [IntKind.wrap_i64]; omega
            have HBq := Lib.hid hBq
            clear hI hBq hzv
            go_wp2
            go_quiet (fail)
            go_wp2
            go_meet
            exact ⟨by rw [Hz9.out], Lib.hid ((hO.out.drewN _).drewN _), Lib.hid (HBq.out.trans (((Keep.refl [] _).drewN _).below.mono HBq.out.size))⟩
      case rest =>
        obtain ⟨rfl, hO2, hB2⟩ := hcut
        obtain ⟨r, hr⟩ : ∃ r, r = rl c0 d := ⟨_, rfl⟩
        rw [← hr] at HRR Hr1 Hr2 ⊢
        have hr1 := Hr2.out
        have hr2 : r ≤ b.length - i := by have := Hr1.out; rw [Hdl.out] at this; exact this
        clear hr hO hB hDd Hd0 Hr1 Hr2 hst1
        have hci := hcell0.out _ hB2.out
        have hol2 : out.length ≤ 72000 := by omega
        have hri : (r : Int) ≤ 3000 := by omega
        have hwir : IntKind.i64.wrap ((i : Int) + (r : Int)) = (i : Int) + (r : Int) := by rw [IntKind.wrap_i64]; omega
        have hrt := runT_pos c0 r hr1
        have hrl := runT_len c0 r hr1 (by omega)
        have Hrt := Lib.hid hrt
        have Hrl := Lib.hid hrl
        clear hrt hrl
        by_cases h4 : 4 < r
        · have h4i : (4 : Int) < (r : Int) := by omega
          have hdl : (Lib.decDigits r).length ≤ 20 := by rw [Lib.decDigits_length]; exact Lib.nDigits_le20 r (by omega)
          obtain ⟨t1, ht1⟩ : ∃ t, t = pr c0 ++ [42] := ⟨_, rfl⟩
          obtain ⟨t2, ht2⟩ : ∃ t, t = t1 ++ Lib.decDigits r := ⟨_, rfl⟩
          obtain ⟨t3, ht3⟩ : ∃ t, t = t2 ++ [44] := ⟨_, rfl⟩
          have htx : t3 = runT c0 r := by
            unfold runT
            rw [if_neg (by omega), ht3, ht2, ht1]
            simp
          have hl3' : t3.length ≤ 72000 := by rw [htx]; have := Hrl.out; omega
          have ha1 := add_lists ht1 (by rw [ht1]; simp [pr])
          have ha2 := add_lists ht2 (by rw [ht3] at hl3'; simp at hl3'; omega)
          have ha3 := add_lists ht3 (by omega)
          have HX := Lib.hid htx
          clear ht1 ht2 ht3 htx hdl
          go_wp2_with (first
            | (go_at_call 26; refine (rpair_any c0 _).mono ?_; rintro e W1 ⟨rfl, hk1⟩)
            | (go_at_call 27; refine (plain_any r (by omega) _).mono ?_; rintro e W2 ⟨rfl, hk2⟩; obtain ⟨A', c', w7, hap, hO7, hB7⟩ := ownStr ((hO2.out.keep hk1).keep hk2) (Nat.le_trans hB2.out.size (Nat.le_trans hk1.size hk2.size)) t3 (by rw [HX.out]; exact Hrt.out) (by omega))
            | (at_builtin; refine wpList_append2 (v1 := .slice A out.length cp) (v2 := .string ⟨t3.toArray⟩) rfl (.tmp 37) (.tmp 47) rfl rfl rfl hap ?_))
          go_roundw
          case rel =>
            have hkk := (hk1.trans hk2).belowB hB2.out.size (by simp)
            refine ⟨A', c', out ++ runT c0 r, i + r, by rw [List.length_append, HX.out], by simp, by omega, ?_, fun _ => ?_, HX.out ▸ hO7, Lib.hid ((hB2.out.trans hkk).trans hB7.out), HRR⟩
            · have := Hrl.out
              rw [List.length_append]
              omega
            · intro e
              have := congrArg List.length e
              have h2 := Hrt.out
              rw [List.length_append, List.length_nil] at this
              omega
          case measure => simp [intOf]; omega
        · have h4i : ¬ (4 : Int) < (r : Int) := by omega
          have hrx : Hid (Lib.repeatL (pr c0) r = runT c0 r) := Lib.hid (by unfold runT; rw [if_pos (by omega)])
          have HOs : Hid (out.length = (out ++ Lib.repeatL (pr c0) 0).length ∧ OwnB w.heap.size A cp (out ++ Lib.repeatL (pr c0) 0) wc) := Lib.hid (by simpa [Lib.repeatL] using hO2.out)
          go_wp2
          go_loopw [3, 6] (fun v3 v6 wx => ∃ (A3 : Option Addr) (c3 k m : Nat), v3 = .slice A3 m c3 ∧ v6 = .int .i64 k ∧ k ≤ r ∧ Hid (m = (out ++ Lib.repeatL (pr c0) k).length ∧ OwnB w.heap.size A3 c3 (out ++ Lib.repeatL (pr c0) k) wx) ∧ Hid (Below w.heap.size w wx)) (fun _ v6 _ => r - (intOf v6).toNat)
          case atStart => exact ⟨A, cp, 0, out.length, rfl, rfl, by omega, HOs, hB2⟩
          case round =>
            obtain ⟨A3, c3, k, m, rfl, rfl, hkr, hO3, hB3⟩ := hrel
            rcases Nat.lt_or_ge k r with hk | hk
            · have hki : (k : Int) < (r : Int) := by omega
              have hwk : IntKind.i64.wrap ((k : Int) + 1) = (k : Int) + 1 := by rw [IntKind.wrap_i64]; omega
              have hci2 := hcell0.out _ hB3.out
              have hlen3 : (out ++ Lib.repeatL (pr c0) k).length ≤ 80000 := by rw [List.length_append, repeatL_len]; simp [pr]; omega
              have Hl3 := Lib.hid hlen3
              clear hci hlen3
              go_wp2_with (first
                | (go_at_call 26; refine (rpair_any c0 _).mono ?_; rintro e W1 ⟨rfl, hk1⟩; obtain ⟨A', c', w7, hap, hO7, hB7⟩ := ownStr (hO3.out.2.keep hk1) (Nat.le_trans hB3.out.size hk1.size) (pr c0) (by simp [pr]) (by have := Hl3.out; simp [pr] at this ⊢; omega); rw [← hO3.out.1] at hap)
                | (at_builtin; refine wpList_append2 (v1 := .slice A3 m c3) (v2 := .string ⟨(pr c0).toArray⟩) rfl (.tmp 54) (.tmp 59) rfl rfl rfl hap ?_))
              go_roundw
              case rel =>
                have hkk := hk1.belowB hB3.out.size (by simp)
                refine ⟨A', c', k + 1, m + (pr c0).length, rfl, by simp, by omega, Lib.hid ⟨?_, ?_⟩, Lib.hid ((hB3.out.trans hkk).trans hB7.out)⟩
                · rw [repeatL_succ, ← List.append_assoc, List.length_append, ← hO3.out.1]
                · rw [repeatL_succ, ← List.append_assoc]
                  exact hO7.out
              case measure => simp [intOf]; omega
            · obtain rfl : k = r := by omega
              have hki : ¬ (k : Int) < (k : Int) := by omega
              clear hci
              go_wp2
              go_roundw
              case rel =>
                obtain ⟨hm, hO4⟩ := hO3.out
                rw [hrx.out] at hm hO4
                refine ⟨A3, c3, out ++ runT c0 k, i + k, by rw [← hm], by simp, by omega, ?_, fun _ => ?_, Lib.hid hO4, hB3, HRR⟩
                · have := Hrl.out
                  rw [List.length_append]
                  omega
                · intro e
                  have := congrArg List.length e
                  have h2 := Hrt.out
                  rw [List.length_append, List.length_nil] at this
                  omega
              case measure => simp [intOf]; omega
    · obtain rfl : i = b.length := by omega
      have hil : ¬ (b.length : Int) < (b.length : Int) := by omega
      have hHR : Hid (hexRow b = out) := Lib.hid (hR.out.trans (by rw [List.drop_length]; simp [hexRow_nil]))
      have hone' : out ≠ [] := hone (List.length_pos_iff.2 H0.out)
      obtain ⟨g2, hA, _⟩ := hO.out.last hone'
      subst hA
      have hcv : ∀ n, (convert 22 9 (.slice (some ⟨g2, 0, none⟩) out.length cp)).run Tryd.prog (wr.drewN n) = .ok (.string ⟨out.toArray⟩) (wr.drewN n) := fun n =>
        run_convert_bytes_back (P := Tryd.prog) _ 22 9 5 ⟨g2, 0, none⟩ cp out Tryd.underlying22 Tryd.underlying5 Tryd.underlying9 (fun j hj => by
          rw [add_mk, Nat.zero_add, World.cell?_drewN]
          exact (ownsRow_cell hO.out (by simp [byteCells, hj])).1)
      have hcv0 := hcv 0
      rw [World.drewN_zero] at hcv0
      clear hone hone' hR hcv
      go_wp2
      go_ret
      rw [hHR.out]
      exact ⟨rfl, hB.out⟩
end Go.Proofs.YtopfbbnpbobhaaaDoor
