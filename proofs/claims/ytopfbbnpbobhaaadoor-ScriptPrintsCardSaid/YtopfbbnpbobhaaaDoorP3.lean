/- The iterator over runs. -/
import Derived.Test.YtopfbbnpbobhaaaDoorP2
import Derived.Test.YtopfbbnpbobhaaaDoorRf
import Derived.RangeFuncBound
import Derived.RangeFuncCalls
import Derived.RangeFuncLeaves
import Derived.Shelf.Abstract
import Derived.Shelf.RegionOpen
import Derived.OwnWalkIn
import Derived.TacticsInMore
import Derived.LoopNIn
import Derived.LoopIn
set_option linter.unusedVariables false
set_option linter.unusedSimpArgs false
namespace Go.Proofs.YtopfbbnpbobhaaaDoor
open Go.RowKit Go.Sal
attribute [local go_sem] Oper.semAt_some

def encRN (p : UInt8 × Nat) : Array Value := #[.int .u8 (p.1.toNat : Int), .int .i64 (p.2 : Int)]
structure KpR (n₀ Bn : Nat) (W W' : World) : Prop where
  below : Below n₀ W W'
  cell : W'.cell? ⟨Bn, 0, none⟩ = W.cell? ⟨Bn, 0, none⟩
  frozen : W'.frozen? ⟨Bn, 0, none⟩ = W.frozen? ⟨Bn, 0, none⟩
def leftOf (Bn : Nat) (W : World) : Nat := match W.cell? ⟨Bn, 0, none⟩ with | some (.slice _ n _) => n | _ => 0
theorem slice_from (g o m c z : Nat) (hz : z ≤ m) (hm : m ≤ c) : ∃ o3, Hid (z < m → o3 = o + z) ∧ ∀ W, (Instr.sliceAt 22 (.slice (some ⟨g, o, none⟩) m c) (some (.int .i64 (z : Int))) none none).run Tryd.prog W = .ok (.slice (some ⟨g, o3, none⟩) (m - z) (c - z)) W := by
  have hz' : (z : Int) ≤ (m : Int) := by omega
  by_cases h : z = c
  · refine ⟨o, Lib.hid (fun h2 => by omega), fun W => ?_⟩
    obtain rfl : m = z := by omega
    subst h
    go_simp
  · refine ⟨o + z, Lib.hid (fun _ => rfl), fun W => ?_⟩
    have h3 : ¬ c - z = 0 := by omega
    have h4 : z ≤ c := by omega
    go_simp
    intro e
    exact absurd e.symm h
set_option maxRecDepth 20000 in
set_option maxHeartbeats 4000000 in
theorem runs1_seq (n : Nat) (hn : 1 ≤ n) (Bn n₀ g o cap : Nat) (b : List UInt8) (w : World) (hg : g < n₀) (hBn : n₀ ≤ Bn)
    (hc : w.cell? ⟨Bn, 0, none⟩ = some (.slice (some ⟨g, o, none⟩) b.length cap)) (hf : w.frozen? ⟨Bn, 0, none⟩ = false)
    (hd : ∀ j (h : j < b.length), w.cell? ⟨g, o + j, none⟩ = some (.int .u8 (b[j].toNat : Int))) (hlen : b.length ≤ 100000) (hcap : b.length ≤ cap) :
    StSeq Fence.wide n Tryd.prog 40 #[.pointer (some ⟨Bn, 0, none⟩)] encRN (KpR n₀ Bn) Bn (runs b) w := by
  intro l J W hW hJ hJs hY h0
  refine callsIn_of_wp Tryd.func40 rfl trivial ?_ rfl
  simp only [Tryd.ntmps40, List.size_toArray, List.length_cons, List.length_nil, Nat.reduceAdd, Nat.reduceSub, Array.replicate_succ, Array.replicate_zero, List.push_toArray, List.append_toArray, List.nil_append, List.cons_append]
  gi_wp2
  gi_loopw [3] (fun s wr => ∃ (k c2 o2 : Nat) (pre : List (UInt8 × Nat)), k ≤ b.length ∧ (k < b.length → o2 = o + k) ∧ wr.cell? ⟨Bn, 0, none⟩ = some (.slice (some ⟨g, o2, none⟩) (b.length - k : Nat) c2) ∧ wr.frozen? ⟨Bn, 0, none⟩ = false ∧ b.length - k ≤ c2 ∧
      Hid (∀ j (h : j < b.length), wr.cell? ⟨g, o + j, none⟩ = some (.int .u8 (b[j].toNat : Int))) ∧ Hid (runs b = pre ++ runs (b.drop k)) ∧ J pre wr) (fun _ wr => leftOf Bn wr)
  case atStart => exact ⟨0, cap, o, [], by omega, fun _ => rfl, (hW.cell.trans hc), hW.frozen.trans hf, by omega, Lib.hid (fun j h => (hW.below.cell (p := ⟨g, o + j, none⟩) hg).trans (hd j h)), Lib.hid rfl, h0⟩
  case round =>
    obtain ⟨k, c2, o2, pre, hk, ho2, hcl, hfr, hc2, hD, hR, hJp⟩ := hrel
    rcases Nat.lt_or_ge k b.length with hlt | hge
    · obtain rfl := ho2 hlt
      clear ho2
      have hpos : (0 : Int) < ((b.length - k : Nat) : Int) := by omega
      have hm1 : 1 ≤ b.length - k := by omega
      have hm2 : b.length - k ≤ 100000 := by omega
      obtain ⟨d, hdd⟩ : ∃ d, d = b.drop k := ⟨_, rfl⟩
      have hdl : d.length = b.length - k := by rw [hdd]; simp
      have hDd : Hid (∀ j (h : j < d.length) q, (wr.drewN q).cell? ⟨g, o + k + j, none⟩ = some (.int .u8 (d[j].toNat : Int))) := Lib.hid (fun j h q => by
        have := hD.out (k + j) (by omega)
        rw [World.cell?_drewN, Nat.add_assoc, this]
        subst hdd
        simp)
      obtain ⟨c0, t0, hct⟩ : ∃ c0 t0, d = c0 :: t0 := by
        cases d with
        | nil => simp at hdl; omega
        | cons x t => exact ⟨x, t, rfl⟩
      have hK1 : Hid (runs b = (pre ++ [(c0, rl c0 d)]) ++ runs (b.drop (k + rl c0 d))) := Lib.hid (by
        rw [hR.out, ← hdd, hct, runs_cons, ← hct, hdd, List.drop_drop]
        simp)
      have hrle := rl_le c0 d
      have hrpos : 1 ≤ rl c0 d := by rw [hct]; exact rl_pos c0 t0
      have hd0 : d[0]? = some c0 := by rw [hct]; rfl
      have hcell0 : wr.cell? ⟨g, o + k, none⟩ = some (.int .u8 (c0.toNat : Int)) := by
        have := hDd.out 0 (by omega) 0
        rw [World.drewN_zero, Nat.add_zero] at this
        rw [this]
        simp [hct]
      clear hct hR
      have HK1 := Lib.hid (hK1.out)
      have Hd0 := Lib.hid hd0
      have Hdd := Lib.hid hdd
      have Hdl := Lib.hid hdl
      have Hr1 := Lib.hid hrle
      have Hr2 := Lib.hid hrpos
      clear hd0 hdd hdl hrle hrpos hK1
      generalize hm : b.length - k = m at *
      have Hm := Lib.hid hm
      clear hm
      have hst1 : Hid (∀ j, j < 1 → d[j]? = some c0) := Lib.hid (fun j hj => by
        have e : j = 0 := by omega
        rw [e]
        exact Hd0.out)
      have hYY : ∀ q, Hid (YieldAt Fence.wide (n - 1) Tryd.prog l #[.int .u8 (c0.toNat : Int), .int .i64 ((rl c0 d : Nat) : Int)] (wr.drewN q) fun e W' => e = .returned (.bool true) ∧ J (pre ++ [(c0, rl c0 d)]) W' ∧ KpR n₀ Bn (wr.drewN q) W') := fun q =>
        Lib.hid (hY pre (c0, rl c0 d) (wr.drewN q) ⟨_, HK1.out.symm⟩ (hJ pre wr _ none hJp ⟨rfl, rfl, rfl, Nat.le_refl _, fun _ _ _ => rfl⟩ (by simp)))
      have hfin : ∀ (q z o3 : Nat) (W3 : World), rl c0 d = z → 1 ≤ z → z ≤ m → (z < m → o3 = o + k + z) → KpR n₀ Bn (wr.drewN q) W3 → J (pre ++ [(c0, rl c0 d)]) W3 →
          (∃ (k c2' o2 : Nat) (pre : List (UInt8 × Nat)), k ≤ b.length ∧ (k < b.length → o2 = o + k) ∧ (W3.setCell ⟨Bn, 0, none⟩ (.slice (some ⟨g, o3, none⟩) (m - z) (c2 - z))).cell? ⟨Bn, 0, none⟩ = some (.slice (some ⟨g, o2, none⟩) (b.length - k : Nat) c2') ∧
            (W3.setCell ⟨Bn, 0, none⟩ (.slice (some ⟨g, o3, none⟩) (m - z) (c2 - z))).frozen? ⟨Bn, 0, none⟩ = false ∧ b.length - k ≤ c2' ∧
            Hid (∀ j (h : j < b.length), (W3.setCell ⟨Bn, 0, none⟩ (.slice (some ⟨g, o3, none⟩) (m - z) (c2 - z))).cell? ⟨g, o + j, none⟩ = some (.int .u8 (b[j].toNat : Int))) ∧ Hid (runs b = pre ++ runs (b.drop k)) ∧
            J pre (W3.setCell ⟨Bn, 0, none⟩ (.slice (some ⟨g, o3, none⟩) (m - z) (c2 - z)))) ∧
          leftOf Bn (W3.setCell ⟨Bn, 0, none⟩ (.slice (some ⟨g, o3, none⟩) (m - z) (c2 - z))) < leftOf Bn wr := by
        intro q z o3 W3 hz h1 h2 h3 hk3 hJ3
        have hm := Hm.out
        have hcl3 := hk3.cell.trans hcl
        have hfr3 := hk3.frozen.trans hfr
        have hcn : (W3.setCell ⟨Bn, 0, none⟩ (.slice (some ⟨g, o3, none⟩) (m - z) (c2 - z))).cell? ⟨Bn, 0, none⟩ = some (.slice (some ⟨g, o3, none⟩) (m - z) (c2 - z)) := World.cell?_setCell_same' _ _ _ (by rw [hcl3]; rfl)
        refine ⟨⟨k + z, c2 - z, o3, pre ++ [(c0, rl c0 d)], by omega, fun h => by rw [h3 (by omega)]; omega, ?_, ?_, by omega, Lib.hid (fun j h => ?_), Lib.hid (by rw [← hz]; exact HK1.out), hJs _ _ _ hJ3⟩, ?_⟩
        · rw [hcn, show b.length - (k + z) = m - z by omega]
        · rw [World.frozen?_setCell]; exact hfr3
        · have e : (W3.setCell ⟨Bn, 0, none⟩ (.slice (some ⟨g, o3, none⟩) (m - z) (c2 - z))).cell? ⟨g, o + j, none⟩ = W3.cell? ⟨g, o + j, none⟩ := World.cell?_of_block (Below.heap_setCell W3 ⟨Bn, 0, none⟩ _ g (by intro e; simp at e; omega))
          rw [e]
          exact (hk3.below.cell (p := ⟨g, o + j, none⟩) hg).trans (hD.out j h)
        · unfold leftOf
          rw [hcn, hcl]
          simp only
          omega
      have hposb : decide (0 < m) = true := by simp; omega
      gi_wp2
      gi_loopw [3] (fun i wr2 => ∃ (q z : Nat), i = .int .i64 z ∧ 1 ≤ z ∧ z ≤ m ∧ wr2 = wr.drewN q ∧ Hid (∀ j, j < z → d[j]? = some c0)) (fun i _ => m - (intOf i).toNat)
      case atStart => exact ⟨0, 1, rfl, by omega, by omega, rfl, hst1⟩
      case round =>
        obtain ⟨q, z, rfl, hz1, hz2, rfl, hI⟩ := hrel
        rcases Nat.lt_or_ge z m with hzl | hzg
        · have hzi : (z : Int) < (m : Int) := by omega
          have hz0 : ¬ (z : Int) < 0 := by omega
          have hdz : z < d.length := by rw [Hdl.out]; exact hzl
          have hcz : wr.cell? ⟨g, o + k + z, none⟩ = some (.int .u8 (d[z].toNat : Int)) := by
            have := hDd.out z hdz 0
            rwa [World.drewN_zero] at this
          have hwz : IntKind.i64.wrap ((z : Int) + 1) = (z : Int) + 1 := by rw [IntKind.wrap_i64]; omega
          have hyes : Hid (d[z] = c0 → ∀ j, j < z + 1 → d[j]? = some c0) := Lib.hid (fun he j hj => by
            rcases Nat.lt_succ_iff_lt_or_eq.1 hj with h | rfl
            · exact hI.out j h
            · rw [List.getElem?_eq_getElem hdz, he])
          have hno : Hid (d[z] ≠ c0 → rl c0 d = z) := Lib.hid (fun he => rl_stop c0 d z hI.out (fun x hx => by
            rw [List.getElem?_eq_getElem hdz] at hx
            cases hx
            exact he))
          generalize d[z] = y at *
          clear hI hdz
          by_cases hy : y = c0
          · subst hy
            have HS := Lib.hid (hyes.out rfl)
            clear hyes hno
            gi_wp2
            refine wpIn_wide.2 ?_
            go_quiet (fail)
            gi_wp2
            exact ⟨⟨_, z + 1, by simp, by omega, by omega, rfl, HS⟩, by simp [intOf]; omega⟩
          · have hyn : y.toNat ≠ c0.toNat := fun e => hy (UInt8.toNat_inj.1 e)
            have hyb : ((y.toNat : Int) == (c0.toNat : Int)) = false := by rw [beq_eq_false_iff_ne]; omega
            have hyb2 : (y.toNat == c0.toNat) = false := by simpa using hyn
            clear hyn
            have HS := Lib.hid (hno.out hy)
            clear hyes hno
            gi_wp2
            refine wpIn_wide.2 ?_
            go_quiet (fail)
            obtain ⟨o3, ho3, hsl⟩ : ∃ o3, Hid (z < m → o3 = o + k + z) ∧ ∀ W, (Instr.sliceAt 22 (.slice (some ⟨g, o + k, none⟩) m c2) (some (.int .i64 (z : Int))) none none).run Tryd.prog W = .ok (.slice (some ⟨g, o3, none⟩) (m - z) (c2 - z)) W := slice_from g (o + k) m c2 z hz2 hc2
            obtain ⟨fn, tmps, assign, body, hy9, hR9⟩ := (hYY (q + nq)).out
            have hz9 : rl c0 d = z := HS.out
            rw [hz9] at hy9
            clear hz9
            gi_wp2
            refine hR9.mono ?_
            rintro e W3 ⟨rfl, hJ3, hk3⟩
            have hcl3 := hk3.cell.trans hcl
            have hfr3 := hk3.frozen.trans hfr
            gi_wp2
            exact hfin _ z o3 W3 HS.out hz1 hz2 ho3.out hk3 hJ3
        · obtain rfl : z = m := by omega
          have HS := Lib.hid (rl_stop c0 d z hI.out (fun x hx => by
            rw [List.getElem?_eq_none_iff.2 (by rw [Hdl.out]; omega)] at hx
            cases hx))
          clear hI
          gi_wp2
          refine wpIn_wide.2 ?_
          go_quiet (fail)
          obtain ⟨o3, ho3, hsl⟩ : ∃ o3, Hid (z < z → o3 = o + k + z) ∧ ∀ W, (Instr.sliceAt 22 (.slice (some ⟨g, o + k, none⟩) z c2) (some (.int .i64 (z : Int))) none none).run Tryd.prog W = .ok (.slice (some ⟨g, o3, none⟩) (z - z) (c2 - z)) W := slice_from g (o + k) z c2 z (Nat.le_refl _) hc2
          obtain ⟨fn, tmps, assign, body, hy9, hR9⟩ := (hYY (q + nq)).out
          have hz9 : rl c0 d = z := HS.out
          rw [hz9] at hy9
          clear hz9
          gi_wp2
          refine hR9.mono ?_
          rintro e W3 ⟨rfl, hJ3, hk3⟩
          have hcl3 := hk3.cell.trans hcl
          have hfr3 := hk3.frozen.trans hfr
          gi_wp2
          have hq := hfin _ _ o3 W3 HS.out hz1 hz2 ho3.out hk3 hJ3
          simp only [Nat.sub_self] at hq
          exact hq
    · clear ho2
      obtain rfl : k = b.length := by omega
      have h0m : b.length - b.length = 0 := by omega
      rw [h0m] at hcl hc2
      have hR2 := hR.out
      rw [List.drop_length, runs_nil, List.append_nil] at hR2
      have HR := Lib.hid hR2
      clear hR hR2 hD
      gi_wp2
      go_end0
      exact ⟨⟨_, rfl⟩, HR.out ▸ hJp⟩
end Go.Proofs.YtopfbbnpbobhaaaDoor
