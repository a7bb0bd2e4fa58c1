/- Same, of two rows of the same tokens. -/
import Derived.Test.YtiejjbdmkgdniaaUa
import Derived.Laws.StructEq
set_option linter.unusedVariables false
set_option linter.unusedSimpArgs false
namespace Go.Proofs.Ytiejjbdmkgdniaa
open Go.RowKit Go.Sal Go.Huf Go.Cod
theorem neq_tok (a b : Int) (x : Nat) (w : World) : (binOp .neq 64 (.agg #[.int .i64 a, .int .i64 b, .int .u8 (x : Nat)]) (.agg #[.int .i64 a, .int .i64 b, .int .u8 (x : Nat)])).run Try.prog w = .ok (.bool false) w := by
  have z3 := Try.isAgg3
  have s3 := Try.sizeOf3
  have z5 := Try.isAgg5
  have s5 := Try.sizeOf5
  have u3 := Try.underlying3
  have u5 := Try.underlying5
  rw [run_neq_struct]
  rw [show (10000 : Nat) = 9999 + 1 from rfl, Op.equalIn]
  simp only [Sem.run_bind, run_underlying Try.underlying64, Result.andThen_ok]
  go_simp
set_option maxRecDepth 20000 in
set_option maxHeartbeats 2000000 in
theorem same_eq (l : List Tk) (A B : Option Addr) (ca cb : Nat) (w : World) (ha : TSrc w A l) (hb : TSrc w B l) (hl : l.length ≤ 100000000) :
    Calls Try.prog 17 #[.slice A l.length ca, .slice B l.length cb] w fun e w' => e = .returned (.bool true) ∧ Keep [] w w' := by
  have Ha := Lib.hid ha
  have Hb := Lib.hid hb
  have hn := neq_tok
  clear ha hb
  go_enter Try.func17, Try.ntmps17
  go_wp2
  go_loopw [5] (fun i wr => ∃ k q : Nat, i = .int .i64 k ∧ k ≤ l.length ∧ wr = w.drewN q) (fun i _ => l.length - (intOf i).toNat)
  case atStart => exact ⟨0, 0, rfl, by omega, rfl⟩
  case round =>
    obtain ⟨k, q, rfl, hk, rfl⟩ := hrel
    rcases Nat.lt_or_ge k l.length with hkl | hkl
    · as_aux_lemma =>
        obtain ⟨g, o, rfl, hg, d1, d2, d3⟩ := Ha.out.1 k hkl
        obtain ⟨g2, o2, rfl, hg2, e1, e2, e3⟩ := Hb.out.1 k hkl
        have hwk : IntKind.i64.wrap ((k : Int) + 1) = (k : Int) + 1 := by rw [IntKind.wrap_i64]; omega
        have hkai : (k : Int) < l.length := by omega
        generalize l[k] = t at *
        obtain ⟨d, m, x⟩ := t
        dsimp only at d1 d2 d3 e1 e2 e3
        go_wp2
        go_quiet (fail)
        go_wp2
        exact ⟨⟨k + 1, _, by simp, by omega, rfl⟩, by simp [intOf]; omega⟩
    · obtain rfl : k = l.length := by omega
      have hki : ¬ (l.length : Int) < l.length := by omega
      go_wp2
      go_ret
      exact ⟨rfl, (Keep.refl [] w).drewN _⟩
end Go.Proofs.Ytiejjbdmkgdniaa
