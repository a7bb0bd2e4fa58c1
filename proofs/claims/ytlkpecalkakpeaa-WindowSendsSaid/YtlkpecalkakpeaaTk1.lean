/- The taker of the program, walked. -/
import Derived.Test.YtlkpecalkakpeaaRows
import Derived.Test.YtlkpecalkakpeaaTkPure
import Derived.BigQuiet
import Derived.Deep.RegionHeld3
import Derived.Deep.LoopGhost
import Derived.Lib.Hide
set_option linter.unusedVariables false
set_option linter.unusedSimpArgs false
namespace Go.Proofs.Ytlkpecalkakpeaa
open Go.RowKit Go.Sal

theorem tmade_any (bt : Nat) (sz wt : Int) (m : Value) (w : World) (hT : Blk w bt 81 #[.int .i64 sz, .int .i64 wt, m]) (h : 1 ≤ sz) :
    Calls Try.prog 32 #[.pointer (some ⟨bt, 0, none⟩)] w fun e w' => e = .returned (.bool true) ∧ w = w' := by
  have c0 : w.cell? ⟨bt, 0, none⟩ = some (.int .i64 sz) := hT.cell 0
  go_enter Try.func32, Try.ntmps32
  go_wp2
  go_ret
  exact ⟨by simp; try omega, rfl⟩

theorem u8info : (Try.prog.info? 5).map (fun i => (i.zero, i.size, i.bytes)) = some (some (.int .u8 0), 1, 1) := by kernel_rfl
theorem payinfo : (Try.prog.info? 33).map (fun i => (i.zero, i.size, i.bytes)) = some (some (.agg #[.int .i64 0, .slice none 0 0]), 2, 32) := by kernel_rfl

theorem clone_any (base : Nat) (v : Value) (bs : List UInt8) (w : World) (hB : base ≤ w.heap.size) (hv : Reads base 5 w v bs) (hl : bs.length ≤ 140737488355328) :
    Calls Try.prog 33 #[v] w fun e w' => ∃ v', e = .returned v' ∧ Reads base 5 w' v' bs ∧ Keep [] w w' := by
  obtain ⟨A, c, rfl, h1, h2, h3⟩ := hv
  cases A with
  | none =>
    have h0 : bs = [] := by
      apply Classical.byContradiction
      intro hne
      obtain ⟨a, ha, _⟩ := h3 hne
      cases ha
    subst h0
    have hq := fun W => Lib.run_eql_slice_nil (P := Try.prog) W 31 5 none 0 c 0 0 Try.underlying31
    go_enter Try.func33, Try.ntmps33
    go_wp2
    go_ret
    exact ⟨_, rfl, Reads.nil _ _ _, Keep.refl _ _⟩
  | some a =>
    have hq := fun W n => Lib.run_eql_slice_nil (P := Try.prog) W 31 5 (some a) n c 0 0 Try.underlying31
    have hs := (Reads.src (base := base) (tb := 5) (w := w.alloc (.cells #[] 5)) ⟨some a, c, rfl, h1, h2, fun hne => by
      obtain ⟨a', ha, hb, hc⟩ := h3 hne
      have hk : Keep [] w (w.alloc (.cells #[] 5)) := (Keep.refl [] w).alloc _
      exact ⟨a', ha, hb.keep hk (by simp), fun i hi => (hk.cell (by rw [add_block]; exact hb.1) (by simp)).trans (hc i hi)⟩⟩).2
    obtain ⟨v', w', hrun, hown, hg, hat⟩ := run_append_src (P := Try.prog) (w.alloc (.cells #[] 5)) 31 31 5 (.int .u8 0) 1 1 base Try.underlying31 u8info rfl (by omega) (.slice (some ⟨w.heap.size, 0, none⟩) 0 0) 0 []
      (World.ownsRow_made w #[] 0 hB (by simp [maxLen]) (by simp)) (some a) bs.length c _ hs (byteCells_one bs) (by unfold maxLen; omega) (by omega) (by simp; omega)
    have Hown := Lib.hid hown
    clear hl hs h3 hown hat
    clear h1 h2
    have hb := run_empty_slice (P := Try.prog) 31 5 _ _ _ Try.underlying31 u8info
    go_enter Try.func33, Try.ntmps33
    go_wp2_with (at_builtin; refine wpList_append2 rfl (.tmp 5) (.tmp 6) rfl rfl rfl hrun ?_)
    go_ret
    refine ⟨_, rfl, Reads.of_own Hown.out, ?_⟩
    exact ((Keep.refl [] w).alloc _).grown hg (fun k hk => by simp [Value.ownBlock] at hk; omega)
end Go.Proofs.Ytlkpecalkakpeaa
