/- The taker of the reference, walked: Take, the short ways. -/
import Derived.Test.YtlkpecalkakpeaaRk1
import Derived.Test.YtlkpecalkakpeaaReg
set_option linter.unusedVariables false
set_option linter.unusedSimpArgs false
namespace Go.Proofs.Ytlkpecalkakpeaa
open Go.RowKit Go.Sal

def RTkPost (base br : Nat) (sz wt : Int) (l : List (Int × Value)) (lv : Value) (N : Int) (b : List UInt8) (w : World) (e : Ending) (w' : World) : Prop :=
  ∃ v' ro lv', Reads base 5 w' v' b ∧ e = .returned (.tuple #[ro, .int .i64 (ttake sz wt l N v').1]) ∧
    Blk w' br 86 #[.int .i64 sz, .int .i64 (ttake sz wt l N v').2.1, lv'] ∧ w'.ownsRow base 33 2 lv' (ttake sz wt l N v').2.2.1.length (flat (ttake sz wt l N v').2.2.1) ∧
    w'.ownsRow w.heap.size 33 2 ro (ttake sz wt l N v').2.2.2.length (flat (ttake sz wt l N v').2.2.2) ∧ Keep (br :: lv.ownBlock.toList) w w'

theorem noByte_new {base : Nat} {tb : TypeId} {w : World} {F : List Nat} (h : ∀ k, k ∈ F → w.heap.size ≤ k) : NoByte base tb w F := fun k hk hb => by have := h k hk; have := hb.1; omega

theorem quiet_left {P : Program} {f : FuncId} {args : Array Value} {w : World} {n : Nat} {v : Value}
    (h : Calls P f args (w.drewN n) fun e w' => e = .returned v ∧ w.drewN n = w') : Calls P f args (w.drewN n) fun e w'' => e = .returned v ∧ ∃ m, w'' = w.drewN m :=
  h.mono fun _ _ ⟨he, hm⟩ => ⟨he, n, hm.symm⟩

theorem rtakePost_same {base br : Nat} {sz wt : Int} {l : List (Int × Value)} {lv : Value} {N ec : Int} {v : Value} {b : List UInt8} {w w' : World}
    (hfin : ∀ x : Value, ttake sz wt l N x = (ec, wt, l, [])) (hT : Blk w br 86 #[.int .i64 sz, .int .i64 wt, lv]) (hown : w.ownsRow base 33 2 lv l.length (flat l)) (hv : Reads base 5 w v b) (hk : Keep [] w w') :
    RTkPost base br sz wt l lv N b w (.returned (.tuple #[.slice none 0 0, .int .i64 ec])) w' := by
  refine ⟨v, .slice none 0 0, lv, hv.keep hk noByte_nil, ?_, ?_, ?_, ?_, hk.mono (by simp)⟩
  · rw [hfin]
  · rw [hfin]; exact hT.keep hk (by simp)
  · rw [hfin]; exact ownsRow_keep hown hk (by simp)
  · rw [hfin]; exact World.ownsRow_nil _ _ _ _

theorem mlook_fidx {α : Type} {l : List (Int × α)} {n : Int} : (mlook l n).isSome = true ↔ 0 ≤ fidx l n := by
  rw [← findIdx_look]
  unfold fidx
  cases h : l.findIdx? (fun p => p.1 == n) with
  | none => simp
  | some i => simp

set_option maxRecDepth 20000 in
theorem rtake_err (base br : Nat) (sz wt : Int) (l : List (Int × Value)) (lv : Value) (N : Int) (v : Value) (b : List UInt8) (w : World)
    (hT : Blk w br 86 #[.int .i64 sz, .int .i64 wt, lv]) (hown : w.ownsRow base 33 2 lv l.length (flat l)) (hv : Reads base 5 w v b)
    (hs1 : 1 ≤ sz) (hs2 : sz ≤ 64) (hN1 : -9223372036854775808 ≤ N) (hN2 : N ≤ 9223372036854775807) (hbad : N < 1 ∨ wt ≤ N - sz) :
    Calls Try.prog 13 #[.pointer (some ⟨br, 0, none⟩), .agg #[.int .i64 N, v]] w (RTkPost base br sz wt l lv N b w) := by
  have hfin : ∀ x : Value, ttake sz wt l N x = (192, wt, l, []) := fun x => by unfold ttake; rw [if_pos hbad]
  have Hp := Lib.hid (fun w' (hk : Keep [] w w') => rtakePost_same hfin hT hown hv hk)
  clear hfin
  obtain ⟨A, c, rfl, _⟩ := hv
  have c0 : w.cell? ⟨br, 0, none⟩ = some (.int .i64 sz) := hT.cell 0
  have c1 : w.cell? ⟨br, 1, none⟩ = some (.int .i64 wt) := hT.cell 1
  have hlt : br < w.heap.size := hT.lt
  clear hT hown
  by_cases h1 : N < 1
  · have hd : decide (N < 1) = true := by simpa using h1
    clear hbad
    go_enter Try.func13, Try.ntmps13
    go_wp2
    go_quiet (fail)
    go_wp2
    go_ret2
    exact Hp.out _ (by repeat (first | exact Keep.refl _ _ | apply Keep.drewN | apply Keep.alloc))
  · have hd : decide (N < 1) = false := by simpa using h1
    have hw : wt ≤ N - sz := by omega
    clear hbad
    go_enter Try.func13, Try.ntmps13
    go_wp2
    go_quiet (fail)
    go_wp2
    go_ret2
    exact Hp.out _ (by repeat (first | exact Keep.refl _ _ | apply Keep.drewN | apply Keep.alloc))

set_option maxRecDepth 20000 in
theorem rtake_skip (base br : Nat) (sz wt : Int) (l : List (Int × Value)) (lv : Value) (N : Int) (v : Value) (b : List UInt8) (w : World)
    (hT : Blk w br 86 #[.int .i64 sz, .int .i64 wt, lv]) (hown : w.ownsRow base 33 2 lv l.length (flat l)) (hv : Reads base 5 w v b)
    (hs1 : 1 ≤ sz) (hs2 : sz ≤ 64) (hN1 : 1 ≤ N) (hN2 : N ≤ 9223372036854775807) (hw : N - sz < wt) (hs : N < wt ∨ (mlook l N).isSome = true) (hl : l.length ≤ 1000) :
    Calls Try.prog 13 #[.pointer (some ⟨br, 0, none⟩), .agg #[.int .i64 N, v]] w (RTkPost base br sz wt l lv N b w) := by
  have hfin : ∀ x : Value, ttake sz wt l N x = (0, wt, l, []) := fun x => by unfold ttake; rw [if_neg (by omega), if_pos hs]
  have Hp := Lib.hid (fun w' (hk : Keep [] w w') => rtakePost_same hfin hT hown hv hk)
  clear hfin
  obtain ⟨A, c, rfl, _⟩ := hv
  have c0 : w.cell? ⟨br, 0, none⟩ = some (.int .i64 sz) := hT.cell 0
  have c1 : w.cell? ⟨br, 1, none⟩ = some (.int .i64 wt) := hT.cell 1
  have hlt : br < w.heap.size := hT.lt
  have hd : decide (N < 1) = false := by simp; omega
  have HR := Lib.hid (show RTk base br sz wt l w from ⟨lv, hT, hown⟩)
  clear hT hown
  by_cases h1 : N < wt
  · have hd : decide (N < wt) = true := by simpa using h1
    clear hs
    go_enter Try.func13, Try.ntmps13
    go_wp2
    go_quiet (fail)
    go_wp2
    go_quiet (fail)
    go_wp2
    go_ret2
    exact Hp.out _ (by repeat (first | exact Keep.refl _ _ | apply Keep.drewN | apply Keep.alloc))
  · have hd : decide (N < wt) = false := by simpa using h1
    have h2 : 0 ≤ fidx l N := by
      rcases hs with hs | hs
      · omega
      · exact mlook_fidx.1 hs
    clear hs
    go_enter Try.func13, Try.ntmps13
    go_wp2
    go_quiet (fail)
    go_wp2_with fail
    generalize hw3 : (World.drewN _ _) = w3
    have hk3 : Keep [] w w3 := by rw [← hw3]; repeat (first | exact Keep.refl _ _ | apply Keep.drewN | apply Keep.alloc)
    have hp3 : Blk w3 w.heap.size 33 #[.int .i64 N, .slice A b.length c] := by rw [← hw3]; exact Blk.new w 33 _
    clear hw3 c0 c1
    have HR3 : Hid (∀ n, RTk base br sz wt l (w3.drewN n)) := by
      obtain ⟨lv, h1, h2⟩ := HR.out
      exact fun n => ⟨lv, h1.keep (hk3.drewN n) (by simp), ownsRow_keep h2 (hk3.drewN n) (by simp)⟩
    obtain ⟨lv3, hT3, _⟩ := HR3.out 0
    have d1 : w3.cell? ⟨br, 1, none⟩ = some (.int .i64 wt) := hT3.cell 1
    have p0 : w3.cell? ⟨w.heap.size, 0, none⟩ = some (.int .i64 N) := hp3.cell 0
    have Hk3 := Lib.hid hk3
    clear hT3 hp3 hk3
    go_quiet ((go_at_call 34; exact quiet_left (find_any base br sz wt l _ _ (HR3.out _) (by omega))))
    go_wp2
    go_ret2
    exact Hp.out _ (Hk3.out.drewN _)
end Go.Proofs.Ytlkpecalkakpeaa
