/- The taker of the program, walked: Take. -/
import Derived.Test.YtlkpecalkakpeaaTk1
set_option linter.unusedVariables false
set_option linter.unusedSimpArgs false
namespace Go.Proofs.Ytlkpecalkakpeaa
open Go.RowKit Go.Sal

theorem zero31 (w : World) : (zeroValue 31).run Try.prog w = .ok (.slice none 0 0) w := by kernel_rfl

def TakePost (base bt bm : Nat) (sz wt : Int) (l : List (Int × Value)) (N : Int) (b : List UInt8) (w : World) (e : Ending) (w' : World) : Prop :=
  ∃ v' ro es' cl', Reads base 5 w' v' b ∧ e = .returned (.tuple #[ro, .int .i64 (ttake sz wt l N v').1]) ∧
    Blk w' bt 81 #[.int .i64 sz, .int .i64 (ttake sz wt l N v').2.1, .map (some bm)] ∧ MapIs w' bm (ttake sz wt l N v').2.2.1 es' cl' ∧
    w'.ownsRow w.heap.size 33 2 ro (ttake sz wt l N v').2.2.2.length (flat (ttake sz wt l N v').2.2.2) ∧ Keep [bt, bm] w w'


theorem takePost_same {base bt bm : Nat} {sz wt : Int} {l : List (Int × Value)} {es : Array MapEntry} {cl : Nat} {N ec : Int} {v : Value} {b : List UInt8} {w w' : World}
    (hfin : ∀ x : Value, ttake sz wt l N x = (ec, wt, l, [])) (hT : Blk w bt 81 #[.int .i64 sz, .int .i64 wt, .map (some bm)]) (hM : MapIs w bm l es cl) (hv : Reads base 5 w v b) (hk : Keep [] w w') :
    TakePost base bt bm sz wt l N b w (.returned (.tuple #[.slice none 0 0, .int .i64 ec])) w' := by
  refine ⟨v, .slice none 0 0, es, cl, hv.keep hk noByte_nil, ?_, ?_, ?_, ?_, hk.mono (by simp)⟩
  · rw [hfin]
  · rw [hfin]; exact hT.keep hk (by simp)
  · rw [hfin]; exact hM.keep hk (by simp)
  · rw [hfin]; exact World.ownsRow_nil _ _ _ _

set_option maxRecDepth 20000 in
theorem take_err (base bt bm : Nat) (sz wt : Int) (l : List (Int × Value)) (es : Array MapEntry) (cl : Nat) (N : Int) (v : Value) (b : List UInt8) (w : World)
    (hT : Blk w bt 81 #[.int .i64 sz, .int .i64 wt, .map (some bm)]) (hM : MapIs w bm l es cl) (hv : Reads base 5 w v b)
    (hs1 : 1 ≤ sz) (hs2 : sz ≤ 64) (hN1 : -9223372036854775808 ≤ N) (hN2 : N ≤ 9223372036854775807) (hbad : N < 1 ∨ wt ≤ N - sz) :
    Calls Try.prog 12 #[.pointer (some ⟨bt, 0, none⟩), .agg #[.int .i64 N, v]] w (TakePost base bt bm sz wt l N b w) := by
  have hfin : ∀ x : Value, ttake sz wt l N x = (192, wt, l, []) := fun x => by unfold ttake; rw [if_pos hbad]
  have Hp := Lib.hid (fun w' (hk : Keep [] w w') => takePost_same hfin hT hM hv hk)
  have hTa := hT.alloc (.cells #[.int .i64 N, v] 33)
  clear hfin
  obtain ⟨A, c, rfl, _⟩ := hv
  have c0 : w.cell? ⟨bt, 0, none⟩ = some (.int .i64 sz) := hT.cell 0
  have c1 : w.cell? ⟨bt, 1, none⟩ = some (.int .i64 wt) := hT.cell 1
  have hlt : bt < w.heap.size := hT.lt
  clear hM hT
  by_cases h1 : N < 1
  · have hd : decide (N < 1) = true := by simpa using h1
    clear hbad
    go_enter Try.func12, Try.ntmps12
    go_wp2_with (first | (go_at_call 32; refine (tmade_any _ _ _ _ _ hTa hs1).mono ?_; rintro e w' ⟨rfl, rfl⟩))
    go_quiet (fail)
    go_wp2
    go_ret2
    exact Hp.out _ (by repeat (first | exact Keep.refl _ _ | apply Keep.drewN | apply Keep.alloc))
  · have hd : decide (N < 1) = false := by simpa using h1
    have hw : wt ≤ N - sz := by omega
    clear hbad
    go_enter Try.func12, Try.ntmps12
    go_wp2_with (first | (go_at_call 32; refine (tmade_any _ _ _ _ _ hTa hs1).mono ?_; rintro e w' ⟨rfl, rfl⟩))
    go_quiet (fail)
    go_wp2
    go_ret2
    exact Hp.out _ (by repeat (first | exact Keep.refl _ _ | apply Keep.drewN | apply Keep.alloc))

set_option maxRecDepth 20000 in
theorem take_skip (base bt bm : Nat) (sz wt : Int) (l : List (Int × Value)) (es : Array MapEntry) (cl : Nat) (N : Int) (v : Value) (b : List UInt8) (w : World)
    (hT : Blk w bt 81 #[.int .i64 sz, .int .i64 wt, .map (some bm)]) (hM : MapIs w bm l es cl) (hv : Reads base 5 w v b)
    (hs1 : 1 ≤ sz) (hs2 : sz ≤ 64) (hN1 : 1 ≤ N) (hN2 : N ≤ 9223372036854775807) (hw : N - sz < wt) (hs : N < wt ∨ (mlook l N).isSome = true) :
    Calls Try.prog 12 #[.pointer (some ⟨bt, 0, none⟩), .agg #[.int .i64 N, v]] w (TakePost base bt bm sz wt l N b w) := by
  have hfin : ∀ x : Value, ttake sz wt l N x = (0, wt, l, []) := fun x => by unfold ttake; rw [if_neg (by omega), if_pos hs]
  have Hp := Lib.hid (fun w' (hk : Keep [] w w') => takePost_same hfin hT hM hv hk)
  have hTa := hT.alloc (.cells #[.int .i64 N, v] 33)
  have hMa := fun n => hM.keep (((Keep.refl [] w).alloc (.cells #[.int .i64 N, v] 33)).drewN n) (by simp)
  clear hfin
  obtain ⟨A, c, rfl, _⟩ := hv
  have hlk := fun n => run_lookup_ok (P := Try.prog) (e := 31) Try.underlying79 Try.underlying3 _ (zero31 _) (hMa n) N
  have c0 : w.cell? ⟨bt, 0, none⟩ = some (.int .i64 sz) := hT.cell 0
  have c1 : w.cell? ⟨bt, 1, none⟩ = some (.int .i64 wt) := hT.cell 1
  have c2 : w.cell? ⟨bt, 2, none⟩ = some (.map (some bm)) := hT.cell 2
  have hlt : bt < w.heap.size := hT.lt
  clear hM hT hMa
  have hd : decide (N < 1) = false := by simp; omega
  by_cases h1 : N < wt
  · have hd : decide (N < wt) = true := by simpa using h1
    clear hs
    go_enter Try.func12, Try.ntmps12
    go_wp2_with (first | (go_at_call 32; refine (tmade_any _ _ _ _ _ hTa hs1).mono ?_; rintro e w' ⟨rfl, rfl⟩))
    go_quiet (fail)
    go_wp2
    go_quiet (fail)
    go_wp2
    go_quiet (fail)
    go_wp2
    go_ret2
    exact Hp.out _ (by repeat (first | exact Keep.refl _ _ | apply Keep.drewN | apply Keep.alloc))
  · have hd : decide (N < wt) = false := by simpa using h1
    have h2 : (mlook l N).isSome = true := by
      rcases hs with hs | hs
      · omega
      · exact hs
    clear hs
    go_enter Try.func12, Try.ntmps12
    go_wp2_with (first | (go_at_call 32; refine (tmade_any _ _ _ _ _ hTa hs1).mono ?_; rintro e w' ⟨rfl, rfl⟩))
    go_quiet (fail)
    go_wp2
    go_quiet (fail)
    go_wp2
    go_quiet (fail)
    go_wp2
    go_ret2
    exact Hp.out _ (by repeat (first | exact Keep.refl _ _ | apply Keep.drewN | apply Keep.alloc))

/-- the loop's relation: k rounds at most are to come -/
def TkInv (base bt bm : Nat) (sz N : Int) (w : World) (v' : Value) (b : List UInt8) (FIN : Int × List (Int × Value) × List (Int × Value)) (k : Nat) (wt : Int) (l out : List (Int × Value)) (ro : Value) (wr : World) : Prop :=
  ∃ es cl, Blk wr bt 81 #[.int .i64 sz, .int .i64 wt, .map (some bm)] ∧ MapIs wr bm l es cl ∧ wr.ownsRow w.heap.size 33 2 ro out.length (flat out) ∧ Keep [bt, bm] w wr ∧ Reads base 5 wr v' b ∧
    tdrain k wt l out = FIN ∧ 1 ≤ wt ∧ wt + l.length ≤ 4611686018427387905 ∧ (∀ p ∈ l, IsSl p.2) ∧ out.length + k ≤ 1001 ∧ l.length ≤ k

set_option maxRecDepth 20000 in
set_option maxHeartbeats 2000000 in
theorem take_main (base bt bm : Nat) (sz wt : Int) (l : List (Int × Value)) (es : Array MapEntry) (cl : Nat) (N : Int) (v : Value) (b : List UInt8) (w : World)
    (hT : Blk w bt 81 #[.int .i64 sz, .int .i64 wt, .map (some bm)]) (hM : MapIs w bm l es cl) (hv : Reads base 5 w v b) (hB : base ≤ w.heap.size) (hbl : b.length ≤ 140737488355328)
    (hs1 : 1 ≤ sz) (hs2 : sz ≤ 64) (hN1 : 1 ≤ N) (hN2 : N ≤ 9223372036854775807) (hw : N - sz < wt) (hs : wt ≤ N) (hs' : mlook l N = none) (hwt : 1 ≤ wt) (hwl : wt + l.length ≤ 4611686018427387904) (hone : ∀ p ∈ l, IsSl p.2) (hll : l.length ≤ 1000) (hbm : base ≤ bm) (hbt : base ≤ bt) :
    Calls Try.prog 12 #[.pointer (some ⟨bt, 0, none⟩), .agg #[.int .i64 N, v]] w (TakePost base bt bm sz wt l N b w) := by
  have hTa := hT.alloc (.cells #[.int .i64 N, v] 33)
  have hMa := fun n => hM.keep (((Keep.refl [] w).alloc (.cells #[.int .i64 N, v] 33)).drewN n) (by simp)
  obtain ⟨A, c, rfl, hv'⟩ := id hv
  have hlk := fun n => run_lookup_ok (P := Try.prog) (e := 31) Try.underlying79 Try.underlying3 _ (zero31 _) (hMa n) N
  rw [hs'] at hlk
  have c0 : w.cell? ⟨bt, 0, none⟩ = some (.int .i64 sz) := hT.cell 0
  have c1 : w.cell? ⟨bt, 1, none⟩ = some (.int .i64 wt) := hT.cell 1
  have c2 : w.cell? ⟨bt, 2, none⟩ = some (.map (some bm)) := hT.cell 2
  have hlt : bt < w.heap.size := hT.lt
  have hd : decide (N < 1) = false := by simp; omega
  have hd2 : decide (N < wt) = false := by simp; omega
  have HT := Lib.hid hT
  have HM := Lib.hid hM
  have Hv := Lib.hid hv
  have Hbl := Lib.hid hbl
  have Hwl := Lib.hid hwl
  have Hs' := Lib.hid hs'
  have Hone := Lib.hid hone
  have Hll := Lib.hid hll
  clear hone hll
  clear hM hT hMa hs' hv hv' hbl hwl
  go_enter Try.func12, Try.ntmps12
  go_wp2_with (first | (go_at_call 32; refine (tmade_any _ _ _ _ _ hTa hs1).mono ?_; rintro e w' ⟨rfl, rfl⟩))
  go_quiet (fail)
  go_wp2
  go_quiet (fail)
  go_wp2
  go_quiet (fail)
  go_wp2_with fail
  generalize hw3 : (World.drewN _ _) = w3
  have hk3 : Keep [] w w3 := by rw [← hw3]; repeat (first | exact Keep.refl _ _ | apply Keep.drewN | apply Keep.alloc)
  have hp3 : Blk w3 w.heap.size 33 #[.int .i64 N, .slice A b.length c] := by rw [← hw3]; exact Blk.new w 33 _
  clear hw3 hTa hlk c0 c1 c2
  have hT3 := HT.out.keep hk3 (by simp)
  have hM3 := HM.out.keep hk3 (by simp)
  have hv3 := Hv.out.keep hk3 noByte_nil
  have HM3 := Lib.hid hM3
  have Hv3 := Lib.hid hv3
  have hB3 : base ≤ w3.heap.size := by have := hk3.size; omega
  have d2 : w3.cell? ⟨bt, 2, none⟩ = some (.map (some bm)) := hT3.cell 2
  have p0 : w3.cell? ⟨w.heap.size, 0, none⟩ = some (.int .i64 N) := hp3.cell 0
  have p1 : w3.cell? ⟨w.heap.size, 1, none⟩ = some (.slice A b.length c) := hp3.cell 1
  have hl1 : bt < w3.heap.size := hT3.lt
  have hl2 : w.heap.size < w3.heap.size := hp3.lt
  have ne1 : bt ≠ bm := by
    rintro rfl
    have h1 := hT3
    unfold Blk at h1
    rw [hM3.heap] at h1
    cases h1
  have ne2 : w.heap.size ≠ bm := by
    intro h
    have h1 := hp3
    unfold Blk at h1
    rw [h, hM3.heap] at h1
    cases h1
  have NE := Lib.hid (And.intro ne1 ne2)
  clear hM3 hv3 ne1 ne2
  go_region_held3 (fun W => W.cell? ⟨bt, 2, none⟩ = some (.map (some bm)) ∧ W.cell? ⟨w.heap.size, 0, none⟩ = some (.int .i64 N) ∧ W.cell? ⟨w.heap.size, 1, none⟩ = some (.slice A b.length c))
    (first
      | go_keep
      | exact ⟨(hk4.cell hl1 (by simp)).trans d2, (hk4.cell hl2 (by simp)).trans p0, (hk4.cell hl2 (by simp)).trans p1⟩
      | exact ⟨(hk5.cell hm1 (by simp [NE.out.1])).trans ((hk4.cell hl1 (by simp)).trans d2), (hk5.cell hm2 (by simp [NE.out.2])).trans ((hk4.cell hl2 (by simp)).trans p0), (hk5.cell hm2 (by simp [NE.out.2])).trans ((hk4.cell hl2 (by simp)).trans p1)⟩)
    (first
      | (go_at_call 33; refine (clone_any base _ b _ ?_ ?_ ?_).mono ?_; exact hB3; exact Hv3.out; exact Hbl.out; rintro e w4 ⟨v', rfl, hr4, hk4⟩
         obtain ⟨w5, hup, hM5, hk5, hz5⟩ := run_mapUpdate_new (P := Try.prog) Try.underlying79 Try.underlying3 (HM3.out.keep (Keep.of_drew hk4) (by simp)) N v' Hs'.out
         have hm1 := Nat.lt_of_lt_of_le hl1 hk4.size
         have hm2 := Nat.lt_of_lt_of_le hl2 hk4.size))
  have Hu := Lib.hid hup
  clear hup d2 p0 p1
  have hT5 := (hT3.keep (Keep.of_drew hk4) (by simp)).keep hk5 (by simp [NE.out.1])
  have hk05 : Keep [bt, bm] w w5 := ((hk3.mono (by simp)).trans ((Keep.of_drew hk4).mono (by simp))).trans (hk5.mono (by simp))
  have hr5 := hr4.keep hk5 (noByte_map (HM3.out.keep (Keep.of_drew hk4) (by simp)).heap hbm noByte_nil)
  obtain ⟨FIN, hFIN⟩ : ∃ FIN, FIN = tdrain (l.length + 1) wt (l ++ [(N, v')]) [] := ⟨_, rfl⟩
  have HF := Lib.hid hFIN
  have hone' : ∀ p ∈ l ++ [(N, v')], IsSl p.2 := by
    intro p hp
    rcases List.mem_append.1 hp with hp | hp
    · exact Hone.out p hp
    · obtain ⟨A4, c4, rfl, _⟩ := hr4
      simp at hp
      subst hp
      exact ⟨_, _, _, rfl⟩
  have HI := Lib.hid (show TkInv base bt bm sz N w v' b FIN (l.length + 1) wt (l ++ [(N, v')]) [] (.slice none 0 0) w5 from
    ⟨_, _, hT5, hM5, World.ownsRow_nil _ _ _ _, hk05, hr5, hFIN.symm, hwt, by have := Hwl.out; simp; omega, hone', by have := Hll.out; simp; omega, by simp⟩)
  clear hFIN hone' hT5 hM5 hk05 hr5 hk5 hr4 hk4 hz5 hm1 hm2 hT3 hp3 hk3 hl1 hl2 hB3
  go_wp2_with fail
  go_loopg [8] (l.length + 1) (fun k ro wr => ∃ wt' l' out, TkInv base bt bm sz N w v' b FIN k wt' l' out ro wr)
  case atStart => exact ⟨_, _, _, HI.out⟩
  case round =>
    obtain ⟨wt', l', out, es', cl', hT6, hM6, hown6, hk6, hr6, hf6, hw1, hw2, hone6, hlen6, hlk6⟩ := hrel
    have hlk := fun n => run_lookup_ok (P := Try.prog) (w := wr.drewN n) (e := 31) Try.underlying79 Try.underlying3 _ (zero31 _) (hM6.keep ((Keep.refl [] wr).drewN n) (by simp)) wt'
    have c1 : wr.cell? ⟨bt, 1, none⟩ = some (.int .i64 wt') := hT6.cell 1
    have c02 : wr.cell? ⟨bt, 2, none⟩ = some (.map (some bm)) := hT6.cell 2
    have HT6 := Lib.hid hT6
    have HM6 := Lib.hid hM6
    have Hown6 := Lib.hid hown6
    have Hr6 := Lib.hid hr6
    have Hf6 := Lib.hid hf6
    have Hone6 := Lib.hid hone6
    have Hw2 := Lib.hid hw2
    clear hT6 hM6 hown6 hr6 hf6 hone6 hw2
    cases hml : mlook l' wt' with
    | none =>
      rw [hml] at hlk
      have Hml := Lib.hid hml
      clear hml
      go_wp2
      go_quiet (fail)
      go_wp2
      go_ret2
      have hfe : (wt', l', out) = FIN := by rw [← Hf6.out]; exact (tdrain_stop Hml.out).symm
      have hk7 : Keep [] wr (wr.drewN nq) := (Keep.refl _ _).drewN _
      have hfin : ttake sz wt l N v' = (0, FIN) := by
        unfold ttake
        rw [if_neg (by omega), if_neg (by rw [Hs'.out]; simp; omega), ← HF.out]
      refine ⟨v', u8, es', cl', Hr6.out.keep hk7 noByte_nil, ?_, ?_, ?_, ?_, hk6.trans (hk7.mono (by simp))⟩
      · rw [hfin]; rfl
      · rw [hfin, ← hfe]; exact HT6.out
      · rw [hfin, ← hfe]; exact HM6.out.keep hk7 (by simp)
      · rw [hfin, ← hfe]; exact Hown6.out
    | some vv =>
      obtain ⟨A2, n2, c2, rfl⟩ : IsSl vv := by
        have hml' := hml
        unfold mlook at hml'
        rw [Option.map_eq_some_iff] at hml'
        obtain ⟨p, hp, rfl⟩ := hml'
        exact Hone6.out p (List.mem_of_find?_eq_some hp)
      rw [hml] at hlk
      have Hml := Lib.hid hml
      clear hml
      go_wp2
      go_quiet (fail)
      go_wp2_with fail
      generalize hw7 : (World.drewN _ _) = w7
      have hk7 : Keep [] wr w7 := by rw [← hw7]; exact (Keep.refl _ _).drewN _
      clear hw7 c1 c02 hlk
      have hT7 := HT6.out.keep hk7 (by simp)
      have hM7 := HM6.out.keep hk7 (by simp)
      have hsome : (mlook l' wt').isSome = true := by rw [Hml.out]; rfl
      obtain ⟨w8, es8, hdel, hM8, hk8, hz8⟩ := run_delete_there (P := Try.prog) (w := w7.drew) Try.underlying79 Try.underlying3 (hM7.keep ((Keep.refl [] w7).drew) (by simp)) wt' 3 0 hsome
      have hT8 : Blk w8 bt 81 _ := (hT7.drew).keep hk8 (by simp [NE.out.1])
      have e1 : w7.cell? ⟨bt, 1, none⟩ = some (.int .i64 wt') := hT7.cell 1
      have e2 : w7.cell? ⟨bt, 2, none⟩ = some (.map (some bm)) := hT7.cell 2
      have f1 : w8.cell? ⟨bt, 1, none⟩ = some (.int .i64 wt') := hT8.cell 1
      have f2 : w8.cell? ⟨bt, 2, none⟩ = some (.map (some bm)) := hT8.cell 2
      have f3 : w8.frozen? ⟨bt, 1, none⟩ = false := hT8.free 1
      have hl8 : bt < w8.heap.size := hT8.lt
      have hlen := mdrop_len hsome
      have hown8 : w8.ownsRow w.heap.size 33 2 u8 out.length (flat out) := ownsRow_keep (ownsRow_keep Hown6.out (hk7.trans ((Keep.refl [] w7).drew)) (by simp)) hk8 (by
        intro g hg
        have := own_ne_map Hown6.out HM6.out.heap
        simp
        rintro rfl
        exact this hg)
      obtain ⟨ro9, w9, hap, hown9, hg9, hat9⟩ := run_append_src (P := Try.prog) (w8.alloc (.cells #[.int .i64 wt', .slice A2 n2 c2] 33)) 22 22 33 _ 2 32 w.heap.size Try.underlying22 payinfo rfl (by omega) u8 out.length (flat out)
        (hown8.alloc _) (some ⟨w8.heap.size, 0, none⟩) 1 1 [.int .i64 wt', .slice A2 n2 c2] (src_new w8 33 2 [.int .i64 wt', .slice A2 n2 c2] rfl) (by intro u hu; simp at hu; rcases hu with rfl | rfl; rfl; rfl) (by unfold maxLen; omega) (by omega) (by have := hk6.size; have := hk7.size; have := hk8.size; simp at *; omega)
      have nb := own_ne_blk hown8 hT8 (by decide)
      have hk9 : Keep u8.ownBlock.toList w8 w9 := Keep.grown ((Keep.refl _ w8).alloc _) hg9 (fun k hk => .inl (by simp [hk]))
      have hT9 : Blk w9 bt 81 _ := hT8.keep hk9 (by simp; exact nb)
      have g1 : w9.cell? ⟨bt, 1, none⟩ = some (.int .i64 wt') := hT9.cell 1
      have g3 : w9.frozen? ⟨bt, 1, none⟩ = false := hT9.free 1
      have hwr : -9223372036854775808 ≤ wt' + 1 ∧ wt' + 1 ≤ 9223372036854775807 := by have := Hw2.out; omega
      have HT9 := Lib.hid hT9
      have HT8 := Lib.hid hT8
      have HM8 := Lib.hid hM8
      have Hown9 := Lib.hid hown9
      have Hown8 := Lib.hid hown8
      have Hlen := Lib.hid hlen
      have Hk9 := Lib.hid hk9
      have Hat9 := Lib.hid hat9
      obtain ⟨hwr1, hwr2⟩ := hwr
      clear hT7 hM7 hsome hT8 hM8 hown8 hown9 hlen hk9 hT9 hg9 hat9 nb hz8
      go_region_held3 (fun W => W.cell? ⟨bt, 2, none⟩ = some (.map (some bm)) ∧ W.cell? ⟨bt, 1, none⟩ = some (.int .i64 wt'))
        (first
          | go_keep
          | exact ⟨f2, f1⟩)
        (first
          | (refine step_delete2 rfl (.tmp 78) (.tmp 82) rfl rfl rfl hdel ?_))
      go_wp2_with (first
        | (at_builtin; refine wpList_append2 (v1 := u8) (v2 := .slice (some ⟨w8.heap.size, 0, none⟩) 1 1) rfl (.tmp 83) (.tmp 90) rfl rfl rfl hap ?_))
      have hgk : 1 ≤ gk := by have := Hlen.out; omega
      obtain ⟨gm, rfl⟩ : ∃ gm, gk = gm + 1 := ⟨gk - 1, by omega⟩
      go_roundg gm
      case measure => omega
      case rel =>
        have hb8 : base ≤ bm := hbm
        refine ⟨wt' + 1, mdrop l' wt', out ++ [(wt', .slice A2 n2 c2)], es8, cl', HT9.out.set_ 1 _, ?_, ?_, ?_, ?_, ?_, by omega, ?_, ?_, ?_, ?_⟩
        · exact (HM8.out.keep Hk9.out (by
            have := own_ne_map Hown8.out HM8.out.heap
            simp; exact this)).keep ((Keep.refl [bt] w9).setCell (.inl (by simp)) _) (by simp; exact fun e => NE.out.1 e.symm)
        · have := Hown9.out
          rw [flat_snoc]
          simpa using ownsRow_keep this ((Keep.refl [bt] w9).setCell (p := ⟨bt, 1, none⟩) (.inl (by simp)) (.int .i64 (wt' + 1))) (by
            intro g hg
            have := own_ne_blk this HT9.out (by decide)
            simp
            rintro rfl
            exact this hg)
        · exact ((((hk6.trans (hk7.mono (by simp))).trans ((Keep.refl [bt, bm] w7).drew)).trans (hk8.mono (by simp))).step Hk9.out (by
            intro i hi
            right
            have := Hown8.out.lt i (by simpa using hi)
            omega)).setCell (.inl (by simp)) _
        · have h7 := Hr6.out.keep (hk7.drew) noByte_nil
          have h8 := h7.keep hk8 (noByte_map (HM6.out.keep hk7.drew (by simp)).heap hb8 noByte_nil)
          have h9 := h8.keep Hk9.out (by simpa using noByte_own (F := []) Hown8.out hB (by decide) noByte_nil)
          exact h9.keep ((Keep.refl [bt] w9).setCell (.inl (by simp)) _) (noByte_cons HT9.out (by decide) hbt noByte_nil)
        · have := Hf6.out
          rw [tdrain_step Hml.out] at this
          exact this
        · have := Hw2.out; have := Hlen.out; omega
        · intro p hp
          exact Hone6.out p (List.mem_of_mem_eraseP hp)
        · simp; omega
        · have := Hlen.out; omega
end Go.Proofs.Ytlkpecalkakpeaa
