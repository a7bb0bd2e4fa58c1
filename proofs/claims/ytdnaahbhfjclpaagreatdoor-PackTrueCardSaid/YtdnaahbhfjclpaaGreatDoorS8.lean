/- slices.rotateCmpFunc, walked. -/
import Derived.Test.YtdnaahbhfjclpaaGreatDoorS5
set_option linter.unusedVariables false
set_option linter.unusedSimpArgs false
namespace Go.Huf
def swapK (L U M V R : List Nat) (i : Nat) : List Nat := L ++ (V.take i ++ U.drop i) ++ M ++ (U.take i ++ V.drop i) ++ R
theorem swapK_zero (L U M V R : List Nat) : swapK L U M V R 0 = L ++ U ++ M ++ V ++ R := by simp [swapK]
theorem swapK_all {L U M V R : List Nat} (h : U.length = V.length) : swapK L U M V R U.length = L ++ V ++ M ++ U ++ R := by
  unfold swapK
  rw [List.take_length, List.drop_length, h, List.take_length, List.drop_length]
  simp
theorem swapK_now {L U M V R : List Nat} {i : Nat} (hu : i < U.length) (hv : i < V.length) :
    swapK L U M V R i = (L ++ V.take i) ++ U[i] :: ((U.drop (i + 1) ++ M ++ U.take i) ++ V[i] :: (V.drop (i + 1) ++ R)) := by
  unfold swapK
  rw [List.drop_eq_getElem_cons hu, List.drop_eq_getElem_cons hv]
  simp only [List.append_assoc, List.cons_append, List.nil_append]
theorem swapK_next {L U M V R : List Nat} {i : Nat} (hu : i < U.length) (hv : i < V.length) :
    swapK L U M V R (i + 1) = (L ++ V.take i) ++ V[i] :: ((U.drop (i + 1) ++ M ++ U.take i) ++ U[i] :: (V.drop (i + 1) ++ R)) := by
  unfold swapK
  rw [List.take_succ_eq_append_getElem hu, List.take_succ_eq_append_getElem hv]
  simp only [List.append_assoc, List.cons_append, List.nil_append]
end Go.Huf
namespace Go.Proofs.YtdnaahbhfjclpaaGreatDoor
open Go.RowKit Go.Sal Go.Huf
theorem far_cells {w : World} {base g n cap : Nat} {Q S T : List Nat} {u v : Nat} (h : w.ownsRow base 3 1 (.slice (some ⟨g, 0, none⟩) n cap) n (inN (Q ++ u :: (S ++ v :: T)))) :
    w.cell? ⟨g, Q.length, none⟩ = some (.int .i64 (u : Nat)) ∧ w.cell? ⟨g, Q.length + 1 + S.length, none⟩ = some (.int .i64 (v : Nat)) ∧ w.frozen? ⟨g, Q.length, none⟩ = false ∧ w.frozen? ⟨g, Q.length + 1 + S.length, none⟩ = false ∧ Q.length + 1 + S.length < n := by
  have a := row_at h (i := Q.length) (x := u) (by simp)
  have e : (Q ++ u :: (S ++ v :: T))[Q.length + 1 + S.length]? = some v := by
    rw [List.getElem?_append_right (by omega), show Q.length + 1 + S.length - Q.length = S.length + 1 by omega]
    simp
  have b := row_at h e
  have := row_n h
  simp at this
  exact ⟨a.1, b.1, a.2, b.2, by omega⟩
theorem far_swap {w : World} {base g n cap : Nat} {Q S T : List Nat} {u v : Nat} (h : w.ownsRow base 3 1 (.slice (some ⟨g, 0, none⟩) n cap) n (inN (Q ++ u :: (S ++ v :: T)))) :
    ((w.setCell ⟨g, Q.length, none⟩ (.int .i64 (v : Nat))).setCell ⟨g, Q.length + 1 + S.length, none⟩ (.int .i64 (u : Nat))).ownsRow base 3 1 (.slice (some ⟨g, 0, none⟩) n cap) n (inN (Q ++ v :: (S ++ u :: T))) := by
  have hn := (far_cells h).2.2.2.2
  have h1 := row_set (row_set h Q.length v (by omega)) (Q.length + 1 + S.length) u (by omega)
  have e : ((Q ++ u :: (S ++ v :: T)).set Q.length v).set (Q.length + 1 + S.length) u = Q ++ v :: (S ++ u :: T) := by
    rw [List.set_append_right _ _ (by omega), List.set_append_right _ _ (by omega)]
    rw [show Q.length + 1 + S.length - Q.length = S.length + 1 by omega]
    simp
  rw [e] at h1
  exact h1
set_option maxRecDepth 20000 in
set_option maxHeartbeats 4000000 in
theorem swap_any (base g n cap : Nat) (L U M V R : List Nat) (w : World) (fv : Value) (h : w.ownsRow base 3 1 (.slice (some ⟨g, 0, none⟩) n cap) n (inN (L ++ U ++ M ++ V ++ R))) (hUV : U.length = V.length) (hn : n ≤ 1000000) :
    Calls Tryz.prog 170 #[.slice (some ⟨g, 0, none⟩) n cap, .int .i64 (L.length : Nat), .int .i64 ((L.length + U.length + M.length : Nat) : Int), .int .i64 (U.length : Nat), fv] w fun e w' =>
      e = .returned (.tuple #[]) ∧ SR w base g n cap (L ++ V ++ M ++ U ++ R) w' := by
  have H0 : Hid (SR w base g n cap (swapK L U M V R 0) w) := Lib.hid ⟨by rw [swapK_zero]; exact h, Keep.refl _ _⟩
  have Hall := Lib.hid (swapK_all (L := L) (M := M) (R := R) hUV)
  have hnl := row_n h
  simp only [List.length_append] at hnl
  obtain ⟨a, ha⟩ : ∃ a, a = L.length := ⟨_, rfl⟩
  obtain ⟨b, hb⟩ : ∃ b, b = L.length + U.length + M.length := ⟨_, rfl⟩
  obtain ⟨q, hq⟩ : ∃ q, q = U.length := ⟨_, rfl⟩
  rw [← hb, ← ha, ← hq]
  rw [← hq] at Hall
  have Hl := Lib.hid (And.intro (And.intro ha hb) (And.intro hq hUV))
  have hbn : b + q ≤ n := by omega
  have han : a + q ≤ n := by omega
  have hab : a + q ≤ b := by omega
  clear h hUV hnl ha hb hq
  go_enter Tryz.func170, Tryz.ntmps170
  go_wp2
  go_loopw [10] (fun i wr => ∃ k : Nat, i = .int .i64 k ∧ k ≤ q ∧ Hid (SR w base g n cap (swapK L U M V R k) wr)) (fun i _ => q - (intOf i).toNat)
  case atStart => exact ⟨0, rfl, by omega, H0⟩
  case round =>
    obtain ⟨k, rfl, hk, hI⟩ := hrel
    clear H0
    rcases Nat.lt_or_ge k q with hkl | hkl
    · as_aux_lemma =>
        obtain ⟨⟨ha, hb⟩, hq, hUV⟩ := Hl.out
        have hku : k < U.length := by omega
        have hkv : k < V.length := by omega
        obtain ⟨hrow, hkp⟩ := hI.out
        rw [swapK_now hku hkv] at hrow
        have hgl : g < wr.heap.size := (hrow.lt g rfl).2
        obtain ⟨c1, c2, z1, z2, hn2⟩ := far_cells hrow
        have hsw := far_swap (w := wr.drew) (ownsRow_keep hrow ((Keep.refl [] wr).drew) (by simp))
        rw [← swapK_next hku hkv] at hsw
        have e1 : (L ++ V.take k).length = a + k := by rw [List.length_append, List.length_take]; omega
        have e2 : (U.drop (k + 1) ++ M ++ U.take k).length = b - a - 1 := by simp only [List.length_append, List.length_take, List.length_drop]; omega
        rw [e1, e2, show a + k + 1 + (b - a - 1) = b + k by omega] at c2 z2 hsw
        rw [e1] at c1 z1
        generalize U[k] = u at *
        generalize V[k] = v at *
        have HN : Hid (SR w base g n cap (swapK L U M V R (k + 1)) (((wr.drew.setCell ⟨g, a + k, none⟩ (.int .i64 (v : Nat))).setCell ⟨g, b + k, none⟩ (.int .i64 (u : Nat))))) :=
          Lib.hid ⟨hsw, ((hkp.drew).setCell (.inl (by simp)) _).setCell (.inl (by simp)) _⟩
        have HS3 : Hid (∀ W : World, Keep [] wr W → W.cell? ⟨g, a + k, none⟩ = some (.int .i64 (u : Nat)) ∧ W.cell? ⟨g, b + k, none⟩ = some (.int .i64 (v : Nat))) := Lib.hid (fun W k2 => ⟨(k2.cell (p := ⟨g, a + k, none⟩) hgl (by simp)).trans c1, (k2.cell (p := ⟨g, b + k, none⟩) hgl (by simp)).trans c2⟩)
        have hS3 := HS3.out _ ((Keep.refl [] wr).drew)
        clear hI hrow hkp hsw ha hb hq hUV hku hkv hn2 e1 e2
        obtain ⟨pa, hpa⟩ : ∃ pa, pa = a + k := ⟨_, rfl⟩
        obtain ⟨pb, hpb⟩ : ∃ pb, pb = b + k := ⟨_, rfl⟩
        have hwa : IntKind.i64.wrap ((a : Int) + k) = (pa : Int) := by rw [IntKind.wrap_i64]; omega
        have hwb : IntKind.i64.wrap ((b : Int) + k) = (pb : Int) := by rw [IntKind.wrap_i64]; omega
        have hwk : IntKind.i64.wrap ((k : Int) + 1) = (k : Int) + 1 := by rw [IntKind.wrap_i64]; omega
        have hpan : (pa : Int) < n := by omega
        have hpbn : (pb : Int) < n := by omega
        have hpne : pb ≠ pa := by omega
        have hpne2 : pa ≠ pb := by omega
        rw [← hpa, ← hpb] at HN hS3
        rw [← hpa] at z1 c1
        rw [← hpb] at z2 c2
        clear hpa hpb hbn han hab
        go_wp2_with fail
        refine wp_region_G (fun W => W.cell? ⟨g, pa, none⟩ = some (.int .i64 (u : Nat)) ∧ W.cell? ⟨g, pb, none⟩ = some (.int .i64 (v : Nat))) [21, 23] #[false, false, false, false, false, false, false, false, false, false, false, false, false, false, false, false, false, false, false, false, false, false, false, false] 24 (by kernel_rfl) (by kernel_rfl) (by kernel_rfl) ?_
        refine wpAnyG_take0 (i := 0) (oi := ⟨_, _, _, _, _, _⟩) (v := ?vg1_0) rfl (by kernel_rfl) (by kernel_rfl) (by kernel_rfl) (by kernel_rfl) (fun _ _ _ h => h) (fun _ => hS3) (Or.inl ⟨by rfl, ?hg1_0⟩) ?_
        case hg1_0 => intro w _; go_simp; (try with_reducible rfl)
        try simp only [Act.put, List.setIfInBounds_toArray, List.set_cons_zero, List.set_cons_succ]
        refine wpAnyG_take0 (i := 1) (oi := ⟨_, _, _, _, _, _⟩) (v := ?vg1_1) rfl (by kernel_rfl) (by kernel_rfl) (by kernel_rfl) (by kernel_rfl) (fun _ _ _ h => h) (fun _ => hS3) (Or.inl ⟨by rfl, ?hg1_1⟩) ?_
        case hg1_1 => intro w _; go_simp; (try with_reducible rfl)
        try simp only [Act.put, List.setIfInBounds_toArray, List.set_cons_zero, List.set_cons_succ]
        refine wpAnyG_take0 (i := 2) (oi := ⟨_, _, _, _, _, _⟩) (v := ?vg1_2) rfl (by kernel_rfl) (by kernel_rfl) (by kernel_rfl) (by kernel_rfl) (fun _ _ _ h => h) (fun _ => hS3) (Or.inl ⟨by rfl, ?hg1_2⟩) ?_
        case hg1_2 => intro w _; go_simp; (try with_reducible rfl)
        try simp only [Act.put, List.setIfInBounds_toArray, List.set_cons_zero, List.set_cons_succ]
        refine wpAnyG_take0 (i := 3) (oi := ⟨_, _, _, _, _, _⟩) (v := ?vg1_3) rfl (by kernel_rfl) (by kernel_rfl) (by kernel_rfl) (by kernel_rfl) (fun _ _ _ h => h) (fun _ => hS3) (Or.inl ⟨by rfl, ?hg1_3⟩) ?_
        case hg1_3 => intro w _; go_simp; (try with_reducible rfl)
        try simp only [Act.put, List.setIfInBounds_toArray, List.set_cons_zero, List.set_cons_succ]
        refine wpAnyG_take0 (i := 4) (oi := ⟨_, _, _, _, _, _⟩) (v := ?vg1_4) rfl (by kernel_rfl) (by kernel_rfl) (by kernel_rfl) (by kernel_rfl) (fun _ _ _ h => h) (fun _ => hS3) (Or.inl ⟨by rfl, ?hg1_4⟩) ?_
        case hg1_4 => intro w _; go_simp; (try with_reducible rfl)
        try simp only [Act.put, List.setIfInBounds_toArray, List.set_cons_zero, List.set_cons_succ]
        refine wpAnyG_take0 (i := 5) (oi := ⟨_, _, _, _, _, _⟩) (v := ?vg1_5) rfl (by kernel_rfl) (by kernel_rfl) (by kernel_rfl) (by kernel_rfl) (fun _ _ _ h => h) (fun _ => hS3) (Or.inl ⟨by rfl, ?hg1_5⟩) ?_
        case hg1_5 => intro w _; go_simp; (try with_reducible rfl)
        try simp only [Act.put, List.setIfInBounds_toArray, List.set_cons_zero, List.set_cons_succ]
        refine wpAnyG_take0 (i := 6) (oi := ⟨_, _, _, _, _, _⟩) (v := ?vg1_6) rfl (by kernel_rfl) (by kernel_rfl) (by kernel_rfl) (by kernel_rfl) (fun _ _ _ h => h) (fun _ => hS3) (Or.inl ⟨by rfl, ?hg1_6⟩) ?_
        case hg1_6 => intro w _; go_simp; (try with_reducible rfl)
        try simp only [Act.put, List.setIfInBounds_toArray, List.set_cons_zero, List.set_cons_succ]
        refine wpAnyG_take0 (i := 7) (oi := ⟨_, _, _, _, _, _⟩) (v := ?vg1_7) rfl (by kernel_rfl) (by kernel_rfl) (by kernel_rfl) (by kernel_rfl) (fun _ _ _ h => h) (fun _ => hS3) (Or.inl ⟨by rfl, ?hg1_7⟩) ?_
        case hg1_7 => intro w _; go_simp; (try with_reducible rfl)
        try simp only [Act.put, List.setIfInBounds_toArray, List.set_cons_zero, List.set_cons_succ]
        refine wpAnyG_take0 (i := 8) (oi := ⟨_, _, _, _, _, _⟩) (v := ?vg1_8) rfl (by kernel_rfl) (by kernel_rfl) (by kernel_rfl) (by kernel_rfl) (fun _ _ _ h => h) (fun _ => hS3) (Or.inl ⟨by rfl, ?hg1_8⟩) ?_
        case hg1_8 => intro w _; go_simp; (try with_reducible rfl)
        try simp only [Act.put, List.setIfInBounds_toArray, List.set_cons_zero, List.set_cons_succ]
        refine wpAnyG_take0 (i := 9) (oi := ⟨_, _, _, _, _, _⟩) (v := ?vg1_9) rfl (by kernel_rfl) (by kernel_rfl) (by kernel_rfl) (by kernel_rfl) (fun _ _ _ h => h) (fun _ => hS3) (Or.inl ⟨by rfl, ?hg1_9⟩) ?_
        case hg1_9 => intro w _; go_simp; (try with_reducible rfl)
        try simp only [Act.put, List.setIfInBounds_toArray, List.set_cons_zero, List.set_cons_succ]
        refine wpAnyG_take0 (i := 10) (oi := ⟨_, _, _, _, _, _⟩) (v := ?vg1_10) rfl (by kernel_rfl) (by kernel_rfl) (by kernel_rfl) (by kernel_rfl) (fun _ _ _ h => h) (fun _ => hS3) (Or.inl ⟨by rfl, ?hg1_10⟩) ?_
        case hg1_10 => intro w _; go_simp; (try with_reducible rfl)
        try simp only [Act.put, List.setIfInBounds_toArray, List.set_cons_zero, List.set_cons_succ]
        refine wpAnyG_take0 (i := 11) (oi := ⟨_, _, _, _, _, _⟩) (v := ?vg1_11) rfl (by kernel_rfl) (by kernel_rfl) (by kernel_rfl) (by kernel_rfl) (fun _ _ _ h => h) (fun _ => hS3) (Or.inl ⟨by rfl, ?hg1_11⟩) ?_
        case hg1_11 => intro w _; go_simp; (try with_reducible rfl)
        try simp only [Act.put, List.setIfInBounds_toArray, List.set_cons_zero, List.set_cons_succ]
        refine wpAnyG_take0 (i := 12) (oi := ⟨_, _, _, _, _, _⟩) (v := ?vg1_12) rfl (by kernel_rfl) (by kernel_rfl) (by kernel_rfl) (by kernel_rfl) (fun _ _ _ h => h) (fun _ => hS3) (Or.inl ⟨by rfl, ?hg1_12⟩) ?_
        case hg1_12 => intro w _; go_simp; (try with_reducible rfl)
        try simp only [Act.put, List.setIfInBounds_toArray, List.set_cons_zero, List.set_cons_succ]
        refine wpAnyG_take (i := 13) (oi := ⟨_, _, _, _, _, _⟩) (v := ?vg1_13) [13, 20, 21, 22, 23] rfl (by kernel_rfl) (by kernel_rfl) (by kernel_rfl) (by kernel_rfl) (by kernel_rfl) (fun _ _ _ h => h) (fun _ => hS3) (Or.inl ⟨by rfl, ?hg1_13⟩) ?_
        case hg1_13 => intro w hSw; (try dsimp only at hSw); go_simp; (try with_reducible rfl)
        try simp only [Act.put, List.setIfInBounds_toArray, List.set_cons_zero, List.set_cons_succ]
        refine wpAnyG_take0 (i := 14) (oi := ⟨_, _, _, _, _, _⟩) (v := ?vg1_14) rfl (by kernel_rfl) (by kernel_rfl) (by kernel_rfl) (by kernel_rfl) (fun _ _ _ h => h) (fun _ => hS3) (Or.inl ⟨by rfl, ?hg1_14⟩) ?_
        case hg1_14 => intro w _; go_simp; (try with_reducible rfl)
        try simp only [Act.put, List.setIfInBounds_toArray, List.set_cons_zero, List.set_cons_succ]
        refine wpAnyG_take0 (i := 15) (oi := ⟨_, _, _, _, _, _⟩) (v := ?vg1_15) rfl (by kernel_rfl) (by kernel_rfl) (by kernel_rfl) (by kernel_rfl) (fun _ _ _ h => h) (fun _ => hS3) (Or.inl ⟨by rfl, ?hg1_15⟩) ?_
        case hg1_15 => intro w _; go_simp; (try with_reducible rfl)
        try simp only [Act.put, List.setIfInBounds_toArray, List.set_cons_zero, List.set_cons_succ]
        refine wpAnyG_take0 (i := 16) (oi := ⟨_, _, _, _, _, _⟩) (v := ?vg1_16) rfl (by kernel_rfl) (by kernel_rfl) (by kernel_rfl) (by kernel_rfl) (fun _ _ _ h => h) (fun _ => hS3) (Or.inl ⟨by rfl, ?hg1_16⟩) ?_
        case hg1_16 => intro w _; go_simp; (try with_reducible rfl)
        try simp only [Act.put, List.setIfInBounds_toArray, List.set_cons_zero, List.set_cons_succ]
        refine wpAnyG_take0 (i := 17) (oi := ⟨_, _, _, _, _, _⟩) (v := ?vg1_17) rfl (by kernel_rfl) (by kernel_rfl) (by kernel_rfl) (by kernel_rfl) (fun _ _ _ h => h) (fun _ => hS3) (Or.inl ⟨by rfl, ?hg1_17⟩) ?_
        case hg1_17 => intro w _; go_simp; (try with_reducible rfl)
        try simp only [Act.put, List.setIfInBounds_toArray, List.set_cons_zero, List.set_cons_succ]
        refine wpAnyG_take0 (i := 18) (oi := ⟨_, _, _, _, _, _⟩) (v := ?vg1_18) rfl (by kernel_rfl) (by kernel_rfl) (by kernel_rfl) (by kernel_rfl) (fun _ _ _ h => h) (fun _ => hS3) (Or.inl ⟨by rfl, ?hg1_18⟩) ?_
        case hg1_18 => intro w _; go_simp; (try with_reducible rfl)
        try simp only [Act.put, List.setIfInBounds_toArray, List.set_cons_zero, List.set_cons_succ]
        refine wpAnyG_take (i := 19) (oi := ⟨_, _, _, _, _, _⟩) (v := ?vg1_19) [19, 20, 21, 22, 23] rfl (by kernel_rfl) (by kernel_rfl) (by kernel_rfl) (by kernel_rfl) (by kernel_rfl) (fun _ _ _ h => h) (fun _ => hS3) (Or.inl ⟨by rfl, ?hg1_19⟩) ?_
        case hg1_19 => intro w hSw; (try dsimp only at hSw); go_simp; (try with_reducible rfl)
        try simp only [Act.put, List.setIfInBounds_toArray, List.set_cons_zero, List.set_cons_succ]
        refine wpAnyG_take0 (i := 20) (oi := ⟨_, _, _, _, _, _⟩) (v := ?vg1_20) rfl (by kernel_rfl) (by kernel_rfl) (by kernel_rfl) (by kernel_rfl) (fun _ _ _ h => h) (fun _ => hS3) (Or.inl ⟨by rfl, ?hg1_20⟩) ?_
        case hg1_20 => intro w _; go_simp; (try with_reducible rfl)
        try simp only [Act.put, List.setIfInBounds_toArray, List.set_cons_zero, List.set_cons_succ]
        refine wpAnyG_step (i := 21) (oi := ⟨_, _, _, _, _, _⟩) rfl (by kernel_rfl) (by rfl) (fun K hK => ?_)
        go_simp
        refine hK _ _ (fun h => absurd h (Bool.eq_false_iff.1 (by kernel_rfl))) (fun _ => ?_)
        clear hK
        try simp only [Act.put, List.setIfInBounds_toArray, List.set_cons_zero, List.set_cons_succ]
        refine wpAnyG_take0 (i := 22) (oi := ⟨_, _, _, _, _, _⟩) (v := ?vg1_22) rfl (by kernel_rfl) (by kernel_rfl) (by kernel_rfl) (by kernel_rfl) (fun _ _ _ h => h) (fun h => absurd h (Bool.eq_false_iff.1 (by kernel_rfl))) (Or.inl ⟨by rfl, ?hg1_22⟩) ?_
        case hg1_22 => intro w _; go_simp; (try with_reducible rfl)
        try simp only [Act.put, List.setIfInBounds_toArray, List.set_cons_zero, List.set_cons_succ]
        refine wpAnyG_step (i := 23) (oi := ⟨_, _, _, _, _, _⟩) rfl (by kernel_rfl) (by rfl) (fun K hK => ?_)
        go_simp
        refine hK _ _ (fun h => absurd h (Bool.eq_false_iff.1 (by kernel_rfl))) (fun _ => ?_)
        clear hK
        try simp only [Act.put, List.setIfInBounds_toArray, List.set_cons_zero, List.set_cons_succ]
        refine wpAnyG_done (by kernel_rfl) ?_ _
        go_wp2_with fail
        exact ⟨⟨k + 1, by simp, by omega, HN⟩, by simp [intOf]; omega⟩
    · obtain rfl : k = q := by omega
      rw [Hall.out] at hI
      go_wp2
      refine bodyPost_end (results_none rfl _ _ _) rfl ?_
      exact ⟨rfl, hI.out⟩
end Go.Proofs.YtdnaahbhfjclpaaGreatDoor

namespace Go.Proofs.YtdnaahbhfjclpaaGreatDoor
open Go.RowKit Go.Sal Go.Huf
def RoT (w : World) (base g n cap m : Nat) (T : List Nat) (p i j : Nat) (wr : World) : Prop :=
  ∃ L X Y R, L.length = p ∧ X.length = i ∧ Y.length = j ∧ p + i = m ∧ 0 < i ∧ 0 < j ∧ p + i + j ≤ n ∧ L ++ Y ++ X ++ R = T ∧ SR w base g n cap (L ++ X ++ Y ++ R) wr
theorem RoT.more {w wr : World} {base g n cap m p i j : Nat} {T : List Nat} (h : RoT w base g n cap m T p i j wr) (hn : n ≤ 1000000) (hij : j < i) (fv : Value) :
    Calls Tryz.prog 170 #[.slice (some ⟨g, 0, none⟩) n cap, .int .i64 (p : Nat), .int .i64 (m : Nat), .int .i64 (j : Nat), fv] wr fun e w' => e = .returned (.tuple #[]) ∧ RoT w base g n cap m T (p + j) (i - j) j w' := by
  obtain ⟨L, X, Y, R, rfl, rfl, rfl, hm, hi, hj, hpn, hT, hrow, hk⟩ := h
  have hx : X = X.take Y.length ++ X.drop Y.length := (List.take_append_drop _ _).symm
  have hl : (X.take Y.length).length = Y.length := by rw [List.length_take]; omega
  have hl2 : (X.drop Y.length).length = X.length - Y.length := by rw [List.length_drop]
  generalize X.take Y.length = U at *
  generalize X.drop Y.length = V at *
  subst hx
  have h2 := swap_any base g n cap L U V Y R wr fv (by simpa using hrow) hl hn
  rw [show L.length + U.length + V.length = m by simp at hm; omega, hl] at h2
  refine h2.mono ?_
  rintro e w' ⟨rfl, hr, hk2⟩
  refine ⟨rfl, L ++ Y, V, U, R, by simp, by omega, hl, by simp at hm hi hij ⊢; omega, by simp at hi hij ⊢; omega, hj, by simp at hpn hij ⊢; omega, ?_, ?_, hk.trans hk2⟩
  · rw [← hT]; simp
  · simpa using hr
theorem RoT.less {w wr : World} {base g n cap m p i j : Nat} {T : List Nat} (h : RoT w base g n cap m T p i j wr) (hn : n ≤ 1000000) (hij : i < j) (fv : Value) :
    Calls Tryz.prog 170 #[.slice (some ⟨g, 0, none⟩) n cap, .int .i64 (p : Nat), .int .i64 ((m + j - i : Nat) : Int), .int .i64 (i : Nat), fv] wr fun e w' => e = .returned (.tuple #[]) ∧ RoT w base g n cap m T p i (j - i) w' := by
  obtain ⟨L, X, Y, R, rfl, rfl, rfl, hm, hi, hj, hpn, hT, hrow, hk⟩ := h
  have hx : Y = Y.take (Y.length - X.length) ++ Y.drop (Y.length - X.length) := (List.take_append_drop _ _).symm
  have hl : (Y.take (Y.length - X.length)).length = Y.length - X.length := by rw [List.length_take]; omega
  have hl2 : (Y.drop (Y.length - X.length)).length = X.length := by rw [List.length_drop]; omega
  generalize Y.take (Y.length - X.length) = U at *
  generalize Y.drop (Y.length - X.length) = V at *
  subst hx
  have h2 := swap_any base g n cap L X U V R wr fv (by simpa using hrow) hl2.symm hn
  rw [show L.length + X.length + U.length = m + (U ++ V).length - X.length by simp at hl ⊢; omega] at h2
  refine h2.mono ?_
  rintro e w' ⟨rfl, hr, hk2⟩
  refine ⟨rfl, L, V, U, X ++ R, rfl, hl2, hl, by omega, by omega, by omega, by simp at hpn hij ⊢; omega, ?_, ?_, hk.trans hk2⟩
  · rw [← hT]; simp
  · simpa using hr
theorem RoT.last {w wr : World} {base g n cap m p i : Nat} {T : List Nat} (h : RoT w base g n cap m T p i i wr) (hn : n ≤ 1000000) (fv : Value) :
    Calls Tryz.prog 170 #[.slice (some ⟨g, 0, none⟩) n cap, .int .i64 (p : Nat), .int .i64 (m : Nat), .int .i64 (i : Nat), fv] wr fun e w' => e = .returned (.tuple #[]) ∧ SR w base g n cap T w' := by
  obtain ⟨L, X, Y, R, rfl, rfl, hl, hm, hi, hj, hpn, hT, hrow, hk⟩ := h
  have h2 := swap_any base g n cap L X [] Y R wr fv (by simpa using hrow) hl.symm hn
  rw [show L.length + X.length + ([] : List Nat).length = m by simp; omega] at h2
  refine h2.mono ?_
  rintro e w' ⟨rfl, hr, hk2⟩
  refine ⟨rfl, ?_, hk.trans hk2⟩
  rw [← hT]
  simpa using hr
set_option maxRecDepth 20000 in
set_option maxHeartbeats 4000000 in
theorem rotate_any (base g n cap : Nat) (L X Y R : List Nat) (w : World) (fv : Value) (h : w.ownsRow base 3 1 (.slice (some ⟨g, 0, none⟩) n cap) n (inN (L ++ X ++ Y ++ R))) (hX : 0 < X.length) (hY : 0 < Y.length) (hn : n ≤ 1000000) :
    Calls Tryz.prog 169 #[.slice (some ⟨g, 0, none⟩) n cap, .int .i64 (L.length : Nat), .int .i64 ((L.length + X.length : Nat) : Int), .int .i64 ((L.length + X.length + Y.length : Nat) : Int), fv] w fun e w' =>
      e = .returned (.tuple #[]) ∧ SR w base g n cap (L ++ Y ++ X ++ R) w' := by
  have hnl := row_n h
  simp only [List.length_append] at hnl
  obtain ⟨m, hm⟩ : ∃ m, m = L.length + X.length := ⟨_, rfl⟩
  have H0 : Hid (RoT w base g n cap m (L ++ Y ++ X ++ R) L.length X.length Y.length w) := Lib.hid ⟨L, X, Y, R, rfl, rfl, rfl, hm.symm, hX, hY, by omega, rfl, h, Keep.refl _ _⟩
  generalize L ++ Y ++ X ++ R = T at *
  generalize L.length = p0 at *
  generalize X.length = i0 at *
  generalize Y.length = j0 at *
  clear h
  have hmn : p0 + i0 + j0 ≤ n := by omega
  clear hnl
  subst hm
  have hw1 : IntKind.i64.wrap (((p0 + i0 : Nat) : Int) - p0) = (i0 : Int) := by rw [IntKind.wrap_i64]; omega
  have hw2 : IntKind.i64.wrap (((p0 + i0 + j0 : Nat) : Int) - ((p0 + i0 : Nat) : Int)) = (j0 : Int) := by rw [IntKind.wrap_i64]; omega
  obtain ⟨m, hm⟩ : ∃ m, m = p0 + i0 := ⟨_, rfl⟩
  obtain ⟨b, hb⟩ : ∃ b, b = p0 + i0 + j0 := ⟨_, rfl⟩
  rw [← hb, ← hm] at hw2
  rw [← hm] at hw1 H0
  rw [← hb, ← hm]
  have hmm : m ≤ n := by omega
  clear hm hb hmn
  go_enter Tryz.func169, Tryz.ntmps169
  go_wp2
  go_loopw [10, 11] (fun vi vj wr => ∃ p i j : Nat, vi = .int .i64 i ∧ vj = .int .i64 j ∧ p + i = m ∧ 0 < i ∧ 0 < j ∧ p + i + j ≤ n ∧ Hid (RoT w base g n cap m T p i j wr)) (fun vi vj _ => (intOf vi).toNat + (intOf vj).toNat)
  case atStart =>
    obtain ⟨_, _, _, _, _, _, _, h1, h2, h3, h4, _⟩ := H0.out
    exact ⟨p0, i0, j0, rfl, rfl, h1, h2, h3, h4, H0⟩
  case round =>
    obtain ⟨p, i, j, rfl, rfl, hpi, hi, hj, hpn, hI⟩ := hrel
    clear H0 hw1 hw2
    have hwp : IntKind.i64.wrap ((m : Int) - i) = (p : Int) := by rw [IntKind.wrap_i64]; omega
    rcases Nat.lt_trichotomy i j with hij | hij | hij
    · as_aux_lemma =>
        have Hc := Lib.hid (hI.out.less hn hij fv)
        have hne : ((i : Int) != j) = true := by simpa using (by omega : (i : Int) ≠ j)
        have hgt : ¬ (j : Int) < i := by omega
        have hwm : IntKind.i64.wrap ((m : Int) + j) = ((m + j : Nat) : Int) := by rw [IntKind.wrap_i64]; omega
        have hwq : IntKind.i64.wrap (((m + j : Nat) : Int) - i) = ((m + j - i : Nat) : Int) := by rw [IntKind.wrap_i64]; omega
        have hwj : IntKind.i64.wrap ((j : Int) - i) = ((j - i : Nat) : Int) := by rw [IntKind.wrap_i64]; omega
        obtain ⟨mj, hmj⟩ : ∃ mj, mj = m + j := ⟨_, rfl⟩
        obtain ⟨mji, hmji⟩ : ∃ mji, mji = mj - i := ⟨_, rfl⟩
        obtain ⟨ji, hji⟩ : ∃ ji, ji = j - i := ⟨_, rfl⟩
        rw [← hmj] at hwm hwq Hc
        rw [← hmji] at hwq Hc
        rw [← hji] at hwj Hc
        have Hji := Lib.hid hji
        clear hI hmj hmji hji
        go_wp2_with (go_at_call 170; refine Hc.out.mono ?_; rintro e w1 ⟨rfl, hS⟩; have HS := Lib.hid hS; clear hS)
        have hji := Hji.out
        exact ⟨⟨p, i, ji, rfl, rfl, hpi, hi, by omega, by omega, HS⟩, by simp [intOf]; omega⟩
    · subst hij
      have Hc := Lib.hid (hI.out.last hn fv)
      clear hI
      go_wp2_with (go_at_call 170; refine Hc.out.mono ?_; rintro e w1 ⟨rfl, hS⟩; have HS := Lib.hid hS; clear hS)
      refine bodyPost_end (results_none rfl _ _ _) rfl ?_
      exact ⟨rfl, HS.out⟩
    · as_aux_lemma =>
        have Hc := Lib.hid (hI.out.more hn hij fv)
        have hne : ((i : Int) != j) = true := by simpa using (by omega : (i : Int) ≠ j)
        have hgt : (j : Int) < i := by omega
        have hwj : IntKind.i64.wrap ((i : Int) - j) = ((i - j : Nat) : Int) := by rw [IntKind.wrap_i64]; omega
        obtain ⟨ij, hij2⟩ : ∃ ij, ij = i - j := ⟨_, rfl⟩
        rw [← hij2] at hwj Hc
        have Hij := Lib.hid hij2
        clear hI hij2
        go_wp2_with (go_at_call 170; refine Hc.out.mono ?_; rintro e w1 ⟨rfl, hS⟩; have HS := Lib.hid hS; clear hS)
        have hij2 := Hij.out
        exact ⟨⟨p + j, ij, j, rfl, rfl, by omega, by omega, hj, by omega, HS⟩, by simp [intOf]; omega⟩
end Go.Proofs.YtdnaahbhfjclpaaGreatDoor

