/- A head out of the bytes that are left, walked. -/
import Derived.Test.YtdnaahbhfjclpaaGreatDoorXj
set_option linter.unusedVariables false
set_option linter.unusedSimpArgs false
namespace Go.Pck
def magic : List Nat := [83, 67, 72, 75]
def hdRaw (b : List Nat) : Nat := numP 2 ((b.drop 4).take 2)
def hdCode (b : List Nat) : Nat := numP 2 ((b.drop 6).take 2)
def hdDig (b : List Nat) : List Nat := (b.drop 8).take 32
def szOk (r k : Nat) : Bool := decide (1 ≤ r) && decide (r ≤ 4096) && decide (1 ≤ k) && decide (k ≤ 4100)
def hdIs (b : List Nat) : Bool := decide (44 ≤ b.length) && (b.take 4 == magic)
def hdOk (b : List Nat) : Bool := hdIs b && szOk (hdRaw b) (hdCode b)
end Go.Pck
namespace Go.Sal
open Go.RowKit
section
variable {P : Program}
theorem results_row_tmp {fn : Func} {p u : Tmp} {ty : TypeId} (h : fn.results = #[.cell p ty, .tmp u]) (tmps : Array Value) (w : World) (g : Nat) (t : TypeId) (cs : Array Value) (fr : Nat × Nat) (d : TypeDesc)
    (hp : tmps.getD p undef = .pointer (some ⟨g, 0, none⟩)) (hg : w.heap[g]? = some (.cells cs t fr))
    (hu : P.underlying ty = some d) (hd : (match d with | .struct _ | .array _ _ => true | _ => false) = true) (hi : (P.info? ty).map (·.size) = some cs.size) (x : Value) (hx : tmps.getD u undef = x) :
    (results fn tmps).run P w = .ok (.tuple #[.agg cs, x]) w := by
  subst hx
  have hp' : tmps[p]?.getD undef = .pointer (some ⟨g, 0, none⟩) := by simpa using hp
  simp [results, h, hp', asAddr, run_loadVar_row w g t ty cs fr d hg hu hd hi]
theorem results_row_tmp2 {fn : Func} {p u v : Tmp} {ty : TypeId} (h : fn.results = #[.cell p ty, .tmp u, .tmp v]) (tmps : Array Value) (w : World) (g : Nat) (t : TypeId) (cs : Array Value) (fr : Nat × Nat) (d : TypeDesc)
    (hp : tmps.getD p undef = .pointer (some ⟨g, 0, none⟩)) (hg : w.heap[g]? = some (.cells cs t fr))
    (hu : P.underlying ty = some d) (hd : (match d with | .struct _ | .array _ _ => true | _ => false) = true) (hi : (P.info? ty).map (·.size) = some cs.size) (x y : Value) (hx : tmps.getD u undef = x) (hy : tmps.getD v undef = y) :
    (results fn tmps).run P w = .ok (.tuple #[.agg cs, x, y]) w := by
  subst hx
  subst hy
  have hp' : tmps[p]?.getD undef = .pointer (some ⟨g, 0, none⟩) := by simpa using hp
  simp [results, h, hp', asAddr, run_loadVar_row w g t ty cs fr d hg hu hd hi]
end
end Go.Sal
namespace Go.Proofs.YtdnaahbhfjclpaaGreatDoor
open Go.RowKit Go.Sal Go.Pck Go.Huf Go.Cod
def HdR (w : World) (g B : Nat) (b : List Nat) (e : Ending) (w' : World) : Prop :=
  ∃ r k d, e = .returned (.tuple #[.agg (headC r k d).toArray, .bool (hdOk b)]) ∧ d.length = 32 ∧ (∀ x ∈ d, x < 256) ∧ (hdOk b = true → r = hdRaw b ∧ k = hdCode b ∧ d = hdDig b ∧ LfS w' g B (b.drop 40)) ∧ Keep [g] w w'
theorem built58z : Tryz.prog.built 58 [] = some (headC 0 0 H0).toArray := by kernel_rfl
theorem magB {l : List Nat} (hl : ∀ x ∈ l, x < 256) : ((strN l).toList == [83, 67, 72, 75]) = (l == magic) := by
  rw [ByteArray.toList_eq]
  have e1 : (strN l).data.toList = l.map UInt8.ofNat := by simp [strN]
  rw [e1]
  have back : ∀ l : List Nat, (∀ x ∈ l, x < 256) → (l.map UInt8.ofNat).map UInt8.toNat = l := fun l hl => by
    rw [List.map_map]
    conv => rhs; rw [← List.map_id l]
    apply List.map_congr_left
    intro x hx
    have := hl x hx
    simp
    omega
  by_cases h : l = magic
  · subst h; rfl
  · have h1 : (l == magic) = false := by simpa using h
    rw [h1]
    have h2 : ¬ (l.map UInt8.ofNat = [83, 67, 72, 75]) := fun e => h (by
      rw [← back l hl, e]; rfl)
    simpa using h2
set_option maxRecDepth 20000 in
set_option maxHeartbeats 1000000 in
theorem rhead_any (g B : Nat) (b : List Nat) (w : World) (hB : B ≤ w.heap.size) (hL : LfS w g B b) (hl : b.length ≤ 1000000) :
    Calls Tryz.prog 23 #[.pointer (some ⟨g, 0, none⟩)] w fun e w' => HdR w g B b e w' := by
  obtain ⟨w1, hw1⟩ : ∃ w1, w.alloc (.cells (headC 0 0 H0).toArray 58) = w1 := ⟨_, rfl⟩
  have k1 : Keep [] w w1 := by rw [← hw1]; exact (Keep.refl _ w).alloc _
  have hb1 : Blk w1 w.heap.size 58 (headC 0 0 H0).toArray := by rw [← hw1]; exact Blk.new w 58 _
  have hs1 : w1.heap.size = w.heap.size + 1 := by rw [← hw1, size_al]
  have hL1 := hL.keep0 k1
  have hgw : g < w.heap.size := by obtain ⟨A, c, h1, _⟩ := hL; exact h1.lt
  have z := zero58
  have hsz0 : (headC 0 0 H0).toArray.size = 34 := rfl
  have hone0 := all_oneCell_toArray (headC_one 0 0 H0)
  obtain ⟨A, c, hblk, hsrc, hne, hc⟩ := id hL1
  have c0 : w1.cell? ⟨g, 0, none⟩ = some (.slice A b.length c) := by rw [hblk.cell]; rfl
  have hg1 := hblk.lt
  have HH := Lib.hid (And.intro k1 (And.intro hb1 (And.intro hs1 (And.intro hL1 (And.intro hgw hB)))))
  have Hw1 := Lib.hid hw1
  clear hL hblk hsrc hne hc k1 hb1 hs1 hw1 hB
  change ∀ w, (zeroValue 58).run Tryz.prog w = .ok (.agg (headC 0 0 H0).toArray) w at z
  rcases Nat.lt_or_ge b.length 44 with h44 | h44
  · have hlt : (b.length : Int) < 44 := by omega
    have HF : Hid (hdOk b = false) := Lib.hid (by unfold hdOk hdIs; rw [show decide (44 ≤ b.length) = false by simpa using h44]; rfl)
    have hb2 : Blk w1 w.heap.size 58 (headC 0 0 H0).toArray := HH.out.2.1
    have HB2 : Hid (Blk (w1.setRow w.heap.size (headC 0 0 H0).toArray) w.heap.size 58 (headC 0 0 H0).toArray ∧ Keep [] w (w1.setRow w.heap.size (headC 0 0 H0).toArray)) := Lib.hid ⟨blk_same hb2, keep_setRow HH.out.1 (Nat.le_refl _) hb2⟩
    have hb58 := built58z
    generalize hC : (headC 0 0 H0).toArray = C at *
    have HC := Lib.hid hC
    clear hC
    go_enter Tryz.func23, Tryz.ntmps23
    go_upto_region 1 with (fail)
    rw [Hw1.out]
    go_upto_region 2 with (fail)
    refine wp_region_lit ?_
    refine wpList_buildTo rfl 58 _ rfl (some 20) rfl C (by simp only [List.map_toArray, List.map_nil]; exact hb58) ?_
    refine wpList_store_row rfl 58 (.tmp 2) (.tmp 20) rfl w.heap.size C rfl rfl 58 C hb2 (by rw [hsz0]; exact size58) rfl hone0 ?_
    go_wp2
    refine bodyPost_ret (v := .tuple #[.agg C, .bool false]) (results_row_tmp (ty := 58) rfl _ _ w.heap.size 58 _ (0, 0) _ rfl HB2.out.1 Tryz.underlying58 rfl (by rw [hsz0]; exact size58) (.bool false) rfl) rfl ?_
    exact ⟨0, 0, H0, by rw [HF.out, HC.out], rfl, by decide, fun h => (by rw [HF.out] at h; cases h), HB2.out.2.mono (by simp)⟩
  · have hge : ¬ (b.length : Int) < 44 := by omega
    have HT := Lib.hid (ltake_any 4 g B b w1 HH.out.2.2.2.1 (by omega))
    have HT4 : Hid (Calls Tryz.prog 26 #[.pointer (some ⟨g, 0, none⟩), .int .i64 4] w1 fun e w' => ∃ A, e = .returned (.slice A 4 4) ∧ BySrc w' A (b.take 4) ∧ (∀ a, A = some a → a.block ≠ g ∧ a.block < B) ∧ LfS w' g B (b.drop 4) ∧ Keep [g] w1 w') := HT
    have hl4 : (b.take 4).length = 4 := by rw [List.length_take]; omega
    have hcv : ∀ A w', BySrc w' A (b.take 4) → (convert 22 9 (.slice A 4 4)).run Tryz.prog w' = .ok (.string (strN (b.take 4))) w' := fun A w' hs => by
      have := str_src hs 4
      rw [hl4] at this
      exact this
    have Hcv := Lib.hid hcv
    have hbb : ∀ x ∈ b.take 4, x < 256 := fun x hx => by
      obtain ⟨A', c', _, h2, _⟩ := HH.out.2.2.2.1
      exact h2.2 x (List.mem_of_mem_take hx)
    have hmb := magB hbb
    have hge2 : decide (44 ≤ b.length) = true := by simpa using h44
    clear HT hcv hl4 hbb
    cases hm : (b.take 4 == magic) with
    | false =>
      rw [hm] at hmb
      have HF : Hid (hdOk b = false) := Lib.hid (by unfold hdOk hdIs; rw [hm, hge2]; rfl)
      have HB2 : Hid (∀ w2, Keep [g] w1 w2 → Blk w2 w.heap.size 58 (headC 0 0 H0).toArray ∧ Blk (w2.setRow w.heap.size (headC 0 0 H0).toArray) w.heap.size 58 (headC 0 0 H0).toArray ∧ Keep [g] w (w2.setRow w.heap.size (headC 0 0 H0).toArray)) := Lib.hid (fun w2 k2 => by
        have hb2 := HH.out.2.1.keep k2 (by have := HH.out.2.2.2.2.1; simp; omega)
        exact ⟨hb2, blk_same hb2, (HH.out.1.mono (by simp) |>.trans k2).step (G := [w.heap.size]) ⟨rfl, rfl, rfl, by simp, fun k hk hn => setRow_other w2 _ k _ (fun e => hn (by simp [e]))⟩ (fun i hi => .inr (by simp at hi; omega))⟩)
      have hb58 := built58z
      generalize hC : (headC 0 0 H0).toArray = C at *
      have HC := Lib.hid hC
      generalize strN (b.take 4) = S at *
      clear hC hm
      go_enter Tryz.func23, Tryz.ntmps23
      go_upto_region 1 with (fail)
      rw [Hw1.out]
      go_upto_region 2 with (go_at_call 26; refine HT4.out.mono ?_; rintro e w2 ⟨A2, rfl, hs2, hn2, hL2, hk2⟩; have hc2 := Hcv.out A2 w2 hs2; have H2 := Lib.hid (HB2.out w2 hk2); clear hs2 hn2 hL2 hk2)
      refine wp_region_lit ?_
      refine wpList_buildTo rfl 58 _ rfl (some 20) rfl C (by simp only [List.map_toArray, List.map_nil]; exact hb58) ?_
      refine wpList_store_row rfl 58 (.tmp 2) (.tmp 20) rfl w.heap.size C rfl rfl 58 C H2.out.1 (by rw [hsz0]; exact size58) rfl hone0 ?_
      go_wp2
      refine bodyPost_ret (v := .tuple #[.agg C, .bool false]) (results_row_tmp (ty := 58) rfl _ _ w.heap.size 58 _ (0, 0) _ rfl H2.out.2.1 Tryz.underlying58 rfl (by rw [hsz0]; exact size58) (.bool false) rfl) rfl ?_
      exact ⟨0, 0, H0, by rw [HF.out, HC.out], rfl, by decide, fun h => (by rw [HF.out] at h; cases h), H2.out.2.2⟩
    | true =>
      rw [hm] at hmb
      have HF : Hid (hdOk b = szOk (hdRaw b) (hdCode b)) := Lib.hid (by unfold hdOk hdIs; rw [hm, hge2]; rfl)
      generalize strN (b.take 4) = S at *
      clear hm
      go_enter Tryz.func23, Tryz.ntmps23
      go_upto_region 1 with (fail)
      rw [Hw1.out]
      go_upto_region 3 with (go_at_call 26; refine HT4.out.mono ?_; rintro e w2 ⟨A2, rfl, hs2, hn2, hL2, hk2⟩; have hc2 := Hcv.out A2 w2 hs2; have H2 := Lib.hid (And.intro hL2 hk2); clear hs2 hn2 hL2 hk2)
      refine region23 w2 g B b (Nat.le_trans HH.out.2.2.2.2.2 (Nat.le_trans HH.out.1.size H2.out.2.size)) (Nat.lt_of_lt_of_le hg1 H2.out.2.size) h44 H2.out.1 _ _ _ _ _ _ _ _ _ _ _ _ _ _ _ _ _ _ _ _ rfl ?_
      intro q W q1 q2 q3 q4 q5
      have HQ := Lib.hid (And.intro q1 (And.intro q2 (And.intro q3 (And.intro q4 q5))))
      clear q1 q2 q3 q4 q5
      simp only [F23, pt]
      go_upto_region 4 with (fail)
      have HD : Hid (Calls Tryz.prog 26 #[.pointer (some ⟨g, 0, none⟩), .int .i64 32] W fun e w' => ∃ A, e = .returned (.slice A 32 32) ∧ BySrc w' A (hdDig b) ∧ (∀ a, A = some a → a.block ≠ g ∧ a.block < B) ∧ LfS w' g B ((b.drop 8).drop 32) ∧ Keep [g] W w') :=
        Lib.hid (ltake_any 32 g B (b.drop 8) W HQ.out.2.2.2.1 (by rw [List.length_drop]; omega))
      have hdl : (hdDig b).length = 32 := by unfold hdDig; rw [List.length_take, List.length_drop]; omega
      have harr : ∀ (a : Addr) W, (Instr.arrayAt 44 (.slice (some a) 32 32)).run Tryz.prog W = .ok (.pointer (some a)) W := fun a W => by simp [Instr.arrayAt, run_underlying Tryz.underlying44]
      have HW4 : Hid (∀ ga o w3, ga < B → BySrc w3 (some ⟨ga, o, none⟩) (hdDig b) → LfS w3 g B ((b.drop 8).drop 32) → Keep [g] W w3 → ∃ w4, w3.setCells q 2 (inB (hdDig b)) = w4 ∧ w3.rangeAt ga o (inB (hdDig b)) ∧ w3.there q 2 32 ∧ Blk w4 q 58 (headC (hdRaw b) (hdCode b) (hdDig b)).toArray ∧ Blk w4 w.heap.size 58 (headC 0 0 H0).toArray ∧ LfS w4 g B (b.drop 40) ∧ Keep [g] w w4 ∧ w.heap.size ≠ q ∧ q < w3.heap.size) := Lib.hid (by
        intro ga o w3 hga hs3 hL3 hk3
        obtain ⟨q1, q2, q3, q4, q5⟩ := HQ.out
        obtain ⟨r1, r2, r3, r4, r5, r6⟩ := HH.out
        have hqw : w.heap.size + 1 ≤ q := Nat.le_trans (by rw [← r3]; exact H2.out.2.size) q1
        have hb3 := q3.keep hk3 (by simp; exact q2)
        have k3 : Keep [g] w w3 := (((r1.mono (by simp)).trans H2.out.2).trans q5).trans hk3
        have hz3 := ((r2.keep H2.out.2 (by simp; omega)).keep q5 (by simp; omega)).keep hk3 (by simp; omega)
        have hk4 : ∀ F, Keep (q :: F) w3 (w3.setCells q 2 (inB (hdDig b))) := fun F => keep_setCells (.inl (by simp)) _ _ _ (Keep.refl _ _)
        have hb4 : Blk (w3.setCells q 2 (inB (hdDig b))) q 58 (headC (hdRaw b) (hdCode b) (hdDig b)).toArray := by
          have h1 := blk_setCells (inB (hdDig b)) 2 _ _ hb3
          have h2 := putA_app (inB (hdDig b)) [Value.int .i64 (hdRaw b : Int), Value.int .i64 (hdCode b : Int)] (inB H0) [] (by rw [inB_len, inB_len, hdl]; rfl)
          have e1 : (headC (numP 2 ((b.drop 4).take 2)) (numP 2 ((b.drop 6).take 2)) H0) = [Value.int .i64 (hdRaw b : Int), Value.int .i64 (hdCode b : Int)] ++ (inB H0 ++ []) := by rw [List.append_nil]; rfl
          have e2 : headC (hdRaw b) (hdCode b) (hdDig b) = [Value.int .i64 (hdRaw b : Int), Value.int .i64 (hdCode b : Int)] ++ (inB (hdDig b) ++ []) := by rw [List.append_nil]; rfl
          rw [e1] at h1
          rw [e2, ← h2]
          exact h1
        refine ⟨_, rfl, ?_, there_blk hb3 2 32 (by rw [List.size_toArray, headC_len (by rfl)]; omega), hb4, hz3.keep (hk4 []) (by simp; omega), ?_, keep_setCells (.inr (by omega)) _ _ _ k3, by omega, hb3.lt⟩
        · have := rangeAt_src hs3 32
          rw [List.take_of_length_le (by omega)] at this
          exact this
        · have e : (b.drop 8).drop 32 = b.drop 40 := by rw [List.drop_drop]
          rw [← e]
          have hbq : B < q := by omega
          refine hL3.keep (hk4 []) (by simp; exact fun e => q2 e.symm) (fun A c hb a ha => ?_)
          obtain ⟨A', c', h1, _, h3, _⟩ := hL3
          have he : (#[Value.slice A ((b.drop 8).drop 32).length c] : Array Value) = #[.slice A' ((b.drop 8).drop 32).length c'] := by
            have := hb.symm.trans h1
            injection this with this
            injection this
          injection he with he
          injection he with he _
          injection he with he
          have := (h3 a (by rw [← he]; exact ha)).2
          simp
          omega)
      refine wp_region_lit ?_
      iterate 3 (refine wpList_plain rfl (fun K hK => ?_); go_simp; refine hK _ _ ?_; clear hK K)
      refine wpList_plain rfl (fun K hK => ?_)
      go_simp
      go_at_call 26
      refine HD.out.mono ?_
      rintro e w3 ⟨A3, rfl, hs3, hn3, hL3, hk3⟩
      obtain ⟨ga, o, rfl, -⟩ := hs3.1 0 (by omega)
      obtain ⟨w4, hw4, t1, t2, t3, t4, t5, t6, t7, hq3⟩ := HW4.out ga o w3 (hn3 _ rfl).2 hs3 hL3 hk3
      have hd256 := Lib.hid hs3.2
      have HX := Lib.hid (And.intro t1 (And.intro t2 (And.intro t3 (And.intro t4 (And.intro t5 (And.intro t6 t7))))))
      have Hw4 := Lib.hid hw4
      refine hK _ _ ?_
      clear hK K hs3 hn3 hL3 hk3 HW4 HD t1 t2 t3 t4 t5 t6 t7 hw4
      have hqlt := HX.out.2.2.1.lt
      have hsd : (inB (hdDig b)).toArray.size = 32 := by rw [List.size_toArray, inB_len, hdl]
      have hsd2 : (inB (hdDig b)).length = 32 := by rw [inB_len, hdl]
      have hod : (inB (hdDig b)).toArray.all (·.oneCell') = true := all_oneCell_toArray (inB_one _)
      refine wpList_plain rfl (fun K hK => ?_)
      go_simp
      refine hK _ _ ?_
      clear hK K
      refine wpList_load_mid rfl 44 (.tmp 34) rfl ga o rfl (inB (hdDig b)) _ HX.out.1 Tryz.underlying44 rfl (by rw [hsd2]; exact size44) ?_
      refine wpList_plain rfl (fun K hK => ?_)
      go_simp
      refine hK _ _ ?_
      clear hK K
      refine wpList_store_mid rfl 44 (.tmp 36) (.tmp 35) rfl q 2 (inB (hdDig b)).toArray rfl rfl (by rw [hsd]; exact HX.out.2.1) (by rw [hsd]; exact size44) hod ?_
      change wpList _ _ _ _ _ (w3.setCells q 2 (inB (hdDig b)))
      rw [Hw4.out]
      have hwq := HX.out.2.2.2.2.2.2
      have hBw := HH.out.2.2.2.2.2
      have HX2 := Lib.hid (And.intro HX.out.2.2.1 (And.intro HX.out.2.2.2.1 (And.intro HX.out.2.2.2.2.1 HX.out.2.2.2.2.2.1)))
      have c40 := head_cell0 HX2.out.1
      have c41 := head_cell1 HX2.out.1
      have HH0 := Lib.hid (And.intro hdl hd256.out)
      clear HX HQ H2 HT4 Hcv HH Hw4 hd256 hsd hsd2 hod hq3 harr hdl c0 hmb z
      generalize hraw : hdRaw b = r at *
      generalize hcode : hdCode b = kd at *
      have Hrk := Lib.hid (And.intro hraw hcode)
      have hC34 : (headC r kd (hdDig b)).toArray.size = 34 := by rw [List.size_toArray, headC_len HH0.out.1]
      have hone := all_oneCell_toArray (headC_one r kd (hdDig b))
      have hC34' : (Tryz.prog.info? 58).map (·.size) = some (headC r kd (hdDig b)).length := by rw [headC_len HH0.out.1]; exact size58
      clear hraw hcode
      have hm0 : ∀ W, Keep [w.heap.size] w4 W → W.cell? ⟨q, 0, none⟩ = some (.int .i64 (r : Int)) := fun W k => (k.cell hqlt (by simp; exact fun e => hwq e.symm)).trans c40
      have hm1 : ∀ W, Keep [w.heap.size] w4 W → W.cell? ⟨q, 1, none⟩ = some (.int .i64 (kd : Int)) := fun W k => (k.cell hqlt (by simp; exact fun e => hwq e.symm)).trans c41
      have hr0 : ∀ W, Keep [w.heap.size] w4 W → W.rangeAt q 0 (headC r kd (hdDig b)) := fun W k => rangeAt_blk0 (R := []) (by rw [List.append_nil]; exact HX2.out.1.keep k (by simp; exact fun e => hwq e.symm))
      have hSR : Keep [w.heap.size] w4 ((w4.drew).setRow w.heap.size (headC r kd (hdDig b)).toArray) :=
        ⟨rfl, rfl, rfl, by simp, fun k hk hn => (setRow_other w4.drew _ k _ (fun e => hn (by simp [e])))⟩
      have HFF := Lib.hid (And.intro (blk_same (c := (headC r kd (hdDig b)).toArray) HX2.out.2.1.drew) (And.intro (show Keep [g] w ((w4.drew).setRow w.heap.size (headC r kd (hdDig b)).toArray) from HX2.out.2.2.2.step hSR (fun i hi => .inr (by simp at hi; omega))) (show LfS ((w4.drew).setRow w.heap.size (headC r kd (hdDig b)).toArray) g B (b.drop 40) from HX2.out.2.2.1.keep hSR (by have := HH0.out; simp; omega) (fun A c hb a ha => by
        obtain ⟨A', c', h1, _, h3, _⟩ := HX2.out.2.2.1
        have he : (#[Value.slice A (b.drop 40).length c] : Array Value) = #[.slice A' (b.drop 40).length c'] := by
          have := hb.symm.trans h1
          injection this with this
          injection this
        injection he with he
        injection he with he _
        injection he with he
        have := (h3 a (by rw [← he]; exact ha)).2
        simp
        omega))))
      generalize hCE : headC r kd (hdDig b) = C at *
      have HCE := Lib.hid hCE
      generalize (headC 0 0 H0).toArray = C0 at *
      clear hCE c40 c41
      have hcase : ((1 : Int) ≤ (r : Int) ∧ (r : Int) ≤ 4096 ∧ (1 : Int) ≤ (kd : Int) ∧ szOk r kd = decide ((kd : Int) ≤ 4100)) ∨ (r = 0 ∧ szOk r kd = false) ∨ ((1 : Int) ≤ (r : Int) ∧ ¬ (r : Int) ≤ 4096 ∧ szOk r kd = false) ∨ ((1 : Int) ≤ (r : Int) ∧ (r : Int) ≤ 4096 ∧ kd = 0 ∧ szOk r kd = false) := by
        unfold szOk
        by_cases a1 : 1 ≤ r
        · by_cases a2 : r ≤ 4096
          · by_cases a3 : 1 ≤ kd
            · refine .inl ⟨by omega, by omega, by omega, ?_⟩
              have e : decide ((kd : Int) ≤ 4100) = decide (kd ≤ 4100) := by congr 1; exact propext ⟨fun h => by omega, fun h => by omega⟩
              rw [e]
              simp [a1, a2, a3]
            · exact .inr (.inr (.inr ⟨by omega, by omega, by omega, by simp [a3]⟩))
          · exact .inr (.inr (.inl ⟨by omega, by omega, by simp [a2]⟩))
        · exact .inr (.inl ⟨by omega, by simp [a1]⟩)
      go_upto_region 5 with (fail)
      refine wp_region_G (fun W => Keep [w.heap.size] w4 W) [] #[false, false, false, false, false, false, false, false, false, false, false, false, false, false, false, false, false, false, false, false, false] 21 (by kernel_rfl) (by kernel_rfl) (by kernel_rfl) ?_
      refine wpAnyG_take (i := 0) (oi := ⟨_, _, _, _, _, _⟩) (v := (.agg C.toArray)) [0, 19, 20] rfl (by kernel_rfl) (by kernel_rfl) (by kernel_rfl) (by kernel_rfl) (by kernel_rfl) (fun _ _ _ h => h) (fun _ => ((Keep.refl [w.heap.size] w4).drew)) (Or.inl ⟨by rfl, ?hg1_0⟩) ?_
      case hg1_0 => intro w hSw; (try dsimp only at hSw); exact quiet_load_mid 58 (.tmp 4) rfl q 0 rfl C _ (hr0 _ hSw) Tryz.underlying58 rfl hC34'
      try simp only [Act.put, List.setIfInBounds_toArray, List.set_cons_zero, List.set_cons_succ]
      refine wpAnyG_take0 (i := 1) (oi := ⟨_, _, _, _, _, _⟩) (v := ?vg1_1) rfl (by kernel_rfl) (by kernel_rfl) (by kernel_rfl) (by kernel_rfl) (fun _ _ _ h => h) (fun _ => ((Keep.refl [w.heap.size] w4).drew)) (Or.inl ⟨by rfl, ?hg1_1⟩) ?_
      case hg1_1 => intro w _; go_simp; (try with_reducible rfl)
      try simp only [Act.put, List.setIfInBounds_toArray, List.set_cons_zero, List.set_cons_succ]
      refine wpAnyG_take (i := 2) (oi := ⟨_, _, _, _, _, _⟩) (v := ?vg1_2) [2, 3, 4, 5, 6, 7, 8, 9, 10, 11, 12, 13, 14, 15, 16, 17, 18, 19, 20] rfl (by kernel_rfl) (by kernel_rfl) (by kernel_rfl) (by kernel_rfl) (by kernel_rfl) (fun _ _ _ h => h) (fun _ => ((Keep.refl [w.heap.size] w4).drew)) (Or.inl ⟨by rfl, ?hg1_2⟩) ?_
      case hg1_2 => intro w hSw; (try dsimp only at hSw); have m := hm0 _ hSw; go_simp; (try with_reducible rfl)
      try simp only [Act.put, List.setIfInBounds_toArray, List.set_cons_zero, List.set_cons_succ]
      rcases hcase with ⟨m1, m2, m3, m4⟩ | ⟨rfl, m4⟩ | ⟨m1, m2, m4⟩ | ⟨m1, m2, rfl, m4⟩
      · have Hm4 := Lib.hid m4
        clear m4
        refine wpAnyG_take0 (i := 3) (oi := ⟨_, _, _, _, _, _⟩) (v := ?vg1_3) rfl (by kernel_rfl) (by kernel_rfl) (by kernel_rfl) (by kernel_rfl) (fun _ _ _ h => h) (fun _ => ((Keep.refl [w.heap.size] w4).drew)) (Or.inl ⟨by rfl, ?hg1_3⟩) ?_
        case hg1_3 => intro w _; go_simp; (try with_reducible rfl)
        try simp only [Act.put, List.setIfInBounds_toArray, List.set_cons_zero, List.set_cons_succ]
        refine wpAnyG_take0 (i := 4) (oi := ⟨_, _, _, _, _, _⟩) (v := ?vg1_4) rfl (by kernel_rfl) (by kernel_rfl) (by kernel_rfl) (by kernel_rfl) (fun _ _ _ h => h) (fun _ => ((Keep.refl [w.heap.size] w4).drew)) (Or.inl ⟨by rfl, ?hg1_4⟩) ?_
        case hg1_4 => intro w _; go_simp; (try with_reducible rfl)
        try simp only [Act.put, List.setIfInBounds_toArray, List.set_cons_zero, List.set_cons_succ]
        refine wpAnyG_take0 (i := 5) (oi := ⟨_, _, _, _, _, _⟩) (v := ?vg1_5) rfl (by kernel_rfl) (by kernel_rfl) (by kernel_rfl) (by kernel_rfl) (fun _ _ _ h => h) (fun _ => ((Keep.refl [w.heap.size] w4).drew)) (Or.inl ⟨by rfl, ?hg1_5⟩) ?_
        case hg1_5 => intro w _; go_simp; (try with_reducible rfl)
        try simp only [Act.put, List.setIfInBounds_toArray, List.set_cons_zero, List.set_cons_succ]
        refine wpAnyG_take (i := 6) (oi := ⟨_, _, _, _, _, _⟩) (v := ?vg1_6) [6, 7, 8, 9, 10, 11, 12, 13, 14, 15, 16, 17, 18, 19, 20] rfl (by kernel_rfl) (by kernel_rfl) (by kernel_rfl) (by kernel_rfl) (by kernel_rfl) (fun _ _ _ h => h) (fun _ => ((Keep.refl [w.heap.size] w4).drew)) (Or.inl ⟨by rfl, ?hg1_6⟩) ?_
        case hg1_6 => intro w hSw; (try dsimp only at hSw); have m := hm0 _ hSw; go_simp; (try with_reducible rfl)
        try simp only [Act.put, List.setIfInBounds_toArray, List.set_cons_zero, List.set_cons_succ]
        refine wpAnyG_take0 (i := 7) (oi := ⟨_, _, _, _, _, _⟩) (v := ?vg1_7) rfl (by kernel_rfl) (by kernel_rfl) (by kernel_rfl) (by kernel_rfl) (fun _ _ _ h => h) (fun _ => ((Keep.refl [w.heap.size] w4).drew)) (Or.inl ⟨by rfl, ?hg1_7⟩) ?_
        case hg1_7 => intro w _; go_simp; (try with_reducible rfl)
        try simp only [Act.put, List.setIfInBounds_toArray, List.set_cons_zero, List.set_cons_succ]
        refine wpAnyG_take0 (i := 8) (oi := ⟨_, _, _, _, _, _⟩) (v := ?vg1_8) rfl (by kernel_rfl) (by kernel_rfl) (by kernel_rfl) (by kernel_rfl) (fun _ _ _ h => h) (fun _ => ((Keep.refl [w.heap.size] w4).drew)) (Or.inl ⟨by rfl, ?hg1_8⟩) ?_
        case hg1_8 => intro w _; go_simp; (try with_reducible rfl)
        try simp only [Act.put, List.setIfInBounds_toArray, List.set_cons_zero, List.set_cons_succ]
        refine wpAnyG_take0 (i := 9) (oi := ⟨_, _, _, _, _, _⟩) (v := ?vg1_9) rfl (by kernel_rfl) (by kernel_rfl) (by kernel_rfl) (by kernel_rfl) (fun _ _ _ h => h) (fun _ => ((Keep.refl [w.heap.size] w4).drew)) (Or.inl ⟨by rfl, ?hg1_9⟩) ?_
        case hg1_9 => intro w _; go_simp; (try with_reducible rfl)
        try simp only [Act.put, List.setIfInBounds_toArray, List.set_cons_zero, List.set_cons_succ]
        refine wpAnyG_take0 (i := 10) (oi := ⟨_, _, _, _, _, _⟩) (v := ?vg1_10) rfl (by kernel_rfl) (by kernel_rfl) (by kernel_rfl) (by kernel_rfl) (fun _ _ _ h => h) (fun _ => ((Keep.refl [w.heap.size] w4).drew)) (Or.inl ⟨by rfl, ?hg1_10⟩) ?_
        case hg1_10 => intro w _; go_simp; (try with_reducible rfl)
        try simp only [Act.put, List.setIfInBounds_toArray, List.set_cons_zero, List.set_cons_succ]
        refine wpAnyG_take (i := 11) (oi := ⟨_, _, _, _, _, _⟩) (v := ?vg1_11) [11, 12, 13, 14, 15, 16, 17, 18, 19, 20] rfl (by kernel_rfl) (by kernel_rfl) (by kernel_rfl) (by kernel_rfl) (by kernel_rfl) (fun _ _ _ h => h) (fun _ => ((Keep.refl [w.heap.size] w4).drew)) (Or.inl ⟨by rfl, ?hg1_11⟩) ?_
        case hg1_11 => intro w hSw; (try dsimp only at hSw); have m := hm1 _ hSw; go_simp; (try with_reducible rfl)
        try simp only [Act.put, List.setIfInBounds_toArray, List.set_cons_zero, List.set_cons_succ]
        refine wpAnyG_take0 (i := 12) (oi := ⟨_, _, _, _, _, _⟩) (v := ?vg1_12) rfl (by kernel_rfl) (by kernel_rfl) (by kernel_rfl) (by kernel_rfl) (fun _ _ _ h => h) (fun _ => ((Keep.refl [w.heap.size] w4).drew)) (Or.inl ⟨by rfl, ?hg1_12⟩) ?_
        case hg1_12 => intro w _; go_simp; (try with_reducible rfl)
        try simp only [Act.put, List.setIfInBounds_toArray, List.set_cons_zero, List.set_cons_succ]
        refine wpAnyG_take0 (i := 13) (oi := ⟨_, _, _, _, _, _⟩) (v := ?vg1_13) rfl (by kernel_rfl) (by kernel_rfl) (by kernel_rfl) (by kernel_rfl) (fun _ _ _ h => h) (fun _ => ((Keep.refl [w.heap.size] w4).drew)) (Or.inl ⟨by rfl, ?hg1_13⟩) ?_
        case hg1_13 => intro w _; go_simp; (try with_reducible rfl)
        try simp only [Act.put, List.setIfInBounds_toArray, List.set_cons_zero, List.set_cons_succ]
        refine wpAnyG_take0 (i := 14) (oi := ⟨_, _, _, _, _, _⟩) (v := ?vg1_14) rfl (by kernel_rfl) (by kernel_rfl) (by kernel_rfl) (by kernel_rfl) (fun _ _ _ h => h) (fun _ => ((Keep.refl [w.heap.size] w4).drew)) (Or.inl ⟨by rfl, ?hg1_14⟩) ?_
        case hg1_14 => intro w _; go_simp; (try with_reducible rfl)
        try simp only [Act.put, List.setIfInBounds_toArray, List.set_cons_zero, List.set_cons_succ]
        refine wpAnyG_take0 (i := 15) (oi := ⟨_, _, _, _, _, _⟩) (v := ?vg1_15) rfl (by kernel_rfl) (by kernel_rfl) (by kernel_rfl) (by kernel_rfl) (fun _ _ _ h => h) (fun _ => ((Keep.refl [w.heap.size] w4).drew)) (Or.inl ⟨by rfl, ?hg1_15⟩) ?_
        case hg1_15 => intro w _; go_simp; (try with_reducible rfl)
        try simp only [Act.put, List.setIfInBounds_toArray, List.set_cons_zero, List.set_cons_succ]
        refine wpAnyG_take (i := 16) (oi := ⟨_, _, _, _, _, _⟩) (v := ?vg1_16) [16, 17, 18, 20] rfl (by kernel_rfl) (by kernel_rfl) (by kernel_rfl) (by kernel_rfl) (by kernel_rfl) (fun _ _ _ h => h) (fun _ => ((Keep.refl [w.heap.size] w4).drew)) (Or.inl ⟨by rfl, ?hg1_16⟩) ?_
        case hg1_16 => intro w hSw; (try dsimp only at hSw); have m := hm1 _ hSw; go_simp; (try with_reducible rfl)
        try simp only [Act.put, List.setIfInBounds_toArray, List.set_cons_zero, List.set_cons_succ]
        refine wpAnyG_take0 (i := 17) (oi := ⟨_, _, _, _, _, _⟩) (v := ?vg1_17) rfl (by kernel_rfl) (by kernel_rfl) (by kernel_rfl) (by kernel_rfl) (fun _ _ _ h => h) (fun _ => ((Keep.refl [w.heap.size] w4).drew)) (Or.inl ⟨by rfl, ?hg1_17⟩) ?_
        case hg1_17 => intro w _; go_simp; (try with_reducible rfl)
        try simp only [Act.put, List.setIfInBounds_toArray, List.set_cons_zero, List.set_cons_succ]
        refine wpAnyG_take0 (i := 18) (oi := ⟨_, _, _, _, _, _⟩) (v := ?vg1_18) rfl (by kernel_rfl) (by kernel_rfl) (by kernel_rfl) (by kernel_rfl) (fun _ _ _ h => h) (fun _ => ((Keep.refl [w.heap.size] w4).drew)) (Or.inl ⟨by rfl, ?hg1_18⟩) ?_
        case hg1_18 => intro w _; go_simp; (try with_reducible rfl)
        try simp only [Act.put, List.setIfInBounds_toArray, List.set_cons_zero, List.set_cons_succ]
        refine wpAnyG_step (i := 19) (oi := ⟨_, _, _, _, _, _⟩) rfl (by kernel_rfl) (by rfl) (fun K hK => ?_)
        refine wp_store_row 58 (.tmp 2) (.tmp 37) rfl w.heap.size C.toArray rfl rfl 58 C0 HX2.out.2.1 (by rw [hC34]; exact size58) (by rw [hC34]; exact hsz0) hone ?_
        refine hK _ _ ?_ (fun hSg1_19 => ?_)
        · intro _; exact hSR
        replace hSg1_19 := hSg1_19 (by kernel_rfl)
        clear hK
        try simp only [Act.put, List.setIfInBounds_toArray, List.set_cons_zero, List.set_cons_succ]
        refine wpAnyG_take0 (i := 20) (oi := ⟨_, _, _, _, _, _⟩) (v := ?vg1_20) rfl (by kernel_rfl) (by kernel_rfl) (by kernel_rfl) (by kernel_rfl) (fun _ _ _ h => h) (fun _ => hSg1_19) (Or.inl ⟨by rfl, ?hg1_20⟩) ?_
        case hg1_20 => intro w _; go_simp; (try with_reducible rfl)
        try simp only [Act.put, List.setIfInBounds_toArray, List.set_cons_zero, List.set_cons_succ]
        refine wpAnyG_done (by kernel_rfl) ?_ _
        go_wp2
        refine bodyPost_ret (v := .tuple #[.agg C.toArray, .bool (decide ((kd : Int) ≤ 4100))]) (results_row_tmp (ty := 58) rfl _ _ w.heap.size 58 _ (0, 0) _ rfl HFF.out.1 Tryz.underlying58 rfl (by rw [hC34]; exact size58) _ rfl) rfl ?_
        exact ⟨hdRaw b, hdCode b, hdDig b, by rw [HF.out, Hrk.out.1, Hrk.out.2, Hm4.out, HCE.out], HH0.out.1, HH0.out.2, fun _ => ⟨rfl, rfl, rfl, HFF.out.2.2⟩, HFF.out.2.1⟩
      · have Hm4 := Lib.hid m4
        clear m4
        refine wpAnyG_take0 (i := 3) (oi := ⟨_, _, _, _, _, _⟩) (v := ?vg2_3) rfl (by kernel_rfl) (by kernel_rfl) (by kernel_rfl) (by kernel_rfl) (fun _ _ _ h => h) (fun _ => ((Keep.refl [w.heap.size] w4).drew)) (Or.inl ⟨by rfl, ?hg2_3⟩) ?_
        case hg2_3 => intro w _; go_simp; (try with_reducible rfl)
        try simp only [Act.put, List.setIfInBounds_toArray, List.set_cons_zero, List.set_cons_succ]
        refine wpAnyG_take0 (i := 4) (oi := ⟨_, _, _, _, _, _⟩) (v := ?vg2_4) rfl (by kernel_rfl) (by kernel_rfl) (by kernel_rfl) (by kernel_rfl) (fun _ _ _ h => h) (fun _ => ((Keep.refl [w.heap.size] w4).drew)) (Or.inl ⟨by rfl, ?hg2_4⟩) ?_
        case hg2_4 => intro w _; go_simp; (try with_reducible rfl)
        try simp only [Act.put, List.setIfInBounds_toArray, List.set_cons_zero, List.set_cons_succ]
        refine wpAnyG_take0 (i := 5) (oi := ⟨_, _, _, _, _, _⟩) (v := undef) rfl (by kernel_rfl) (by kernel_rfl) (by kernel_rfl) (by kernel_rfl) (fun _ _ _ h => h) (fun _ => ((Keep.refl [w.heap.size] w4).drew)) (Or.inr ⟨by rfl, rfl⟩) ?_
        try simp only [Act.put, List.setIfInBounds_toArray, List.set_cons_zero, List.set_cons_succ]
        refine wpAnyG_take0 (i := 6) (oi := ⟨_, _, _, _, _, _⟩) (v := undef) rfl (by kernel_rfl) (by kernel_rfl) (by kernel_rfl) (by kernel_rfl) (fun _ _ _ h => h) (fun _ => ((Keep.refl [w.heap.size] w4).drew)) (Or.inr ⟨by rfl, rfl⟩) ?_
        try simp only [Act.put, List.setIfInBounds_toArray, List.set_cons_zero, List.set_cons_succ]
        refine wpAnyG_take0 (i := 7) (oi := ⟨_, _, _, _, _, _⟩) (v := undef) rfl (by kernel_rfl) (by kernel_rfl) (by kernel_rfl) (by kernel_rfl) (fun _ _ _ h => h) (fun _ => ((Keep.refl [w.heap.size] w4).drew)) (Or.inr ⟨by rfl, rfl⟩) ?_
        try simp only [Act.put, List.setIfInBounds_toArray, List.set_cons_zero, List.set_cons_succ]
        refine wpAnyG_take0 (i := 8) (oi := ⟨_, _, _, _, _, _⟩) (v := ?vg2_8) rfl (by kernel_rfl) (by kernel_rfl) (by kernel_rfl) (by kernel_rfl) (fun _ _ _ h => h) (fun _ => ((Keep.refl [w.heap.size] w4).drew)) (Or.inl ⟨by rfl, ?hg2_8⟩) ?_
        case hg2_8 => intro w _; go_simp; (try with_reducible rfl)
        try simp only [Act.put, List.setIfInBounds_toArray, List.set_cons_zero, List.set_cons_succ]
        refine wpAnyG_take0 (i := 9) (oi := ⟨_, _, _, _, _, _⟩) (v := ?vg2_9) rfl (by kernel_rfl) (by kernel_rfl) (by kernel_rfl) (by kernel_rfl) (fun _ _ _ h => h) (fun _ => ((Keep.refl [w.heap.size] w4).drew)) (Or.inl ⟨by rfl, ?hg2_9⟩) ?_
        case hg2_9 => intro w _; go_simp; (try with_reducible rfl)
        try simp only [Act.put, List.setIfInBounds_toArray, List.set_cons_zero, List.set_cons_succ]
        refine wpAnyG_take0 (i := 10) (oi := ⟨_, _, _, _, _, _⟩) (v := undef) rfl (by kernel_rfl) (by kernel_rfl) (by kernel_rfl) (by kernel_rfl) (fun _ _ _ h => h) (fun _ => ((Keep.refl [w.heap.size] w4).drew)) (Or.inr ⟨by rfl, rfl⟩) ?_
        try simp only [Act.put, List.setIfInBounds_toArray, List.set_cons_zero, List.set_cons_succ]
        refine wpAnyG_take0 (i := 11) (oi := ⟨_, _, _, _, _, _⟩) (v := undef) rfl (by kernel_rfl) (by kernel_rfl) (by kernel_rfl) (by kernel_rfl) (fun _ _ _ h => h) (fun _ => ((Keep.refl [w.heap.size] w4).drew)) (Or.inr ⟨by rfl, rfl⟩) ?_
        try simp only [Act.put, List.setIfInBounds_toArray, List.set_cons_zero, List.set_cons_succ]
        refine wpAnyG_take0 (i := 12) (oi := ⟨_, _, _, _, _, _⟩) (v := undef) rfl (by kernel_rfl) (by kernel_rfl) (by kernel_rfl) (by kernel_rfl) (fun _ _ _ h => h) (fun _ => ((Keep.refl [w.heap.size] w4).drew)) (Or.inr ⟨by rfl, rfl⟩) ?_
        try simp only [Act.put, List.setIfInBounds_toArray, List.set_cons_zero, List.set_cons_succ]
        refine wpAnyG_take0 (i := 13) (oi := ⟨_, _, _, _, _, _⟩) (v := ?vg2_13) rfl (by kernel_rfl) (by kernel_rfl) (by kernel_rfl) (by kernel_rfl) (fun _ _ _ h => h) (fun _ => ((Keep.refl [w.heap.size] w4).drew)) (Or.inl ⟨by rfl, ?hg2_13⟩) ?_
        case hg2_13 => intro w _; go_simp; (try with_reducible rfl)
        try simp only [Act.put, List.setIfInBounds_toArray, List.set_cons_zero, List.set_cons_succ]
        refine wpAnyG_take0 (i := 14) (oi := ⟨_, _, _, _, _, _⟩) (v := ?vg2_14) rfl (by kernel_rfl) (by kernel_rfl) (by kernel_rfl) (by kernel_rfl) (fun _ _ _ h => h) (fun _ => ((Keep.refl [w.heap.size] w4).drew)) (Or.inl ⟨by rfl, ?hg2_14⟩) ?_
        case hg2_14 => intro w _; go_simp; (try with_reducible rfl)
        try simp only [Act.put, List.setIfInBounds_toArray, List.set_cons_zero, List.set_cons_succ]
        refine wpAnyG_take0 (i := 15) (oi := ⟨_, _, _, _, _, _⟩) (v := undef) rfl (by kernel_rfl) (by kernel_rfl) (by kernel_rfl) (by kernel_rfl) (fun _ _ _ h => h) (fun _ => ((Keep.refl [w.heap.size] w4).drew)) (Or.inr ⟨by rfl, rfl⟩) ?_
        try simp only [Act.put, List.setIfInBounds_toArray, List.set_cons_zero, List.set_cons_succ]
        refine wpAnyG_take0 (i := 16) (oi := ⟨_, _, _, _, _, _⟩) (v := undef) rfl (by kernel_rfl) (by kernel_rfl) (by kernel_rfl) (by kernel_rfl) (fun _ _ _ h => h) (fun _ => ((Keep.refl [w.heap.size] w4).drew)) (Or.inr ⟨by rfl, rfl⟩) ?_
        try simp only [Act.put, List.setIfInBounds_toArray, List.set_cons_zero, List.set_cons_succ]
        refine wpAnyG_take0 (i := 17) (oi := ⟨_, _, _, _, _, _⟩) (v := undef) rfl (by kernel_rfl) (by kernel_rfl) (by kernel_rfl) (by kernel_rfl) (fun _ _ _ h => h) (fun _ => ((Keep.refl [w.heap.size] w4).drew)) (Or.inr ⟨by rfl, rfl⟩) ?_
        try simp only [Act.put, List.setIfInBounds_toArray, List.set_cons_zero, List.set_cons_succ]
        refine wpAnyG_take0 (i := 18) (oi := ⟨_, _, _, _, _, _⟩) (v := ?vg2_18) rfl (by kernel_rfl) (by kernel_rfl) (by kernel_rfl) (by kernel_rfl) (fun _ _ _ h => h) (fun _ => ((Keep.refl [w.heap.size] w4).drew)) (Or.inl ⟨by rfl, ?hg2_18⟩) ?_
        case hg2_18 => intro w _; go_simp; (try with_reducible rfl)
        try simp only [Act.put, List.setIfInBounds_toArray, List.set_cons_zero, List.set_cons_succ]
        refine wpAnyG_step (i := 19) (oi := ⟨_, _, _, _, _, _⟩) rfl (by kernel_rfl) (by rfl) (fun K hK => ?_)
        refine wp_store_row 58 (.tmp 2) (.tmp 37) rfl w.heap.size C.toArray rfl rfl 58 C0 HX2.out.2.1 (by rw [hC34]; exact size58) (by rw [hC34]; exact hsz0) hone ?_
        refine hK _ _ ?_ (fun hSg2_19 => ?_)
        · intro _; exact hSR
        replace hSg2_19 := hSg2_19 (by kernel_rfl)
        clear hK
        try simp only [Act.put, List.setIfInBounds_toArray, List.set_cons_zero, List.set_cons_succ]
        refine wpAnyG_take0 (i := 20) (oi := ⟨_, _, _, _, _, _⟩) (v := ?vg2_20) rfl (by kernel_rfl) (by kernel_rfl) (by kernel_rfl) (by kernel_rfl) (fun _ _ _ h => h) (fun _ => hSg2_19) (Or.inl ⟨by rfl, ?hg2_20⟩) ?_
        case hg2_20 => intro w _; go_simp; (try with_reducible rfl)
        try simp only [Act.put, List.setIfInBounds_toArray, List.set_cons_zero, List.set_cons_succ]
        refine wpAnyG_done (by kernel_rfl) ?_ _
        go_wp2
        refine bodyPost_ret (v := .tuple #[.agg C.toArray, .bool (false)]) (results_row_tmp (ty := 58) rfl _ _ w.heap.size 58 _ (0, 0) _ rfl HFF.out.1 Tryz.underlying58 rfl (by rw [hC34]; exact size58) _ rfl) rfl ?_
        exact ⟨hdRaw b, hdCode b, hdDig b, by rw [HF.out, Hrk.out.1, Hrk.out.2, Hm4.out, HCE.out], HH0.out.1, HH0.out.2, fun _ => ⟨rfl, rfl, rfl, HFF.out.2.2⟩, HFF.out.2.1⟩
      · have Hm4 := Lib.hid m4
        clear m4
        refine wpAnyG_take0 (i := 3) (oi := ⟨_, _, _, _, _, _⟩) (v := ?vg3_3) rfl (by kernel_rfl) (by kernel_rfl) (by kernel_rfl) (by kernel_rfl) (fun _ _ _ h => h) (fun _ => ((Keep.refl [w.heap.size] w4).drew)) (Or.inl ⟨by rfl, ?hg3_3⟩) ?_
        case hg3_3 => intro w _; go_simp; (try with_reducible rfl)
        try simp only [Act.put, List.setIfInBounds_toArray, List.set_cons_zero, List.set_cons_succ]
        refine wpAnyG_take0 (i := 4) (oi := ⟨_, _, _, _, _, _⟩) (v := ?vg3_4) rfl (by kernel_rfl) (by kernel_rfl) (by kernel_rfl) (by kernel_rfl) (fun _ _ _ h => h) (fun _ => ((Keep.refl [w.heap.size] w4).drew)) (Or.inl ⟨by rfl, ?hg3_4⟩) ?_
        case hg3_4 => intro w _; go_simp; (try with_reducible rfl)
        try simp only [Act.put, List.setIfInBounds_toArray, List.set_cons_zero, List.set_cons_succ]
        refine wpAnyG_take0 (i := 5) (oi := ⟨_, _, _, _, _, _⟩) (v := ?vg3_5) rfl (by kernel_rfl) (by kernel_rfl) (by kernel_rfl) (by kernel_rfl) (fun _ _ _ h => h) (fun _ => ((Keep.refl [w.heap.size] w4).drew)) (Or.inl ⟨by rfl, ?hg3_5⟩) ?_
        case hg3_5 => intro w _; go_simp; (try with_reducible rfl)
        try simp only [Act.put, List.setIfInBounds_toArray, List.set_cons_zero, List.set_cons_succ]
        refine wpAnyG_take (i := 6) (oi := ⟨_, _, _, _, _, _⟩) (v := ?vg3_6) [6, 7, 8, 9, 10, 11, 12, 13, 14, 15, 16, 17, 18, 19, 20] rfl (by kernel_rfl) (by kernel_rfl) (by kernel_rfl) (by kernel_rfl) (by kernel_rfl) (fun _ _ _ h => h) (fun _ => ((Keep.refl [w.heap.size] w4).drew)) (Or.inl ⟨by rfl, ?hg3_6⟩) ?_
        case hg3_6 => intro w hSw; (try dsimp only at hSw); have m := hm0 _ hSw; go_simp; (try with_reducible rfl)
        try simp only [Act.put, List.setIfInBounds_toArray, List.set_cons_zero, List.set_cons_succ]
        refine wpAnyG_take0 (i := 7) (oi := ⟨_, _, _, _, _, _⟩) (v := ?vg3_7) rfl (by kernel_rfl) (by kernel_rfl) (by kernel_rfl) (by kernel_rfl) (fun _ _ _ h => h) (fun _ => ((Keep.refl [w.heap.size] w4).drew)) (Or.inl ⟨by rfl, ?hg3_7⟩) ?_
        case hg3_7 => intro w _; go_simp; (try with_reducible rfl)
        try simp only [Act.put, List.setIfInBounds_toArray, List.set_cons_zero, List.set_cons_succ]
        refine wpAnyG_take0 (i := 8) (oi := ⟨_, _, _, _, _, _⟩) (v := ?vg3_8) rfl (by kernel_rfl) (by kernel_rfl) (by kernel_rfl) (by kernel_rfl) (fun _ _ _ h => h) (fun _ => ((Keep.refl [w.heap.size] w4).drew)) (Or.inl ⟨by rfl, ?hg3_8⟩) ?_
        case hg3_8 => intro w _; go_simp; (try with_reducible rfl)
        try simp only [Act.put, List.setIfInBounds_toArray, List.set_cons_zero, List.set_cons_succ]
        refine wpAnyG_take0 (i := 9) (oi := ⟨_, _, _, _, _, _⟩) (v := ?vg3_9) rfl (by kernel_rfl) (by kernel_rfl) (by kernel_rfl) (by kernel_rfl) (fun _ _ _ h => h) (fun _ => ((Keep.refl [w.heap.size] w4).drew)) (Or.inl ⟨by rfl, ?hg3_9⟩) ?_
        case hg3_9 => intro w _; go_simp; (try with_reducible rfl)
        try simp only [Act.put, List.setIfInBounds_toArray, List.set_cons_zero, List.set_cons_succ]
        refine wpAnyG_take0 (i := 10) (oi := ⟨_, _, _, _, _, _⟩) (v := undef) rfl (by kernel_rfl) (by kernel_rfl) (by kernel_rfl) (by kernel_rfl) (fun _ _ _ h => h) (fun _ => ((Keep.refl [w.heap.size] w4).drew)) (Or.inr ⟨by rfl, rfl⟩) ?_
        try simp only [Act.put, List.setIfInBounds_toArray, List.set_cons_zero, List.set_cons_succ]
        refine wpAnyG_take0 (i := 11) (oi := ⟨_, _, _, _, _, _⟩) (v := undef) rfl (by kernel_rfl) (by kernel_rfl) (by kernel_rfl) (by kernel_rfl) (fun _ _ _ h => h) (fun _ => ((Keep.refl [w.heap.size] w4).drew)) (Or.inr ⟨by rfl, rfl⟩) ?_
        try simp only [Act.put, List.setIfInBounds_toArray, List.set_cons_zero, List.set_cons_succ]
        refine wpAnyG_take0 (i := 12) (oi := ⟨_, _, _, _, _, _⟩) (v := undef) rfl (by kernel_rfl) (by kernel_rfl) (by kernel_rfl) (by kernel_rfl) (fun _ _ _ h => h) (fun _ => ((Keep.refl [w.heap.size] w4).drew)) (Or.inr ⟨by rfl, rfl⟩) ?_
        try simp only [Act.put, List.setIfInBounds_toArray, List.set_cons_zero, List.set_cons_succ]
        refine wpAnyG_take0 (i := 13) (oi := ⟨_, _, _, _, _, _⟩) (v := ?vg3_13) rfl (by kernel_rfl) (by kernel_rfl) (by kernel_rfl) (by kernel_rfl) (fun _ _ _ h => h) (fun _ => ((Keep.refl [w.heap.size] w4).drew)) (Or.inl ⟨by rfl, ?hg3_13⟩) ?_
        case hg3_13 => intro w _; go_simp; (try with_reducible rfl)
        try simp only [Act.put, List.setIfInBounds_toArray, List.set_cons_zero, List.set_cons_succ]
        refine wpAnyG_take0 (i := 14) (oi := ⟨_, _, _, _, _, _⟩) (v := ?vg3_14) rfl (by kernel_rfl) (by kernel_rfl) (by kernel_rfl) (by kernel_rfl) (fun _ _ _ h => h) (fun _ => ((Keep.refl [w.heap.size] w4).drew)) (Or.inl ⟨by rfl, ?hg3_14⟩) ?_
        case hg3_14 => intro w _; go_simp; (try with_reducible rfl)
        try simp only [Act.put, List.setIfInBounds_toArray, List.set_cons_zero, List.set_cons_succ]
        refine wpAnyG_take0 (i := 15) (oi := ⟨_, _, _, _, _, _⟩) (v := undef) rfl (by kernel_rfl) (by kernel_rfl) (by kernel_rfl) (by kernel_rfl) (fun _ _ _ h => h) (fun _ => ((Keep.refl [w.heap.size] w4).drew)) (Or.inr ⟨by rfl, rfl⟩) ?_
        try simp only [Act.put, List.setIfInBounds_toArray, List.set_cons_zero, List.set_cons_succ]
        refine wpAnyG_take0 (i := 16) (oi := ⟨_, _, _, _, _, _⟩) (v := undef) rfl (by kernel_rfl) (by kernel_rfl) (by kernel_rfl) (by kernel_rfl) (fun _ _ _ h => h) (fun _ => ((Keep.refl [w.heap.size] w4).drew)) (Or.inr ⟨by rfl, rfl⟩) ?_
        try simp only [Act.put, List.setIfInBounds_toArray, List.set_cons_zero, List.set_cons_succ]
        refine wpAnyG_take0 (i := 17) (oi := ⟨_, _, _, _, _, _⟩) (v := undef) rfl (by kernel_rfl) (by kernel_rfl) (by kernel_rfl) (by kernel_rfl) (fun _ _ _ h => h) (fun _ => ((Keep.refl [w.heap.size] w4).drew)) (Or.inr ⟨by rfl, rfl⟩) ?_
        try simp only [Act.put, List.setIfInBounds_toArray, List.set_cons_zero, List.set_cons_succ]
        refine wpAnyG_take0 (i := 18) (oi := ⟨_, _, _, _, _, _⟩) (v := ?vg3_18) rfl (by kernel_rfl) (by kernel_rfl) (by kernel_rfl) (by kernel_rfl) (fun _ _ _ h => h) (fun _ => ((Keep.refl [w.heap.size] w4).drew)) (Or.inl ⟨by rfl, ?hg3_18⟩) ?_
        case hg3_18 => intro w _; go_simp; (try with_reducible rfl)
        try simp only [Act.put, List.setIfInBounds_toArray, List.set_cons_zero, List.set_cons_succ]
        refine wpAnyG_step (i := 19) (oi := ⟨_, _, _, _, _, _⟩) rfl (by kernel_rfl) (by rfl) (fun K hK => ?_)
        refine wp_store_row 58 (.tmp 2) (.tmp 37) rfl w.heap.size C.toArray rfl rfl 58 C0 HX2.out.2.1 (by rw [hC34]; exact size58) (by rw [hC34]; exact hsz0) hone ?_
        refine hK _ _ ?_ (fun hSg3_19 => ?_)
        · intro _; exact hSR
        replace hSg3_19 := hSg3_19 (by kernel_rfl)
        clear hK
        try simp only [Act.put, List.setIfInBounds_toArray, List.set_cons_zero, List.set_cons_succ]
        refine wpAnyG_take0 (i := 20) (oi := ⟨_, _, _, _, _, _⟩) (v := ?vg3_20) rfl (by kernel_rfl) (by kernel_rfl) (by kernel_rfl) (by kernel_rfl) (fun _ _ _ h => h) (fun _ => hSg3_19) (Or.inl ⟨by rfl, ?hg3_20⟩) ?_
        case hg3_20 => intro w _; go_simp; (try with_reducible rfl)
        try simp only [Act.put, List.setIfInBounds_toArray, List.set_cons_zero, List.set_cons_succ]
        refine wpAnyG_done (by kernel_rfl) ?_ _
        go_wp2
        refine bodyPost_ret (v := .tuple #[.agg C.toArray, .bool (false)]) (results_row_tmp (ty := 58) rfl _ _ w.heap.size 58 _ (0, 0) _ rfl HFF.out.1 Tryz.underlying58 rfl (by rw [hC34]; exact size58) _ rfl) rfl ?_
        exact ⟨hdRaw b, hdCode b, hdDig b, by rw [HF.out, Hrk.out.1, Hrk.out.2, Hm4.out, HCE.out], HH0.out.1, HH0.out.2, fun _ => ⟨rfl, rfl, rfl, HFF.out.2.2⟩, HFF.out.2.1⟩
      · have Hm4 := Lib.hid m4
        clear m4
        refine wpAnyG_take0 (i := 3) (oi := ⟨_, _, _, _, _, _⟩) (v := ?vg4_3) rfl (by kernel_rfl) (by kernel_rfl) (by kernel_rfl) (by kernel_rfl) (fun _ _ _ h => h) (fun _ => ((Keep.refl [w.heap.size] w4).drew)) (Or.inl ⟨by rfl, ?hg4_3⟩) ?_
        case hg4_3 => intro w _; go_simp; (try with_reducible rfl)
        try simp only [Act.put, List.setIfInBounds_toArray, List.set_cons_zero, List.set_cons_succ]
        refine wpAnyG_take0 (i := 4) (oi := ⟨_, _, _, _, _, _⟩) (v := ?vg4_4) rfl (by kernel_rfl) (by kernel_rfl) (by kernel_rfl) (by kernel_rfl) (fun _ _ _ h => h) (fun _ => ((Keep.refl [w.heap.size] w4).drew)) (Or.inl ⟨by rfl, ?hg4_4⟩) ?_
        case hg4_4 => intro w _; go_simp; (try with_reducible rfl)
        try simp only [Act.put, List.setIfInBounds_toArray, List.set_cons_zero, List.set_cons_succ]
        refine wpAnyG_take0 (i := 5) (oi := ⟨_, _, _, _, _, _⟩) (v := ?vg4_5) rfl (by kernel_rfl) (by kernel_rfl) (by kernel_rfl) (by kernel_rfl) (fun _ _ _ h => h) (fun _ => ((Keep.refl [w.heap.size] w4).drew)) (Or.inl ⟨by rfl, ?hg4_5⟩) ?_
        case hg4_5 => intro w _; go_simp; (try with_reducible rfl)
        try simp only [Act.put, List.setIfInBounds_toArray, List.set_cons_zero, List.set_cons_succ]
        refine wpAnyG_take (i := 6) (oi := ⟨_, _, _, _, _, _⟩) (v := ?vg4_6) [6, 7, 8, 9, 10, 11, 12, 13, 14, 15, 16, 17, 18, 19, 20] rfl (by kernel_rfl) (by kernel_rfl) (by kernel_rfl) (by kernel_rfl) (by kernel_rfl) (fun _ _ _ h => h) (fun _ => ((Keep.refl [w.heap.size] w4).drew)) (Or.inl ⟨by rfl, ?hg4_6⟩) ?_
        case hg4_6 => intro w hSw; (try dsimp only at hSw); have m := hm0 _ hSw; go_simp; (try with_reducible rfl)
        try simp only [Act.put, List.setIfInBounds_toArray, List.set_cons_zero, List.set_cons_succ]
        refine wpAnyG_take0 (i := 7) (oi := ⟨_, _, _, _, _, _⟩) (v := ?vg4_7) rfl (by kernel_rfl) (by kernel_rfl) (by kernel_rfl) (by kernel_rfl) (fun _ _ _ h => h) (fun _ => ((Keep.refl [w.heap.size] w4).drew)) (Or.inl ⟨by rfl, ?hg4_7⟩) ?_
        case hg4_7 => intro w _; go_simp; (try with_reducible rfl)
        try simp only [Act.put, List.setIfInBounds_toArray, List.set_cons_zero, List.set_cons_succ]
        refine wpAnyG_take0 (i := 8) (oi := ⟨_, _, _, _, _, _⟩) (v := ?vg4_8) rfl (by kernel_rfl) (by kernel_rfl) (by kernel_rfl) (by kernel_rfl) (fun _ _ _ h => h) (fun _ => ((Keep.refl [w.heap.size] w4).drew)) (Or.inl ⟨by rfl, ?hg4_8⟩) ?_
        case hg4_8 => intro w _; go_simp; (try with_reducible rfl)
        try simp only [Act.put, List.setIfInBounds_toArray, List.set_cons_zero, List.set_cons_succ]
        refine wpAnyG_take0 (i := 9) (oi := ⟨_, _, _, _, _, _⟩) (v := ?vg4_9) rfl (by kernel_rfl) (by kernel_rfl) (by kernel_rfl) (by kernel_rfl) (fun _ _ _ h => h) (fun _ => ((Keep.refl [w.heap.size] w4).drew)) (Or.inl ⟨by rfl, ?hg4_9⟩) ?_
        case hg4_9 => intro w _; go_simp; (try with_reducible rfl)
        try simp only [Act.put, List.setIfInBounds_toArray, List.set_cons_zero, List.set_cons_succ]
        refine wpAnyG_take0 (i := 10) (oi := ⟨_, _, _, _, _, _⟩) (v := ?vg4_10) rfl (by kernel_rfl) (by kernel_rfl) (by kernel_rfl) (by kernel_rfl) (fun _ _ _ h => h) (fun _ => ((Keep.refl [w.heap.size] w4).drew)) (Or.inl ⟨by rfl, ?hg4_10⟩) ?_
        case hg4_10 => intro w _; go_simp; (try with_reducible rfl)
        try simp only [Act.put, List.setIfInBounds_toArray, List.set_cons_zero, List.set_cons_succ]
        refine wpAnyG_take (i := 11) (oi := ⟨_, _, _, _, _, _⟩) (v := ?vg4_11) [11, 12, 13, 14, 15, 16, 17, 18, 19, 20] rfl (by kernel_rfl) (by kernel_rfl) (by kernel_rfl) (by kernel_rfl) (by kernel_rfl) (fun _ _ _ h => h) (fun _ => ((Keep.refl [w.heap.size] w4).drew)) (Or.inl ⟨by rfl, ?hg4_11⟩) ?_
        case hg4_11 => intro w hSw; (try dsimp only at hSw); have m := hm1 _ hSw; go_simp; (try with_reducible rfl)
        try simp only [Act.put, List.setIfInBounds_toArray, List.set_cons_zero, List.set_cons_succ]
        refine wpAnyG_take0 (i := 12) (oi := ⟨_, _, _, _, _, _⟩) (v := ?vg4_12) rfl (by kernel_rfl) (by kernel_rfl) (by kernel_rfl) (by kernel_rfl) (fun _ _ _ h => h) (fun _ => ((Keep.refl [w.heap.size] w4).drew)) (Or.inl ⟨by rfl, ?hg4_12⟩) ?_
        case hg4_12 => intro w _; go_simp; (try with_reducible rfl)
        try simp only [Act.put, List.setIfInBounds_toArray, List.set_cons_zero, List.set_cons_succ]
        refine wpAnyG_take0 (i := 13) (oi := ⟨_, _, _, _, _, _⟩) (v := ?vg4_13) rfl (by kernel_rfl) (by kernel_rfl) (by kernel_rfl) (by kernel_rfl) (fun _ _ _ h => h) (fun _ => ((Keep.refl [w.heap.size] w4).drew)) (Or.inl ⟨by rfl, ?hg4_13⟩) ?_
        case hg4_13 => intro w _; go_simp; (try with_reducible rfl)
        try simp only [Act.put, List.setIfInBounds_toArray, List.set_cons_zero, List.set_cons_succ]
        refine wpAnyG_take0 (i := 14) (oi := ⟨_, _, _, _, _, _⟩) (v := ?vg4_14) rfl (by kernel_rfl) (by kernel_rfl) (by kernel_rfl) (by kernel_rfl) (fun _ _ _ h => h) (fun _ => ((Keep.refl [w.heap.size] w4).drew)) (Or.inl ⟨by rfl, ?hg4_14⟩) ?_
        case hg4_14 => intro w _; go_simp; (try with_reducible rfl)
        try simp only [Act.put, List.setIfInBounds_toArray, List.set_cons_zero, List.set_cons_succ]
        refine wpAnyG_take0 (i := 15) (oi := ⟨_, _, _, _, _, _⟩) (v := undef) rfl (by kernel_rfl) (by kernel_rfl) (by kernel_rfl) (by kernel_rfl) (fun _ _ _ h => h) (fun _ => ((Keep.refl [w.heap.size] w4).drew)) (Or.inr ⟨by rfl, rfl⟩) ?_
        try simp only [Act.put, List.setIfInBounds_toArray, List.set_cons_zero, List.set_cons_succ]
        refine wpAnyG_take0 (i := 16) (oi := ⟨_, _, _, _, _, _⟩) (v := undef) rfl (by kernel_rfl) (by kernel_rfl) (by kernel_rfl) (by kernel_rfl) (fun _ _ _ h => h) (fun _ => ((Keep.refl [w.heap.size] w4).drew)) (Or.inr ⟨by rfl, rfl⟩) ?_
        try simp only [Act.put, List.setIfInBounds_toArray, List.set_cons_zero, List.set_cons_succ]
        refine wpAnyG_take0 (i := 17) (oi := ⟨_, _, _, _, _, _⟩) (v := undef) rfl (by kernel_rfl) (by kernel_rfl) (by kernel_rfl) (by kernel_rfl) (fun _ _ _ h => h) (fun _ => ((Keep.refl [w.heap.size] w4).drew)) (Or.inr ⟨by rfl, rfl⟩) ?_
        try simp only [Act.put, List.setIfInBounds_toArray, List.set_cons_zero, List.set_cons_succ]
        refine wpAnyG_take0 (i := 18) (oi := ⟨_, _, _, _, _, _⟩) (v := ?vg4_18) rfl (by kernel_rfl) (by kernel_rfl) (by kernel_rfl) (by kernel_rfl) (fun _ _ _ h => h) (fun _ => ((Keep.refl [w.heap.size] w4).drew)) (Or.inl ⟨by rfl, ?hg4_18⟩) ?_
        case hg4_18 => intro w _; go_simp; (try with_reducible rfl)
        try simp only [Act.put, List.setIfInBounds_toArray, List.set_cons_zero, List.set_cons_succ]
        refine wpAnyG_step (i := 19) (oi := ⟨_, _, _, _, _, _⟩) rfl (by kernel_rfl) (by rfl) (fun K hK => ?_)
        refine wp_store_row 58 (.tmp 2) (.tmp 37) rfl w.heap.size C.toArray rfl rfl 58 C0 HX2.out.2.1 (by rw [hC34]; exact size58) (by rw [hC34]; exact hsz0) hone ?_
        refine hK _ _ ?_ (fun hSg4_19 => ?_)
        · intro _; exact hSR
        replace hSg4_19 := hSg4_19 (by kernel_rfl)
        clear hK
        try simp only [Act.put, List.setIfInBounds_toArray, List.set_cons_zero, List.set_cons_succ]
        refine wpAnyG_take0 (i := 20) (oi := ⟨_, _, _, _, _, _⟩) (v := ?vg4_20) rfl (by kernel_rfl) (by kernel_rfl) (by kernel_rfl) (by kernel_rfl) (fun _ _ _ h => h) (fun _ => hSg4_19) (Or.inl ⟨by rfl, ?hg4_20⟩) ?_
        case hg4_20 => intro w _; go_simp; (try with_reducible rfl)
        try simp only [Act.put, List.setIfInBounds_toArray, List.set_cons_zero, List.set_cons_succ]
        refine wpAnyG_done (by kernel_rfl) ?_ _
        go_wp2
        refine bodyPost_ret (v := .tuple #[.agg C.toArray, .bool (false)]) (results_row_tmp (ty := 58) rfl _ _ w.heap.size 58 _ (0, 0) _ rfl HFF.out.1 Tryz.underlying58 rfl (by rw [hC34]; exact size58) _ rfl) rfl ?_
        exact ⟨hdRaw b, hdCode b, hdDig b, by rw [HF.out, Hrk.out.1, Hrk.out.2, Hm4.out, HCE.out], HH0.out.1, HH0.out.2, fun _ => ⟨rfl, rfl, rfl, HFF.out.2.2⟩, HFF.out.2.1⟩
end Go.Proofs.YtdnaahbhfjclpaaGreatDoor

