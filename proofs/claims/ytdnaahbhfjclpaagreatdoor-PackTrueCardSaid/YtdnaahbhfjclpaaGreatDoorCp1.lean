/- Tokens as bytes, and read again: on lists alone. -/
import Derived.Test.YtdnaahbhfjclpaaGreatDoorS5
import Derived.Test.YtdnaahbhfjclpaaGreatDoorHfK
import Derived.Test.YtdnaahbhfjclpaaGreatDoorH4
import Derived.Test.YtdnaahbhfjclpaaGreatDoorR3
set_option linter.unusedVariables false
set_option linter.unusedSimpArgs false
namespace Go.Proofs.YtdnaahbhfjclpaaGreatDoor
open Go.RowKit Go.Sal Go.Huf
theorem inssort_nil (w : World) (fv : Value) : Calls Tryz.prog 167 #[.slice none 0 0, .int .i64 0, .int .i64 0, fv] w fun e w' => e = .returned (.tuple #[]) ∧ w = w' := by
  go_enter Tryz.func167, Tryz.ntmps167
  go_wp2
  refine wp_loop_rounds 1 ?_
  rw [rounds_succ]
  go_wp2
  refine bodyPost_end (results_none rfl _ _ _) rfl ?_
  exact ⟨rfl, rfl⟩
theorem stab_nil (w : World) (fv : Value) : Calls Tryz.prog 166 #[.slice none 0 0, .int .i64 0, fv] w fun e w' => e = .returned (.tuple #[]) ∧ w = w' := by
  go_enter Tryz.func166, Tryz.ntmps166
  go_wp2
  refine wp_loop_rounds 1 ?_
  rw [rounds_succ]
  go_wp2_with (go_at_call 167; refine (inssort_nil _ _).mono ?_; rintro e w1 ⟨rfl, rfl⟩)
  refine wp_loop_rounds 1 ?_
  rw [rounds_succ]
  go_wp2
  refine bodyPost_end (results_none rfl _ _ _) rfl ?_
  exact ⟨rfl, rfl⟩
theorem sort_nil (w : World) (fv : Value) : Calls Tryz.prog 156 #[.slice none 0 0, fv] w fun e w' => e = .returned (.tuple #[]) ∧ w = w' := by
  go_enter Tryz.func156, Tryz.ntmps156
  go_wp2_with (go_at_call 166; refine (stab_nil _ _).mono ?_; rintro e w1 ⟨rfl, rfl⟩)
  refine bodyPost_end (results_none rfl _ _ _) rfl ?_
  exact ⟨rfl, rfl⟩
def OA (w : World) (ls : List Int) (A : Option Addr) (c : Nat) (k : Nat) (A3 : Option Addr) (c3 : Nat) (wr : World) : Prop :=
  Blk wr w.heap.size 140 #[.slice A ls.length c] ∧ wr.ownsRow w.heap.size 3 1 (.slice A3 (symsK ls k).length c3) (symsK ls k).length (inN (symsK ls k)) ∧ Keep [] w wr
set_option maxRecDepth 20000 in
set_option maxHeartbeats 4000000 in
theorem order_any {N : Nat} (H : StabOK N) (hN : N ≤ 100000) (ls : List Int) (A : Option Addr) (c : Nat) (w : World) (hs : ISrc w A ls) (hl : ls.length ≤ N) (hg : good ls) :
    Calls Tryz.prog 144 #[.slice A ls.length c] w fun e w' => ∃ AO cO, e = .returned (.slice AO (ord ls).length cO) ∧
      w'.ownsRow w.heap.size 3 1 (.slice AO (ord ls).length cO) (ord ls).length (inN (ord ls)) ∧ Keep [] w w' := by
  have Hs := Lib.hid hs
  have HH := Lib.hid H
  have Hg := Lib.hid hg
  have H0 : Hid (OA w ls A c 0 none 0 (w.alloc (.cells #[.slice A ls.length c] 140 (0, 0)))) := Lib.hid ⟨Blk.new w 140 _, World.ownsRow_nil _ _ _ _, (Keep.refl [] w).alloc _⟩
  have r0 : (w.alloc (.cells #[.slice A ls.length c] 140 (0, 0))).cell? ⟨w.heap.size, 0, none⟩ = some (.slice A ls.length c) := (Blk.new w 140 _).cell 0
  clear hs H hg
  go_enter Tryz.func144, Tryz.ntmps144
  go_wp2
  go_loopw [3, 8] (fun v i wr => ∃ (k : Nat) (A3 : Option Addr) (c3 : Nat), i = .int .i64 k ∧ k ≤ ls.length ∧ v = .slice A3 (symsK ls k).length c3 ∧ Hid (OA w ls A c k A3 c3 wr)) (fun _ i _ => ls.length - (intOf i).toNat)
  case atStart => exact ⟨0, none, 0, rfl, by omega, rfl, H0⟩
  case round =>
    obtain ⟨k, A3, c3, rfl, hk, rfl, hI⟩ := hrel
    clear H0 r0
    obtain ⟨hB, hown, hkp⟩ := hI.out
    rcases Nat.lt_or_ge k ls.length with hkl | hkl
    · as_aux_lemma =>
        obtain ⟨g, o, rfl, hg, hc⟩ := Hs.out k hkl
        have d0 := (hkp.cell (p := ⟨g, o + k, none⟩) hg (by simp)).trans hc
        have hsy := symsK_succ ls k
        have e : ls.getD k 0 = ls[k] := by simp [List.getD, hkl]
        rw [e] at hsy
        have hwk : IntKind.i64.wrap ((k : Int) + 1) = (k : Int) + 1 := by rw [IntKind.wrap_i64]; omega
        have hsl := symsK_len ls k
        generalize ls[k] = x at *
        by_cases hx : 0 < x
        · rw [if_pos hx] at hsy
          obtain ⟨A2, c2, w2, hap, hown2, hk2, _⟩ := free_append (w := wr) hown k (by have := HH; omega) hkp.size
          have HF : Hid (OA w ls (some ⟨g, o, none⟩) c (k + 1) A2 c2 w2) := by
            refine Lib.hid ⟨hB.keep hk2 ?_, by rw [hsy]; exact hown2, hkp.step hk2 (fun j hj => .inr (hown.lt j (by simpa using hj)).1)⟩
            have := own_ne_blk hown hB (by decide)
            simpa using this
          have Hap := Lib.hid hap
          have Hsy := Lib.hid hsy
          clear hI hB hown hkp hc hsy hown2 hk2 hap e
          have hap := Hap.out
          go_wp2_with (at_builtin; refine wpList_append2 (v1 := .slice A3 (symsK ls k).length c3) (v2 := .slice (some ⟨wr.heap.size, 0, none⟩) 1 1) rfl (.tmp 15) (.tmp 17) rfl rfl rfl hap ?_)
          exact ⟨⟨k + 1, A2, c2, by simp, by omega, by rw [Hsy.out]; simp, HF⟩, by simp [intOf]; omega⟩
        · rw [if_neg hx, List.append_nil] at hsy
          have HF : Hid (OA w ls (some ⟨g, o, none⟩) c (k + 1) A3 c3 wr) := Lib.hid ⟨hB, by rw [hsy]; exact hown, hkp⟩
          have Hsy := Lib.hid hsy
          clear hI hB hown hkp hc hsy e
          go_wp2
          exact ⟨⟨k + 1, A3, c3, by simp, by omega, by rw [Hsy.out], HF⟩, by simp [intOf]; omega⟩
    · obtain rfl : k = ls.length := by omega
      have HO := Lib.hid hown
      rcases hown.2 with ⟨hv, hnil⟩ | ⟨g3, cap3, cur3, hv, hg3b, hh3, ho1, ho2, ho3, ho4⟩
      · injection hv with e1 e2 e3
        subst e1 e3
        have hoe : ord ls = [] := List.eq_nil_of_length_eq_zero (by rw [ord_len]; exact e2)
        have Hoe := Lib.hid hoe
        have Hkp := Lib.hid hkp
        clear hI hB hown hkp hnil HO hoe
        rw [e2]
        clear e2
        go_wp2_with (go_at_call 156; refine (sort_nil _ _).mono ?_; rintro e w1 ⟨rfl, rfl⟩)
        go_ret
        exact ⟨none, 0, by rw [Hoe.out]; rfl, by rw [Hoe.out]; exact World.ownsRow_nil _ _ _ _, Hkp.out⟩
      · injection hv with e1 e2 e3
        subst e1 e3
        have hg3 : g3 < wr.heap.size := lt_of_some hh3
        clear hh3 ho1 ho2 ho3 ho4 cur3
        have hne : w.heap.size ≠ g3 := fun e => own_ne_blk hown hB (by decide) (by rw [e]; rfl)
        have hsrc : ISrc wr A ls := Hs.out.keep hkp (by simp)
        have hcmp : Cmp g3 wr (fun i => ls.getD i 0) ls.length w.heap.size := by
          rcases Nat.eq_zero_or_pos ls.length with hlz | hlp
          · intro W hk a b ha hb
            omega
          · refine Cmp.of hB hsrc Hg.out hne (fun a ha => ?_)
            subst ha
            obtain ⟨g, o, he, hg, _⟩ := Hs.out 0 hlp
            injection he with he
            subst he
            show g ≠ g3
            omega
        have hso := sort_any HH.out (by omega) (fun i => ls.getD i 0) ls.length w.heap.size g3 (symsK ls ls.length).length c3 w.heap.size (symsK ls ls.length) wr hown hcmp (fun x hx => (symsK_mem.1 hx).1) (fun x hx => by
          have h1 := Hg.out _ (List.getElem_mem hx)
          simp only [List.getD, List.getElem?_eq_getElem hx, Option.getD_some]
          omega) (symsK_inc _ _) (by have := symsK_len ls ls.length; omega)
        have Hso := Lib.hid hso
        have Hkp := Lib.hid hkp
        clear hI hB hown hkp hsrc hcmp hso
        generalize hsl : (symsK ls ls.length).length = sl at *
        go_wp2_with (go_at_call 156; refine Hso.out.mono ?_; rintro e w1 ⟨rfl, hS⟩)
        go_ret
        refine ⟨some ⟨g3, 0, none⟩, c3, by rw [ord_len, hsl]; rfl, by rw [ord_len, hsl]; exact hS.1, ?_⟩
        exact Hkp.out.step hS.2 (by intro i hi; simp at hi; right; omega)
end Go.Proofs.YtdnaahbhfjclpaaGreatDoor

namespace Go.Proofs.YtdnaahbhfjclpaaGreatDoor
open Go.RowKit Go.Sal Go.Huf
def inU (l : List Nat) : List Value := l.map fun (k : Nat) => .int .u16 (k : Int)
theorem u16info : (Tryz.prog.info? 168).map (fun i => (i.zero, i.size, i.bytes)) = some (some (.int .u16 0), 1, 2) := by kernel_rfl
theorem made_u16 : ∀ n : Nat, (madeCells (Value.int .u16 0).cells (n * 1)).toList = inU (List.replicate n 0) := fun n => by
  apply List.ext_getElem
  · simp [madeCells, inU, Value.cells]
  · intro i h1 h2
    simp [madeCells, inU, Value.cells, Nat.mod_one]
theorem wpList_make_u16 {w : World} {ops : Array Oper} {rest : List Oper} {o : Oper} {a : Act} {Q : Exit → Act → World → Prop} (base n : Nat)
    (hg : o.guard = none) (l c : Operand) (hop : o.op = Op.makeSlice 159 l c) (hl : a.eval l = .int .i64 (n : Int)) (hc : a.eval c = .int .i64 (n : Int)) (hn : n ≤ 1000000) (hB : base ≤ w.heap.size)
    (hK : ∀ w', w'.ownsRow base 168 1 (.slice (some ⟨w.heap.size, 0, none⟩) n n) n (inU (List.replicate n 0)) → Keep [] w w' → wpList Tryz.prog ops Q rest (a.put o.dst (.slice (some ⟨w.heap.size, 0, none⟩) n n)) w') :
    wpList Tryz.prog ops Q (o :: rest) a w := by
  obtain ⟨i, hi, hz, hs, hby⟩ : ∃ i, Tryz.prog.info? 168 = some i ∧ i.zero = some (.int .u16 0) ∧ i.size = 1 ∧ i.bytes = 2 := by
    cases hx : Tryz.prog.info? 168 with
    | none => have := u16info; rw [hx] at this; cases this
    | some i =>
      have := u16info
      rw [hx] at this
      simp only [Option.map_some, Option.some.injEq, Prod.mk.injEq] at this
      exact ⟨i, rfl, this.1, this.2.1, this.2.2⟩
  refine wpList_make_full w hg l c 159 hop base 168 i (.int .u16 0) 1 Tryz.underlying159 hi hz hs .i64 .i64 _ _ n hl hc rfl rfl (by rw [hby]; omega) (by unfold maxLen; omega) hB ?_
  intro w' h1 h2
  rw [made_u16] at h1
  exact hK w' h1 ((Keep.refl [] w).grown h2 (fun k hk => by cases hk))
theorem inU_cell {w : World} {base g n cap i : Nat} {l : List Nat} (h : w.ownsRow base 168 1 (.slice (some ⟨g, 0, none⟩) n cap) n (inU l)) (hi : i < l.length) :
    w.cell? ⟨g, i, none⟩ = some (.int .u16 (l[i] : Nat)) ∧ w.frozen? ⟨g, i, none⟩ = false := ownsRow_cell h (show (inU l)[i]? = some (.int .u16 (l[i] : Nat)) by simp [inU, hi])
theorem inU_set {w : World} {base g n cap i : Nat} {l : List Nat} (h : w.ownsRow base 168 1 (.slice (some ⟨g, 0, none⟩) n cap) n (inU l)) (hi : i < n) (x : Nat) :
    (w.setCell ⟨g, i, none⟩ (.int .u16 (x : Int))).ownsRow base 168 1 (.slice (some ⟨g, 0, none⟩) n cap) n (inU (l.set i x)) := by
  have := ownsRow_set h i (by omega) (.int .u16 (x : Int))
  rwa [show (inU l).set i (.int .u16 (x : Int)) = inU (l.set i x) by simp [inU, List.map_set]] at this
theorem inN_at {w : World} {base g n cap i : Nat} {l : List Nat} (h : w.ownsRow base 3 1 (.slice (some ⟨g, 0, none⟩) n cap) n (inN l)) (hi : i < l.length) :
    w.cell? ⟨g, i, none⟩ = some (.int .i64 (l[i] : Nat)) ∧ w.frozen? ⟨g, i, none⟩ = false := ownsRow_cell h (show (inN l)[i]? = some (.int .i64 (l[i] : Nat)) by simp [inN, hi])
theorem shl_cast (c d : Nat) : ((c : Int) + 1) * 2 ^ d = (((c + 1) * 2 ^ d : Nat) : Int) := by simp
def CI (w0 w2 : World) (ls : List Int) (g : Nat) (k : Nat) (wr : World) : Prop :=
  wr.ownsRow w0.heap.size 168 1 (.slice (some ⟨g, 0, none⟩) ls.length ls.length) ls.length (inU (cRow ls k)) ∧ Keep [g] w2 wr
def lastC (ls : List Int) (k : Nat) : Int := if k = 0 then 0 else (codeV ls ((ord ls).getD (k - 1) 0) : Nat)
def lastL (ls : List Int) (k : Nat) : Int := if k = 0 then 0 else ln ls ((ord ls).getD (k - 1) 0)
set_option maxRecDepth 20000 in
set_option maxHeartbeats 4000000 in
theorem codes_ok {N : Nat} (H : StabOK N) (hN : N ≤ 100000) (ls : List Int) (A : Option Addr) (c : Nat) (w : World) (hs : ISrc w A ls) (hl : ls.length ≤ N) (h : okL ls) :
    Calls Tryz.prog 105 #[.slice A ls.length c] w fun e w' => ∃ AO cO, e = .returned (.tuple #[.slice AO ls.length cO, .int .i64 0]) ∧
      w'.ownsRow w.heap.size 168 1 (.slice AO ls.length cO) ls.length (inU (codesL ls)) ∧ Keep [] w w' := by
  have hl5 := h.1
  have hc := check_any ls A c w hs (by omega)
  have he : chkE ls = 0 := by unfold chkE; rw [if_pos h]
  rw [he] at hc
  have Hc := Lib.hid hc
  have Hs := Lib.hid hs
  have HH := Lib.hid H
  have Hok := Lib.hid h
  have hol : (ord ls).length ≤ ls.length := by rw [ord_len]; exact symsK_len _ _
  clear hs h hc he H
  go_enter Tryz.func105, Tryz.ntmps105
  go_wp2_with (first
    | (go_at_call 132; refine Hc.out.mono ?_; rintro e w1 ⟨rfl, hk1⟩; have Hk1 := Lib.hid hk1; clear hk1)
    | (at_make; refine wpList_make_u16 w.heap.size ls.length rfl (.tmp 16) (.tmp 16) rfl rfl rfl (by omega) (Hk1.out.size) ?_; intro w2 hown2 hk2; have Hown2 := Lib.hid hown2; have Hk2 := Lib.hid hk2; clear hown2 hk2
       have Ho := Lib.hid (order_any HH.out hN ls A c w2 (Hs.out.keep (Hk1.out.trans Hk2.out) (by simp)) hl Hok.out.2.1))
    | (go_at_call 144; refine Ho.out.mono ?_; rintro e w3 ⟨AO, cO, rfl, hown3, hk3⟩; have Hown3 := Lib.hid hown3; have Hk3 := Lib.hid hk3; clear hown3 hk3))
  obtain ⟨g, hg⟩ : ∃ g, g = w1.heap.size := ⟨_, rfl⟩
  rw [← hg] at Hown2 ⊢
  have hgw : w.heap.size ≤ g := by rw [hg]; exact Hk1.out.size
  have Hk03 : Hid (Keep [] w w3) := Lib.hid ((Hk1.out.trans Hk2.out).trans Hk3.out)
  have Hown : Hid (w3.ownsRow w.heap.size 168 1 (.slice (some ⟨g, 0, none⟩) ls.length ls.length) ls.length (inU (List.replicate ls.length 0))) := Lib.hid (ownsRow_keep Hown2.out Hk3.out (by simp))
  have Hg2 : Hid (g < w2.heap.size ∨ ls.length = 0) := Lib.hid (by
    rcases Nat.eq_zero_or_pos ls.length with h0 | h0
    · exact .inr h0
    · obtain ⟨g', e, h1, _⟩ := own_some Hown2.out h0
      injection e with e
      injection e with e
      subst e
      exact .inl h1)
  have H0 : Hid (CI w w3 ls g 0 w3) := Lib.hid ⟨by rw [cRow_zero]; exact Hown.out, Keep.refl _ _⟩
  clear Hk1 Hk2 Hk3 Hown2 hg Hc Ho Hown
  go_loopw [6, 7, 21] (fun cd lg i wr => ∃ k : Nat, i = .int .i64 k ∧ k ≤ (ord ls).length ∧ cd = .int .i64 (lastC ls k) ∧ lg = .int .i64 (lastL ls k) ∧ Hid (CI w w3 ls g k wr)) (fun _ _ i _ => (ord ls).length - (intOf i).toNat)
  case atStart => exact ⟨0, rfl, by omega, rfl, rfl, H0⟩
  case round =>
    obtain ⟨k, rfl, hk, rfl, rfl, hI⟩ := hrel
    clear H0
    rcases Nat.lt_or_ge k (ord ls).length with hkl | hkl
    · as_aux_lemma =>
        obtain ⟨hown, hkp⟩ := hI.out
        obtain ⟨go, rfl, hgo1, hgo2⟩ := own_some Hown3.out (by omega)
        have hmem := ord_mem.1 (List.getElem_mem hkl)
        have hsl : (ord ls)[k] < ls.length := hmem.1
        have hg2 : g < w2.heap.size := by
          have := Hg2.out
          omega
        have hne : go ≠ g := by omega
        obtain ⟨go3, _⟩ := inN_at Hown3.out hkl
        have d0 := (hkp.cell (p := ⟨go, k, none⟩) hgo1 (by simpa using hne)).trans go3
        obtain ⟨gs, o, rfl, hgs, hcs⟩ := Hs.out _ hsl
        have d1 := ((hkp.cell (p := ⟨gs, o + (ord ls)[k], none⟩) (Nat.lt_of_lt_of_le hgs Hk03.out.size) (by simpa using (show gs ≠ g by omega))).trans (Hk03.out.cell (p := ⟨gs, o + (ord ls)[k], none⟩) hgs (by simp))).trans hcs
        have hset := inU_set hown hsl (codeV ls (ord ls)[k])
        rw [cRow_succ hkl] at hset
        have hroom := inU_cell hown (i := (ord ls)[k]) (by rw [cRow_len]; exact hsl)
        obtain ⟨m1, m2⟩ := hroom
        have hcv := codeV_small Hok.out hsl
        have hlg := ln_good Hok.out.2.1 (ord ls)[k]
        have hlc : lastC ls (k + 1) = (codeV ls (ord ls)[k] : Nat) := by
          unfold lastC; rw [if_neg (by omega), Nat.add_sub_cancel]; simp [List.getD, hkl]
        have hll : lastL ls (k + 1) = ls[(ord ls)[k]] := by
          unfold lastL; rw [if_neg (by omega), Nat.add_sub_cancel]; rw [← ln_eq hsl]; simp [List.getD, hkl]
        have hle := ln_eq hsl
        rw [hle] at hlg
        have hwk : IntKind.i64.wrap ((k : Int) + 1) = (k : Int) + 1 := by rw [IntKind.wrap_i64]; omega
        have Hll := Lib.hid hll
        have hsi : ((ord ls)[k] : Int) < ls.length := by omega
        rcases Nat.eq_zero_or_pos k with rfl | hk0
        · have hz : codeV ls (ord ls)[0] = 0 := code_first Hok.out.2.1 hkl
          rw [hz] at hset hlc
          have HN : Hid (CI w w3 ls g 1 (wr.setCell ⟨g, (ord ls)[0], none⟩ (.int .u16 0))) := Lib.hid ⟨hset, hkp.setCell (.inl (by simp)) _⟩
          have hlz : lastC ls 0 = 0 := rfl
          have Hlc := Lib.hid hlc
          clear hI hown hkp hset hle hlc hll hcv
          rw [hlz]
          generalize lastL ls 0 = lg0 at *
          generalize (ord ls)[0] = s at *
          generalize ls[s] = x at *
          go_wp2
          exact ⟨⟨1, rfl, by omega, by rw [Hlc.out]; rfl, by rw [Hll.out], HN⟩, by simp [intOf]; omega⟩
        · obtain ⟨q, rfl⟩ : ∃ q, k = q + 1 := ⟨k - 1, by omega⟩
          have hnx := code_next Hok.out.2.1 hkl
          have hinc := ord_len_inc hkl
          have hcq := codeV_small Hok.out (ord_mem.1 (List.getElem_mem (show q < (ord ls).length by omega))).1
          have hlq := ln_good Hok.out.2.1 (ord ls)[q]
          have hpc : lastC ls (q + 1) = (codeV ls (ord ls)[q] : Nat) := by
            unfold lastC; rw [if_neg (by omega), Nat.add_sub_cancel]; simp [List.getD, show q < (ord ls).length by omega]
          have hpl : lastL ls (q + 1) = ln ls (ord ls)[q] := by
            unfold lastL; rw [if_neg (by omega), Nat.add_sub_cancel]; simp [List.getD, show q < (ord ls).length by omega]
          have Hlc := Lib.hid hlc
          have HN : Hid (CI w w3 ls g (q + 1 + 1) (wr.setCell ⟨g, (ord ls)[q + 1], none⟩ (.int .u16 (codeV ls (ord ls)[q + 1] : Nat)))) := Lib.hid ⟨hset, hkp.setCell (.inl (by simp)) _⟩
          rw [hle] at hnx hinc
          clear hI hown hkp hset hle hlc hll
          rw [hpc, hpl]
          generalize codeV ls (ord ls)[q] = cq at *
          generalize codeV ls (ord ls)[q + 1] = ck at *
          generalize ln ls (ord ls)[q] = lq at *
          generalize (ord ls)[q + 1] = s at *
          generalize ls[s] = x at *
          obtain ⟨d, hd⟩ : ∃ d : Nat, x - lq = d := ⟨(x - lq).toNat, by omega⟩
          have hd2 : x.toNat - lq.toNat = d := by omega
          have hd15 : d ≤ 15 := by omega
          rw [hd2] at hnx
          have hw1 : IntKind.i64.wrap ((cq : Int) + 1) = (cq : Int) + 1 := by rw [IntKind.wrap_i64]; omega
          have hw2 : IntKind.i64.wrap (x - lq) = (d : Int) := by rw [hd, IntKind.wrap_i64]; omega
          have hw3 : IntKind.u64.wrap (d : Int) = (d : Int) := by rw [IntKind.wrap_u64]; omega
          have hw4 : IntKind.i64.wrap (((cq : Int) + 1) * 2 ^ d) = (ck : Int) := by rw [shl_cast, ← hnx, IntKind.wrap_i64]; omega
          have hw5 : IntKind.u16.wrap (ck : Int) = (ck : Int) := by rw [IntKind.wrap_u16]; omega
          have hk0' : (0 : Int) < ((q + 1 : Nat) : Int) := by omega
          clear hpc hpl hnx hd hd2 hinc
          go_wp2
          exact ⟨⟨q + 1 + 1, by simp, by omega, by rw [Hlc.out], by rw [Hll.out], HN⟩, by simp [intOf]; omega⟩
    · obtain rfl : k = (ord ls).length := by omega
      obtain ⟨hown, hkp⟩ := hI.out
      rw [cRow_all] at hown
      have HR := Lib.hid hown
      have HK : Hid (Keep [] w wr) := Lib.hid (Hk03.out.step hkp (fun i hi => by simp at hi; right; omega))
      clear hI hown hkp
      go_wp2
      go_ret2
      exact ⟨_, _, rfl, HR.out, HK.out⟩
end Go.Proofs.YtdnaahbhfjclpaaGreatDoor

namespace Go.Huf
end Go.Huf
namespace Go.Proofs.YtdnaahbhfjclpaaGreatDoor
open Go.RowKit Go.Sal Go.Huf
end Go.Proofs.YtdnaahbhfjclpaaGreatDoor

namespace Go.Huf
def nextV (ls : List Int) (n i : Nat) : Nat := preN ls n i / p2 n
theorem nextV_code {ls : List Int} {n i : Nat} (hn : 0 < n) (h : ln ls i = n) : codeV ls i = nextV ls n i := by
  unfold codeV nextV
  rw [if_pos (by omega), h]
  simp
theorem nextV_step {ls : List Int} {n i : Nat} (hn : 0 < n) (hi : i < ls.length) : nextV ls n (i + 1) = nextV ls n i + (if ln ls i = n then 1 else 0) := by
  unfold nextV
  rw [preN_step hn hi]
  split
  · rw [Nat.add_div_right _ (p2_pos n)]
  · rfl
end Go.Huf
namespace Go.Proofs.YtdnaahbhfjclpaaGreatDoor
open Go.RowKit Go.Sal Go.Huf
end Go.Proofs.YtdnaahbhfjclpaaGreatDoor

namespace Go.Huf
section
variable {ls : List Int}
def ofK (ls : List Int) (n k : Nat) : List Nat := (List.range k).filter fun i => decide (ln ls i = n)
theorem ofK_succ (n k : Nat) : ofK ls n (k + 1) = ofK ls n k ++ (if ln ls k = n then [k] else []) := by
  unfold ofK
  rw [List.range_succ, List.filter_append]
  congr 1
  by_cases h : ln ls k = n
  · rw [if_pos h, List.filter_cons_of_pos (by simpa using h)]; rfl
  · rw [if_neg h, List.filter_cons_of_neg (by simpa using h)]; rfl
theorem ofK_mem {n k i : Nat} : i ∈ ofK ls n k ↔ i < k ∧ ln ls i = n := by simp [ofK]
theorem ofK_inc (n k : Nat) : (ofK ls n k).Pairwise (· < ·) := List.pairwise_lt_range.sublist List.filter_sublist
theorem ofK_nodup (n k : Nat) : (ofK ls n k).Nodup := (ofK_inc n k).imp (fun h => by omega)
theorem ofK_split (n j : Nat) : ∀ k, ∃ r, ofK ls n (j + k) = ofK ls n j ++ r
  | 0 => ⟨[], by simp⟩
  | k + 1 => by
    obtain ⟨r, hr⟩ := ofK_split n j k
    refine ⟨r ++ (if ln ls (j + k) = n then [j + k] else []), ?_⟩
    rw [show j + (k + 1) = (j + k) + 1 by omega, ofK_succ, hr, List.append_assoc]
theorem ofK_at {n s : Nat} (hs : s < ls.length) (h : ln ls s = n) : (ofK ls n ls.length)[(ofK ls n s).length]? = some s := by
  obtain ⟨r, hr⟩ := ofK_split (ls := ls) n (s + 1) (ls.length - (s + 1))
  rw [show s + 1 + (ls.length - (s + 1)) = ls.length by omega] at hr
  rw [hr, ofK_succ, if_pos h]
  simp
theorem ofK_idx {n r : Nat} (hr : r < (ofK ls n ls.length).length) : (ofK ls n (ofK ls n ls.length)[r]).length = r := by
  have hm := ofK_mem.1 (List.getElem_mem hr)
  have h1 := ofK_at hm.1 hm.2
  obtain ⟨h2, h3⟩ := List.getElem?_eq_some_iff.1 h1
  exact (List.getElem_inj (ofK_nodup n ls.length)).1 h3
theorem nextV_ofK {n : Nat} (hn : 0 < n) : ∀ i, i ≤ ls.length → nextV ls n i = nextV ls n 0 + (ofK ls n i).length
  | 0, _ => by simp [ofK]
  | i + 1, h => by
    rw [nextV_step hn (by omega), nextV_ofK hn i (by omega), ofK_succ]
    split <;> simp <;> omega
theorem code_ofK {n s : Nat} (hn : 0 < n) (hs : s < ls.length) (h : ln ls s = n) : codeV ls s = nextV ls n 0 + (ofK ls n s).length := by
  rw [nextV_code hn h, nextV_ofK hn s (by omega)]
def symAt (ls : List Int) (n c : Nat) : Option Nat := if nextV ls n 0 ≤ c then (ofK ls n ls.length)[c - nextV ls n 0]? else none
theorem symAt_some {n c s : Nat} (hn : 0 < n) : symAt ls n c = some s ↔ s < ls.length ∧ ln ls s = n ∧ codeV ls s = c := by
  unfold symAt
  constructor
  · intro h
    split at h
    · rename_i h1
      obtain ⟨h2, h3⟩ := List.getElem?_eq_some_iff.1 h
      have hm := ofK_mem.1 (List.getElem_mem h2)
      have hi := ofK_idx h2
      rw [h3] at hm hi
      exact ⟨hm.1, hm.2, by rw [code_ofK hn hm.1 hm.2, hi]; omega⟩
    · cases h
  · rintro ⟨h1, h2, h3⟩
    have := code_ofK hn h1 h2
    rw [if_pos (by omega), ← h3, this, Nat.add_sub_cancel_left]
    exact ofK_at h1 h2
theorem symAt_none {n c : Nat} (hn : 0 < n) : symAt ls n c = none ↔ ∀ s, s < ls.length → ln ls s = n → codeV ls s ≠ c := by
  constructor
  · intro h s h1 h2 h3
    have := (symAt_some hn).2 ⟨h1, h2, h3⟩
    rw [h] at this
    cases this
  · intro h
    cases hx : symAt ls n c with
    | none => rfl
    | some s =>
      obtain ⟨h1, h2, h3⟩ := (symAt_some hn).1 hx
      exact absurd h3 (h s h1 h2)
end
def bitB (b : List Nat) (i : Nat) : Nat := b.getD (i / 8) 0 / 2 ^ (7 - i % 8) % 2
theorem bitB_lt (b : List Nat) (i : Nat) : bitB b i < 2 := Nat.mod_lt _ (by omega)
def cAt (b : List Nat) (at_ : Nat) : Nat → Nat
  | 0 => 0
  | n + 1 => cAt b at_ n * 2 + bitB b (at_ + n)
theorem cAt_lt (b : List Nat) (at_ : Nat) : ∀ n, cAt b at_ n < 2 ^ n
  | 0 => by simp [cAt]
  | n + 1 => by
    have := cAt_lt b at_ n
    have := bitB_lt b (at_ + n)
    rw [cAt, Nat.pow_succ]
    omega
def oneF (ls : List Int) (b : List Nat) (at_ : Nat) : Nat → Nat → Option (Nat × Nat)
  | 0, _ => none
  | f + 1, n => if at_ + n ≤ 8 * b.length then (match symAt ls n (cAt b at_ n) with
    | some s => some (s, n)
    | none => oneF ls b at_ f (n + 1)) else none
def one (ls : List Int) (b : List Nat) (at_ : Nat) : Option (Nat × Nat) := oneF ls b at_ 15 1
theorem oneF_end {ls : List Int} {b : List Nat} {at_ n f : Nat} (h : ¬ at_ + n ≤ 8 * b.length) : oneF ls b at_ f n = none := by
  cases f with
  | zero => rfl
  | succ f => rw [oneF, if_neg h]
theorem oneF_some {ls : List Int} {b : List Nat} {at_ n f s : Nat} (h : at_ + n ≤ 8 * b.length) (hs : symAt ls n (cAt b at_ n) = some s) : oneF ls b at_ (f + 1) n = some (s, n) := by
  rw [oneF, if_pos h, hs]
theorem oneF_none {ls : List Int} {b : List Nat} {at_ n f : Nat} (h : at_ + n ≤ 8 * b.length) (hs : symAt ls n (cAt b at_ n) = none) : oneF ls b at_ (f + 1) n = oneF ls b at_ f (n + 1) := by
  rw [oneF, if_pos h, hs]
theorem oneF_spec {ls : List Int} {b : List Nat} {at_ s m : Nat} : ∀ (f n : Nat), 0 < n → oneF ls b at_ f n = some (s, m) → n ≤ m ∧ m < n + f ∧ at_ + m ≤ 8 * b.length ∧ s < ls.length ∧ ln ls s = m ∧ codeV ls s = cAt b at_ m
  | 0, n, _, h => by simp [oneF] at h
  | f + 1, n, h0, h => by
    rw [oneF] at h
    split at h
    · rename_i h1
      cases hx : symAt ls n (cAt b at_ n) with
      | some s' =>
        rw [hx] at h
        simp only [Option.some.injEq, Prod.mk.injEq] at h
        obtain ⟨rfl, rfl⟩ := h
        have := (symAt_some h0).1 hx
        exact ⟨Nat.le_refl _, by omega, h1, this⟩
      | none =>
        rw [hx] at h
        have := oneF_spec f (n + 1) (by omega) h
        omega
    · cases h
theorem one_spec {ls : List Int} {b : List Nat} {at_ s m : Nat} (h : one ls b at_ = some (s, m)) : 1 ≤ m ∧ m ≤ 15 ∧ at_ + m ≤ 8 * b.length ∧ s < ls.length ∧ ln ls s = m ∧ codeV ls s = cAt b at_ m := by
  have := oneF_spec 15 1 (by omega) h
  omega
def dst (ls : List Int) (b : List Nat) : Nat → List Nat × Nat
  | 0 => ([], 0)
  | k + 1 => match one ls b (dst ls b k).2 with
    | some (s, n) => ((dst ls b k).1 ++ [s], (dst ls b k).2 + n)
    | none => dst ls b k
theorem dst_some {ls : List Int} {b : List Nat} {k s n : Nat} (h : one ls b (dst ls b k).2 = some (s, n)) : dst ls b (k + 1) = ((dst ls b k).1 ++ [s], (dst ls b k).2 + n) := by
  rw [dst, h]
def DecP (ls : List Int) (b : List Nat) (n : Nat) (l : List Nat) (a : Nat) (E : Int) : Prop :=
  (∀ j, j < n → one ls b (dst ls b j).2 ≠ none) ∧ l = (dst ls b n).1 ∧ a = (dst ls b n).2 ∧ E = 0 ∨
  ∃ k, k < n ∧ (∀ j, j < k → one ls b (dst ls b j).2 ≠ none) ∧ one ls b (dst ls b k).2 = none ∧ l = [] ∧ a = (dst ls b k).2 ∧ E = 52
theorem DecP.same {ls : List Int} {b : List Nat} {n : Nat} {l l' : List Nat} {a a' : Nat} {E E' : Int} (h : DecP ls b n l a E) (h' : DecP ls b n l' a' E') : l = l' ∧ a = a' ∧ E = E' := by
  rcases h with ⟨h1, rfl, rfl, rfl⟩ | ⟨k, hk, h1, h2, rfl, rfl, rfl⟩
  · rcases h' with ⟨_, rfl, rfl, rfl⟩ | ⟨k', hk', _, h2', _⟩
    · exact ⟨rfl, rfl, rfl⟩
    · exact absurd h2' (h1 k' hk')
  · rcases h' with ⟨h1', _⟩ | ⟨k', hk', h1', h2', rfl, rfl, rfl⟩
    · exact absurd h2 (h1' k hk)
    · rcases Nat.lt_trichotomy k k' with h | rfl | h
      · exact absurd h2 (h1' k h)
      · exact ⟨rfl, rfl, rfl⟩
      · exact absurd h2' (h1 k' h)
end Go.Huf
namespace Go.Huf
theorem byte_bit (l : List Bool) (k : Nat) {r : Nat} (h : r < 8) : byteAt l k / 2 ^ (7 - r) % 2 = b2n (l.getD (8 * k + r) false) := by
  have e : byteAt l k = b2n (l.getD (8 * k) false) * 128 + b2n (l.getD (8 * k + 1) false) * 64 + b2n (l.getD (8 * k + 2) false) * 32 + b2n (l.getD (8 * k + 3) false) * 16 + b2n (l.getD (8 * k + 4) false) * 8 + b2n (l.getD (8 * k + 5) false) * 4 + b2n (l.getD (8 * k + 6) false) * 2 + b2n (l.getD (8 * k + 7) false) := by
    unfold byteAt b2n
    simp only [sumR, Nat.add_zero]
    have hx : ∀ (p : Bool) (c : Nat), (if p = true then c else 0) = (if p = true then 1 else 0) * c := fun p c => by cases p <;> simp
    rw [hx (l.getD (8 * k) false) (2 ^ (7 - 0)), hx (l.getD (8 * k + 1) false) (2 ^ (7 - 1)), hx (l.getD (8 * k + 2) false) (2 ^ (7 - 2)), hx (l.getD (8 * k + 3) false) (2 ^ (7 - 3)), hx (l.getD (8 * k + 4) false) (2 ^ (7 - 4)), hx (l.getD (8 * k + 5) false) (2 ^ (7 - 5)), hx (l.getD (8 * k + 6) false) (2 ^ (7 - 6)), hx (l.getD (8 * k + 7) false) (2 ^ (7 - 7))]
    simp only [Nat.zero_add, Nat.reduceSub, Nat.reducePow, Nat.mul_one]
  have hb : ∀ p : Bool, b2n p ≤ 1 := fun p => by cases p <;> simp [b2n]
  have h0 := hb (l.getD (8 * k) false)
  have h1 := hb (l.getD (8 * k + 1) false)
  have h2 := hb (l.getD (8 * k + 2) false)
  have h3 := hb (l.getD (8 * k + 3) false)
  have h4 := hb (l.getD (8 * k + 4) false)
  have h5 := hb (l.getD (8 * k + 5) false)
  have h6 := hb (l.getD (8 * k + 6) false)
  have h7 := hb (l.getD (8 * k + 7) false)
  rw [e]
  rcases (show r = 0 ∨ r = 1 ∨ r = 2 ∨ r = 3 ∨ r = 4 ∨ r = 5 ∨ r = 6 ∨ r = 7 by omega) with rfl | rfl | rfl | rfl | rfl | rfl | rfl | rfl
  all_goals
    simp only [Nat.add_zero, Nat.reduceSub, Nat.reducePow]
    omega
theorem bit_pack (l : List Bool) (beh : List Nat) {i : Nat} (h : i < l.length) : bitB (pack l ++ beh) i = b2n (l.getD i false) := by
  unfold bitB
  have hk : i / 8 < (pack l).length := by rw [pack_len]; omega
  rw [List.getD_eq_getElem?_getD, List.getElem?_append_left hk, List.getElem?_eq_getElem hk, Option.getD_some]
  have : (pack l)[i / 8] = byteAt l (i / 8) := by simp [pack]
  rw [this, byte_bit l (i / 8) (by omega), show 8 * (i / 8) + i % 8 = i by omega]
section
variable {ls : List Int} {b : List Nat}
theorem cAt_code {c m at_ : Nat} (hc : c < 2 ^ m) (h : ∀ j, j < m → bitB b (at_ + j) = b2n (bitAt c m j)) : ∀ n, n ≤ m → cAt b at_ n = c / 2 ^ (m - n)
  | 0, _ => by rw [cAt, Nat.sub_zero, Nat.div_eq_of_lt hc]
  | n + 1, hn => by
    rw [cAt, cAt_code hc h n (by omega), h n (by omega), b2n_bit]
    obtain ⟨d, hd⟩ : ∃ d, m - n = d + 1 := ⟨m - n - 1, by omega⟩
    rw [hd, show m - (n + 1) = d by omega, show m - 1 - n = d by omega, Nat.pow_succ, ← Nat.div_div_eq_div_mul]
    omega
theorem oneF_run (hok : okL ls) {s m at_ : Nat} (hs : s < ls.length) (hm : ln ls s = m) (hm1 : 1 ≤ m) (hat : at_ + m ≤ 8 * b.length) (h : ∀ j, j < m → bitB b (at_ + j) = b2n (bitAt (codeV ls s) m j)) :
    ∀ (f n : Nat), 1 ≤ n → n ≤ m → m < n + f → oneF ls b at_ f n = some (s, m)
  | 0, n, h1, h2, h3 => by omega
  | f + 1, n, h1, h2, h3 => by
    have hcl := codeV_lt hok hs (by omega)
    rw [hm, Int.toNat_natCast] at hcl
    have hcn := cAt_code hcl h n h2
    by_cases he : n = m
    · subst he
      refine oneF_some (by omega) ((symAt_some (by omega)).2 ⟨hs, hm, ?_⟩)
      rw [hcn]
      simp
    · rw [oneF_none (by omega) ((symAt_none (by omega)).2 (fun s' q1 q2 q3 => by
        have := code_apart hok q1 hs (by omega) (by omega) (by
          rw [q3, hcn, hm, q2]
          simp)
        subst this
        omega))]
      exact oneF_run hok hs hm hm1 hat h f (n + 1) (by omega) (by omega) (by omega)
end
theorem dst_back {ls ss : List Int} {beh : List Nat} (hok : okL ls) (hall : ∀ s ∈ ss, okS ls s) : ∀ k, k ≤ ss.length →
    dst ls (pack (bitsOf ls ss) ++ beh) k = ((ss.take k).map Int.toNat, (bitsOf ls (ss.take k)).length) ∧ ∀ j, j < k → one ls (pack (bitsOf ls ss) ++ beh) (dst ls (pack (bitsOf ls ss) ++ beh) j).2 ≠ none
  | 0, _ => ⟨by simp [dst, bitsOf], fun j hj => by omega⟩
  | k + 1, hk => by
    obtain ⟨ih1, ih2⟩ := dst_back (beh := beh) hok hall k (by omega)
    have hkl : k < ss.length := by omega
    have htk : ss.take (k + 1) = ss.take k ++ [ss[k]] := List.take_succ_eq_append_getElem hkl
    obtain ⟨h0, h1, h2⟩ := hall _ (List.getElem_mem hkl)
    have hsplit : bitsOf ls ss = bitsOf ls (ss.take k) ++ (symBits ls ss[k] ++ bitsOf ls (ss.drop (k + 1))) := by
      have e : ss = ss.take k ++ (ss[k] :: ss.drop (k + 1)) := by rw [← List.drop_eq_getElem_cons hkl, List.take_append_drop]
      conv => lhs; rw [e]
      unfold bitsOf
      rw [List.flatMap_append, List.flatMap_cons]
    generalize hx : ss[k] = x at *
    obtain ⟨s, rfl⟩ : ∃ s : Nat, x = s := ⟨x.toNat, by omega⟩
    rw [Int.toNat_natCast] at h2
    have hg := ln_good hok.2.1 s
    obtain ⟨m, hm⟩ : ∃ m : Nat, ln ls s = m := ⟨(ln ls s).toNat, by omega⟩
    have hsb : symBits ls s = bitsK (codeV ls s) m := by unfold symBits; rw [Int.toNat_natCast, hm, Int.toNat_natCast]
    rw [hsb] at hsplit
    obtain ⟨at_, hat⟩ : ∃ at_, at_ = (bitsOf ls (ss.take k)).length := ⟨_, rfl⟩
    have hlen : (bitsOf ls ss).length = at_ + (m + (bitsOf ls (ss.drop (k + 1))).length) := by
      rw [hsplit, List.length_append, List.length_append, bitsK_len, hat]
    have hone : one ls (pack (bitsOf ls ss) ++ beh) at_ = some (s, m) := by
      refine oneF_run hok (by omega) hm (by omega) ?_ (fun j hj => ?_) 15 1 (Nat.le_refl _) (by omega) (by omega)
      · rw [List.length_append, pack_len]
        omega
      · rw [bit_pack _ _ (by omega)]
        congr 1
        rw [List.getD_eq_getElem?_getD, hsplit, List.getElem?_append_right (by omega), ← hat, Nat.add_sub_cancel_left, List.getElem?_append_left (by rw [bitsK_len]; exact hj)]
        simp [bitsK, hj]
    have hd := dst_some (ls := ls) (b := pack (bitsOf ls ss) ++ beh) (k := k) (s := s) (n := m) (by rw [ih1, ← hat]; exact hone)
    refine ⟨?_, fun j hj => ?_⟩
    · rw [hd, ih1, htk, List.map_append, bitsOf_snoc, hsb, List.length_append, bitsK_len]
      simp
    · rcases Nat.lt_succ_iff_lt_or_eq.1 hj with h3 | rfl
      · exact ih2 j h3
      · rw [ih1]
        dsimp only
        rw [← hat, hone]
        simp
theorem dec_back {ls ss : List Int} {beh : List Nat} (hok : okL ls) (hall : ∀ s ∈ ss, okS ls s) : DecP ls (pack (bitsOf ls ss) ++ beh) ss.length (ss.map Int.toNat) (bitsOf ls ss).length 0 := by
  obtain ⟨h1, h2⟩ := dst_back (beh := beh) hok hall ss.length (Nat.le_refl _)
  rw [List.take_length] at h1
  exact .inl ⟨h2, by rw [h1], by rw [h1], rfl⟩
end Go.Huf

namespace Go.Huf
instance (cs : List Int) : Decidable (okC cs) := by unfold okC; infer_instance
end Go.Huf
namespace Go.Proofs.YtdnaahbhfjclpaaGreatDoor
open Go.RowKit Go.Sal Go.Huf
theorem own_n {w : World} {base n : Nat} {v : Value} {l : List Int} (h : w.ownsRow base 3 1 v n (inI l)) : n = l.length := by
  have := h.1
  rw [inI_len] at this
  omega
end Go.Proofs.YtdnaahbhfjclpaaGreatDoor

namespace Go.Cod
open Go.Huf
abbrev Tk := Int × Int × Nat
def okT (t : Tk) : Bool := (decide (t.1 = 0) && decide (t.2.1 = 1)) || (decide (1 ≤ t.1) && decide (t.1 ≤ 4096) && decide (4 ≤ t.2.1) && decide (t.2.1 ≤ 258) && decide (t.2.2 = 0))
def sumT (l : List Tk) : Int := (l.map fun t => t.2.1).sum
def sizeE (l : List Tk) : Int := if l.all okT then (if 65536 < sumT l then 2 else 0) else 60
def sizeN (l : List Tk) : Int := if sizeE l = 0 then sumT l else 0
def symT (t : Tk) : Nat := if t.1 = 0 then t.2.2 else (252 + t.2.1).toNat
def dsT (t : Tk) : Nat := Nat.log2 t.1.toNat
def litOk (l : List Tk) : Prop := ∀ t ∈ l, t.2.2 < 256
theorem okT_cases {t : Tk} (h : okT t = true) : t.1 = 0 ∧ t.2.1 = 1 ∨ (1 ≤ t.1 ∧ t.1 ≤ 4096 ∧ 4 ≤ t.2.1 ∧ t.2.1 ≤ 258 ∧ t.2.2 = 0) := by
  simp [okT] at h; omega
theorem okT_len {t : Tk} (h : okT t = true) : 1 ≤ t.2.1 ∧ t.2.1 ≤ 258 := by rcases okT_cases h with h | h <;> omega
theorem symT_lt {t : Tk} (h : okT t = true) (hl : t.2.2 < 256) : symT t < 511 := by
  unfold symT
  rcases okT_cases h with h | h
  · rw [if_pos h.1]; omega
  · rw [if_neg (by omega)]; omega
theorem dsT_lt {t : Tk} (h : okT t = true) (hd : 0 < t.1) : dsT t < 13 ∧ dsT t ≤ 12 := by
  unfold dsT
  have h2 : t.1.toNat ≤ 4096 := by rcases okT_cases h with h | h <;> omega
  have h1 : t.1.toNat ≠ 0 := by omega
  have : t.1.toNat.log2 < 13 := by
    rw [Nat.log2_lt h1]
    omega
  omega
def cntG (p : Tk → Nat → Bool) (n : Nat) (l : List Tk) : List Int := (List.range n).map fun s => ((l.countP fun t => p t s : Nat) : Int)
def cntA (l : List Tk) : List Int := cntG (fun t s => decide (symT t = s)) 511 l
def cntD (l : List Tk) : List Int := cntG (fun t s => decide (0 < t.1) && decide (dsT t = s)) 13 l
section
variable {p : Tk → Nat → Bool} {n : Nat} {l : List Tk}
theorem cntG_len : (cntG p n l).length = n := by simp [cntG]
theorem cntG_nil : cntG p n [] = List.replicate n 0 := by
  apply List.ext_getElem
  · simp [cntG]
  · intro i h1 h2; simp [cntG]
theorem cntG_get {s : Nat} (h : s < (cntG p n l).length) : (cntG p n l)[s] = ((l.countP fun t => p t s : Nat) : Int) := by simp [cntG]
theorem cntG_snoc (t : Tk) {k : Nat} (h : k < (cntG p n l).length) {v : Int} (hv : v = (cntG p n l)[k] + 1) (hp : ∀ i, p t i = decide (k = i)) : (cntG p n l).set k v = cntG p n (l ++ [t]) := by
  apply List.ext_getElem
  · simp [cntG]
  · intro i h1 h2
    rw [List.getElem_set, cntG_get h2, List.countP_append]
    by_cases hi : k = i
    · subst hi; rw [if_pos rfl, hv, cntG_get]; simp [hp]
    · rw [if_neg hi, cntG_get]; simp [hp, hi]
theorem cntG_same (t : Tk) (hp : ∀ i, p t i = false) : cntG p n (l ++ [t]) = cntG p n l := by
  apply List.ext_getElem
  · simp [cntG]
  · intro i h1 h2
    rw [cntG_get, cntG_get, List.countP_append]
    simp [hp]
theorem cntG_bd : ∀ x ∈ cntG p n l, 0 ≤ x ∧ x ≤ l.length := by
  intro x hx
  simp only [cntG, List.mem_map] at hx
  obtain ⟨s, _, rfl⟩ := hx
  have := List.countP_le_length (p := fun t => p t s) (l := l)
  omega
end
theorem cntA_len (l : List Tk) : (cntA l).length = 511 := cntG_len
theorem cntD_len (l : List Tk) : (cntD l).length = 13 := cntG_len
theorem cntA_nil : cntA [] = List.replicate 511 0 := cntG_nil
theorem cntD_nil : cntD [] = List.replicate 13 0 := cntG_nil
theorem cntA_snoc (l : List Tk) (t : Tk) (h : symT t < (cntA l).length) {v : Int} (hv : v = (cntA l)[symT t] + 1) : (cntA l).set (symT t) v = cntA (l ++ [t]) := cntG_snoc t h hv (fun _ => rfl)
theorem cntD_snoc (l : List Tk) (t : Tk) (h : dsT t < (cntD l).length) (hp : 0 < t.1) {v : Int} (hv : v = (cntD l)[dsT t] + 1) : (cntD l).set (dsT t) v = cntD (l ++ [t]) := cntG_snoc t h hv (fun i => by simp [hp])
theorem cntD_same (l : List Tk) (t : Tk) (hp : ¬ 0 < t.1) : cntD (l ++ [t]) = cntD l := cntG_same t (fun i => by simp [hp])
theorem cntA_bd (l : List Tk) : ∀ n ∈ cntA l, 0 ≤ n ∧ n ≤ l.length := cntG_bd
theorem cntD_bd (l : List Tk) : ∀ n ∈ cntD l, 0 ≤ n ∧ n ≤ l.length := cntG_bd
def varF : Nat → Nat → List Nat
  | 0, x => [x]
  | f + 1, x => if x < 128 then [x] else (x % 128 + 128) :: varF f (x / 128)
def varP (x : Nat) : List Nat := varF 9 x
def rdV : Nat → List Nat → Option (Nat × Nat)
  | _, [] => none
  | i, c :: l => if i = 9 ∧ c ≠ 1 ∨ 0 < i ∧ c = 0 then none else if c < 128 then some (c, 1) else (rdV (i + 1) l).map fun p => (c - 128 + 128 * p.1, p.2 + 1)
def runK (x : Int) (l : List Int) : Nat := (l.takeWhile (fun y => decide (y = x))).length
def runF : Nat → List Int → List Nat
  | 0, _ => []
  | _ + 1, [] => []
  | f + 1, x :: l => x.toNat :: (varP (runK x l + 1) ++ runF f (l.drop (runK x l)))
def runsP (l : List Int) : List Nat := runF l.length l
def tokBits (la lb : List Int) (t : Tk) : List Bool := symBits la (symT t) ++ (if 0 < t.1 then symBits lb (dsT t) ++ bitsK t.1.toNat (dsT t) else [])
def tokB (la lb : List Int) (l : List Tk) : List Bool := l.flatMap (tokBits la lb)
def lenA (l : List Tk) : List Int := toI (lens (cntA l))
def lenD (l : List Tk) : List Int := toI (lens (cntD l))
def hdP (l : List Tk) : List Nat := runsP (lenA l) ++ runsP (lenD l) ++ varP l.length
def packP (l : List Tk) : List Nat := hdP l ++ pack (tokB (lenA l) (lenD l) l)
def packR (l : List Tk) : List Nat := if sizeE l = 0 then packP l else []
theorem tokB_snoc (la lb : List Int) (l : List Tk) (t : Tk) : tokB la lb (l ++ [t]) = tokB la lb l ++ tokBits la lb t := by simp [tokB]
def lenF : Nat → Nat → List Int → List Nat → Option (List Int × List Nat)
  | 0, _, _, _ => none
  | f + 1, n, out, b => if out.length < n then (match b with
    | [] => none
    | x :: b1 => match rdV 0 b1 with
      | none => none
      | some (k, u) => if k < 1 ∨ n - out.length < k then none else lenF f n (out ++ List.replicate k (x : Int)) (b1.drop u)) else if okL out then some (out, b) else none
def lenP (n : Nat) (b : List Nat) : Option (List Int × List Nat) := lenF (n + 1) n [] b
def vAt (b : List Nat) (at_ : Nat) : Nat → Nat
  | 0 => 1
  | n + 1 => vAt b at_ n * 2 + bitB b (at_ + n)
def tokR (la lb : List Int) (b : List Nat) (at_ : Nat) : Option (Tk × Nat) :=
  match one la b at_ with
  | none => none
  | some (s, k) => if s < 256 then some ((0, 1, s), at_ + k) else match one lb b (at_ + k) with
    | none => none
    | some (x, k2) => if 8 * b.length < at_ + k + k2 + x then none else some (((vAt b (at_ + k + k2) x : Nat), (s : Int) - 252, 0), at_ + k + k2 + x)
def toksF (la lb : List Int) (b : List Nat) : Nat → Nat → Option (List Tk)
  | 0, _ => some []
  | n + 1, at_ => match tokR la lb b at_ with
    | none => none
    | some (t, a2) => (toksF la lb b n a2).map (t :: ·)
def readP (b : List Nat) : Option (List Tk) :=
  match lenP 511 b with
  | none => none
  | some (la, b1) => match lenP 13 b1 with
    | none => none
    | some (lb, b2) => match rdV 0 b2 with
      | none => none
      | some (n, u) => if 65536 < n then none else toksF la lb (b2.drop u) n 0
def unpT (b : List Nat) : List Tk := match readP b with
  | none => []
  | some l => if b.length ≤ 262144 ∧ sizeE l = 0 ∧ packP l = b then l else []
def unpE (b : List Nat) : Int := if 262144 < b.length then 2 else match readP b with
  | none => 70
  | some l => if sizeE l = 0 ∧ packP l = b then 0 else 70
end Go.Cod

