/- Codes, walked. -/
import Derived.Test.YtknjjodkpknglaaS6
import Derived.Test.YtknjjodkpknglaaHfK
set_option linter.unusedVariables false
set_option linter.unusedSimpArgs false
namespace Go.Proofs.Ytknjjodkpknglaa
open Go.RowKit Go.Sal Go.Huf
def inU (l : List Nat) : List Value := l.map fun (k : Nat) => .int .u16 (k : Int)
theorem inU_len (l : List Nat) : (inU l).length = l.length := by simp [inU]
theorem u16info : (Try.prog.info? 44).map (fun i => (i.zero, i.size, i.bytes)) = some (some (.int .u16 0), 1, 2) := by kernel_rfl
theorem made_u16 : ∀ n : Nat, (madeCells (Value.int .u16 0).cells (n * 1)).toList = inU (List.replicate n 0) := fun n => by
  apply List.ext_getElem
  · simp [madeCells, inU, Value.cells]
  · intro i h1 h2
    simp [madeCells, inU, Value.cells, Nat.mod_one]
/-- make([]uint16, n) -/
theorem wpList_make_u16 {w : World} {ops : Array Oper} {rest : List Oper} {o : Oper} {a : Act} {Q : Exit → Act → World → Prop} (base n : Nat)
    (hg : o.guard = none) (l c : Operand) (hop : o.op = Op.makeSlice 39 l c) (hl : a.eval l = .int .i64 (n : Int)) (hc : a.eval c = .int .i64 (n : Int)) (hn : n ≤ 1000000) (hB : base ≤ w.heap.size)
    (hK : ∀ w', w'.ownsRow base 44 1 (.slice (some ⟨w.heap.size, 0, none⟩) n n) n (inU (List.replicate n 0)) → Keep [] w w' → wpList Try.prog ops Q rest (a.put o.dst (.slice (some ⟨w.heap.size, 0, none⟩) n n)) w') :
    wpList Try.prog ops Q (o :: rest) a w := by
  obtain ⟨i, hi, hz, hs, hby⟩ : ∃ i, Try.prog.info? 44 = some i ∧ i.zero = some (.int .u16 0) ∧ i.size = 1 ∧ i.bytes = 2 := by
    cases hx : Try.prog.info? 44 with
    | none => have := u16info; rw [hx] at this; cases this
    | some i =>
      have := u16info
      rw [hx] at this
      simp only [Option.map_some, Option.some.injEq, Prod.mk.injEq] at this
      exact ⟨i, rfl, this.1, this.2.1, this.2.2⟩
  refine wpList_make_full w hg l c 39 hop base 44 i (.int .u16 0) 1 Try.underlying39 hi hz hs .i64 .i64 _ _ n hl hc rfl rfl (by rw [hby]; omega) (by unfold maxLen; omega) hB ?_
  intro w' h1 h2
  rw [made_u16] at h1
  exact hK w' h1 ((Keep.refl [] w).grown h2 (fun k hk => by cases hk))
theorem inU_cell {w : World} {base g n cap i : Nat} {l : List Nat} (h : w.ownsRow base 44 1 (.slice (some ⟨g, 0, none⟩) n cap) n (inU l)) (hi : i < l.length) :
    w.cell? ⟨g, i, none⟩ = some (.int .u16 (l[i] : Nat)) ∧ w.frozen? ⟨g, i, none⟩ = false := ownsRow_cell h (show (inU l)[i]? = some (.int .u16 (l[i] : Nat)) by simp [inU, hi])
theorem inU_set {w : World} {base g n cap i : Nat} {l : List Nat} (h : w.ownsRow base 44 1 (.slice (some ⟨g, 0, none⟩) n cap) n (inU l)) (hi : i < n) (x : Nat) :
    (w.setCell ⟨g, i, none⟩ (.int .u16 (x : Int))).ownsRow base 44 1 (.slice (some ⟨g, 0, none⟩) n cap) n (inU (l.set i x)) := by
  have := ownsRow_set h i (by omega) (.int .u16 (x : Int))
  rwa [show (inU l).set i (.int .u16 (x : Int)) = inU (l.set i x) by simp [inU, List.map_set]] at this
theorem inN_at {w : World} {base g n cap i : Nat} {l : List Nat} (h : w.ownsRow base 3 1 (.slice (some ⟨g, 0, none⟩) n cap) n (inN l)) (hi : i < l.length) :
    w.cell? ⟨g, i, none⟩ = some (.int .i64 (l[i] : Nat)) ∧ w.frozen? ⟨g, i, none⟩ = false := ownsRow_cell h (show (inN l)[i]? = some (.int .i64 (l[i] : Nat)) by simp [inN, hi])
theorem shl_cast (c d : Nat) : ((c : Int) + 1) * 2 ^ d = (((c + 1) * 2 ^ d : Nat) : Int) := by simp
/-- what Codes answers where the lengths are no code's -/
theorem codes_bad (ls : List Int) (A : Option Addr) (c : Nat) (w : World) (hs : ISrc w A ls) (hn : ls.length ≤ 100000000) (h : ¬ okL ls) :
    Calls Try.prog 21 #[.slice A ls.length c] w fun e w' => e = .returned (.tuple #[.slice none 0 0, .int .i64 51]) ∧ Keep [] w w' := by
  have hc := check_any ls A c w hs hn
  have he : chkE ls = 51 := by unfold chkE; rw [if_neg h]
  rw [he] at hc
  have Hc := Lib.hid hc
  clear hs h hc he
  go_enter Try.func21, Try.ntmps21
  go_wp2_with (go_at_call 19; refine Hc.out.mono ?_; rintro e w' ⟨rfl, hk⟩; have Hk := Lib.hid hk; clear hk)
  go_ret2
  exact ⟨rfl, Hk.out⟩
def CI (w0 w2 : World) (ls : List Int) (g : Nat) (k : Nat) (wr : World) : Prop :=
  wr.ownsRow w0.heap.size 44 1 (.slice (some ⟨g, 0, none⟩) ls.length ls.length) ls.length (inU (cRow ls k)) ∧ Keep [g] w2 wr
def lastC (ls : List Int) (k : Nat) : Int := if k = 0 then 0 else (codeV ls ((ord ls).getD (k - 1) 0) : Nat)
def lastL (ls : List Int) (k : Nat) : Int := if k = 0 then 0 else ln ls ((ord ls).getD (k - 1) 0)

set_option maxRecDepth 20000 in
set_option maxHeartbeats 4000000 in
theorem codes_ok {N : Nat} (H : StabOK N) (hN : N ≤ 100000) (ls : List Int) (A : Option Addr) (c : Nat) (w : World) (hs : ISrc w A ls) (hl : ls.length ≤ N) (h : okL ls) :
    Calls Try.prog 21 #[.slice A ls.length c] w fun e w' => ∃ AO cO, e = .returned (.tuple #[.slice AO ls.length cO, .int .i64 0]) ∧
      w'.ownsRow w.heap.size 44 1 (.slice AO ls.length cO) ls.length (inU (codesL ls)) ∧ Keep [] w w' := by
  have hl5 := h.1
  have hc := check_any ls A c w hs (by omega)
  have he : chkE ls = 0 := by unfold chkE; rw [if_pos h]
  rw [he] at hc
  have Hc := Lib.hid hc
  have Hs := Lib.hid hs
  have HH := Lib.hid H
  have Hok := Lib.hid h
  have hol : (ord ls).length ≤ ls.length := by rw [ord_len]; exact symsK_len _ _
  clear hs h hc he H
  go_enter Try.func21, Try.ntmps21
  go_wp2_with (first
    | (go_at_call 19; refine Hc.out.mono ?_; rintro e w1 ⟨rfl, hk1⟩; have Hk1 := Lib.hid hk1; clear hk1)
    | (at_make; refine wpList_make_u16 w.heap.size ls.length rfl (.tmp 16) (.tmp 16) rfl rfl rfl (by omega) (Hk1.out.size) ?_; intro w2 hown2 hk2; have Hown2 := Lib.hid hown2; have Hk2 := Lib.hid hk2; clear hown2 hk2
       have Ho := Lib.hid (order_any HH.out hN ls A c w2 (Hs.out.keep (Hk1.out.trans Hk2.out) (by simp)) hl Hok.out.2.1))
    | (go_at_call 35; refine Ho.out.mono ?_; rintro e w3 ⟨AO, cO, rfl, hown3, hk3⟩; have Hown3 := Lib.hid hown3; have Hk3 := Lib.hid hk3; clear hown3 hk3))
  obtain ⟨g, hg⟩ : ∃ g, g = w1.heap.size := ⟨_, rfl⟩
  rw [← hg] at Hown2 ⊢
  have hgw : w.heap.size ≤ g := by rw [hg]; exact Hk1.out.size
  have Hk03 : Hid (Keep [] w w3) := Lib.hid ((Hk1.out.trans Hk2.out).trans Hk3.out)
  have Hown : Hid (w3.ownsRow w.heap.size 44 1 (.slice (some ⟨g, 0, none⟩) ls.length ls.length) ls.length (inU (List.replicate ls.length 0))) := Lib.hid (ownsRow_keep Hown2.out Hk3.out (by simp))
  have Hg2 : Hid (g < w2.heap.size ∨ ls.length = 0) := Lib.hid (by
    rcases Nat.eq_zero_or_pos ls.length with h0 | h0
    · exact .inr h0
    · obtain ⟨g', e, h1, _⟩ := own_some Hown2.out h0
      injection e with e
      injection e with e
      subst e
      exact .inl h1)
  have H0 : Hid (CI w w3 ls g 0 w3) := Lib.hid ⟨by rw [cRow_zero]; exact Hown.out, Keep.refl _ _⟩
  clear Hk1 Hk2 Hk3 Hown2 hg Hc Ho Hown
  go_loopw [6, 7, 21] (fun cd lg i wr => ∃ k : Nat, i = .int .i64 k ∧ k ≤ (ord ls).length ∧ cd = .int .i64 (lastC ls k) ∧ lg = .int .i64 (lastL ls k) ∧ Hid (CI w w3 ls g k wr)) (fun _ _ i _ => (ord ls).length - (intOf i).toNat)
  case atStart => exact ⟨0, rfl, by omega, rfl, rfl, H0⟩
  case round =>
    obtain ⟨k, rfl, hk, rfl, rfl, hI⟩ := hrel
    clear H0
    rcases Nat.lt_or_ge k (ord ls).length with hkl | hkl
    · as_aux_lemma =>
        obtain ⟨hown, hkp⟩ := hI.out
        obtain ⟨go, rfl, hgo1, hgo2⟩ := own_some Hown3.out (by omega)
        have hmem := ord_mem.1 (List.getElem_mem hkl)
        have hsl : (ord ls)[k] < ls.length := hmem.1
        have hg2 : g < w2.heap.size := by
          have := Hg2.out
          omega
        have hne : go ≠ g := by omega
        obtain ⟨go3, _⟩ := inN_at Hown3.out hkl
        have d0 := (hkp.cell (p := ⟨go, k, none⟩) hgo1 (by simpa using hne)).trans go3
        obtain ⟨gs, o, rfl, hgs, hcs⟩ := Hs.out _ hsl
        have d1 := ((hkp.cell (p := ⟨gs, o + (ord ls)[k], none⟩) (Nat.lt_of_lt_of_le hgs Hk03.out.size) (by simpa using (show gs ≠ g by omega))).trans (Hk03.out.cell (p := ⟨gs, o + (ord ls)[k], none⟩) hgs (by simp))).trans hcs
        have hset := inU_set hown hsl (codeV ls (ord ls)[k])
        rw [cRow_succ hkl] at hset
        have hroom := inU_cell hown (i := (ord ls)[k]) (by rw [cRow_len]; exact hsl)
        obtain ⟨m1, m2⟩ := hroom
        have hcv := codeV_small Hok.out hsl
        have hlg := ln_good Hok.out.2.1 (ord ls)[k]
        have hlc : lastC ls (k + 1) = (codeV ls (ord ls)[k] : Nat) := by
          unfold lastC; rw [if_neg (by omega), Nat.add_sub_cancel]; simp [List.getD, hkl]
        have hll : lastL ls (k + 1) = ls[(ord ls)[k]] := by
          unfold lastL; rw [if_neg (by omega), Nat.add_sub_cancel]; rw [← ln_eq hsl]; simp [List.getD, hkl]
        have hle := ln_eq hsl
        rw [hle] at hlg
        have hwk : IntKind.i64.wrap ((k : Int) + 1) = (k : Int) + 1 := by rw [IntKind.wrap_i64]; omega
        have Hll := Lib.hid hll
        have hsi : ((ord ls)[k] : Int) < ls.length := by omega
        rcases Nat.eq_zero_or_pos k with rfl | hk0
        · have hz : codeV ls (ord ls)[0] = 0 := code_first Hok.out.2.1 hkl
          rw [hz] at hset hlc
          have HN : Hid (CI w w3 ls g 1 (wr.setCell ⟨g, (ord ls)[0], none⟩ (.int .u16 0))) := Lib.hid ⟨hset, hkp.setCell (.inl (by simp)) _⟩
          have hlz : lastC ls 0 = 0 := rfl
          have Hlc := Lib.hid hlc
          clear hI hown hkp hset hle hlc hll hcv
          rw [hlz]
          generalize lastL ls 0 = lg0 at *
          generalize (ord ls)[0] = s at *
          generalize ls[s] = x at *
          go_wp2
          exact ⟨⟨1, rfl, by omega, by rw [Hlc.out]; rfl, by rw [Hll.out], HN⟩, by simp [intOf]; omega⟩
        · obtain ⟨q, rfl⟩ : ∃ q, k = q + 1 := ⟨k - 1, by omega⟩
          have hnx := code_next Hok.out.2.1 hkl
          have hinc := ord_len_inc hkl
          have hcq := codeV_small Hok.out (ord_mem.1 (List.getElem_mem (show q < (ord ls).length by omega))).1
          have hlq := ln_good Hok.out.2.1 (ord ls)[q]
          have hpc : lastC ls (q + 1) = (codeV ls (ord ls)[q] : Nat) := by
            unfold lastC; rw [if_neg (by omega), Nat.add_sub_cancel]; simp [List.getD, show q < (ord ls).length by omega]
          have hpl : lastL ls (q + 1) = ln ls (ord ls)[q] := by
            unfold lastL; rw [if_neg (by omega), Nat.add_sub_cancel]; simp [List.getD, show q < (ord ls).length by omega]
          have Hlc := Lib.hid hlc
          have HN : Hid (CI w w3 ls g (q + 1 + 1) (wr.setCell ⟨g, (ord ls)[q + 1], none⟩ (.int .u16 (codeV ls (ord ls)[q + 1] : Nat)))) := Lib.hid ⟨hset, hkp.setCell (.inl (by simp)) _⟩
          rw [hle] at hnx hinc
          clear hI hown hkp hset hle hlc hll
          rw [hpc, hpl]
          generalize codeV ls (ord ls)[q] = cq at *
          generalize codeV ls (ord ls)[q + 1] = ck at *
          generalize ln ls (ord ls)[q] = lq at *
          generalize (ord ls)[q + 1] = s at *
          generalize ls[s] = x at *
          obtain ⟨d, hd⟩ : ∃ d : Nat, x - lq = d := ⟨(x - lq).toNat, by omega⟩
          have hd2 : x.toNat - lq.toNat = d := by omega
          have hd15 : d ≤ 15 := by omega
          rw [hd2] at hnx
          have hw1 : IntKind.i64.wrap ((cq : Int) + 1) = (cq : Int) + 1 := by rw [IntKind.wrap_i64]; omega
          have hw2 : IntKind.i64.wrap (x - lq) = (d : Int) := by rw [hd, IntKind.wrap_i64]; omega
          have hw3 : IntKind.u64.wrap (d : Int) = (d : Int) := by rw [IntKind.wrap_u64]; omega
          have hw4 : IntKind.i64.wrap (((cq : Int) + 1) * 2 ^ d) = (ck : Int) := by rw [shl_cast, ← hnx, IntKind.wrap_i64]; omega
          have hw5 : IntKind.u16.wrap (ck : Int) = (ck : Int) := by rw [IntKind.wrap_u16]; omega
          have hk0' : (0 : Int) < ((q + 1 : Nat) : Int) := by omega
          clear hpc hpl hnx hd hd2 hinc
          go_wp2
          exact ⟨⟨q + 1 + 1, by simp, by omega, by rw [Hlc.out], by rw [Hll.out], HN⟩, by simp [intOf]; omega⟩
    · obtain rfl : k = (ord ls).length := by omega
      obtain ⟨hown, hkp⟩ := hI.out
      rw [cRow_all] at hown
      have HR := Lib.hid hown
      have HK : Hid (Keep [] w wr) := Lib.hid (Hk03.out.step hkp (fun i hi => by simp at hi; right; omega))
      clear hI hown hkp
      go_wp2
      go_ret2
      exact ⟨_, _, rfl, HR.out, HK.out⟩
end Go.Proofs.Ytknjjodkpknglaa
