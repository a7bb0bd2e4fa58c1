/- Codes, walked. -/
import Derived.Test.YtiejjbdmkgdniaaS1
import Derived.Test.YtiejjbdmkgdniaaHfP
import Derived.Test.YtiejjbdmkgdniaaC1
set_option linter.unusedVariables false
set_option linter.unusedSimpArgs false
namespace Go.Proofs.Ytiejjbdmkgdniaa
open Go.RowKit Go.Sal Go.Huf
def inU (l : List Nat) : List Value := l.map fun (k : Nat) => .int .u16 (k : Int)
theorem inU_len (l : List Nat) : (inU l).length = l.length := by simp [inU]
theorem u16info : (Try.prog.info? 68).map (fun i => (i.zero, i.size, i.bytes)) = some (some (.int .u16 0), 1, 2) := by kernel_rfl
theorem made_u16 : ∀ n : Nat, (madeCells (Value.int .u16 0).cells (n * 1)).toList = inU (List.replicate n 0) := fun n => by
  apply List.ext_getElem
  · simp [madeCells, inU, Value.cells]
  · intro i h1 h2
    simp [madeCells, inU, Value.cells, Nat.mod_one]
/-- make([]uint16, n) -/
theorem wpList_make_u16 {w : World} {ops : Array Oper} {rest : List Oper} {o : Oper} {a : Act} {Q : Exit → Act → World → Prop} (base n : Nat)
    (hg : o.guard = none) (l c : Operand) (hop : o.op = Op.makeSlice 54 l c) (hl : a.eval l = .int .i64 (n : Int)) (hc : a.eval c = .int .i64 (n : Int)) (hn : n ≤ 1000000) (hB : base ≤ w.heap.size)
    (hK : ∀ w', w'.ownsRow base 68 1 (.slice (some ⟨w.heap.size, 0, none⟩) n n) n (inU (List.replicate n 0)) → Keep [] w w' → wpList Try.prog ops Q rest (a.put o.dst (.slice (some ⟨w.heap.size, 0, none⟩) n n)) w') :
    wpList Try.prog ops Q (o :: rest) a w := by
  obtain ⟨i, hi, hz, hs, hby⟩ : ∃ i, Try.prog.info? 68 = some i ∧ i.zero = some (.int .u16 0) ∧ i.size = 1 ∧ i.bytes = 2 := by
    cases hx : Try.prog.info? 68 with
    | none => have := u16info; rw [hx] at this; cases this
    | some i =>
      have := u16info
      rw [hx] at this
      simp only [Option.map_some, Option.some.injEq, Prod.mk.injEq] at this
      exact ⟨i, rfl, this.1, this.2.1, this.2.2⟩
  refine wpList_make_full w hg l c 54 hop base 68 i (.int .u16 0) 1 Try.underlying54 hi hz hs .i64 .i64 _ _ n hl hc rfl rfl (by rw [hby]; omega) (by unfold maxLen; omega) hB ?_
  intro w' h1 h2
  rw [made_u16] at h1
  exact hK w' h1 ((Keep.refl [] w).grown h2 (fun k hk => by cases hk))
theorem inU_cell {w : World} {base g n cap i : Nat} {l : List Nat} (h : w.ownsRow base 68 1 (.slice (some ⟨g, 0, none⟩) n cap) n (inU l)) (hi : i < l.length) :
    w.cell? ⟨g, i, none⟩ = some (.int .u16 (l[i] : Nat)) ∧ w.frozen? ⟨g, i, none⟩ = false := ownsRow_cell h (show (inU l)[i]? = some (.int .u16 (l[i] : Nat)) by simp [inU, hi])
theorem inU_set {w : World} {base g n cap i : Nat} {l : List Nat} (h : w.ownsRow base 68 1 (.slice (some ⟨g, 0, none⟩) n cap) n (inU l)) (hi : i < n) (x : Nat) :
    (w.setCell ⟨g, i, none⟩ (.int .u16 (x : Int))).ownsRow base 68 1 (.slice (some ⟨g, 0, none⟩) n cap) n (inU (l.set i x)) := by
  have := ownsRow_set h i (by omega) (.int .u16 (x : Int))
  rwa [show (inU l).set i (.int .u16 (x : Int)) = inU (l.set i x) by simp [inU, List.map_set]] at this
theorem inN_at {w : World} {base g n cap i : Nat} {l : List Nat} (h : w.ownsRow base 3 1 (.slice (some ⟨g, 0, none⟩) n cap) n (inN l)) (hi : i < l.length) :
    w.cell? ⟨g, i, none⟩ = some (.int .i64 (l[i] : Nat)) ∧ w.frozen? ⟨g, i, none⟩ = false := ownsRow_cell h (show (inN l)[i]? = some (.int .i64 (l[i] : Nat)) by simp [inN, hi])
theorem shl_cast (c d : Nat) : ((c : Int) + 1) * 2 ^ d = (((c + 1) * 2 ^ d : Nat) : Int) := by simp
/-- what Codes answers where the lengths are no code's -/
theorem codes_bad (ls : List Int) (A : Option Addr) (c : Nat) (w : World) (hs : ISrc w A ls) (hn : ls.length ≤ 100000000) (h : ¬ okL ls) :
    Calls Try.prog 27 #[.slice A ls.length c] w fun e w' => e = .returned (.tuple #[.slice none 0 0, .int .i64 51]) ∧ Keep [] w w' := by
  have hc := check_any ls A c w hs hn
  have he : chkE ls = 51 := by unfold chkE; rw [if_neg h]
  rw [he] at hc
  have Hc := Lib.hid hc
  clear hs h hc he
  go_enter Try.func27, Try.ntmps27
  go_wp2_with (go_at_call 65; refine Hc.out.mono ?_; rintro e w' ⟨rfl, hk⟩; have Hk := Lib.hid hk; clear hk)
  go_ret2
  exact ⟨rfl, Hk.out⟩
def CI (w0 w2 : World) (ls : List Int) (g : Nat) (k : Nat) (wr : World) : Prop :=
  wr.ownsRow w0.heap.size 68 1 (.slice (some ⟨g, 0, none⟩) ls.length ls.length) ls.length (inU (cRow ls k)) ∧ Keep [g] w2 wr
def lastC (ls : List Int) (k : Nat) : Int := if k = 0 then 0 else (codeV ls ((ord ls).getD (k - 1) 0) : Nat)
def lastL (ls : List Int) (k : Nat) : Int := if k = 0 then 0 else ln ls ((ord ls).getD (k - 1) 0)

set_option maxRecDepth 20000 in
set_option maxHeartbeats 4000000 in
theorem codes_ok {N : Nat} (H : StabOK N) (hN : N ≤ 100000) (ls : List Int) (A : Option Addr) (c : Nat) (w : World) (hs : ISrc w A ls) (hl : ls.length ≤ N) (h : okL ls) :
    Calls Try.prog 27 #[.slice A ls.length c] w fun e w' => ∃ AO cO, e = .returned (.tuple #[.slice AO ls.length cO, .int .i64 0]) ∧
      w'.ownsRow w.heap.size 68 1 (.slice AO ls.length cO) ls.length (inU (codesL ls)) ∧ Keep [] w w' := by
  have hl5 := h.1
  have hc := check_any ls A c w hs (by omega)
  have he : chkE ls = 0 := by unfold chkE; rw [if_pos h]
  rw [he] at hc
  have Hc := Lib.hid hc
  have Hs := Lib.hid hs
  have HH := Lib.hid H
  have Hok := Lib.hid h
  have hol : (ord ls).length ≤ ls.length := by rw [ord_len]; exact symsK_len _ _
  clear hs h hc he H
  go_enter Try.func27, Try.ntmps27
  go_wp2_with (first
    | (go_at_call 65; refine Hc.out.mono ?_; rintro e w1 ⟨rfl, hk1⟩; have Hk1 := Lib.hid hk1; clear hk1)
    | (at_make; refine wpList_make_u16 w.heap.size ls.length rfl (.tmp 16) (.tmp 16) rfl rfl rfl (by omega) (Hk1.out.size) ?_; intro w2 hown2 hk2; have Hown2 := Lib.hid hown2; have Hk2 := Lib.hid hk2; clear hown2 hk2
       have Ho := Lib.hid (order_any HH.out hN ls A c w2 (Hs.out.keep (Hk1.out.trans Hk2.out) (by simp)) hl Hok.out.2.1))
    | (go_at_call 66; refine Ho.out.mono ?_; rintro e w3 ⟨AO, cO, rfl, hown3, hk3⟩; have Hown3 := Lib.hid hown3; have Hk3 := Lib.hid hk3; clear hown3 hk3))
  obtain ⟨g, hg⟩ : ∃ g, g = w1.heap.size := ⟨_, rfl⟩
  rw [← hg] at Hown2 ⊢
  have hgw : w.heap.size ≤ g := by rw [hg]; exact Hk1.out.size
  have Hk03 : Hid (Keep [] w w3) := Lib.hid ((Hk1.out.trans Hk2.out).trans Hk3.out)
  have Hown : Hid (w3.ownsRow w.heap.size 68 1 (.slice (some ⟨g, 0, none⟩) ls.length ls.length) ls.length (inU (List.replicate ls.length 0))) := Lib.hid (ownsRow_keep Hown2.out Hk3.out (by simp))
  have Hg2 : Hid (g < w2.heap.size ∨ ls.length = 0) := Lib.hid (by
    rcases Nat.eq_zero_or_pos ls.length with h0 | h0
    · exact .inr h0
    · obtain ⟨g', e, h1, _⟩ := own_some Hown2.out h0
      injection e with e
      injection e with e
      subst e
      exact .inl h1)
  have H0 : Hid (CI w w3 ls g 0 w3) := Lib.hid ⟨by rw [cRow_zero]; exact Hown.out, Keep.refl _ _⟩
  clear Hk1 Hk2 Hk3 Hown2 hg Hc Ho Hown
  go_loopw [6, 7, 21] (fun cd lg i wr => ∃ k : Nat, i = .int .i64 k ∧ k ≤ (ord ls).length ∧ cd = .int .i64 (lastC ls k) ∧ lg = .int .i64 (lastL ls k) ∧ Hid (CI w w3 ls g k wr)) (fun _ _ i _ => (ord ls).length - (intOf i).toNat)
  case atStart => exact ⟨0, rfl, by omega, rfl, rfl, H0⟩
  case round =>
    obtain ⟨k, rfl, hk, rfl, rfl, hI⟩ := hrel
    clear H0
    rcases Nat.lt_or_ge k (ord ls).length with hkl | hkl
    · as_aux_lemma =>
        obtain ⟨hown, hkp⟩ := hI.out
        obtain ⟨go, rfl, hgo1, hgo2⟩ := own_some Hown3.out (by omega)
        have hmem := ord_mem.1 (List.getElem_mem hkl)
        have hsl : (ord ls)[k] < ls.length := hmem.1
        have hg2 : g < w2.heap.size := by
          have := Hg2.out
          omega
        have hne : go ≠ g := by omega
        obtain ⟨go3, _⟩ := inN_at Hown3.out hkl
        have d0 := (hkp.cell (p := ⟨go, k, none⟩) hgo1 (by simpa using hne)).trans go3
        obtain ⟨gs, o, rfl, hgs, hcs⟩ := Hs.out _ hsl
        have d1 := ((hkp.cell (p := ⟨gs, o + (ord ls)[k], none⟩) (Nat.lt_of_lt_of_le hgs Hk03.out.size) (by simpa using (show gs ≠ g by omega))).trans (Hk03.out.cell (p := ⟨gs, o + (ord ls)[k], none⟩) hgs (by simp))).trans hcs
        have hset := inU_set hown hsl (codeV ls (ord ls)[k])
        rw [cRow_succ hkl] at hset
        have hroom := inU_cell hown (i := (ord ls)[k]) (by rw [cRow_len]; exact hsl)
        obtain ⟨m1, m2⟩ := hroom
        have hcv := codeV_small Hok.out hsl
        have hlg := ln_good Hok.out.2.1 (ord ls)[k]
        have hlc : lastC ls (k + 1) = (codeV ls (ord ls)[k] : Nat) := by
          unfold lastC; rw [if_neg (by omega), Nat.add_sub_cancel]; simp [List.getD, hkl]
        have hll : lastL ls (k + 1) = ls[(ord ls)[k]] := by
          unfold lastL; rw [if_neg (by omega), Nat.add_sub_cancel]; rw [← ln_eq hsl]; simp [List.getD, hkl]
        have hle := ln_eq hsl
        rw [hle] at hlg
        have hwk : IntKind.i64.wrap ((k : Int) + 1) = (k : Int) + 1 := by rw [IntKind.wrap_i64]; omega
        have Hll := Lib.hid hll
        have hsi : ((ord ls)[k] : Int) < ls.length := by omega
        rcases Nat.eq_zero_or_pos k with rfl | hk0
        · have hz : codeV ls (ord ls)[0] = 0 := code_first Hok.out.2.1 hkl
          rw [hz] at hset hlc
          have HN : Hid (CI w w3 ls g 1 (wr.setCell ⟨g, (ord ls)[0], none⟩ (.int .u16 0))) := Lib.hid ⟨hset, hkp.setCell (.inl (by simp)) _⟩
          have hlz : lastC ls 0 = 0 := rfl
          have Hlc := Lib.hid hlc
          clear hI hown hkp hset hle hlc hll hcv
          rw [hlz]
          generalize lastL ls 0 = lg0 at *
          generalize (ord ls)[0] = s at *
          generalize ls[s] = x at *
          go_wp2
          exact ⟨⟨1, rfl, by omega, by rw [Hlc.out]; rfl, by rw [Hll.out], HN⟩, by simp [intOf]; omega⟩
        · obtain ⟨q, rfl⟩ : ∃ q, k = q + 1 := ⟨k - 1, by omega⟩
          have hnx := code_next Hok.out.2.1 hkl
          have hinc := ord_len_inc hkl
          have hcq := codeV_small Hok.out (ord_mem.1 (List.getElem_mem (show q < (ord ls).length by omega))).1
          have hlq := ln_good Hok.out.2.1 (ord ls)[q]
          have hpc : lastC ls (q + 1) = (codeV ls (ord ls)[q] : Nat) := by
            unfold lastC; rw [if_neg (by omega), Nat.add_sub_cancel]; simp [List.getD, show q < (ord ls).length by omega]
          have hpl : lastL ls (q + 1) = ln ls (ord ls)[q] := by
            unfold lastL; rw [if_neg (by omega), Nat.add_sub_cancel]; simp [List.getD, show q < (ord ls).length by omega]
          have Hlc := Lib.hid hlc
          have HN : Hid (CI w w3 ls g (q + 1 + 1) (wr.setCell ⟨g, (ord ls)[q + 1], none⟩ (.int .u16 (codeV ls (ord ls)[q + 1] : Nat)))) := Lib.hid ⟨hset, hkp.setCell (.inl (by simp)) _⟩
          rw [hle] at hnx hinc
          clear hI hown hkp hset hle hlc hll
          rw [hpc, hpl]
          generalize codeV ls (ord ls)[q] = cq at *
          generalize codeV ls (ord ls)[q + 1] = ck at *
          generalize ln ls (ord ls)[q] = lq at *
          generalize (ord ls)[q + 1] = s at *
          generalize ls[s] = x at *
          obtain ⟨d, hd⟩ : ∃ d : Nat, x - lq = d := ⟨(x - lq).toNat, by omega⟩
          have hd2 : x.toNat - lq.toNat = d := by omega
          have hd15 : d ≤ 15 := by omega
          rw [hd2] at hnx
          have hw1 : IntKind.i64.wrap ((cq : Int) + 1) = (cq : Int) + 1 := by rw [IntKind.wrap_i64]; omega
          have hw2 : IntKind.i64.wrap (x - lq) = (d : Int) := by rw [hd, IntKind.wrap_i64]; omega
          have hw3 : IntKind.u64.wrap (d : Int) = (d : Int) := by rw [IntKind.wrap_u64]; omega
          have hw4 : IntKind.i64.wrap (((cq : Int) + 1) * 2 ^ d) = (ck : Int) := by rw [shl_cast, ← hnx, IntKind.wrap_i64]; omega
          have hw5 : IntKind.u16.wrap (ck : Int) = (ck : Int) := by rw [IntKind.wrap_u16]; omega
          have hk0' : (0 : Int) < ((q + 1 : Nat) : Int) := by omega
          clear hpc hpl hnx hd hd2 hinc
          go_wp2
          exact ⟨⟨q + 1 + 1, by simp, by omega, by rw [Hlc.out], by rw [Hll.out], HN⟩, by simp [intOf]; omega⟩
    · obtain rfl : k = (ord ls).length := by omega
      obtain ⟨hown, hkp⟩ := hI.out
      rw [cRow_all] at hown
      have HR := Lib.hid hown
      have HK : Hid (Keep [] w wr) := Lib.hid (Hk03.out.step hkp (fun i hi => by simp at hi; right; omega))
      clear hI hown hkp
      go_wp2
      go_ret2
      exact ⟨_, _, rfl, HR.out, HK.out⟩
end Go.Proofs.Ytiejjbdmkgdniaa
set_option linter.unusedVariables false
set_option linter.unusedSimpArgs false
namespace Go.Huf
/-- the row of codes while they are laid: those of length below n, and the first i of length n -/
def rRow (ls : List Int) (n i : Nat) : List Nat := (List.range ls.length).map fun s => if ahead ls n i s then codeV ls s else 0
theorem rRow_len (ls : List Int) (n i : Nat) : (rRow ls n i).length = ls.length := by simp [rRow]
theorem rRow_zero (ls : List Int) : rRow ls 1 0 = List.replicate ls.length 0 := by
  apply List.ext_getElem
  · simp [rRow]
  · intro i h1 h2
    simp only [rRow, List.getElem_map, List.getElem_range, List.getElem_replicate]
    split
    · rename_i h
      unfold codeV
      rw [if_neg (by unfold ahead at h; omega)]
    · rfl
theorem rRow_end (ls : List Int) (n : Nat) : rRow ls n ls.length = rRow ls (n + 1) 0 := by
  unfold rRow
  refine List.map_congr_left (fun s hs => ?_)
  have hs' : s < ls.length := by simpa using hs
  have : ahead ls n ls.length s ↔ ahead ls (n + 1) 0 s := by unfold ahead; omega
  simp only [this]
theorem rRow_all {ls : List Int} (hg : good ls) : rRow ls 16 0 = codesL ls := by
  unfold rRow codesL
  refine List.map_congr_left (fun s hs => ?_)
  rw [if_pos]
  have := ln_good hg s
  unfold ahead
  omega
theorem rRow_set {ls : List Int} {n i : Nat} (hi : i < ls.length) (h : ln ls i = n) : (rRow ls n i).set i (codeV ls i) = rRow ls n (i + 1) := by
  apply List.ext_getElem
  · simp [rRow]
  · intro s h1 h2
    rw [List.getElem_set]
    simp only [rRow, List.getElem_map, List.getElem_range]
    by_cases hs : i = s
    · subst hs
      rw [if_pos rfl, if_pos (show ahead ls n (i + 1) i from .inr ⟨h, by omega⟩)]
    · rw [if_neg hs]
      have : ahead ls n (i + 1) s ↔ ahead ls n i s := by unfold ahead; omega
      simp only [this]
theorem rRow_skip {ls : List Int} {n i : Nat} (h : ln ls i ≠ n) : rRow ls n (i + 1) = rRow ls n i := by
  unfold rRow
  refine List.map_congr_left (fun s hs => ?_)
  have : ahead ls n (i + 1) s ↔ ahead ls n i s := by
    unfold ahead
    by_cases hs : s = i
    · subst hs; omega
    · omega
  simp only [this]
def nextV (ls : List Int) (n i : Nat) : Nat := preN ls n i / p2 n
theorem nextV_first (ls : List Int) : nextV ls 1 0 = 0 := by unfold nextV; rw [preN_first]; simp
theorem nextV_code {ls : List Int} {n i : Nat} (hn : 0 < n) (h : ln ls i = n) : codeV ls i = nextV ls n i := by
  unfold codeV nextV
  rw [if_pos (by omega), h]
  simp
theorem nextV_step {ls : List Int} {n i : Nat} (hn : 0 < n) (hi : i < ls.length) : nextV ls n (i + 1) = nextV ls n i + (if ln ls i = n then 1 else 0) := by
  unfold nextV
  rw [preN_step hn hi]
  split
  · rw [Nat.add_div_right _ (p2_pos n)]
  · rfl
theorem nextV_end {ls : List Int} {n : Nat} (h : n < 15) : nextV ls (n + 1) 0 = nextV ls n ls.length * 2 := by
  unfold nextV
  rw [preN_end]
  have h1 : p2 n ∣ preN ls (n + 1) 0 := by rw [← preN_end]; exact preN_dvd
  rw [p2_half h] at h1 ⊢
  obtain ⟨q, hq⟩ := h1
  rw [hq, Nat.mul_div_cancel_left _ (by have := p2_pos (n + 1); omega), show 2 * p2 (n + 1) * q = p2 (n + 1) * (q * 2) by rw [Nat.mul_comm 2, Nat.mul_assoc, Nat.mul_comm 2], Nat.mul_div_cancel_left _ (p2_pos _)]
theorem nextV_small {ls : List Int} (h : okL ls) (n i : Nat) : nextV ls n i ≤ 32768 := by
  have h1 := preN_room (ls := ls) (n := n) (i := i)
  have h2 := ok_room h
  have : nextV ls n i ≤ preN ls n i := Nat.div_le_self _ _
  omega
end Go.Huf
namespace Go.Proofs.Ytiejjbdmkgdniaa
open Go.RowKit Go.Sal Go.Huf
theorem rcodes_bad (ls : List Int) (A : Option Addr) (c : Nat) (w : World) (hs : ISrc w A ls) (hn : ls.length ≤ 100000000) (h : ¬ okL ls) :
    Calls Try.prog 38 #[.slice A ls.length c] w fun e w' => e = .returned (.tuple #[.slice none 0 0, .int .i64 51]) ∧ w = w' := by
  have hc := rcheck_any ls A c w hs (by omega)
  have he : chkE ls = 51 := by unfold chkE; rw [if_neg h]
  rw [he] at hc
  have Hc := Lib.hid hc
  clear hs h hc he
  go_enter Try.func38, Try.ntmps38
  go_wp2_with (go_at_call 72; refine Hc.out.mono ?_; rintro e w' ⟨rfl, rfl⟩)
  go_ret2
  exact ⟨rfl, rfl⟩
def RCI (w w2 : World) (ls : List Int) (g : Nat) (n i : Nat) (wr : World) : Prop :=
  wr.ownsRow w.heap.size 68 1 (.slice (some ⟨g, 0, none⟩) ls.length ls.length) ls.length (inU (rRow ls n i)) ∧ Keep [g] w2 wr

set_option maxRecDepth 20000 in
set_option maxHeartbeats 4000000 in
theorem rcodes_ok (ls : List Int) (A : Option Addr) (c : Nat) (w : World) (hs : ISrc w A ls) (h : okL ls) :
    Calls Try.prog 38 #[.slice A ls.length c] w fun e w' => ∃ AO cO, e = .returned (.tuple #[.slice AO ls.length cO, .int .i64 0]) ∧
      w'.ownsRow w.heap.size 68 1 (.slice AO ls.length cO) ls.length (inU (codesL ls)) ∧ Keep [] w w' := by
  have hl5 := h.1
  have hc := rcheck_any ls A c w hs (by omega)
  have he : chkE ls = 0 := by unfold chkE; rw [if_pos h]
  rw [he] at hc
  have Hc := Lib.hid hc
  have Hs := Lib.hid hs
  have Hok := Lib.hid h
  clear hs h hc he
  go_enter Try.func38, Try.ntmps38
  go_wp2_with (first
    | (go_at_call 72; refine Hc.out.mono ?_; rintro e w1 ⟨rfl, rfl⟩)
    | (at_make; refine wpList_make_u16 w.heap.size ls.length rfl (.tmp 15) (.tmp 15) rfl rfl rfl (by omega) (Nat.le_refl _) ?_; intro w2 hown2 hk2; have Hown2 := Lib.hid hown2; have Hk2 := Lib.hid hk2; clear hown2 hk2))
  obtain ⟨g, hg⟩ : ∃ g, g = w.heap.size := ⟨_, rfl⟩
  have Hg := Lib.hid hg
  have H0 : Hid (RCI w w2 ls g 1 0 w2) := Lib.hid ⟨by rw [rRow_zero, hg]; exact Hown2.out, Keep.refl _ _⟩
  rw [← hg]
  clear Hown2 hg Hc
  go_loopw [6, 7] (fun nx vn wr => ∃ n x : Nat, vn = .int .i64 n ∧ 1 ≤ n ∧ n ≤ 16 ∧ nx = .int .i64 x ∧ Hid (n ≤ 15 → x = nextV ls n 0) ∧ Hid (RCI w w2 ls g n 0 wr)) (fun _ vn _ => 16 - (intOf vn).toNat)
  case atStart => exact ⟨1, 0, rfl, by omega, by omega, rfl, Lib.hid (fun _ => (nextV_first ls).symm), H0⟩
  case round =>
    obtain ⟨n, x, rfl, hn1, hn16, rfl, hx, hI⟩ := hrel
    clear H0
    rcases Nat.lt_or_ge 15 n with h15 | h15
    · obtain rfl : n = 16 := by omega
      have HR : Hid (wr.ownsRow w.heap.size 68 1 (.slice (some ⟨g, 0, none⟩) ls.length ls.length) ls.length (inU (codesL ls))) := by
        rw [← rRow_all Hok.out.2.1]; exact Lib.hid hI.out.1
      have HK : Hid (Keep [] w wr) := Lib.hid (Hk2.out.step hI.out.2 (fun i hi => by have := Hg.out; simp at hi; right; omega))
      clear hI hx
      go_wp2
      go_ret2
      exact ⟨_, _, rfl, HR.out, HK.out⟩
    · as_aux_lemma =>
        have hni : (n : Int) ≤ 15 := by omega
        have hxe := hx.out h15
        subst hxe
        clear hx
        have hwn : IntKind.i64.wrap ((n : Int) + 1) = (n : Int) + 1 := by rw [IntKind.wrap_i64]; omega
        go_wp2
        go_loopw [6, 8] (fun nx vi wr => ∃ i x : Nat, vi = .int .i64 i ∧ i ≤ ls.length ∧ nx = .int .i64 x ∧ Hid (x = nextV ls n i) ∧ Hid (RCI w w2 ls g n i wr)) (fun _ vi _ => ls.length - (intOf vi).toNat)
        case atStart => exact ⟨0, _, rfl, by omega, rfl, Lib.hid rfl, hI⟩
        case round =>
          obtain ⟨i, x, rfl, hi, rfl, hxe, hJ⟩ := hrel
          clear hI
          have hxs : x ≤ 32768 := by rw [hxe.out]; exact nextV_small Hok.out n i
          rcases Nat.lt_or_ge i ls.length with hil | hil
          · as_aux_lemma =>
              obtain ⟨hown, hkp⟩ := hJ.out
              obtain ⟨gs, o, rfl, hgs, hcs⟩ := Hs.out i hil
              have hgg := Hg.out
              have d0 := ((hkp.cell (p := ⟨gs, o + i, none⟩) (Nat.lt_of_lt_of_le hgs Hk2.out.size) (by simpa using (show gs ≠ g by omega))).trans (Hk2.out.cell (p := ⟨gs, o + i, none⟩) hgs (by simp))).trans hcs
              have hset := inU_set hown hil (codeV ls i)
              obtain ⟨m1, m2⟩ := inU_cell hown (i := i) (by rw [rRow_len]; exact hil)
              have hle := ln_eq hil
              have hcv := codeV_small Hok.out hil
              have hst := nextV_step (ls := ls) (n := n) (by omega) hil
              have hwi : IntKind.i64.wrap ((i : Int) + 1) = (i : Int) + 1 := by rw [IntKind.wrap_i64]; omega
              have hii : (i : Int) < ls.length := by omega
              generalize hy : ls[i] = y at *
              by_cases he : y = (n : Int)
              · have hln : ln ls i = n := by rw [hle]; exact he
                have hcx : codeV ls i = x := by rw [nextV_code (by omega) hln]; exact hxe.out.symm
                have hset2 := hset
                rw [rRow_set hil hln, hcx] at hset2
                rw [if_pos hln, ← hxe.out] at hst
                rw [hcx] at hcv
                have HN : Hid (RCI w w2 ls g n (i + 1) (wr.setCell ⟨g, i, none⟩ (.int .u16 (x : Int)))) := Lib.hid ⟨hset2, hkp.setCell (.inl (by simp)) _⟩
                have Hst := Lib.hid hst
                have hwx : IntKind.i64.wrap ((x : Int) + 1) = (x : Int) + 1 := by rw [IntKind.wrap_i64]; omega
                have hwu : IntKind.u16.wrap (x : Int) = (x : Int) := by rw [IntKind.wrap_u16]; omega
                subst he
                clear hJ hown hkp hset hset2 hle hst hln hcx hy hxe hgg hcs
                go_wp2
                exact ⟨⟨i + 1, x + 1, by simp, by omega, by simp, Lib.hid Hst.out.symm, HN⟩, by simp [intOf]; omega⟩
              · have hln : ln ls i ≠ n := by rw [hle]; exact he
                have hei : (y == (n : Int)) = false := by simpa using he
                rw [if_neg hln, ← hxe.out] at hst
                have HN : Hid (RCI w w2 ls g n (i + 1) wr) := by
                  unfold RCI
                  rw [rRow_skip hln]
                  exact Lib.hid ⟨hown, hkp⟩
                have Hst := Lib.hid hst
                clear hJ hown hkp hset hle hst hln he hy hxe hgg hcs
                go_wp2
                exact ⟨⟨i + 1, x, by simp, by omega, rfl, Lib.hid (by have := Hst.out; omega), HN⟩, by simp [intOf]; omega⟩
          · obtain rfl : i = ls.length := by omega
            have HN : Hid (RCI w w2 ls g (n + 1) 0 wr) := by
              have := hJ.out
              unfold RCI at *
              rw [rRow_end] at this
              exact Lib.hid this
            have Hnx : Hid (n + 1 ≤ 15 → x * 2 = nextV ls (n + 1) 0) := Lib.hid (fun h => by rw [nextV_end (by omega), hxe.out])
            have hw2 : IntKind.i64.wrap ((x : Int) * 2) = ((x * 2 : Nat) : Int) := by rw [IntKind.wrap_i64]; omega
            clear hJ hxe
            go_wp2_with fail
            go_roundw
            case rel => exact ⟨n + 1, x * 2, by simp, by omega, by omega, by simp, Hnx, HN⟩
            case measure => simp [intOf]; omega
end Go.Proofs.Ytiejjbdmkgdniaa
set_option linter.unusedVariables false
set_option linter.unusedSimpArgs false
namespace Go.Proofs.Ytiejjbdmkgdniaa
open Go.RowKit Go.Sal Go.Huf
def inB (l : List Nat) : List Value := l.map fun (k : Nat) => .int .u8 (k : Int)
theorem inB_len (l : List Nat) : (inB l).length = l.length := by simp [inB]
theorem inB_one (l : List Nat) : ∀ u ∈ inB l, u.oneCell' = true := by
  intro u hu; obtain ⟨k, _, rfl⟩ := List.mem_map.1 hu; rfl
theorem u8info : (Try.prog.info? 5).map (fun i => (i.zero, i.size, i.bytes)) = some (some (.int .u8 0), 1, 1) := by kernel_rfl
theorem inB_cell {w : World} {base g n cap i : Nat} {l : List Nat} (h : w.ownsRow base 5 1 (.slice (some ⟨g, 0, none⟩) n cap) n (inB l)) (hi : i < l.length) :
    w.cell? ⟨g, i, none⟩ = some (.int .u8 (l[i] : Nat)) ∧ w.frozen? ⟨g, i, none⟩ = false := ownsRow_cell h (show (inB l)[i]? = some (.int .u8 (l[i] : Nat)) by simp [inB, hi])
theorem inB_set {w : World} {base g n cap i : Nat} {l : List Nat} (h : w.ownsRow base 5 1 (.slice (some ⟨g, 0, none⟩) n cap) n (inB l)) (hi : i < n) (x : Nat) :
    (w.setCell ⟨g, i, none⟩ (.int .u8 (x : Int))).ownsRow base 5 1 (.slice (some ⟨g, 0, none⟩) n cap) n (inB (l.set i x)) := by
  have := ownsRow_set h i (by omega) (.int .u8 (x : Int))
  rwa [show (inB l).set i (.int .u8 (x : Int)) = inB (l.set i x) by simp [inB, List.map_set]] at this
/-- a zero byte behind a row of bytes -/
theorem byte_append {base n c : Nat} {A : Option Addr} {f : List Nat} {w : World} (h : w.ownsRow base 5 1 (.slice A n c) n (inB f)) (hn : n = f.length) (hn2 : n ≤ 10000000) (hB : base ≤ w.heap.size) :
    ∃ A' c' w', (Builtin.append_ #[24, 24] 24 #[.slice A n c, .slice (some ⟨w.heap.size, 0, none⟩) 1 1]).run Try.prog (w.alloc (.cells #[.int .u8 0] 5)) = .ok (.slice A' (n + 1) c') w' ∧
      w'.ownsRow base 5 1 (.slice A' (n + 1) c') (n + 1) (inB (f ++ [0])) ∧ Keep (Value.slice A n c).ownBlock.toList w w' := by
  have hka : Keep [] w (w.alloc (.cells #[.int .u8 0] 5)) := (Keep.refl [] w).alloc _
  obtain ⟨v', w', hrun, hown, hg, hat⟩ := run_append_src (P := Try.prog) (w.alloc (.cells #[.int .u8 0] 5)) 24 24 5 (.int .u8 0) 1 1 base Try.underlying24 u8info rfl (by omega) (.slice A n c) n (inB f) (ownsRow_keep h hka (by simp))
    (some ⟨w.heap.size, 0, none⟩) 1 1 [.int .u8 0] (src_new w 5 1 [.int .u8 0] rfl) (by simp [Value.oneCell']) (by unfold maxLen; omega) (by omega) (by simp; omega)
  obtain ⟨A', c', rfl, _⟩ := own_slice hown
  exact ⟨A', c', w', hrun, by simpa [inB] using hown, (hka.mono (by simp)).grown hg (fun k hk => .inl (by simp [hk]))⟩
structure EI (w : World) (ls : List Int) (AC : Option Addr) (cC : Nat) (l : List Bool) (A : Option Addr) (c : Nat) (wr : World) : Prop where
  own : wr.ownsRow w.heap.size 5 1 (.slice A (pack l).length c) (pack l).length (inB (pack l))
  cod : wr.ownsRow w.heap.size 68 1 (.slice AC ls.length cC) ls.length (inU (codesL ls))
  kp : Keep [] w wr
/-- the same with room for one more bit -/
structure EO (w : World) (ls : List Int) (AC : Option Addr) (cC : Nat) (l : List Bool) (A : Option Addr) (c : Nat) (wr : World) : Prop where
  own : wr.ownsRow w.heap.size 5 1 (.slice A (l.length / 8 + 1) c) (l.length / 8 + 1) (inB (packO l))
  cod : wr.ownsRow w.heap.size 68 1 (.slice AC ls.length cC) ls.length (inU (codesL ls))
  kp : Keep [] w wr
section
variable {w wr : World} {ls : List Int} {AC A : Option Addr} {cC c g : Nat} {l : List Bool}
theorem EI.new (h : EI w ls AC cC l A c wr) (h8 : l.length % 8 = 0) (hn : l.length ≤ 10000000) :
    (pack l).length = l.length / 8 ∧ ∃ A' c' w', (Builtin.append_ #[24, 24] 24 #[.slice A (l.length / 8) c, .slice (some ⟨wr.heap.size, 0, none⟩) 1 1]).run Try.prog (wr.alloc (.cells #[.int .u8 0] 5)) = .ok (.slice A' (l.length / 8 + 1) c') w' ∧ EO w ls AC cC l A' c' w' := by
  have hpl : (pack l).length = l.length / 8 := by rw [pack_len]; omega
  have hown := h.own
  rw [hpl] at hown
  obtain ⟨A', c', w', hrun, hown2, hk⟩ := byte_append hown hpl.symm (by omega) h.kp.size
  refine ⟨hpl, A', c', w', hrun, by rw [packO_new h8]; exact hown2, ?_, ?_⟩
  · exact ownsRow_keep h.cod hk (fun i hi hm => by
      have hm' : (Value.slice A (l.length / 8) c).ownBlock = some i := by simpa using hm
      exact own_ne_own h.cod hown (by decide) hi hm')
  · exact h.kp.step hk (fun j hj => .inr (hown.lt j (by simpa using hj)).1)
theorem EI.old (h : EI w ls AC cC l A c wr) (h8 : l.length % 8 ≠ 0) : (pack l).length = l.length / 8 + 1 ∧ EO w ls AC cC l A c wr := by
  have hpl : (pack l).length = l.length / 8 + 1 := by rw [pack_len]; omega
  have hown := h.own
  rw [hpl] at hown
  exact ⟨hpl, by rw [packO_old h8]; exact hown, h.cod, h.kp⟩
theorem EO.drew (h : EO w ls AC cC l A c wr) : EO w ls AC cC l A c wr.drew :=
  ⟨ownsRow_keep h.own ((Keep.refl [] wr).drew) (by simp), ownsRow_keep h.cod ((Keep.refl [] wr).drew) (by simp), h.kp.drew⟩
theorem EO.cell (h : EO w ls AC cC l A c wr) : ∃ g, A = some ⟨g, 0, none⟩ ∧ g < wr.heap.size ∧ w.heap.size ≤ g ∧
    wr.cell? ⟨g, l.length / 8, none⟩ = some (.int .u8 (byteAt l (l.length / 8) : Nat)) ∧ wr.frozen? ⟨g, l.length / 8, none⟩ = false := by
  obtain ⟨g, rfl, h1, h2⟩ := own_some h.own (by omega)
  have := inB_cell h.own (i := l.length / 8) (by rw [packO_len]; omega)
  rw [packO_get] at this
  exact ⟨g, rfl, h1, h2, this⟩
theorem EO.code (h : EO w ls AC cC l A c wr) {s : Nat} (hs : s < ls.length) : ∃ g, AC = some ⟨g, 0, none⟩ ∧ g < wr.heap.size ∧ wr.cell? ⟨g, s, none⟩ = some (.int .u16 (codeV ls s : Nat)) := by
  obtain ⟨g, rfl, h1, h2⟩ := own_some h.cod (by omega)
  have := inU_cell h.cod (i := s) (by rw [codesL_len]; omega)
  refine ⟨g, rfl, h1, ?_⟩
  rw [this.1]
  simp [codesL]
theorem EO.store (h : EO w ls AC cC l (some ⟨g, 0, none⟩) c wr) (x : Bool) :
    EI w ls AC cC (l ++ [x]) (some ⟨g, 0, none⟩) c (wr.setCell ⟨g, l.length / 8, none⟩ (.int .u8 ((byteAt l (l.length / 8) + (if x then 2 ^ (7 - l.length % 8) else 0) : Nat) : Int))) := by
  have hset := inB_set h.own (i := l.length / 8) (by omega) (byteAt l (l.length / 8) + (if x then 2 ^ (7 - l.length % 8) else 0))
  rw [pack_snoc] at hset
  have hpl : (pack (l ++ [x])).length = l.length / 8 + 1 := by rw [pack_len, List.length_append, List.length_singleton]; omega
  have hge : w.heap.size ≤ g := (h.own.lt g rfl).1
  refine ⟨by rw [hpl]; exact hset, ?_, h.kp.setCell (.inr hge) _⟩
  refine ownsRow_keep h.cod ((Keep.refl [g] wr).setCell (.inl (by simp)) _) (fun i hi hm => ?_)
  simp at hm
  subst hm
  exact own_ne_own h.cod h.own (by decide) hi rfl
end
def EncP (w : World) (ls ss : List Int) (e : Ending) (w' : World) : Prop :=
  (∀ s ∈ ss, okS ls s) ∧ (∃ AO cO, e = .returned (.tuple #[.slice AO (pack (bitsOf ls ss)).length cO, .int .i64 ((bitsOf ls ss).length : Nat), .int .i64 0]) ∧
    w'.ownsRow w.heap.size 5 1 (.slice AO (pack (bitsOf ls ss)).length cO) (pack (bitsOf ls ss)).length (inB (pack (bitsOf ls ss))) ∧ Keep [] w w') ∨
  (¬ ∀ s ∈ ss, okS ls s) ∧ e = .returned (.tuple #[.slice none 0 0, .int .i64 0, .int .i64 53]) ∧ Keep [] w w'
theorem bits_or_u8 {a b : Nat} (ha : a < 256) (hb : b < 256) (hc : a ||| b < 256) : bits .or .u8 (a : Int) (b : Int) = ((a ||| b : Nat) : Int) := by
  show IntKind.u8.wrap ((BitVec.ofInt 8 (a : Int) ||| BitVec.ofInt 8 (b : Int)).toNat : Int) = _
  rw [or8 ha hb, IntKind.wrap_u8]
  omega
theorem bits_and1_u16 {a : Nat} (ha : a < 65536) : bits .and .u16 (a : Int) 1 = ((a % 2 : Nat) : Int) := by
  show IntKind.u16.wrap ((BitVec.ofInt 16 (a : Int) &&& BitVec.ofInt 16 1).toNat : Int) = _
  rw [and16 ha, IntKind.wrap_u16]
  omega
theorem shl8 {x r : Nat} (hx : x ≤ 1) (hr : r < 8) : ((x : Nat) : Int) % 256 * 2 ^ (7 - r) % 256 = ((x * 2 ^ (7 - r) : Nat) : Int) ∧ x * 2 ^ (7 - r) < 256 := by
  have h1 : 2 ^ (7 - r) ≤ 2 ^ 7 := Nat.pow_le_pow_right (by omega) (by omega)
  have h2 : x * 2 ^ (7 - r) ≤ 1 * 2 ^ 7 := Nat.mul_le_mul hx h1
  have h3 : ((x : Nat) : Int) % 256 = x := by omega
  refine ⟨?_, by omega⟩
  rw [h3]
  have : ((x : Int) * 2 ^ (7 - r)) = ((x * 2 ^ (7 - r) : Nat) : Int) := by simp
  rw [this]
  omega
/-- the byte as the code says it -/
theorem enc_byte {ba cv i r s : Nat} {bt : Bool} (hb : b2n bt = cv / 2 ^ i % 2) (hbn : b2n bt ≤ 1) (hcv : cv < 32768) (hr : r < 8) (hlow : ba ||| b2n bt * 2 ^ (7 - r) = s) (hlt : s < 256) (hba : ba < 256) :
    bits BinOp.or IntKind.u8 (ba : Int) (bits BinOp.and IntKind.u16 ((cv : Int) / 2 ^ i) 1 % 256 * 2 ^ (7 - r) % 256) = (s : Int) := by
  have h1 : (cv : Int) / 2 ^ i = ((cv / 2 ^ i : Nat) : Int) := by simp
  have h2 : cv / 2 ^ i ≤ cv := Nat.div_le_self _ _
  rw [h1, bits_and1_u16 (by omega), ← hb]
  obtain ⟨h3, h4⟩ := shl8 hbn hr
  rw [h3, bits_or_u8 hba h4 (by omega), hlow]
theorem shr_cast (c i : Nat) : (c : Int) / 2 ^ i = ((c / 2 ^ i : Nat) : Int) := by simp

end Go.Proofs.Ytiejjbdmkgdniaa
set_option linter.unusedVariables false
set_option linter.unusedSimpArgs false
namespace Go.Huf
/-- the row of bits, when the last t are laid -/
def bRow (c n t : Nat) : List Bool := (List.range n).map fun j => decide (n - t ≤ j) && bitAt c n j
theorem bRow_len (c n t : Nat) : (bRow c n t).length = n := by simp [bRow]
theorem bRow_zero (c n : Nat) : bRow c n 0 = List.replicate n false := by
  apply List.ext_getElem
  · simp [bRow]
  · intro j h1 h2
    have : j < n := by simpa [bRow] using h1
    simp [bRow]
    omega
theorem bRow_all (c n : Nat) : bRow c n n = bitsK c n := by
  unfold bRow bitsK
  refine List.map_congr_left (fun j hj => ?_)
  simp
theorem bRow_set {c n t : Nat} (h : t < n) : (bRow c n t).set (n - 1 - t) (decide (c / 2 ^ t % 2 = 1)) = bRow c n (t + 1) := by
  apply List.ext_getElem
  · simp [bRow]
  · intro j h1 h2
    have hj : j < n := by simpa [bRow] using h2
    rw [List.getElem_set]
    simp only [bRow, List.getElem_map, List.getElem_range]
    by_cases he : n - 1 - t = j
    · rw [if_pos he]
      have h3 : n - (t + 1) ≤ j := by omega
      unfold bitAt
      rw [show n - 1 - j = t by omega]
      simp [h3]
    · rw [if_neg he]
      have : (n - (t + 1) ≤ j) ↔ (n - t ≤ j) := by omega
      simp only [this]
theorem half_pow (c t : Nat) : c / 2 ^ t / 2 = c / 2 ^ (t + 1) := by rw [Nat.div_div_eq_div_mul, Nat.pow_succ]
end Go.Huf
namespace Go.Proofs.Ytiejjbdmkgdniaa
open Go.RowKit Go.Sal Go.Huf
def inL (l : List Bool) : List Value := l.map fun (b : Bool) => .bool b
theorem inL_len (l : List Bool) : (inL l).length = l.length := by simp [inL]
theorem inL_one (l : List Bool) : ∀ u ∈ inL l, u.oneCell' = true := by
  intro u hu; obtain ⟨k, _, rfl⟩ := List.mem_map.1 hu; rfl
theorem boolinfo : (Try.prog.info? 4).map (fun i => (i.zero, i.size, i.bytes)) = some (some (.bool false), 1, 1) := by kernel_rfl
theorem made_bools : ∀ n : Nat, (madeCells (Value.bool false).cells (n * 1)).toList = inL (List.replicate n false) := fun n => by
  apply List.ext_getElem
  · simp [madeCells, inL, Value.cells]
  · intro i h1 h2
    simp [madeCells, inL, Value.cells, Nat.mod_one]
/-- make([]bool, n) -/
theorem wpList_make_bools {w : World} {ops : Array Oper} {rest : List Oper} {o : Oper} {a : Act} {Q : Exit → Act → World → Prop} (base n : Nat)
    (hg : o.guard = none) (l c : Operand) (hop : o.op = Op.makeSlice 74 l c) (hl : a.eval l = .int .i64 (n : Int)) (hc : a.eval c = .int .i64 (n : Int)) (hn : n ≤ 1000000) (hB : base ≤ w.heap.size)
    (hK : ∀ w', w'.ownsRow base 4 1 (.slice (some ⟨w.heap.size, 0, none⟩) n n) n (inL (List.replicate n false)) → Keep [] w w' → wpList Try.prog ops Q rest (a.put o.dst (.slice (some ⟨w.heap.size, 0, none⟩) n n)) w') :
    wpList Try.prog ops Q (o :: rest) a w := by
  obtain ⟨i, hi, hz, hs, hby⟩ : ∃ i, Try.prog.info? 4 = some i ∧ i.zero = some (.bool false) ∧ i.size = 1 ∧ i.bytes = 1 := by
    cases hx : Try.prog.info? 4 with
    | none => have := boolinfo; rw [hx] at this; cases this
    | some i =>
      have := boolinfo
      rw [hx] at this
      simp only [Option.map_some, Option.some.injEq, Prod.mk.injEq] at this
      exact ⟨i, rfl, this.1, this.2.1, this.2.2⟩
  refine wpList_make_full w hg l c 74 hop base 4 i (.bool false) 1 Try.underlying74 hi hz hs .i64 .i64 _ _ n hl hc rfl rfl (by rw [hby]; omega) (by unfold maxLen; omega) hB ?_
  intro w' h1 h2
  rw [made_bools] at h1
  exact hK w' h1 ((Keep.refl [] w).grown h2 (fun k hk => by cases hk))
theorem inL_cell {w : World} {base g n cap i : Nat} {l : List Bool} (h : w.ownsRow base 4 1 (.slice (some ⟨g, 0, none⟩) n cap) n (inL l)) (hi : i < l.length) :
    w.cell? ⟨g, i, none⟩ = some (.bool l[i]) ∧ w.frozen? ⟨g, i, none⟩ = false := ownsRow_cell h (show (inL l)[i]? = some (.bool l[i]) by simp [inL, hi])
theorem inL_set {w : World} {base g n cap i : Nat} {l : List Bool} (h : w.ownsRow base 4 1 (.slice (some ⟨g, 0, none⟩) n cap) n (inL l)) (hi : i < n) (x : Bool) :
    (w.setCell ⟨g, i, none⟩ (.bool x)).ownsRow base 4 1 (.slice (some ⟨g, 0, none⟩) n cap) n (inL (l.set i x)) := by
  have := ownsRow_set h i (by omega) (.bool x)
  rwa [show (inL l).set i (.bool x) = inL (l.set i x) by simp [inL, List.map_set]] at this
def BtI (w w2 : World) (g c n t : Nat) (wr : World) : Prop :=
  wr.ownsRow w.heap.size 4 1 (.slice (some ⟨g, 0, none⟩) n n) n (inL (bRow c n t)) ∧ Keep [g] w2 wr

set_option maxRecDepth 20000 in
set_option maxHeartbeats 4000000 in
theorem rbits_any (c n : Nat) (w : World) (hc : c < 65536) (hn : n ≤ 1000) :
    Calls Try.prog 40 #[.int .u16 (c : Nat), .int .i64 (n : Nat)] w fun e w' => ∃ AO, e = .returned (.slice AO n n) ∧
      w'.ownsRow w.heap.size 4 1 (.slice AO n n) n (inL (bitsK c n)) ∧ Keep [] w w' := by
  have hwn : IntKind.i64.wrap ((n : Int) - 1) = (n : Int) - 1 := by rw [IntKind.wrap_i64]; omega
  go_enter Try.func40, Try.ntmps40
  go_wp2_with (at_make; refine wpList_make_bools w.heap.size n rfl (.tmp 7) (.tmp 7) rfl rfl rfl (by omega) (Nat.le_refl _) ?_; intro w2 hown2 hk2; have Hown2 := Lib.hid hown2; have Hk2 := Lib.hid hk2; clear hown2 hk2)
  obtain ⟨g, hg⟩ : ∃ g, g = w.heap.size := ⟨_, rfl⟩
  have Hg := Lib.hid hg
  have H0 : Hid (BtI w w2 g c n 0 w2) := Lib.hid ⟨by rw [bRow_zero, hg]; exact Hown2.out, Keep.refl _ _⟩
  rw [← hg]
  clear Hown2 hg
  go_loopw [0, 6] (fun vc vi wr => ∃ t x : Nat, vi = .int .i64 ((n : Int) - 1 - t) ∧ t ≤ n ∧ vc = .int .u16 x ∧ x < 65536 ∧ Hid (x = c / 2 ^ t) ∧ Hid (BtI w w2 g c n t wr)) (fun _ vi _ => (intOf vi + 1).toNat)
  case atStart => exact ⟨0, c, by simp, by omega, rfl, hc, Lib.hid (by simp), H0⟩
  case round =>
    obtain ⟨t, x, rfl, ht, rfl, hx, hxe, hI⟩ := hrel
    clear H0
    rcases Nat.lt_or_ge t n with htn | htn
    · as_aux_lemma =>
        obtain ⟨hown, hkp⟩ := hI.out
        obtain ⟨i, hi⟩ : ∃ i : Nat, (n : Int) - 1 - t = i := ⟨n - 1 - t, by omega⟩
        have hi2 : n - 1 - t = i := by omega
        have hset := inL_set hown (show i < n by omega) (decide (c / 2 ^ t % 2 = 1))
        rw [← hi2, bRow_set htn, hi2, ← hxe.out] at hset
        obtain ⟨m1', m2⟩ := inL_cell hown (i := i) (by rw [bRow_len]; omega)
        obtain ⟨old, m1⟩ : ∃ b, wr.cell? ⟨g, i, none⟩ = some (.bool b) := ⟨_, m1'⟩
        clear m1'
        have HN : Hid (BtI w w2 g c n (t + 1) (wr.setCell ⟨g, i, none⟩ (.bool (decide (x % 2 = 1))))) := Lib.hid ⟨hset, hkp.setCell (.inl (by simp)) _⟩
        have Hx2 : Hid (x / 2 = c / 2 ^ (t + 1)) := Lib.hid (by rw [hxe.out, half_pow])
        have htm : (x : Int).tmod 2 = ((x % 2 : Nat) : Int) := by rw [Int.tmod_eq_emod_of_nonneg (by omega)]; omega
        have htd : (x : Int).tdiv 2 = ((x / 2 : Nat) : Int) := by rw [Int.tdiv_eq_ediv_of_nonneg (by omega)]; omega
        have hwm : IntKind.u16.wrap ((x % 2 : Nat) : Int) = ((x % 2 : Nat) : Int) := by rw [IntKind.wrap_u16]; omega
        have hwd : IntKind.u16.wrap ((x / 2 : Nat) : Int) = ((x / 2 : Nat) : Int) := by rw [IntKind.wrap_u16]; omega
        have hwi : IntKind.i64.wrap ((i : Int) - 1) = (i : Int) - 1 := by rw [IntKind.wrap_i64]; omega
        have hbe : (((x % 2 : Nat) : Int) == 1) = decide (x % 2 = 1) := by
          by_cases h1 : x % 2 = 1
          · simp [h1]
          · have : x % 2 = 0 := by omega
            simp [this]
        have hin : (i : Int) < n := by omega
        have Hx := Lib.hid (show x / 2 < 65536 by omega)
        have Hi := Lib.hid hi
        generalize hb : decide (x % 2 = 1) = bb at *
        generalize x % 2 = xm at *
        generalize x / 2 = xd at *
        clear hI hown hkp hset hxe hi hi2 hb
        rw [Hi.out]
        go_wp2
        have hi := Hi.out
        exact ⟨⟨t + 1, xd, by congr 1; omega, by omega, rfl, Hx.out, Hx2, HN⟩, by simp [intOf]⟩
    · obtain rfl : t = n := by omega
      have hneg : (t : Int) - 1 - t = -1 := by omega
      have HR : Hid (wr.ownsRow w.heap.size 4 1 (.slice (some ⟨g, 0, none⟩) t t) t (inL (bitsK c t))) := by
        rw [← bRow_all]; exact Lib.hid hI.out.1
      have HK : Hid (Keep [] w wr) := Lib.hid (Hk2.out.step hI.out.2 (fun i hi => by have := Hg.out; simp at hi; right; omega))
      rw [hneg]
      clear hI hxe hneg
      go_wp2
      go_ret
      exact ⟨_, rfl, HR.out, HK.out⟩
end Go.Proofs.Ytiejjbdmkgdniaa
namespace Go.Huf
theorem pack_false (l : List Bool) : pack (l ++ [false]) = packO l := by
  rw [← pack_snoc]
  have hk : l.length / 8 < (packO l).length := by rw [packO_len]; omega
  have : byteAt l (l.length / 8) + (if false = true then 2 ^ (7 - l.length % 8) else 0) = (packO l)[l.length / 8] := by rw [packO_get]; simp
  rw [this, List.set_getElem_self]
theorem half_two {t : Nat} (h : t < 7) : 2 ^ (7 - t) / 2 = 2 ^ (7 - (t + 1)) := by
  rw [show 7 - t = (7 - (t + 1)) + 1 by omega, Nat.pow_succ, Nat.mul_div_cancel _ (by omega)]
theorem pow7 (t : Nat) : 1 ≤ 2 ^ (7 - t) ∧ 2 ^ (7 - t) ≤ 128 := by
  have h1 : 2 ^ (7 - t) ≤ 2 ^ 7 := Nat.pow_le_pow_right (by omega) (by omega)
  have h2 := Nat.two_pow_pos (7 - t)
  omega
end Go.Huf
namespace Go.Proofs.Ytiejjbdmkgdniaa
open Go.RowKit Go.Sal Go.Huf
theorem EO.no_ {w wr : World} {ls : List Int} {AC A : Option Addr} {cC c : Nat} {l : List Bool} (h : EO w ls AC cC l A c wr) : (pack (l ++ [false])).length = l.length / 8 + 1 ∧ EI w ls AC cC (l ++ [false]) A c wr := by
  have hp : (pack (l ++ [false])).length = l.length / 8 + 1 := by rw [pack_false, packO_len]
  refine ⟨hp, ?_, h.cod, h.kp⟩
  rw [hp, pack_false]
  exact h.own
theorem EO.yes {w wr : World} {ls : List Int} {AC : Option Addr} {cC c g : Nat} {l : List Bool} (h : EO w ls AC cC l (some ⟨g, 0, none⟩) c wr) : (pack (l ++ [true])).length = l.length / 8 + 1 ∧
    EI w ls AC cC (l ++ [true]) (some ⟨g, 0, none⟩) c (wr.setCell ⟨g, l.length / 8, none⟩ (.int .u8 ((byteAt l (l.length / 8) + 2 ^ (7 - l.length % 8) : Nat) : Int))) ∧ byteAt l (l.length / 8) + 2 ^ (7 - l.length % 8) < 256 := by
  have hp : (pack (l ++ [true])).length = l.length / 8 + 1 := by rw [pack_len, List.length_append, List.length_singleton]; omega
  have h1 := h.store true
  have h2 := byte_or_lt l true
  simp only [if_true] at h1 h2
  exact ⟨hp, h1, h2⟩

set_option maxRecDepth 20000 in
set_option maxHeartbeats 4000000 in
theorem rpack_any (bs : List Bool) (A : Option Addr) (c b0 : Nat) (w : World) (hs : w.ownsRow b0 4 1 (.slice A bs.length c) bs.length (inL bs)) (hn : bs.length ≤ 2000000) :
    Calls Try.prog 42 #[.slice A bs.length c] w fun e w' => ∃ AO cO, e = .returned (.slice AO (pack bs).length cO) ∧
      w'.ownsRow w.heap.size 5 1 (.slice AO (pack bs).length cO) (pack bs).length (inB (pack bs)) ∧ Keep [] w w' := by
  have Hs := Lib.hid hs
  have H0 : Hid (EI w [] none 0 (bs.take 0) none 0 w) := Lib.hid ⟨by rw [List.take_zero]; exact World.ownsRow_nil _ _ _ _, World.ownsRow_nil _ _ _ _, Keep.refl _ _⟩
  have hb0 : (pack (bs.take 0)).length = 0 := by simp [pack]
  clear hs
  go_enter Try.func42, Try.ntmps42
  go_wp2
  go_loopw [3, 4] (fun vb vi wr => ∃ (k : Nat) (A3 : Option Addr) (c3 : Nat), vi = .int .i64 k ∧ k ≤ bs.length ∧ vb = .slice A3 (pack (bs.take k)).length c3 ∧ Hid (EI w [] none 0 (bs.take k) A3 c3 wr)) (fun _ vi _ => bs.length - (intOf vi).toNat)
  case atStart => exact ⟨0, none, 0, rfl, by omega, by rw [hb0], H0⟩
  case round =>
    obtain ⟨k, A3, c3, rfl, hk, rfl, hI⟩ := hrel
    clear H0
    rcases Nat.lt_or_ge k bs.length with hkl | hkl
    · as_aux_lemma =>
        have htk : bs.take (k + 1) = bs.take k ++ [bs[k]] := List.take_succ_eq_append_getElem hkl
        have hl : (bs.take k).length = k := by rw [List.length_take]; omega
        obtain ⟨gs, rfl, hgs, _⟩ := own_some Hs.out (by omega)
        obtain ⟨q, hq⟩ : ∃ q, k / 8 = q := ⟨_, rfl⟩
        obtain ⟨r, hr⟩ : ∃ r, k % 8 = r := ⟨_, rfl⟩
        have hr8 : r < 8 := by omega
        have htd : (k : Int).tdiv 8 = (q : Int) := by rw [Int.tdiv_eq_ediv_of_nonneg (by omega)]; omega
        have htm : (k : Int).tmod 8 = (r : Int) := by rw [Int.tmod_eq_emod_of_nonneg (by omega)]; omega
        have hwq : IntKind.i64.wrap (q : Int) = (q : Int) := by rw [IntKind.wrap_i64]; omega
        have hwr : IntKind.i64.wrap (r : Int) = (r : Int) := by rw [IntKind.wrap_i64]; omega
        have hwk : IntKind.i64.wrap ((k : Int) + 1) = (k : Int) + 1 := by rw [IntKind.wrap_i64]; omega
        have hqb : (q : Int) < (q : Int) + 1 := by omega
        have hki : (k : Int) < bs.length := by omega
        -- what is known once there is room
        have Hroom : Hid (∀ (A4 : Option Addr) (c4 : Nat) (W : World), EO w [] none 0 (bs.take k) A4 c4 W → ∃ g, A4 = some ⟨g, 0, none⟩ ∧ W.cell? ⟨gs, k, none⟩ = some (.bool bs[k]) ∧
            W.cell? ⟨g, q, none⟩ = some (.int .u8 (byteAt (bs.take k) q : Nat)) ∧ W.frozen? ⟨g, q, none⟩ = false ∧
            (bs[k] = false → (pack (bs.take (k + 1))).length = q + 1 ∧ EI w [] none 0 (bs.take (k + 1)) A4 c4 W) ∧
            (bs[k] = true → (pack (bs.take (k + 1))).length = q + 1 ∧ EI w [] none 0 (bs.take (k + 1)) A4 c4 (W.setCell ⟨g, q, none⟩ (.int .u8 ((byteAt (bs.take k) q + 2 ^ (7 - r) : Nat) : Int))) ∧ byteAt (bs.take k) q + 2 ^ (7 - r) < 256)) := by
          refine Lib.hid (fun A4 c4 W hO => ?_)
          obtain ⟨g, rfl, hg1, hg2, m1, m2⟩ := hO.cell
          rw [hl, hq] at m1 m2
          refine ⟨g, rfl, ((hO.kp.cell (p := ⟨gs, k, none⟩) hgs (by simp)).trans (inL_cell Hs.out hkl).1), m1, m2, fun hb => ?_, fun hb => ?_⟩
          · have := hO.no_
            rw [hl, hq] at this
            rw [htk, hb]
            exact this
          · have := hO.yes
            rw [hl, hq, hr] at this
            rw [htk, hb]
            exact this
        obtain ⟨pl, hpl⟩ : ∃ pl, pl = (pack (bs.take k)).length := ⟨_, rfl⟩
        rw [← hpl]
        have hcase : Hid (r = 0 ∧ pl = q ∧ (∃ A' c' w', (Builtin.append_ #[24, 24] 24 #[.slice A3 q c3, .slice (some ⟨wr.heap.size, 0, none⟩) 1 1]).run Try.prog (wr.alloc (.cells #[.int .u8 0] 5)) = .ok (.slice A' (q + 1) c') w' ∧ EO w [] none 0 (bs.take k) A' c' w') ∨
            r ≠ 0 ∧ pl = q + 1 ∧ EO w [] none 0 (bs.take k) A3 c3 wr) := by
          rcases Nat.eq_zero_or_pos r with h0 | h0
          · have := hI.out.new (by omega) (by omega)
            rw [hl, hq, ← hpl] at this
            exact Lib.hid (.inl ⟨h0, this⟩)
          · have := hI.out.old (by omega)
            rw [hl, hq, ← hpl] at this
            exact Lib.hid (.inr ⟨by omega, this⟩)
        have hba := byteAt_lt (bs.take k) q
        generalize byteAt (bs.take k) q = ba at *
        generalize bs[k] = bt at *
        have HL := Lib.hid (And.intro hl hkl)
        clear hI htk hl hq hr hpl
        rcases hcase.out with ⟨hr0, hplq, A4, c4, w4, hap, hO⟩ | ⟨hr0, hplq, hO⟩
        · have hrz : ((r : Int) == 0) = true := by simpa using hr0
          subst hplq
          obtain ⟨g, rfl, m0, m1, m2, hf, ht⟩ := Hroom.out _ _ _ hO
          have Hf := Lib.hid hf
          have Ht := Lib.hid ht
          have Hap := Lib.hid hap
          clear hcase hO hf ht hr0 Hroom hap
          have hap := Hap.out
          cases bt with
          | false =>
            have HN := Lib.hid (Hf.out rfl)
            clear Hf Ht
            go_wp2_with (at_builtin; refine wpList_append2 (v1 := .slice A3 pl c3) (v2 := .slice (some ⟨wr.heap.size, 0, none⟩) 1 1) rfl (.tmp 16) (.tmp 17) rfl rfl rfl hap ?_)
            exact ⟨⟨k + 1, _, _, by simp, by have := HL.out; omega, by rw [HN.out.1], Lib.hid HN.out.2⟩, by have := HL.out; simp [intOf]; omega⟩
          | true =>
            have HN := Lib.hid (Ht.out rfl)
            clear Hf Ht
            go_wp2_with (at_builtin; refine wpList_append2 (v1 := .slice A3 pl c3) (v2 := .slice (some ⟨wr.heap.size, 0, none⟩) 1 1) rfl (.tmp 16) (.tmp 17) rfl rfl rfl hap ?_)
            go_loop [5, 6] (fun vx vj => ∃ t x : Nat, vj = .int .i64 t ∧ t ≤ r ∧ vx = .int .u8 x ∧ Hid (x = 2 ^ (7 - t))) (fun _ vj => r - (intOf vj).toNat)
            case atStart => exact ⟨0, 128, rfl, by omega, rfl, Lib.hid rfl⟩
            case round =>
              obtain ⟨t, x, rfl, ht, rfl, hx⟩ := hrel
              have hxb : 1 ≤ x ∧ x ≤ 128 := by rw [hx.out]; exact pow7 t
              rcases Nat.lt_or_ge t r with htr | htr
              · have htri : (t : Int) < r := by omega
                have hwt : IntKind.i64.wrap ((t : Int) + 1) = (t : Int) + 1 := by rw [IntKind.wrap_i64]; omega
                have hxd : (x : Int).tdiv 2 = ((x / 2 : Nat) : Int) := by rw [Int.tdiv_eq_ediv_of_nonneg (by omega)]; omega
                have hwx : IntKind.u8.wrap ((x / 2 : Nat) : Int) = ((x / 2 : Nat) : Int) := by rw [IntKind.wrap_u8]; omega
                have HX : Hid (x / 2 = 2 ^ (7 - (t + 1))) := Lib.hid (by rw [hx.out, half_two (by omega)])
                generalize x / 2 = xd at *
                clear hx
                go_wp2
                exact ⟨⟨t + 1, xd, by simp, by omega, rfl, HX⟩, by simp [intOf]; omega⟩
              · obtain rfl : t = r := by omega
                have hlt := HN.out.2.2
                rw [← hx.out] at hlt
                have HE := Lib.hid HN.out.2.1
                rw [← hx.out] at HE
                have HP := Lib.hid HN.out.1
                have hwx : IntKind.u8.wrap ((ba : Int) + x) = ((ba + x : Nat) : Int) := by rw [IntKind.wrap_u8]; omega
                have hti : ¬ (t : Int) < t := by omega
                clear hx HN
                go_wp2_with fail
                go_roundw
                case rel => exact ⟨k + 1, _, _, by simp, by have := HL.out; omega, by rw [HP.out], by simpa using HE⟩
                case measure => have := HL.out; simp [intOf]; omega
        · have hrz : ((r : Int) == 0) = false := by simpa using hr0
          subst hplq
          obtain ⟨g, rfl, m0, m1, m2, hf, ht⟩ := Hroom.out _ _ _ hO
          have Hf := Lib.hid hf
          have Ht := Lib.hid ht
          clear hcase hO hf ht hr0 Hroom
          cases bt with
          | false =>
            have HN := Lib.hid (Hf.out rfl)
            clear Hf Ht
            go_wp2_with fail
            exact ⟨⟨k + 1, _, _, by simp, by have := HL.out; omega, by rw [HN.out.1], Lib.hid HN.out.2⟩, by have := HL.out; simp [intOf]; omega⟩
          | true =>
            have HN := Lib.hid (Ht.out rfl)
            clear Hf Ht
            go_wp2_with fail
            go_loop [5, 6] (fun vx vj => ∃ t x : Nat, vj = .int .i64 t ∧ t ≤ r ∧ vx = .int .u8 x ∧ Hid (x = 2 ^ (7 - t))) (fun _ vj => r - (intOf vj).toNat)
            case atStart => exact ⟨0, 128, rfl, by omega, rfl, Lib.hid rfl⟩
            case round =>
              obtain ⟨t, x, rfl, ht, rfl, hx⟩ := hrel
              have hxb : 1 ≤ x ∧ x ≤ 128 := by rw [hx.out]; exact pow7 t
              rcases Nat.lt_or_ge t r with htr | htr
              · have htri : (t : Int) < r := by omega
                have hwt : IntKind.i64.wrap ((t : Int) + 1) = (t : Int) + 1 := by rw [IntKind.wrap_i64]; omega
                have hxd : (x : Int).tdiv 2 = ((x / 2 : Nat) : Int) := by rw [Int.tdiv_eq_ediv_of_nonneg (by omega)]; omega
                have hwx : IntKind.u8.wrap ((x / 2 : Nat) : Int) = ((x / 2 : Nat) : Int) := by rw [IntKind.wrap_u8]; omega
                have HX : Hid (x / 2 = 2 ^ (7 - (t + 1))) := Lib.hid (by rw [hx.out, half_two (by omega)])
                generalize x / 2 = xd at *
                clear hx
                go_wp2
                exact ⟨⟨t + 1, xd, by simp, by omega, rfl, HX⟩, by simp [intOf]; omega⟩
              · obtain rfl : t = r := by omega
                have hlt := HN.out.2.2
                rw [← hx.out] at hlt
                have HE := Lib.hid HN.out.2.1
                rw [← hx.out] at HE
                have HP := Lib.hid HN.out.1
                have hwx : IntKind.u8.wrap ((ba : Int) + x) = ((ba + x : Nat) : Int) := by rw [IntKind.wrap_u8]; omega
                have hti : ¬ (t : Int) < t := by omega
                clear hx HN
                go_wp2_with fail
                go_roundw
                case rel => exact ⟨k + 1, _, _, by simp, by have := HL.out; omega, by rw [HP.out], by simpa using HE⟩
                case measure => have := HL.out; simp [intOf]; omega
    · obtain rfl : k = bs.length := by omega
      rw [List.take_length] at hI
      have HR := Lib.hid hI.out.own
      have HK := Lib.hid hI.out.kp
      rw [List.take_length]
      clear hI
      go_wp2
      go_ret
      exact ⟨_, _, rfl, HR.out, HK.out⟩
end Go.Proofs.Ytiejjbdmkgdniaa
set_option linter.unusedVariables false
set_option linter.unusedSimpArgs false
namespace Go.Huf
section
variable {ls : List Int}
/-- the symbols of length n below k -/
def ofK (ls : List Int) (n k : Nat) : List Nat := (List.range k).filter fun i => decide (ln ls i = n)
theorem ofK_succ (n k : Nat) : ofK ls n (k + 1) = ofK ls n k ++ (if ln ls k = n then [k] else []) := by
  unfold ofK
  rw [List.range_succ, List.filter_append]
  congr 1
  by_cases h : ln ls k = n
  · rw [if_pos h, List.filter_cons_of_pos (by simpa using h)]; rfl
  · rw [if_neg h, List.filter_cons_of_neg (by simpa using h)]; rfl
theorem ofK_mem {n k i : Nat} : i ∈ ofK ls n k ↔ i < k ∧ ln ls i = n := by simp [ofK]
theorem ofK_inc (n k : Nat) : (ofK ls n k).Pairwise (· < ·) := List.pairwise_lt_range.sublist List.filter_sublist
theorem ofK_nodup (n k : Nat) : (ofK ls n k).Nodup := (ofK_inc n k).imp (fun h => by omega)
theorem ofK_split (n j : Nat) : ∀ k, ∃ r, ofK ls n (j + k) = ofK ls n j ++ r
  | 0 => ⟨[], by simp⟩
  | k + 1 => by
    obtain ⟨r, hr⟩ := ofK_split n j k
    refine ⟨r ++ (if ln ls (j + k) = n then [j + k] else []), ?_⟩
    rw [show j + (k + 1) = (j + k) + 1 by omega, ofK_succ, hr, List.append_assoc]
/-- where a symbol stands among those of its length -/
theorem ofK_at {n s : Nat} (hs : s < ls.length) (h : ln ls s = n) : (ofK ls n ls.length)[(ofK ls n s).length]? = some s := by
  obtain ⟨r, hr⟩ := ofK_split (ls := ls) n (s + 1) (ls.length - (s + 1))
  rw [show s + 1 + (ls.length - (s + 1)) = ls.length by omega] at hr
  rw [hr, ofK_succ, if_pos h]
  simp
theorem ofK_idx {n r : Nat} (hr : r < (ofK ls n ls.length).length) : (ofK ls n (ofK ls n ls.length)[r]).length = r := by
  have hm := ofK_mem.1 (List.getElem_mem hr)
  have h1 := ofK_at hm.1 hm.2
  obtain ⟨h2, h3⟩ := List.getElem?_eq_some_iff.1 h1
  exact (List.getElem_inj (ofK_nodup n ls.length)).1 h3
theorem cnt_ofK (n : Nat) : cnt ls n = (ofK ls n ls.length).length := by
  have key : ∀ m, m ≤ ls.length → cnt (ls.take m) n = (ofK ls n m).length := by
    intro m
    induction m with
    | zero => intro _; simp [cnt, ofK]
    | succ m ih =>
      intro h
      rw [List.take_succ_eq_append_getElem (by omega), cnt_snoc, ih (by omega), ofK_succ, ← ln_eq (by omega)]
      split <;> simp
  have := key ls.length (Nat.le_refl _)
  rwa [List.take_length] at this
theorem nextV_ofK {n : Nat} (hn : 0 < n) : ∀ i, i ≤ ls.length → nextV ls n i = nextV ls n 0 + (ofK ls n i).length
  | 0, _ => by simp [ofK]
  | i + 1, h => by
    rw [nextV_step hn (by omega), nextV_ofK hn i (by omega), ofK_succ]
    split <;> simp <;> omega
theorem code_ofK {n s : Nat} (hn : 0 < n) (hs : s < ls.length) (h : ln ls s = n) : codeV ls s = nextV ls n 0 + (ofK ls n s).length := by
  rw [nextV_code hn h, nextV_ofK hn s (by omega)]
/-- the symbol of length n with that code -/
def symAt (ls : List Int) (n c : Nat) : Option Nat := if nextV ls n 0 ≤ c then (ofK ls n ls.length)[c - nextV ls n 0]? else none
theorem symAt_some {n c s : Nat} (hn : 0 < n) : symAt ls n c = some s ↔ s < ls.length ∧ ln ls s = n ∧ codeV ls s = c := by
  unfold symAt
  constructor
  · intro h
    split at h
    · rename_i h1
      obtain ⟨h2, h3⟩ := List.getElem?_eq_some_iff.1 h
      have hm := ofK_mem.1 (List.getElem_mem h2)
      have hi := ofK_idx h2
      rw [h3] at hm hi
      exact ⟨hm.1, hm.2, by rw [code_ofK hn hm.1 hm.2, hi]; omega⟩
    · cases h
  · rintro ⟨h1, h2, h3⟩
    have := code_ofK hn h1 h2
    rw [if_pos (by omega), ← h3, this, Nat.add_sub_cancel_left]
    exact ofK_at h1 h2
theorem symAt_none {n c : Nat} (hn : 0 < n) : symAt ls n c = none ↔ ∀ s, s < ls.length → ln ls s = n → codeV ls s ≠ c := by
  constructor
  · intro h s h1 h2 h3
    have := (symAt_some hn).2 ⟨h1, h2, h3⟩
    rw [h] at this
    cases this
  · intro h
    cases hx : symAt ls n c with
    | none => rfl
    | some s =>
      obtain ⟨h1, h2, h3⟩ := (symAt_some hn).1 hx
      exact absurd h3 (h s h1 h2)
/-- how many are shorter than n -/
def bef (ls : List Int) : Nat → Nat
  | 0 => 0
  | 1 => 0
  | n + 2 => bef ls (n + 1) + cnt ls (n + 1)
theorem bef_succ {n : Nat} (h : 1 ≤ n) : bef ls (n + 1) = bef ls n + cnt ls n := by
  cases n with
  | zero => omega
  | succ n => rfl
/-- those of lengths 1 to n, by length -/
def ordN (ls : List Int) : Nat → List Nat
  | 0 => []
  | n + 1 => ordN ls n ++ ofK ls (n + 1) ls.length
theorem ordN_len : ∀ n, (ordN ls n).length = bef ls (n + 1)
  | 0 => rfl
  | n + 1 => by
    rw [ordN, List.length_append, ordN_len n, ← cnt_ofK]
    exact (bef_succ (by omega)).symm
theorem ordN_mem : ∀ (n s : Nat), s ∈ ordN ls n ↔ s < ls.length ∧ 0 < ln ls s ∧ ln ls s ≤ n
  | 0, s => ⟨fun h => by simp [ordN] at h, fun h => by omega⟩
  | n + 1, s => by
    rw [ordN, List.mem_append, ordN_mem n s, ofK_mem]
    omega
theorem ordN_srtd : ∀ n, srtd (fun i => ls.getD i 0) (ordN ls n)
  | 0 => List.Pairwise.nil
  | n + 1 => by
    rw [ordN]
    refine srtd_append (ordN_srtd n) ?_ (fun x hx y hy => ?_)
    · refine List.Pairwise.imp_of_mem ?_ (ofK_inc (n + 1) ls.length)
      intro a b ha hb hab
      have h1 := (ofK_mem.1 ha).2
      have h2 := (ofK_mem.1 hb).2
      unfold ln at h1 h2
      unfold lexlt
      dsimp only
      omega
    · have h1 := (ordN_mem n x).1 hx
      have h2 := ofK_mem.1 hy
      unfold ln at h1 h2
      unfold lexlt
      dsimp only
      omega
theorem ord_eq (hg : good ls) : ord ls = ordN ls 15 := by
  refine srtd_unique (ord_srtd ls) (ordN_srtd 15) ?_
  rw [List.perm_ext_iff_of_nodup (srtd_nodup (ord_srtd ls)) (srtd_nodup (ordN_srtd 15))]
  intro s
  rw [ord_mem, ordN_mem]
  have := ln_good hg s
  unfold ln at *
  omega
theorem ordN_split (n : Nat) : ∀ k, ∃ r, ordN ls (n + k) = ordN ls n ++ r
  | 0 => ⟨[], by simp⟩
  | k + 1 => by
    obtain ⟨r, hr⟩ := ordN_split n k
    exact ⟨r ++ ofK ls (n + k + 1) ls.length, by rw [show n + (k + 1) = (n + k) + 1 by omega, ordN, hr, List.append_assoc]⟩
/-- where the symbols of length n stand in the row by length -/
theorem ord_at (hg : good ls) {n r : Nat} (hn : 1 ≤ n) (hn2 : n ≤ 15) (hr : r < cnt ls n) : (ord ls)[bef ls n + r]? = (ofK ls n ls.length)[r]? := by
  obtain ⟨m, rfl⟩ : ∃ m, n = m + 1 := ⟨n - 1, by omega⟩
  obtain ⟨t, ht⟩ := ordN_split (ls := ls) (m + 1) (15 - (m + 1))
  rw [show m + 1 + (15 - (m + 1)) = 15 by omega] at ht
  rw [ord_eq hg, ht, ordN, List.append_assoc, ← ordN_len, List.getElem?_append_right (by omega), Nat.add_sub_cancel_left, List.getElem?_append_left (by rw [← cnt_ofK]; exact hr)]
theorem bef_le (hg : good ls) {n : Nat} (hn : 1 ≤ n) (hn2 : n ≤ 16) : bef ls n ≤ (ord ls).length := by
  obtain ⟨m, rfl⟩ : ∃ m, n = m + 1 := ⟨n - 1, by omega⟩
  obtain ⟨t, ht⟩ := ordN_split (ls := ls) m (15 - m)
  rw [show m + (15 - m) = 15 by omega] at ht
  rw [ord_eq hg, ht, List.length_append, ordN_len]
  omega
end
/-! ### bits of bytes -/
def bitB (b : List Nat) (i : Nat) : Nat := b.getD (i / 8) 0 / 2 ^ (7 - i % 8) % 2
theorem bitB_lt (b : List Nat) (i : Nat) : bitB b i < 2 := Nat.mod_lt _ (by omega)
/-- the first n bits from a place on, as a number -/
def cAt (b : List Nat) (at_ : Nat) : Nat → Nat
  | 0 => 0
  | n + 1 => cAt b at_ n * 2 + bitB b (at_ + n)
theorem cAt_lt (b : List Nat) (at_ : Nat) : ∀ n, cAt b at_ n < 2 ^ n
  | 0 => by simp [cAt]
  | n + 1 => by
    have := cAt_lt b at_ n
    have := bitB_lt b (at_ + n)
    rw [cAt, Nat.pow_succ]
    omega
/-- the symbol that bits begin with, and how many bits it has -/
def oneF (ls : List Int) (b : List Nat) (at_ : Nat) : Nat → Nat → Option (Nat × Nat)
  | 0, _ => none
  | f + 1, n => if at_ + n ≤ 8 * b.length then (match symAt ls n (cAt b at_ n) with
    | some s => some (s, n)
    | none => oneF ls b at_ f (n + 1)) else none
def one (ls : List Int) (b : List Nat) (at_ : Nat) : Option (Nat × Nat) := oneF ls b at_ 15 1
theorem oneF_end {ls : List Int} {b : List Nat} {at_ n f : Nat} (h : ¬ at_ + n ≤ 8 * b.length) : oneF ls b at_ f n = none := by
  cases f with
  | zero => rfl
  | succ f => rw [oneF, if_neg h]
theorem oneF_some {ls : List Int} {b : List Nat} {at_ n f s : Nat} (h : at_ + n ≤ 8 * b.length) (hs : symAt ls n (cAt b at_ n) = some s) : oneF ls b at_ (f + 1) n = some (s, n) := by
  rw [oneF, if_pos h, hs]
theorem oneF_none {ls : List Int} {b : List Nat} {at_ n f : Nat} (h : at_ + n ≤ 8 * b.length) (hs : symAt ls n (cAt b at_ n) = none) : oneF ls b at_ (f + 1) n = oneF ls b at_ f (n + 1) := by
  rw [oneF, if_pos h, hs]
theorem oneF_spec {ls : List Int} {b : List Nat} {at_ s m : Nat} : ∀ (f n : Nat), 0 < n → oneF ls b at_ f n = some (s, m) → n ≤ m ∧ m < n + f ∧ at_ + m ≤ 8 * b.length ∧ s < ls.length ∧ ln ls s = m ∧ codeV ls s = cAt b at_ m
  | 0, n, _, h => by simp [oneF] at h
  | f + 1, n, h0, h => by
    rw [oneF] at h
    split at h
    · rename_i h1
      cases hx : symAt ls n (cAt b at_ n) with
      | some s' =>
        rw [hx] at h
        simp only [Option.some.injEq, Prod.mk.injEq] at h
        obtain ⟨rfl, rfl⟩ := h
        have := (symAt_some h0).1 hx
        exact ⟨Nat.le_refl _, by omega, h1, this⟩
      | none =>
        rw [hx] at h
        have := oneF_spec f (n + 1) (by omega) h
        omega
    · cases h
theorem one_spec {ls : List Int} {b : List Nat} {at_ s m : Nat} (h : one ls b at_ = some (s, m)) : 1 ≤ m ∧ m ≤ 15 ∧ at_ + m ≤ 8 * b.length ∧ s < ls.length ∧ ln ls s = m ∧ codeV ls s = cAt b at_ m := by
  have := oneF_spec 15 1 (by omega) h
  omega
/-- symbols read one by one -/
def dst (ls : List Int) (b : List Nat) : Nat → List Nat × Nat
  | 0 => ([], 0)
  | k + 1 => match one ls b (dst ls b k).2 with
    | some (s, n) => ((dst ls b k).1 ++ [s], (dst ls b k).2 + n)
    | none => dst ls b k
theorem dst_some {ls : List Int} {b : List Nat} {k s n : Nat} (h : one ls b (dst ls b k).2 = some (s, n)) : dst ls b (k + 1) = ((dst ls b k).1 ++ [s], (dst ls b k).2 + n) := by
  rw [dst, h]
theorem dst_bounds {ls : List Int} {b : List Nat} : ∀ k, (∀ j, j < k → one ls b (dst ls b j).2 ≠ none) → k ≤ (dst ls b k).2 ∧ (dst ls b k).2 ≤ 8 * b.length ∧ (dst ls b k).1.length = k
  | 0, _ => by simp [dst]
  | k + 1, h => by
    have ih := dst_bounds k (fun j hj => h j (by omega))
    cases hx : one ls b (dst ls b k).2 with
    | none => exact absurd hx (h k (by omega))
    | some p =>
      obtain ⟨s, n⟩ := p
      have := one_spec hx
      rw [dst_some hx]
      simp
      omega
/-- what reading n symbols answers: all of them, or where there is none -/
def DecP (ls : List Int) (b : List Nat) (n : Nat) (l : List Nat) (a : Nat) (E : Int) : Prop :=
  (∀ j, j < n → one ls b (dst ls b j).2 ≠ none) ∧ l = (dst ls b n).1 ∧ a = (dst ls b n).2 ∧ E = 0 ∨
  ∃ k, k < n ∧ (∀ j, j < k → one ls b (dst ls b j).2 ≠ none) ∧ one ls b (dst ls b k).2 = none ∧ l = [] ∧ a = (dst ls b k).2 ∧ E = 52
theorem DecP.same {ls : List Int} {b : List Nat} {n : Nat} {l l' : List Nat} {a a' : Nat} {E E' : Int} (h : DecP ls b n l a E) (h' : DecP ls b n l' a' E') : l = l' ∧ a = a' ∧ E = E' := by
  rcases h with ⟨h1, rfl, rfl, rfl⟩ | ⟨k, hk, h1, h2, rfl, rfl, rfl⟩
  · rcases h' with ⟨_, rfl, rfl, rfl⟩ | ⟨k', hk', _, h2', _⟩
    · exact ⟨rfl, rfl, rfl⟩
    · exact absurd h2' (h1 k' hk')
  · rcases h' with ⟨h1', _⟩ | ⟨k', hk', h1', h2', rfl, rfl, rfl⟩
    · exact absurd h2 (h1' k hk)
    · rcases Nat.lt_trichotomy k k' with h | rfl | h
      · exact absurd h2 (h1' k h)
      · exact ⟨rfl, rfl, rfl⟩
      · exact absurd h2' (h1 k' h)
end Go.Huf
namespace Go.Huf
theorem byte_bit (l : List Bool) (k : Nat) {r : Nat} (h : r < 8) : byteAt l k / 2 ^ (7 - r) % 2 = b2n (l.getD (8 * k + r) false) := by
  have e : byteAt l k = b2n (l.getD (8 * k) false) * 128 + b2n (l.getD (8 * k + 1) false) * 64 + b2n (l.getD (8 * k + 2) false) * 32 + b2n (l.getD (8 * k + 3) false) * 16 + b2n (l.getD (8 * k + 4) false) * 8 + b2n (l.getD (8 * k + 5) false) * 4 + b2n (l.getD (8 * k + 6) false) * 2 + b2n (l.getD (8 * k + 7) false) := by
    unfold byteAt b2n
    simp only [sumR, Nat.add_zero]
    have hx : ∀ (p : Bool) (c : Nat), (if p = true then c else 0) = (if p = true then 1 else 0) * c := fun p c => by cases p <;> simp
    rw [hx (l.getD (8 * k) false) (2 ^ (7 - 0)), hx (l.getD (8 * k + 1) false) (2 ^ (7 - 1)), hx (l.getD (8 * k + 2) false) (2 ^ (7 - 2)), hx (l.getD (8 * k + 3) false) (2 ^ (7 - 3)), hx (l.getD (8 * k + 4) false) (2 ^ (7 - 4)), hx (l.getD (8 * k + 5) false) (2 ^ (7 - 5)), hx (l.getD (8 * k + 6) false) (2 ^ (7 - 6)), hx (l.getD (8 * k + 7) false) (2 ^ (7 - 7))]
    simp only [Nat.zero_add, Nat.reduceSub, Nat.reducePow, Nat.mul_one]
  have hb : ∀ p : Bool, b2n p ≤ 1 := fun p => by cases p <;> simp [b2n]
  have h0 := hb (l.getD (8 * k) false)
  have h1 := hb (l.getD (8 * k + 1) false)
  have h2 := hb (l.getD (8 * k + 2) false)
  have h3 := hb (l.getD (8 * k + 3) false)
  have h4 := hb (l.getD (8 * k + 4) false)
  have h5 := hb (l.getD (8 * k + 5) false)
  have h6 := hb (l.getD (8 * k + 6) false)
  have h7 := hb (l.getD (8 * k + 7) false)
  rw [e]
  rcases (show r = 0 ∨ r = 1 ∨ r = 2 ∨ r = 3 ∨ r = 4 ∨ r = 5 ∨ r = 6 ∨ r = 7 by omega) with rfl | rfl | rfl | rfl | rfl | rfl | rfl | rfl
  all_goals
    simp only [Nat.add_zero, Nat.reduceSub, Nat.reducePow]
    omega
theorem bit_pack (l : List Bool) (beh : List Nat) {i : Nat} (h : i < l.length) : bitB (pack l ++ beh) i = b2n (l.getD i false) := by
  unfold bitB
  have hk : i / 8 < (pack l).length := by rw [pack_len]; omega
  rw [List.getD_eq_getElem?_getD, List.getElem?_append_left hk, List.getElem?_eq_getElem hk, Option.getD_some]
  have : (pack l)[i / 8] = byteAt l (i / 8) := by simp [pack]
  rw [this, byte_bit l (i / 8) (by omega), show 8 * (i / 8) + i % 8 = i by omega]
section
variable {ls : List Int} {b : List Nat}
/-- bits that are a code's beginning -/
theorem cAt_code {c m at_ : Nat} (hc : c < 2 ^ m) (h : ∀ j, j < m → bitB b (at_ + j) = b2n (bitAt c m j)) : ∀ n, n ≤ m → cAt b at_ n = c / 2 ^ (m - n)
  | 0, _ => by rw [cAt, Nat.sub_zero, Nat.div_eq_of_lt hc]
  | n + 1, hn => by
    rw [cAt, cAt_code hc h n (by omega), h n (by omega), b2n_bit]
    obtain ⟨d, hd⟩ : ∃ d, m - n = d + 1 := ⟨m - n - 1, by omega⟩
    rw [hd, show m - (n + 1) = d by omega, show m - 1 - n = d by omega, Nat.pow_succ, ← Nat.div_div_eq_div_mul]
    omega
theorem oneF_run (hok : okL ls) {s m at_ : Nat} (hs : s < ls.length) (hm : ln ls s = m) (hm1 : 1 ≤ m) (hat : at_ + m ≤ 8 * b.length) (h : ∀ j, j < m → bitB b (at_ + j) = b2n (bitAt (codeV ls s) m j)) :
    ∀ (f n : Nat), 1 ≤ n → n ≤ m → m < n + f → oneF ls b at_ f n = some (s, m)
  | 0, n, h1, h2, h3 => by omega
  | f + 1, n, h1, h2, h3 => by
    have hcl := codeV_lt hok hs (by omega)
    rw [hm, Int.toNat_natCast] at hcl
    have hcn := cAt_code hcl h n h2
    by_cases he : n = m
    · subst he
      refine oneF_some (by omega) ((symAt_some (by omega)).2 ⟨hs, hm, ?_⟩)
      rw [hcn]
      simp
    · rw [oneF_none (by omega) ((symAt_none (by omega)).2 (fun s' q1 q2 q3 => by
        have := code_apart hok q1 hs (by omega) (by omega) (by
          rw [q3, hcn, hm, q2]
          simp)
        subst this
        omega))]
      exact oneF_run hok hs hm hm1 hat h f (n + 1) (by omega) (by omega) (by omega)
end
/-- what is coded is read -/
theorem dst_back {ls ss : List Int} {beh : List Nat} (hok : okL ls) (hall : ∀ s ∈ ss, okS ls s) : ∀ k, k ≤ ss.length →
    dst ls (pack (bitsOf ls ss) ++ beh) k = ((ss.take k).map Int.toNat, (bitsOf ls (ss.take k)).length) ∧ ∀ j, j < k → one ls (pack (bitsOf ls ss) ++ beh) (dst ls (pack (bitsOf ls ss) ++ beh) j).2 ≠ none
  | 0, _ => ⟨by simp [dst, bitsOf], fun j hj => by omega⟩
  | k + 1, hk => by
    obtain ⟨ih1, ih2⟩ := dst_back (beh := beh) hok hall k (by omega)
    have hkl : k < ss.length := by omega
    have htk : ss.take (k + 1) = ss.take k ++ [ss[k]] := List.take_succ_eq_append_getElem hkl
    obtain ⟨h0, h1, h2⟩ := hall _ (List.getElem_mem hkl)
    have hsplit : bitsOf ls ss = bitsOf ls (ss.take k) ++ (symBits ls ss[k] ++ bitsOf ls (ss.drop (k + 1))) := by
      have e : ss = ss.take k ++ (ss[k] :: ss.drop (k + 1)) := by rw [← List.drop_eq_getElem_cons hkl, List.take_append_drop]
      conv => lhs; rw [e]
      unfold bitsOf
      rw [List.flatMap_append, List.flatMap_cons]
    generalize hx : ss[k] = x at *
    obtain ⟨s, rfl⟩ : ∃ s : Nat, x = s := ⟨x.toNat, by omega⟩
    rw [Int.toNat_natCast] at h2
    have hg := ln_good hok.2.1 s
    obtain ⟨m, hm⟩ : ∃ m : Nat, ln ls s = m := ⟨(ln ls s).toNat, by omega⟩
    have hsb : symBits ls s = bitsK (codeV ls s) m := by unfold symBits; rw [Int.toNat_natCast, hm, Int.toNat_natCast]
    rw [hsb] at hsplit
    obtain ⟨at_, hat⟩ : ∃ at_, at_ = (bitsOf ls (ss.take k)).length := ⟨_, rfl⟩
    have hlen : (bitsOf ls ss).length = at_ + (m + (bitsOf ls (ss.drop (k + 1))).length) := by
      rw [hsplit, List.length_append, List.length_append, bitsK_len, hat]
    have hone : one ls (pack (bitsOf ls ss) ++ beh) at_ = some (s, m) := by
      refine oneF_run hok (by omega) hm (by omega) ?_ (fun j hj => ?_) 15 1 (Nat.le_refl _) (by omega) (by omega)
      · rw [List.length_append, pack_len]
        omega
      · rw [bit_pack _ _ (by omega)]
        congr 1
        rw [List.getD_eq_getElem?_getD, hsplit, List.getElem?_append_right (by omega), ← hat, Nat.add_sub_cancel_left, List.getElem?_append_left (by rw [bitsK_len]; exact hj)]
        simp [bitsK, hj]
    have hd := dst_some (ls := ls) (b := pack (bitsOf ls ss) ++ beh) (k := k) (s := s) (n := m) (by rw [ih1, ← hat]; exact hone)
    refine ⟨?_, fun j hj => ?_⟩
    · rw [hd, ih1, htk, List.map_append, bitsOf_snoc, hsb, List.length_append, bitsK_len]
      simp
    · rcases Nat.lt_succ_iff_lt_or_eq.1 hj with h3 | rfl
      · exact ih2 j h3
      · rw [ih1]
        dsimp only
        rw [← hat, hone]
        simp
theorem dec_back {ls ss : List Int} {beh : List Nat} (hok : okL ls) (hall : ∀ s ∈ ss, okS ls s) : DecP ls (pack (bitsOf ls ss) ++ beh) ss.length (ss.map Int.toNat) (bitsOf ls ss).length 0 := by
  obtain ⟨h1, h2⟩ := dst_back (beh := beh) hok hall ss.length (Nat.le_refl _)
  rw [List.take_length] at h1
  exact .inl ⟨h2, by rw [h1], by rw [h1], rfl⟩
end Go.Huf
set_option linter.unusedVariables false
set_option linter.unusedSimpArgs false
namespace Go.Proofs.Ytiejjbdmkgdniaa
open Go.RowKit Go.Sal Go.Huf
/-- a slice that reads as bytes -/
def BySrc (w : World) (A : Option Addr) (l : List Nat) : Prop := (∀ i (h : i < l.length), ∃ g o, A = some ⟨g, o, none⟩ ∧ g < w.heap.size ∧ w.cell? ⟨g, o + i, none⟩ = some (.int .u8 (l[i] : Nat))) ∧ ∀ x ∈ l, x < 256
theorem BySrc.keep {w w' : World} {A : Option Addr} {l : List Nat} {F : List Nat} (h : BySrc w A l) (k : Keep F w w') (hF : ∀ a, A = some a → a.block ∉ F) : BySrc w' A l := ⟨fun i hi => by
  obtain ⟨g, o, rfl, h1, h2⟩ := h.1 i hi
  exact ⟨g, o, rfl, Nat.lt_of_lt_of_le h1 k.size, (k.cell (p := ⟨g, o + i, none⟩) h1 (hF ⟨g, o, none⟩ rfl)).trans h2⟩, h.2⟩
set_option maxRecDepth 20000 in
set_option maxHeartbeats 2000000 in
theorem rbit_any (l : List Nat) (A : Option Addr) (c i : Nat) (w : World) (hs : BySrc w A l) (hi : i < 8 * l.length) (hl : l.length ≤ 100000) :
    Calls Try.prog 79 #[.slice A l.length c, .int .i64 (i : Nat)] w fun e w' => e = .returned (.int .i64 (bitB l i : Nat)) ∧ w = w' := by
  obtain ⟨q, hq⟩ : ∃ q, i / 8 = q := ⟨_, rfl⟩
  obtain ⟨r, hr⟩ : ∃ r, i % 8 = r := ⟨_, rfl⟩
  have hr8 : r < 8 := by omega
  have hql : q < l.length := by omega
  obtain ⟨g, o, rfl, hg, hc⟩ := hs.1 q hql
  have hv := hs.2 _ (List.getElem_mem hql)
  have hb : bitB l i = l[q] / 2 ^ (7 - r) % 2 := by
    unfold bitB
    rw [hq, hr]
    simp [List.getD, hql]
  generalize l[q] = v at *
  have HB := Lib.hid hb
  have htd : (i : Int).tdiv 8 = (q : Int) := by rw [Int.tdiv_eq_ediv_of_nonneg (by omega)]; omega
  have htm : (i : Int).tmod 8 = (r : Int) := by rw [Int.tmod_eq_emod_of_nonneg (by omega)]; omega
  have hwq : IntKind.i64.wrap (q : Int) = (q : Int) := by rw [IntKind.wrap_i64]; omega
  have hwr : IntKind.i64.wrap (r : Int) = (r : Int) := by rw [IntKind.wrap_i64]; omega
  have hwv : IntKind.i64.wrap (v : Int) = (v : Int) := by rw [IntKind.wrap_i64]; omega
  have hqi : (q : Int) < l.length := by omega
  clear hs hb hq hr hi
  go_enter Try.func79, Try.ntmps79
  go_wp2
  go_loop [5, 6] (fun vx vk => ∃ t x k : Nat, vx = .int .i64 x ∧ vk = .int .i64 k ∧ k ≤ 7 ∧ r ≤ k ∧ x < 256 ∧ Hid (k = r + t ∧ x = v / 2 ^ t)) (fun _ vk => 7 - (intOf vk).toNat)
  case atStart => exact ⟨0, v, r, rfl, rfl, by omega, by omega, hv, Lib.hid ⟨by simp, by simp⟩⟩
  case round =>
    obtain ⟨t, x, k, rfl, rfl, hk7, hrk, hx, hI⟩ := hrel
    rcases Nat.lt_or_ge k 7 with h7 | h7
    · have h7i : (k : Int) < 7 := by omega
      have hxd : (x : Int).tdiv 2 = ((x / 2 : Nat) : Int) := by rw [Int.tdiv_eq_ediv_of_nonneg (by omega)]; omega
      have hwx : IntKind.i64.wrap ((x / 2 : Nat) : Int) = ((x / 2 : Nat) : Int) := by rw [IntKind.wrap_i64]; omega
      have hwk : IntKind.i64.wrap ((k : Int) + 1) = (k : Int) + 1 := by rw [IntKind.wrap_i64]; omega
      have HN : Hid (k + 1 = r + (t + 1) ∧ x / 2 = v / 2 ^ (t + 1)) := Lib.hid ⟨by have := hI.out.1; omega, by rw [hI.out.2, half_pow]⟩
      have hx2 : x / 2 < 256 := by omega
      generalize x / 2 = xd at *
      clear hI
      go_wp2
      exact ⟨⟨t + 1, xd, k + 1, rfl, by simp, by omega, by omega, hx2, HN⟩, by simp [intOf]; omega⟩
    · have h7i : ¬ (k : Int) < 7 := by omega
      have hxm : (x : Int).tmod 2 = ((x % 2 : Nat) : Int) := by rw [Int.tmod_eq_emod_of_nonneg (by omega)]; omega
      have hwm : IntKind.i64.wrap ((x % 2 : Nat) : Int) = ((x % 2 : Nat) : Int) := by rw [IntKind.wrap_i64]; omega
      have HE : Hid (x % 2 = bitB l i) := by
        obtain ⟨e1, e2⟩ := hI.out
        rw [HB.out, show 7 - r = t by omega, ← e2]
        exact Lib.hid rfl
      generalize x % 2 = xm at *
      clear hI
      go_wp2
      go_ret
      exact ⟨by rw [← HE.out]; rfl, rfl⟩
def OneE (r : Option (Nat × Nat)) (e : Ending) : Prop := match r with
  | some (s, n) => e = .returned (.tuple #[.int .i64 (s : Nat), .int .i64 (n : Nat)])
  | none => e = .returned (.tuple #[.int .i64 (-1), .int .i64 0])

set_option maxRecDepth 20000 in
set_option maxHeartbeats 2000000 in
theorem rone_any (ls : List Int) (bl : List Nat) (A AC AB : Option Addr) (c cC cB b0 at_ : Nat) (w : World) (hs : ISrc w A ls) (hc : w.ownsRow b0 68 1 (.slice AC ls.length cC) ls.length (inU (codesL ls))) (hb : BySrc w AB bl) (hok : okL ls) (hbl : bl.length ≤ 10000) (hat : at_ ≤ 80000) :
    Calls Try.prog 78 #[.slice A ls.length c, .slice AC ls.length cC, .slice AB bl.length cB, .int .i64 (at_ : Nat)] w fun e w' => OneE (one ls bl at_) e ∧ w = w' := by
  have Hs := Lib.hid hs
  have Hc := Lib.hid hc
  have Hb := Lib.hid hb
  have hl := hok.1
  have Hok := Lib.hid hok
  clear hs hc hb hok
  go_enter Try.func78, Try.ntmps78
  go_wp2
  go_loop [10, 11] (fun vc vn => ∃ n x : Nat, vc = .int .i64 x ∧ vn = .int .i64 n ∧ 1 ≤ n ∧ n ≤ 16 ∧ x < 32768 ∧ Hid (x = cAt bl at_ (n - 1) ∧ one ls bl at_ = oneF ls bl at_ (16 - n) n)) (fun _ vn => 16 - (intOf vn).toNat)
  case atStart => exact ⟨1, 0, rfl, rfl, by omega, by omega, by omega, Lib.hid ⟨rfl, rfl⟩⟩
  case round =>
    obtain ⟨n, x, rfl, rfl, hn1, hn16, hx, hI⟩ := hrel
    have hend : Hid ((¬ n ≤ 15 ∨ ¬ at_ + n ≤ 8 * bl.length) → one ls bl at_ = none) := Lib.hid (fun h => by
      rw [hI.out.2]
      rcases h with h | h
      · rw [show 16 - n = 0 by omega]; rfl
      · exact oneF_end h)
    have hwb : IntKind.i64.wrap (8 * (bl.length : Int)) = ((8 * bl.length : Nat) : Int) := by rw [IntKind.wrap_i64]; omega
    obtain ⟨an, han⟩ : ∃ an, an = at_ + n := ⟨_, rfl⟩
    obtain ⟨b8, hb8⟩ : ∃ b8, b8 = 8 * bl.length := ⟨_, rfl⟩
    have hwa : IntKind.i64.wrap ((at_ : Int) + n) = (an : Int) := by rw [IntKind.wrap_i64]; omega
    rw [← hb8] at hwb
    by_cases h15 : n ≤ 15
    · have h15i : (n : Int) ≤ 15 := by omega
      by_cases hab : an ≤ b8
      · as_aux_lemma =>
          have habi : (an : Int) ≤ b8 := by omega
          obtain ⟨ai, hai⟩ : ∃ ai, an = ai + 1 := ⟨an - 1, by omega⟩
          have hwai : IntKind.i64.wrap ((an : Int) - 1) = (ai : Int) := by rw [IntKind.wrap_i64]; omega
          have HBit := Lib.hid (rbit_any bl AB cB ai w Hb.out (by omega) (by omega))
          have hbl2 := bitB_lt bl ai
          have HC : Hid (x * 2 + bitB bl ai = cAt bl at_ n) := Lib.hid (by
            obtain ⟨m, rfl⟩ : ∃ m, n = m + 1 := ⟨n - 1, by omega⟩
            rw [cAt, hI.out.1, Nat.add_sub_cancel, show at_ + m = ai by omega])
          have hwx : IntKind.i64.wrap ((x : Int) * 2) = ((x * 2 : Nat) : Int) := by rw [IntKind.wrap_i64]; omega
          obtain ⟨x2, hx2⟩ : ∃ x2, x2 = x * 2 := ⟨_, rfl⟩
          obtain ⟨y, hy⟩ : ∃ y, y = x2 + bitB bl ai := ⟨_, rfl⟩
          rw [← hx2] at hwx HC
          rw [← hy] at HC
          have hwy : IntKind.i64.wrap ((x2 : Int) + (bitB bl ai : Nat)) = (y : Int) := by rw [IntKind.wrap_i64]; omega
          have hy2 : y < 32768 := by
            have h1 := cAt_lt bl at_ n
            rw [← HC.out] at h1
            have : 2 ^ n ≤ 2 ^ 15 := Nat.pow_le_pow_right (by omega) (by omega)
            omega
          have Hone : Hid (one ls bl at_ = oneF ls bl at_ (16 - n) n ∧ at_ + n ≤ 8 * bl.length) := Lib.hid ⟨hI.out.2, by omega⟩
          have hwn : IntKind.i64.wrap ((n : Int) + 1) = (n : Int) + 1 := by rw [IntKind.wrap_i64]; omega
          generalize bitB bl ai = bt at *
          clear hI hend han hb8 hai hx2 hy hab
          go_wp2_with (go_at_call 79; refine HBit.out.mono ?_; rintro e w1 ⟨rfl, rfl⟩)
          clear HBit
          go_loop [12] (fun vk => ∃ k : Nat, vk = .int .i64 k ∧ k ≤ ls.length ∧ Hid (∀ j, j < k → ln ls j = n → codeV ls j ≠ y)) (fun vk => ls.length - (intOf vk).toNat)
          case atStart => exact ⟨0, rfl, by omega, Lib.hid (fun j hj => by omega)⟩
          case round =>
            obtain ⟨k, rfl, hk, hJ⟩ := hrel
            rcases Nat.lt_or_ge k ls.length with hkl | hkl
            · as_aux_lemma =>
                obtain ⟨g, o, rfl, hg, d1⟩ := Hs.out k hkl
                obtain ⟨gc, rfl, _, _⟩ := own_some Hc.out (by omega)
                have d2 : w.cell? ⟨gc, k, none⟩ = some (.int .u16 (codeV ls k : Nat)) := by
                  have := (inU_cell Hc.out (i := k) (by rw [codesL_len]; exact hkl)).1
                  simpa [codesL] using this
                have hle := ln_eq hkl
                have hwk : IntKind.i64.wrap ((k : Int) + 1) = (k : Int) + 1 := by rw [IntKind.wrap_i64]; omega
                have hki : (k : Int) < ls.length := by omega
                have Hst : Hid ((ls[k] = n → codeV ls k ≠ y) → ∀ j, j < k + 1 → ln ls j = n → codeV ls j ≠ y) := Lib.hid (fun h j hj hl => by
                  rcases Nat.lt_succ_iff_lt_or_eq.1 hj with h1 | rfl
                  · exact hJ.out j h1 hl
                  · exact h (by rw [← hle]; exact hl))
                have Hfd : Hid (ls[k] = n → codeV ls k = y → one ls bl at_ = some (k, n)) := Lib.hid (fun h1 h2 => by
                  rw [Hone.out.1, show 16 - n = (15 - n) + 1 by omega]
                  exact oneF_some Hone.out.2 ((symAt_some (by omega)).2 ⟨hkl, by rw [hle]; exact h1, by rw [h2, HC.out]⟩))
                generalize ls[k] = z at *
                obtain ⟨cv, hcv⟩ : ∃ cv, codeV ls k = cv := ⟨_, rfl⟩
                rw [hcv] at d2 Hst Hfd
                by_cases hz : z = n
                · subst hz
                  by_cases hc2 : cv = y
                  · have HR := Lib.hid (Hfd.out rfl hc2)
                    subst hc2
                    have hwc : IntKind.i64.wrap (cv : Int) = (cv : Int) := by rw [IntKind.wrap_i64]; omega
                    clear Hst Hfd hJ hle hcv
                    go_wp2
                    go_ret2
                    exact ⟨by rw [HR.out]; rfl, rfl⟩
                  · have HN := Lib.hid (Hst.out (fun _ => hc2))
                    have hcf : ((cv : Int) == (y : Int)) = false := by simpa using (by omega : (cv : Int) ≠ y)
                    have hcv2 := codeV_small Hok.out hkl
                    rw [hcv] at hcv2
                    have hwc : IntKind.i64.wrap (cv : Int) = (cv : Int) := by rw [IntKind.wrap_i64]; omega
                    clear Hst Hfd hJ hle hcv hc2
                    go_wp2
                    exact ⟨⟨k + 1, by simp, by omega, HN⟩, by simp [intOf]; omega⟩
                · have HN := Lib.hid (Hst.out (fun h => absurd h hz))
                  have hzf : (z == (n : Int)) = false := by simpa using hz
                  clear Hst Hfd hJ hle hcv hz
                  go_wp2
                  exact ⟨⟨k + 1, by simp, by omega, HN⟩, by simp [intOf]; omega⟩
            · obtain rfl : k = ls.length := by omega
              have HN : Hid (y = cAt bl at_ (n + 1 - 1) ∧ one ls bl at_ = oneF ls bl at_ (16 - (n + 1)) (n + 1)) := Lib.hid ⟨HC.out, by
                rw [Hone.out.1, show 16 - n = (15 - n) + 1 by omega, show 16 - (n + 1) = 15 - n by omega]
                exact oneF_none Hone.out.2 ((symAt_none (by omega)).2 (fun s h1 h2 => by rw [← HC.out]; exact hJ.out s h1 h2))⟩
              clear hJ
              go_wp2_with fail
              go_round
              case rel => exact ⟨n + 1, y, rfl, by simp, by omega, by omega, hy2, HN⟩
              case measure => simp [intOf]; omega
      · have habi : ¬ (an : Int) ≤ b8 := by omega
        have HR := Lib.hid (hend.out (.inr (by omega)))
        clear hI hend han hb8 hab
        go_wp2
        go_ret2
        exact ⟨by rw [HR.out]; rfl, rfl⟩
    · have h15i : ¬ (n : Int) ≤ 15 := by omega
      have HR := Lib.hid (hend.out (.inl h15))
      clear hI hend han hb8
      go_wp2
      go_ret2
      exact ⟨by rw [HR.out]; rfl, rfl⟩
end Go.Proofs.Ytiejjbdmkgdniaa
