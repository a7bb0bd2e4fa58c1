/- How often each symbol comes: counts, in the program and in the reference. -/
import Derived.Test.YtiejjbdmkgdniaaK1
import Derived.Test.YtiejjbdmkgdniaaL2
import Derived.Test.YtiejjbdmkgdniaaShelf
import Derived.Deep.QuietTactic
import Derived.BigQuiet
import Derived.Deep.Cut
set_option linter.unusedVariables false
set_option linter.unusedSimpArgs false
namespace Go.Proofs.Ytiejjbdmkgdniaa
open Go.RowKit Go.Sal Go.Huf Go.Cod
/-- the block of a new row of n ints -/
def ZI (n : Nat) : Obj := .cells (madeCells #[.int .i64 0] (n * 1)) 3 (0, 0)
theorem made_row {w : World} (base n : Nat) (hn : n ≤ 1000000) (hB : base ≤ w.heap.size) (hmk : (Instr.makeSlice 49 (.int .i64 n) (.int .i64 n)).run Try.prog w = .ok (.slice (some ⟨w.heap.size, 0, none⟩) n n) (w.alloc (ZI n))) :
    (w.alloc (ZI n)).ownsRow base 3 1 (.slice (some ⟨w.heap.size, 0, none⟩) n n) n (inI (List.replicate n 0)) := by
  obtain ⟨i, hi, hz, hs, hby⟩ : ∃ i, Try.prog.info? 3 = some i ∧ i.zero = some (.int .i64 0) ∧ i.size = 1 ∧ i.bytes = 8 := by
    cases hx : Try.prog.info? 3 with
    | none => have := intinfo; rw [hx] at this; cases this
    | some i =>
      have := intinfo
      rw [hx] at this
      simp only [Option.map_some, Option.some.injEq, Prod.mk.injEq] at this
      exact ⟨i, rfl, this.1, this.2.1, this.2.2⟩
  obtain ⟨w', hrun, r1, r2⟩ := run_make_full (P := Try.prog) w base 49 3 i (.int .i64 0) 1 Try.underlying49 hi hz hs .i64 .i64 n (by rw [hby]; omega) (by unfold maxLen; omega) hB
  rw [made_ints] at r1
  rw [hmk] at hrun
  injection hrun with _ hrun
  rw [hrun]
  exact r1
theorem mk511 (w : World) : (Instr.makeSlice 49 (.int .i64 511) (.int .i64 511)).run Try.prog w = .ok (.slice (some ⟨w.heap.size, 0, none⟩) 511 511) (w.alloc (ZI 511)) := by kernel_rfl
theorem mk13 (w : World) : (Instr.makeSlice 49 (.int .i64 13) (.int .i64 13)).run Try.prog w = .ok (.slice (some ⟨w.heap.size, 0, none⟩) 13 13) (w.alloc (ZI 13)) := by kernel_rfl
theorem bitLen_log : ∀ f x : Nat, 1 ≤ x → x < 2 ^ f → Lib.bitLenAux f x = Nat.log2 x + 1
  | 0, x, h1, h2 => by simp at h2; omega
  | f + 1, x, h1, h2 => by
    rw [Lib.bitLenAux, if_neg (by omega)]
    rw [Nat.pow_succ] at h2
    rw [Nat.log2_def]
    by_cases h : 2 ≤ x
    · rw [if_pos h, bitLen_log f (x / 2) (by omega) (by omega)]; omega
    · rw [if_neg h]
      have : x / 2 = 0 := by omega
      rw [this]
      cases f <;> simp [Lib.bitLenAux]
theorem log_le {x : Nat} (h : x ≤ 4096) : Nat.log2 x ≤ 12 := by
  rcases Nat.eq_zero_or_pos x with h0 | h0
  · subst h0; simp
  · have : x.log2 < 13 := by rw [Nat.log2_lt (by omega)]; omega
    omega
set_option maxHeartbeats 2000000 in
theorem distance_any (d n : Int) (x : Nat) (w : World) (hd : 1 ≤ d) (hd2 : d ≤ 4096) :
    Calls Try.prog 32 #[.agg #[.int .i64 d, .int .i64 n, .int .u8 (x : Nat)]] w fun e w' => e = .returned (.int .i64 (Nat.log2 d.toNat : Nat)) ∧ Keep [] w w' := by
  have hwd : IntKind.u64.wrap d = d := by rw [IntKind.wrap_u64]; omega
  have hb : Lib.bitLen d.toNat = Nat.log2 d.toNat + 1 := bitLen_log 64 _ (by omega) (by have := Int.toNat_of_nonneg (show 0 ≤ d by omega); omega)
  have hl := log_le (x := d.toNat) (by omega)
  have HC : Hid (∀ w, Calls Try.prog 67 #[.int .u64 d] w fun e w' => e = .returned (.int .i64 ((Nat.log2 d.toNat : Nat) + 1 : Int)) ∧ w = w') := Lib.hid (fun w => (Try.bits_Len d w (by omega) (by omega)).mono (fun e w' h => by
    rw [h.1, h.2, hb]; exact ⟨by simp, rfl⟩))
  clear hb
  generalize Nat.log2 d.toNat = q at *
  have hwq : IntKind.i64.wrap ((q : Int) + 1 - 1) = (q : Int) := by rw [IntKind.wrap_i64]; omega
  go_enter Try.func32, Try.ntmps32
  go_wp2_with (go_at_call 67; refine (HC.out _).mono ?_; rintro e w' ⟨rfl, rfl⟩)
  go_ret
  exact ⟨by first | rfl | (congr 2; omega), (Keep.refl [] _).alloc _⟩
theorem rsymbol_lit (n : Int) (x : Nat) (w : World) (hx : x < 256) :
    Calls Try.prog 39 #[.agg #[.int .i64 0, .int .i64 n, .int .u8 (x : Nat)]] w fun e w' => e = .returned (.int .i64 (x : Nat)) ∧ Keep [] w w' := by
  have hwx : IntKind.i64.wrap (x : Int) = (x : Int) := by rw [IntKind.wrap_i64]; omega
  go_enter Try.func39, Try.ntmps39
  go_wp2
  go_ret
  exact ⟨rfl, (Keep.refl [] _).alloc _⟩
theorem rsymbol_copy (d n : Int) (x : Nat) (w : World) (hd : 1 ≤ d) (hn : 4 ≤ n) (hn2 : n ≤ 258) :
    Calls Try.prog 39 #[.agg #[.int .i64 d, .int .i64 n, .int .u8 (x : Nat)]] w fun e w' => e = .returned (.int .i64 (252 + n)) ∧ Keep [] w w' := by
  have hdf : (d == 0) = false := by simp; omega
  have hwn : IntKind.i64.wrap (252 + n) = 252 + n := by rw [IntKind.wrap_i64]; omega
  go_enter Try.func39, Try.ntmps39
  go_wp2
  go_ret
  exact ⟨rfl, (Keep.refl [] _).alloc _⟩
theorem rdist_any (d : Nat) (w : World) (hd : d ≤ 4096) :
    Calls Try.prog 41 #[.int .i64 (d : Nat)] w fun e w' => e = .returned (.int .i64 (Nat.log2 d : Nat)) ∧ w = w' := by
  go_enter Try.func41, Try.ntmps41
  go_wp2
  go_loop [0, 3] (fun vn vk => ∃ n k : Nat, vn = .int .i64 n ∧ vk = .int .i64 k ∧ n ≤ 4096 ∧ k ≤ 12 ∧ Hid (k + Nat.log2 n = Nat.log2 d)) (fun vn _ => (intOf vn).toNat)
  case atStart => exact ⟨d, 0, rfl, rfl, hd, by omega, Lib.hid (by omega)⟩
  case round =>
    obtain ⟨n, k, rfl, rfl, hn, hk, hI⟩ := hrel
    rcases Nat.lt_or_ge 1 n with h1 | h1
    · have h1i : (1 : Int) < n := by omega
      have htd : (n : Int).tdiv 2 = ((n / 2 : Nat) : Int) := by rw [Int.tdiv_eq_ediv_of_nonneg (by omega)]; omega
      have hwn : IntKind.i64.wrap ((n / 2 : Nat) : Int) = ((n / 2 : Nat) : Int) := by rw [IntKind.wrap_i64]; omega
      have hwk : IntKind.i64.wrap ((k : Int) + 1) = (k : Int) + 1 := by rw [IntKind.wrap_i64]; omega
      have HL : Hid (k + 1 + Nat.log2 (n / 2) = Nat.log2 d) := Lib.hid (by
        have := hI.out
        rw [Nat.log2_def, if_pos (by omega)] at this
        omega)
      have hk11 : k + 1 ≤ 12 := by
        have := HL.out
        have := log_le hd
        omega
      have hlt : n / 2 < n := by omega
      have hle : n / 2 ≤ 4096 := by omega
      generalize n / 2 = m at *
      clear hI
      go_wp2
      exact ⟨⟨m, k + 1, rfl, by simp, hle, hk11, HL⟩, by simp [intOf]; omega⟩
    · have h1i : ¬ (1 : Int) < n := by omega
      have hE : Hid (k = Nat.log2 d) := Lib.hid (by
        have := hI.out
        rw [Nat.log2_def, if_neg (by omega)] at this
        omega)
      clear hI
      go_wp2
      go_ret
      exact ⟨by rw [← hE.out]; rfl, rfl⟩
/-- what stands of the counts of the first k tokens -/
def TCI (w : World) (l : List Tk) (k ga gb : Nat) (wr : World) : Prop :=
  wr.ownsRow w.heap.size 3 1 (.slice (some ⟨ga, 0, none⟩) 511 511) 511 (inI (cntA (l.take k))) ∧ wr.ownsRow w.heap.size 3 1 (.slice (some ⟨gb, 0, none⟩) 13 13) 13 (inI (cntD (l.take k))) ∧
  ga ≠ gb ∧ w.heap.size ≤ ga ∧ w.heap.size ≤ gb ∧ ga < wr.heap.size ∧ gb < wr.heap.size ∧ Keep [] w wr
theorem TCI.start (w : World) (l : List Tk) (ga gb : Nat) (wx : World) (h : ga = w.heap.size ∧ gb = w.heap.size + 1 ∧ wx = ((w.alloc (ZI 511)).alloc (ZI 13)).drew ∨ ga = w.heap.size + 1 ∧ gb = w.heap.size ∧ wx = ((w.alloc (ZI 13)).alloc (ZI 511)).drew) : TCI w l 0 ga gb wx := by
  have hs : ∀ o, (w.alloc o).heap.size = w.heap.size + 1 := fun o => by simp
  have hk1 : ∀ o, Keep [] w (w.alloc o) := fun o => (Keep.refl [] w).alloc _
  rcases h with ⟨rfl, rfl, rfl⟩ | ⟨rfl, rfl, rfl⟩
  · have h1 := made_row w.heap.size 511 (by omega) (Nat.le_refl _) (mk511 w)
    have h2 := made_row (w := w.alloc (ZI 511)) w.heap.size 13 (by omega) (by simp) (mk13 _)
    rw [hs] at h2
    have h1' := ownsRow_keep h1 ((Keep.refl [] (w.alloc (ZI 511))).alloc (ZI 13)) (by simp)
    refine ⟨?_, ?_, by omega, by omega, by omega, by simp; omega, by simp, ((hk1 _).alloc _).drew⟩
    · rw [List.take_zero, cntA_nil]; exact h1'.drew
    · rw [List.take_zero, cntD_nil]; exact h2.drew
  · have h1 := made_row w.heap.size 13 (by omega) (Nat.le_refl _) (mk13 w)
    have h2 := made_row (w := w.alloc (ZI 13)) w.heap.size 511 (by omega) (by simp) (mk511 _)
    rw [hs] at h2
    have h1' := ownsRow_keep h1 ((Keep.refl [] (w.alloc (ZI 13))).alloc (ZI 511)) (by simp)
    refine ⟨?_, ?_, by omega, by omega, by omega, by simp, by simp; omega, ((hk1 _).alloc _).drew⟩
    · rw [List.take_zero, cntA_nil]; exact h2.drew
    · rw [List.take_zero, cntD_nil]; exact h1'.drew
theorem TCI.keep {w wr w1 : World} {l : List Tk} {k ga gb : Nat} (h : TCI w l k ga gb wr) (hk : Keep [] wr w1) : TCI w l k ga gb w1 := by
  obtain ⟨h1, h2, h3, h4, h5, h6, h7, h8⟩ := h
  have := hk.size
  exact ⟨ownsRow_keep h1 hk (by simp), ownsRow_keep h2 hk (by simp), h3, h4, h5, by omega, by omega, h8.trans hk⟩
/-- the counts behind the next token: what is read, what is laid -/
theorem TCI.step {w wr w1 : World} {l : List Tk} {k ga gb : Nat} (h : TCI w l k ga gb wr) (hk : k < l.length) (hl : l.length ≤ 1000000000) (hok : okT l[k] = true) (hlit : l[k].2.2 < 256) (hk1 : Keep [] wr w1) :
    ∃ v : Int, w1.cell? ⟨ga, symT l[k], none⟩ = some (.int .i64 v) ∧ w1.frozen? ⟨ga, symT l[k], none⟩ = false ∧ IntKind.i64.wrap (v + 1) = v + 1 ∧
      ((l[k].1 = 0 → TCI w l (k + 1) ga gb (w1.setCell ⟨ga, symT l[k], none⟩ (.int .i64 (v + 1)))) ∧
       (0 < l[k].1 → ∀ w2, Keep [] (w1.setCell ⟨ga, symT l[k], none⟩ (.int .i64 (v + 1))) w2 → ∃ u : Int, w2.cell? ⟨gb, dsT l[k], none⟩ = some (.int .i64 u) ∧ w2.frozen? ⟨gb, dsT l[k], none⟩ = false ∧ IntKind.i64.wrap (u + 1) = u + 1 ∧
         TCI w l (k + 1) ga gb (w2.setCell ⟨gb, dsT l[k], none⟩ (.int .i64 (u + 1))))) := by
  have hs := symT_lt hok hlit
  obtain ⟨h1, h2, h3, h4, h5, h6, h7, h8⟩ := h.keep hk1
  have hl1 : symT l[k] < (cntA (l.take k)).length := by rw [cntA_len]; exact hs
  obtain ⟨c1, c2⟩ := inI_cell h1 hl1
  have hb := cntA_bd (l.take k) _ (List.getElem_mem hl1)
  have htl : (l.take k).length ≤ l.length := by rw [List.length_take]; omega
  have htk : l.take (k + 1) = l.take k ++ [l[k]] := List.take_succ_eq_append_getElem hk
  have hset := inI_set h1 (i := symT l[k]) hs ((cntA (l.take k))[symT l[k]] + 1)
  rw [cntA_snoc _ _ hl1 rfl, ← htk] at hset
  generalize (cntA (l.take k))[symT l[k]] = v at *
  refine ⟨v, c1, c2, by rw [IntKind.wrap_i64]; omega, fun h0 => ?_, fun hd w2 hk2 => ?_⟩
  · have hD : cntD (l.take (k + 1)) = cntD (l.take k) := by rw [htk]; exact cntD_same _ _ (by omega)
    refine ⟨hset, ?_, h3, h4, h5, by simpa [World.setCell] using h6, by simpa [World.setCell] using h7, h8.setCell (.inr h4) _⟩
    rw [hD]
    exact ownsRow_keep h2 ((Keep.refl [ga] w1).setCell (.inl (by simp)) _) (by simp [Value.ownBlock]; exact fun e => h3 e.symm)
  · have hds := (dsT_lt hok hd).1
    have hb1 : w2.ownsRow w.heap.size 3 1 (.slice (some ⟨gb, 0, none⟩) 13 13) 13 (inI (cntD (l.take k))) :=
      ownsRow_keep (ownsRow_keep h2 ((Keep.refl [ga] w1).setCell (.inl (by simp)) _) (by simp [Value.ownBlock]; exact fun e => h3 e.symm)) hk2 (by simp)
    have ha1 := ownsRow_keep hset hk2 (by simp)
    have hl2 : dsT l[k] < (cntD (l.take k)).length := by rw [cntD_len]; exact hds
    obtain ⟨e1, e2⟩ := inI_cell hb1 hl2
    have hb2 := cntD_bd (l.take k) _ (List.getElem_mem hl2)
    have hset2 := inI_set hb1 (i := dsT l[k]) hds ((cntD (l.take k))[dsT l[k]] + 1)
    rw [cntD_snoc _ _ hl2 hd rfl, ← htk] at hset2
    generalize (cntD (l.take k))[dsT l[k]] = u at *
    have hz2 := hk2.size
    have hz3 : w1.heap.size ≤ w2.heap.size := by simpa [World.setCell] using hz2
    refine ⟨u, e1, e2, by rw [IntKind.wrap_i64]; omega, ?_, hset2, h3, h4, h5, ?_, ?_, ((h8.setCell (.inr h4) _).trans hk2).setCell (.inr h5) _⟩
    · exact ownsRow_keep ha1 ((Keep.refl [gb] w2).setCell (.inl (by simp)) _) (by simp [Value.ownBlock]; exact h3)
    · simp [World.setCell]; omega
    · simp [World.setCell]; omega
set_option maxRecDepth 20000 in
set_option maxHeartbeats 2000000 in
theorem counts_any (l : List Tk) (A : Option Addr) (c : Nat) (w : World) (hs : TSrc w A l) (hl : l.length ≤ 1000000000) (h : l.all okT = true) :
    Calls Try.prog 25 #[.slice A l.length c] w fun e w' => ∃ ga gb, e = .returned (.tuple #[.slice (some ⟨ga, 0, none⟩) 511 511, .slice (some ⟨gb, 0, none⟩) 13 13]) ∧
      Hid (TCI w l l.length ga gb w') := by
  have Hs := Lib.hid hs
  have Hn := Lib.hid h
  clear hs h
  go_enter Try.func25, Try.ntmps25
  go_wp2
  go_upto_region 1 with (fail)
  go_cut [4, 5] (fun va vb wx => ∃ ga gb, va = .slice (some ⟨ga, 0, none⟩) 511 511 ∧ vb = .slice (some ⟨gb, 0, none⟩) 13 13 ∧ Hid (TCI w l 0 ga gb wx))
  case first =>
    have m1 := mk511
    have m2 := mk13
    have HM : Hid (∀ ga gb wx, _ → Hid (TCI w l 0 ga gb wx)) := Lib.hid (fun ga gb wx h => Lib.hid (TCI.start w l ga gb wx h))
    generalize ZI 511 = Z1 at *
    generalize ZI 13 = Z2 at *
    go_region
    · go_wp2
      go_meet
      exact ⟨_, _, rfl, rfl, HM.out _ _ _ (.inl ⟨rfl, rfl, rfl⟩)⟩
    · go_wp2
      go_meet
      exact ⟨_, _, rfl, rfl, HM.out _ _ _ (.inr ⟨rfl, rfl, rfl⟩)⟩
  case rest =>
    obtain ⟨ga, gb, rfl, rfl, hI0⟩ := hcut
    go_wp2
    go_loopw [12] (fun vi wr => ∃ k : Nat, vi = .int .i64 k ∧ k ≤ l.length ∧ Hid (TCI w l k ga gb wr)) (fun vi _ => l.length - (intOf vi).toNat)
    case atStart => exact ⟨0, rfl, by omega, hI0⟩
    case round =>
      obtain ⟨k, rfl, hk, hI⟩ := hrel
      clear hI0
      rcases Nat.lt_or_ge k l.length with hkl | hkl
      · as_aux_lemma =>
          obtain ⟨g, o, rfl, hg, d1, d2, d3⟩ := (Hs.out.keep hI.out.2.2.2.2.2.2.2 (by simp)).1 k hkl
          have hkli : (k : Int) < l.length := by omega
          have hwk : IntKind.i64.wrap ((k : Int) + 1) = (k : Int) + 1 := by rw [IntKind.wrap_i64]; omega
          have hok := all_get Hn.out hkl
          have hlit := (Hs.out.2 _ (List.getElem_mem hkl)).2.2
          have Hst := Lib.hid (fun w1 (hk1 : Keep [] wr w1) => TCI.step hI.out hkl hl hok hlit hk1)
          have hsz : ga < wr.heap.size ∧ gb < wr.heap.size := ⟨hI.out.2.2.2.2.2.1, hI.out.2.2.2.2.2.2.1⟩
          generalize l[k] = t at *
          obtain ⟨d, n, x⟩ := t
          dsimp only at d1 d2 d3 hlit
          rcases okT_cases hok with ⟨h1, h2⟩ | ⟨h1, h2, h3, h4, h5⟩
          · dsimp only at h1 h2
            subst h1
            subst h2
            have hsy : symT (0, 1, x) = x := rfl
            rw [hsy] at Hst
            clear hok hsy hI
            have HC := Lib.hid (fun w => symbol_lit 1 x w hlit)
            have hxi : (x : Int) < 511 := by omega
            have hxn : x < 511 := by omega
            go_wp2_with (go_at_call 30; refine (HC.out _).mono ?_; rintro e w1 ⟨rfl, hk1⟩; obtain ⟨v, a1, a2, hwv, aN⟩ := Hst.out w1 (((Keep.refl [] wr).alloc _).trans hk1); have AN := Lib.hid aN; clear aN; have b0 := hk1.cell (p := ⟨wr.heap.size, 0, none⟩) (by simp) (by simp); have hz1 := hk1.size; clear hk1)
            exact ⟨⟨k + 1, by simp, by omega, Lib.hid (AN.out.1 (by simp))⟩, by simp [intOf]; omega⟩
          · dsimp only at h1 h2 h3 h4 h5
            subst h5
            obtain ⟨q, rfl⟩ : ∃ q : Nat, n = q := ⟨n.toNat, by omega⟩
            obtain ⟨dn, rfl⟩ : ∃ dn : Nat, d = dn := ⟨d.toNat, by omega⟩
            have hsy : symT ((dn : Int), (q : Int), 0) = 252 + q := by unfold symT; rw [if_neg (by simp; omega)]; simp; omega
            have hds : dsT ((dn : Int), (q : Int), 0) = Nat.log2 dn := by simp [dsT]
            have hdl := log_le (x := dn) (by omega)
            have HC : Hid (∀ w, Calls Try.prog 30 #[.agg #[.int .i64 (dn : Nat), .int .i64 (q : Nat), .int .u8 ((0 : Nat) : Int)]] w fun e w' => e = .returned (.int .i64 ((252 + q : Nat) : Int)) ∧ Keep [] w w') := Lib.hid (fun w => by
              have := symbol_copy dn q 0 w h1 h3 h4
              rwa [show (252 + (q : Int)) = ((252 + q : Nat) : Int) by omega] at this)
            have HD : Hid (∀ w, Calls Try.prog 32 #[.agg #[.int .i64 (dn : Nat), .int .i64 (q : Nat), .int .u8 ((0 : Nat) : Int)]] w fun e w' => e = .returned (.int .i64 (Nat.log2 dn : Nat)) ∧ Keep [] w w') := Lib.hid (fun w => by
              have := distance_any dn q 0 w h1 h2
              rwa [Int.toNat_natCast] at this)
            rw [hsy, hds] at Hst
            have hxi : ((252 + q : Nat) : Int) < 511 := by omega
            have hxn : 252 + q < 511 := by omega
            have hdi : (0 : Int) < dn := by omega
            have hdn : 0 < dn := by omega
            have hqi : ((Nat.log2 dn : Nat) : Int) < 13 := by omega
            have hqn : Nat.log2 dn < 13 := by omega
            clear hok hsy hds hI h1 h2 h3 h4 hlit
            generalize 252 + q = m at *
            generalize Nat.log2 dn = r at *
            go_wp2_with (first
              | (go_at_call 30; refine (HC.out _).mono ?_; rintro e w1 ⟨rfl, hk1⟩; obtain ⟨v, a1, a2, hwv, aN⟩ := Hst.out w1 (((Keep.refl [] wr).alloc _).trans hk1); have AN := Lib.hid (aN.2 (by simpa using hdn)); clear aN; have b0 := hk1.cell (p := ⟨wr.heap.size, 0, none⟩) (by simp) (by simp); have b1 := hk1.cell (p := ⟨wr.heap.size, 1, none⟩) (by simp) (by simp); have b2 := hk1.cell (p := ⟨wr.heap.size, 2, none⟩) (by simp) (by simp); have hz1 := hk1.size; clear hk1)
              | (go_at_call 32; refine (HD.out _).mono ?_; rintro e w2 ⟨rfl, hk2⟩; obtain ⟨u, a3, a4, hwu, aN⟩ := AN.out w2 hk2; have AN2 := Lib.hid aN; clear aN hk2))
            exact ⟨⟨k + 1, by simp, by omega, AN2⟩, by simp [intOf]; omega⟩
      · obtain rfl : k = l.length := by omega
        have hkli : ¬ (l.length : Int) < l.length := by omega
        go_wp2
        go_ret2
        exact ⟨ga, gb, rfl, hI⟩
set_option maxRecDepth 20000 in
set_option maxHeartbeats 2000000 in
theorem rcounts_any (l : List Tk) (A : Option Addr) (c : Nat) (w : World) (hs : TSrc w A l) (hl : l.length ≤ 1000000000) (h : l.all okT = true) :
    Calls Try.prog 34 #[.slice A l.length c] w fun e w' => ∃ ga gb, e = .returned (.tuple #[.slice (some ⟨ga, 0, none⟩) 511 511, .slice (some ⟨gb, 0, none⟩) 13 13]) ∧
      Hid (TCI w l l.length ga gb w') := by
  have Hs := Lib.hid hs
  have Hn := Lib.hid h
  clear hs h
  go_enter Try.func34, Try.ntmps34
  go_wp2
  go_upto_region 1 with (fail)
  go_cut [4, 5] (fun va vb wx => ∃ ga gb, va = .slice (some ⟨ga, 0, none⟩) 511 511 ∧ vb = .slice (some ⟨gb, 0, none⟩) 13 13 ∧ Hid (TCI w l 0 ga gb wx))
  case first =>
    have m1 := mk511
    have m2 := mk13
    have HM : Hid (∀ ga gb wx, _ → Hid (TCI w l 0 ga gb wx)) := Lib.hid (fun ga gb wx h => Lib.hid (TCI.start w l ga gb wx h))
    generalize ZI 511 = Z1 at *
    generalize ZI 13 = Z2 at *
    go_region
    · go_wp2
      go_meet
      exact ⟨_, _, rfl, rfl, HM.out _ _ _ (.inl ⟨rfl, rfl, rfl⟩)⟩
    · go_wp2
      go_meet
      exact ⟨_, _, rfl, rfl, HM.out _ _ _ (.inr ⟨rfl, rfl, rfl⟩)⟩
  case rest =>
    obtain ⟨ga, gb, rfl, rfl, hI0⟩ := hcut
    go_wp2
    go_loopw [6] (fun vi wr => ∃ k : Nat, vi = .int .i64 k ∧ k ≤ l.length ∧ Hid (TCI w l k ga gb wr)) (fun vi _ => l.length - (intOf vi).toNat)
    case atStart => exact ⟨0, rfl, by omega, hI0⟩
    case round =>
      obtain ⟨k, rfl, hk, hI⟩ := hrel
      clear hI0
      rcases Nat.lt_or_ge k l.length with hkl | hkl
      · as_aux_lemma =>
          obtain ⟨g, o, rfl, hg0, _⟩ := Hs.out.1 k hkl
          obtain ⟨g', o', e, hg, d1, d2, d3⟩ := (Hs.out.keep hI.out.2.2.2.2.2.2.2 (by simp)).1 k hkl
          injection e with e
          injection e with e1 e2
          subst e1; subst e2
          have hkli : (k : Int) < l.length := by omega
          have hwk : IntKind.i64.wrap ((k : Int) + 1) = (k : Int) + 1 := by rw [IntKind.wrap_i64]; omega
          have hok := all_get Hn.out hkl
          have hlit := (Hs.out.2 _ (List.getElem_mem hkl)).2.2
          have Hst := Lib.hid (fun w1 (hk1 : Keep [] wr w1) => TCI.step hI.out hkl hl hok hlit hk1)
          have hsz : g < ga ∧ g < gb := by
            have h4 := hI.out.2.2.2.1
            have h5 := hI.out.2.2.2.2.1
            exact ⟨Nat.lt_of_lt_of_le hg0 h4, Nat.lt_of_lt_of_le hg0 h5⟩
          generalize l[k] = t at *
          obtain ⟨d, n, x⟩ := t
          dsimp only at d1 d2 d3 hlit
          rcases okT_cases hok with ⟨h1, h2⟩ | ⟨h1, h2, h3, h4, h5⟩
          · dsimp only at h1 h2
            subst h1
            subst h2
            have hsy : symT (0, 1, x) = x := rfl
            rw [hsy] at Hst
            clear hok hsy hI
            have HC := Lib.hid (fun w => rsymbol_lit 1 x w hlit)
            have hxi : (x : Int) < 511 := by omega
            have hxn : x < 511 := by omega
            go_wp2_with (go_at_call 39; refine (HC.out _).mono ?_; rintro e w1 ⟨rfl, hk1⟩; obtain ⟨v, a1, a2, hwv, aN⟩ := Hst.out w1 hk1; have AN := Lib.hid aN; clear aN; have b0 := (hk1.cell (p := ⟨g, o + k * 3, none⟩) hg (by simp)).trans d1; have hz1 := hk1.size; clear hk1)
            exact ⟨⟨k + 1, by simp, by omega, Lib.hid (AN.out.1 (by simp))⟩, by simp [intOf]; omega⟩
          · dsimp only at h1 h2 h3 h4 h5
            subst h5
            obtain ⟨q, rfl⟩ : ∃ q : Nat, n = q := ⟨n.toNat, by omega⟩
            obtain ⟨dn, rfl⟩ : ∃ dn : Nat, d = dn := ⟨d.toNat, by omega⟩
            have hsy : symT ((dn : Int), (q : Int), 0) = 252 + q := by unfold symT; rw [if_neg (by simp; omega)]; simp; omega
            have hds : dsT ((dn : Int), (q : Int), 0) = Nat.log2 dn := by simp [dsT]
            have hdl := log_le (x := dn) (by omega)
            have HC : Hid (∀ w, Calls Try.prog 39 #[.agg #[.int .i64 (dn : Nat), .int .i64 (q : Nat), .int .u8 ((0 : Nat) : Int)]] w fun e w' => e = .returned (.int .i64 ((252 + q : Nat) : Int)) ∧ Keep [] w w') := Lib.hid (fun w => by
              have := rsymbol_copy dn q 0 w h1 h3 h4
              rwa [show (252 + (q : Int)) = ((252 + q : Nat) : Int) by omega] at this)
            have HD : Hid (∀ w, Calls Try.prog 41 #[.int .i64 (dn : Nat)] w fun e w' => e = .returned (.int .i64 (Nat.log2 dn : Nat)) ∧ w = w') := Lib.hid (fun w => rdist_any dn w (by omega))
            rw [hsy, hds] at Hst
            have hxi : ((252 + q : Nat) : Int) < 511 := by omega
            have hxn : 252 + q < 511 := by omega
            have hdi : (0 : Int) < dn := by omega
            have hdn : 0 < dn := by omega
            have hqi : ((Nat.log2 dn : Nat) : Int) < 13 := by omega
            have hqn : Nat.log2 dn < 13 := by omega
            clear hok hsy hds hI h1 h2 h3 h4 hlit
            generalize 252 + q = m at *
            generalize Nat.log2 dn = r at *
            go_wp2_with (first
              | (go_at_call 39; refine (HC.out _).mono ?_; rintro e w1 ⟨rfl, hk1⟩; obtain ⟨v, a1, a2, hwv, aN⟩ := Hst.out w1 hk1; have AN := Lib.hid (aN.2 (by simpa using hdn)); clear aN; have b0 := (hk1.cell (p := ⟨g, o + k * 3, none⟩) hg (by simp)).trans d1; have hz1 := hk1.size; clear hk1)
              | (go_at_call 41; refine (HD.out _).mono ?_; rintro e w2 ⟨rfl, rfl⟩; obtain ⟨u, a3, a4, hwu, aN⟩ := AN.out _ (Keep.refl [] _); have AN2 := Lib.hid aN; clear aN))
            exact ⟨⟨k + 1, by simp, by omega, AN2⟩, by simp [intOf]; omega⟩
      · obtain rfl : k = l.length := by omega
        have hkli : ¬ (l.length : Int) < l.length := by omega
        go_wp2
        go_ret2
        exact ⟨ga, gb, rfl, hI⟩
end Go.Proofs.Ytiejjbdmkgdniaa
set_option linter.unusedVariables false
set_option linter.unusedSimpArgs false
namespace Go.Cod
open Go.Huf
theorem runK_le (x : Int) (l : List Int) : runK x l ≤ l.length := (List.takeWhile_sublist _).length_le
theorem runK_stop {x : Int} : ∀ {l : List Int} {m : Nat}, (∀ j, j < m → l[j]? = some x) → (∀ y, l[m]? = some y → y ≠ x) → runK x l = m
  | [], m, h, _ => by
    cases m with
    | zero => simp [runK]
    | succ m => have := h 0 (by omega); simp at this
  | a :: l, m, h, he => by
    cases m with
    | zero =>
      have := he a (by simp)
      simp [runK, List.takeWhile_cons, this]
    | succ m =>
      have h0 := h 0 (by omega)
      simp at h0
      have ih := runK_stop (l := l) (m := m) (fun j hj => by have := h (j + 1) (by omega); simpa using this) (fun y hy => he y (by simpa using hy))
      unfold runK at ih ⊢
      simp [List.takeWhile_cons, h0, ih]
theorem runF_more : ∀ (f g : Nat) (l : List Int), l.length ≤ f → l.length ≤ g → runF f l = runF g l
  | 0, 0, _, _, _ => rfl
  | 0, g + 1, [], _, _ => rfl
  | f + 1, 0, [], _, _ => rfl
  | f + 1, g + 1, [], _, _ => rfl
  | 0, g + 1, x :: l, h, _ => by simp at h
  | f + 1, 0, x :: l, _, h => by simp at h
  | f + 1, g + 1, x :: l, h1, h2 => by
    rw [runF, runF]
    simp only [List.length_cons] at h1 h2
    rw [runF_more f g (l.drop (runK x l)) (by rw [List.length_drop]; omega) (by rw [List.length_drop]; omega)]
theorem runs_cons (x : Int) (l : List Int) : runsP (x :: l) = x.toNat :: (varP (runK x l + 1) ++ runsP (l.drop (runK x l))) := by
  unfold runsP
  rw [List.length_cons, runF, runF_more l.length (l.drop (runK x l)).length (l.drop (runK x l)) (by rw [List.length_drop]; omega) (Nat.le_refl _)]
theorem runs_drop {l : List Int} {i m : Nat} (hi : i < l.length) (h : ∀ j, i ≤ j → j < i + m → l[j]? = some l[i]) (hm : 1 ≤ m) (he : ∀ y, l[i + m]? = some y → y ≠ l[i]) :
    runsP (l.drop i) = l[i].toNat :: (varP m ++ runsP (l.drop (i + m))) := by
  have hr : runK l[i] (l.drop (i + 1)) = m - 1 := runK_stop (fun j hj => by rw [List.getElem?_drop]; exact h _ (by omega) (by omega)) (fun y hy => he y (by rw [List.getElem?_drop, show i + 1 + (m - 1) = i + m by omega] at hy; exact hy))
  rw [List.drop_eq_getElem_cons hi, runs_cons, hr, List.drop_drop, show m - 1 + 1 = m by omega, show i + 1 + (m - 1) = i + m by omega]
theorem varF_len : ∀ f x, (varF f x).length ≤ f + 1
  | 0, x => by simp [varF]
  | f + 1, x => by
    rw [varF]
    split
    · simp
    · have := varF_len f (x / 128); simp; omega
theorem varP_len (x : Nat) : (varP x).length ≤ 10 := varF_len 9 x
end Go.Cod
namespace Go.Proofs.Ytiejjbdmkgdniaa
open Go.RowKit Go.Sal Go.Huf Go.Cod
/-- what the loop over the runs has laid -/
def RNI (w : World) (l : List Int) (out : List Nat) (i : Nat) (A : Option Addr) (c : Nat) (wr : World) : Prop :=
  wr.ownsRow w.heap.size 5 1 (.slice A out.length c) out.length (inB out) ∧ Keep [] w wr ∧ runsP l = out ++ runsP (l.drop i) ∧ out.length ≤ 11 * i
theorem drewN2 (w : World) (p q : Nat) : (w.drewN p).drewN q = w.drewN (p + q) := by simp [World.drewN, Nat.add_assoc]
theorem own_far {w : World} {base n c : Nat} {A : Option Addr} {e : TypeId} {size : Nat} {xs : List Value} (h : w.ownsRow base e size (.slice A n c) n xs) : ∀ i, i ∈ (Value.slice A n c).ownBlock.toList → base ≤ i := by
  intro i hi
  rcases h.2 with ⟨h0, _⟩ | ⟨g, cap, cur, h0, hg, _⟩
  · rw [h0] at hi; simp [Value.ownBlock] at hi
  · rw [h0] at hi; simp [Value.ownBlock] at hi; omega
theorem RNI.step {w wr : World} {l : List Int} {out : List Nat} {i c m : Nat} {A : Option Addr} (h : RNI w l out i A c wr) (hi : i < l.length) (hl : l.length ≤ 10000)
    (hr : runsP (l.drop i) = l[i].toNat :: (varP m ++ runsP (l.drop (i + m)))) (hm : 1 ≤ m) :
    ∃ A1 c1 w1, (Builtin.append_ #[24, 24] 24 #[.slice A out.length c, .slice (some ⟨wr.heap.size, 0, none⟩) 1 1]).run Try.prog (wr.alloc (.cells #[.int .u8 (l[i].toNat : Nat)] 5)) = .ok (.slice A1 (out.length + 1) c1) w1 ∧
      ∀ A2 c2 w2, w2.ownsRow w1.heap.size 5 1 (.slice A2 (varP m).length c2) (varP m).length (inB (varP m)) → Keep [] w1 w2 →
        ∃ A3 c3 w3, (Builtin.append_ #[24, 24] 24 #[.slice A1 (out.length + 1) c1, .slice A2 (varP m).length c2]).run Try.prog w2 = .ok (.slice A3 (out ++ l[i].toNat :: varP m).length c3) w3 ∧
          RNI w l (out ++ l[i].toNat :: varP m) (i + m) A3 c3 w3 := by
  obtain ⟨hown, hk, he, hlen⟩ := h
  obtain ⟨A1, c1, w1, hrun, hown1, hk1⟩ := byte_app hown l[i].toNat (by omega) hk.size
  refine ⟨A1, c1, w1, hrun, fun A2 c2 w2 h2 hk2 => ?_⟩
  have hka : Keep [] w w1 := hk.step hk1 (fun j hj => .inr (own_far hown j hj))
  have hv := varP_len m
  obtain ⟨A3, c3, w3, hrun3, hown3, hk3⟩ := bytes_app (d := c2) (ownsRow_keep hown1 hk2 (by simp)) (Src.of_own h2) (by omega) (by omega) ((hka.trans hk2).size)
  have e : (out ++ l[i].toNat :: varP m).length = out.length + 1 + (varP m).length := by simp; omega
  have e2 : out ++ [l[i].toNat] ++ varP m = out ++ l[i].toNat :: varP m := by simp
  rw [e2] at hown3
  refine ⟨A3, c3, w3, by rw [e]; exact hrun3, by rw [e]; exact hown3, (hka.trans hk2).step hk3 (fun j hj => .inr (own_far hown1 j hj)), ?_, by rw [e]; omega⟩
  rw [he, hr]; simp
set_option maxRecDepth 20000 in
set_option maxHeartbeats 4000000 in
theorem runs_any (l : List Int) (A : Option Addr) (c : Nat) (w : World) (hs : ISrc w A l) (hl : l.length ≤ 10000) (hg : ∀ n ∈ l, 0 ≤ n ∧ n ≤ 255) :
    Calls Try.prog 28 #[.slice A l.length c] w fun e w' => RowB w (runsP l) e w' := by
  have Hs := Lib.hid hs
  have Hg := Lib.hid hg
  have H0 : Hid (RNI w l [] 0 none 0 w) := Lib.hid ⟨World.ownsRow_nil _ _ _ _, Keep.refl _ _, by simp, by simp⟩
  clear hs hg
  go_enter Try.func28, Try.ntmps28
  go_wp2
  go_loopw [3, 4] (fun vo vi wr => ∃ (n i : Nat) (out : List Nat) (A3 : Option Addr) (c3 : Nat), vi = .int .i64 i ∧ i ≤ l.length ∧ vo = .slice A3 n c3 ∧ Hid (n = out.length ∧ RNI w l out i A3 c3 wr)) (fun _ vi _ => l.length - (intOf vi).toNat)
  case atStart => exact ⟨0, 0, [], none, 0, rfl, by omega, rfl, Lib.hid ⟨rfl, H0.out⟩⟩
  case round =>
    obtain ⟨n, i, out, A3, c3, rfl, hi, rfl, hI⟩ := hrel
    clear H0
    rcases Nat.lt_or_ge i l.length with hil | hil
    · have hili : (i : Int) < l.length := by omega
      obtain ⟨g, o, rfl, hg0, d1⟩ := (Hs.out.keep hI.out.2.2.1 (by simp)) i hil
      obtain ⟨wo, rfl⟩ : ∃ wo : World, wo = wr := ⟨_, rfl⟩
      go_upto_block 2 with fail
      go_cut [5] (fun v5 wx => ∃ (z q : Nat), v5 = .int .i64 z ∧ i + 1 ≤ z ∧ z ≤ l.length ∧ wx = wo.drewN q ∧ Hid (runsP (l.drop i) = l[i].toNat :: (varP (z - i) ++ runsP (l.drop z))))
      case first =>
        go_wp2_with fail
        go_loopw [5] (fun v5 wx => ∃ (z q : Nat), v5 = .int .i64 z ∧ i ≤ z ∧ z ≤ l.length ∧ wx = wo.drewN q ∧ Hid (∀ j, i ≤ j → j < z → l[j]? = some l[i])) (fun v5 _ => l.length - (intOf v5).toNat)
        case atStart => exact ⟨i, 0, rfl, by omega, by omega, rfl, Lib.hid (fun j h1 h2 => by omega)⟩
        case round =>
          obtain ⟨z, q, rfl, hz1, hz2, rfl, hJ⟩ := hrel
          have hwz : IntKind.i64.wrap ((z : Int) + 1) = (z : Int) + 1 := by rw [IntKind.wrap_i64]; omega
          rcases Nat.lt_or_ge z l.length with hzl | hzl
          · have hzi : (z : Int) < l.length := by omega
            have hzn : decide (z < l.length) = true := decide_eq_true hzl
            have hzn2 : decide ((z : Int) < (l.length : Int)) = true := decide_eq_true hzi
            obtain ⟨g', o', e, _, d2⟩ := (Hs.out.keep hI.out.2.2.1 (by simp)) z hzl
            injection e with e
            injection e with e1 e2
            subst e1; subst e2
            have Hyes : Hid (l[z] = l[i] → ∀ j, i ≤ j → j < z + 1 → l[j]? = some l[i]) := Lib.hid (fun he j h1 h2 => by
              rcases Nat.lt_succ_iff_lt_or_eq.1 h2 with h | rfl
              · exact hJ.out j h1 h
              · rw [List.getElem?_eq_getElem hzl, he])
            have Hno : Hid (l[z] ≠ l[i] → i + 1 ≤ z ∧ runsP (l.drop i) = l[i].toNat :: (varP (z - i) ++ runsP (l.drop z))) := Lib.hid (fun he => by
              have hne : i ≠ z := by rintro rfl; exact he rfl
              have := runs_drop (m := z - i) hil (fun j h1 h2 => hJ.out j h1 (by omega)) (by omega) (fun y hy => by
                rw [show i + (z - i) = z by omega, List.getElem?_eq_getElem hzl] at hy
                cases hy; exact he)
              rw [show i + (z - i) = z by omega] at this
              exact ⟨by omega, this⟩)
            generalize l[z] = y at *
            generalize l[i].toNat = xn at *
            generalize l[i] = x at *
            clear hJ
            by_cases hy : y = x
            · subst hy
              have HS := Lib.hid (Hyes.out rfl)
              clear Hyes Hno
              go_wp2
              go_quiet (fail)
              go_wp2
              go_roundw
              case rel => exact ⟨z + 1, _, by simp, by omega, by omega, rfl, HS⟩
              case measure => simp [intOf]; omega
            · have hyb : (y == x) = false := by simpa using hy
              have HE := Lib.hid (Hno.out hy)
              clear Hyes Hno hy
              go_wp2
              go_quiet (fail)
              go_wp2
              go_meet
              exact ⟨z, _, rfl, HE.out.1, by omega, drewN2 _ _ _, Lib.hid HE.out.2⟩
          · obtain rfl : z = l.length := by omega
            have hzi : ¬ ((l.length : Nat) : Int) < l.length := by omega
            have hzn : decide (l.length < l.length) = false := decide_eq_false (by omega)
            have hzn2 : decide ((l.length : Int) < (l.length : Int)) = false := decide_eq_false hzi
            have HE : Hid (runsP (l.drop i) = l[i].toNat :: (varP (l.length - i) ++ runsP (l.drop l.length))) := by
              have := runs_drop (m := l.length - i) hil (fun j h1 h2 => hJ.out j h1 (by omega)) (by omega) (fun y hy => by
                rw [List.getElem?_eq_none_iff.2 (by omega)] at hy
                cases hy)
              rw [show i + (l.length - i) = l.length by omega] at this
              exact Lib.hid this
            clear hJ
            go_wp2
            go_quiet (fail)
            go_wp2
            go_meet
            exact ⟨l.length, _, rfl, by omega, by omega, drewN2 _ _ _, HE⟩
      case rest =>
        obtain ⟨z, q, rfl, hz1, hz2, rfl, hR⟩ := hcut
        obtain ⟨hn, hV⟩ := hI.out
        have hV2 : RNI w l out i A3 c3 (wo.drewN q) := ⟨hV.1, hV.2.1.drewN q, hV.2.2⟩
        have hxg := Hg.out _ (List.getElem_mem hil)
        obtain ⟨m, hm⟩ : ∃ m, z - i = m := ⟨_, rfl⟩
        have hR2 := hR.out
        rw [hm, show z = i + m by omega] at hR2
        obtain ⟨A1, c1, w1, hrun, hst⟩ := hV2.step hil hl hR2 (by omega)
        rw [← hn] at hrun hst
        have Hst := Lib.hid hst
        have Hrun := Lib.hid hrun
        have hwx : IntKind.u8.wrap l[i] = (l[i].toNat : Int) := by rw [IntKind.wrap_u8]; omega
        have hwz : IntKind.i64.wrap ((z : Int) - (i : Int)) = (m : Int) := by rw [IntKind.wrap_i64]; omega
        have hwm : IntKind.u64.wrap (m : Int) = (m : Int) := by rw [IntKind.wrap_u64]; omega
        have HV := Lib.hid (fun w => varint_any m w (by omega))
        have Hz := Lib.hid (show i + m = z by omega)
        have hiz : i < z := by omega
        clear hI hn hV hV2 hR hR2 hrun hst hm hxg
        generalize l[i].toNat = xn at *
        generalize l[i] = x at *
        have hap := Hrun.out
        go_wp2_with (first
          | (at_builtin; refine wpList_append2 (v1 := .slice A3 n c3) (v2 := .slice (some ⟨wo.heap.size, 0, none⟩) 1 1) rfl (.tmp 28) (.tmp 34) rfl rfl rfl hap ?_)
          | (go_at_call 29; refine (HV.out _).mono ?_; rintro e w2 ⟨A5, c5, rfl, hown5, hk5⟩; obtain ⟨A6, c6, w6, hap2, hN⟩ := Hst.out A5 c5 _ hown5 hk5; have HN := Lib.hid hN; clear hN hown5 hk5 hap; generalize (varP m).length = vl at *)
          | (at_builtin; refine wpList_append2 (v1 := .slice A1 (n + 1) c1) (v2 := .slice A5 vl c5) rfl (.tmp 35) (.tmp 40) rfl rfl rfl hap2 ?_))
        go_roundw
        case rel => exact ⟨_, z, out ++ xn :: varP m, A6, c6, rfl, by omega, rfl, Lib.hid ⟨by simp, by rw [← Hz.out]; exact HN.out⟩⟩
        case measure => simp [intOf]; omega
    · obtain rfl : i = l.length := by omega
      have hili : ¬ (l.length : Int) < l.length := by omega
      have HR : Hid (RowB w (runsP l) (.returned (.slice A3 n c3)) wr) := by
        obtain ⟨hn, hown, hk, he, _⟩ := hI.out
        rw [List.drop_of_length_le (Nat.le_refl _)] at he
        have he' : runsP l = out := by rw [he]; simp [runsP, runF]
        rw [he', hn]
        exact Lib.hid ⟨A3, c3, rfl, hown, hk⟩
      clear hI
      go_wp2
      go_ret
      exact HR.out
set_option maxRecDepth 20000 in
set_option maxHeartbeats 4000000 in
theorem rruns_any (l : List Int) (A : Option Addr) (c : Nat) (w : World) (hs : ISrc w A l) (hl : l.length ≤ 10000) (hg : ∀ n ∈ l, 0 ≤ n ∧ n ≤ 255) :
    Calls Try.prog 36 #[.slice A l.length c] w fun e w' => RowB w (runsP l) e w' := by
  have Hs := Lib.hid hs
  have Hg := Lib.hid hg
  have H0 : Hid (RNI w l [] 0 none 0 w) := Lib.hid ⟨World.ownsRow_nil _ _ _ _, Keep.refl _ _, by simp, by simp⟩
  clear hs hg
  go_enter Try.func36, Try.ntmps36
  go_wp2
  go_loopw [3, 4] (fun vo vi wr => ∃ (n i : Nat) (out : List Nat) (A3 : Option Addr) (c3 : Nat), vi = .int .i64 i ∧ i ≤ l.length ∧ vo = .slice A3 n c3 ∧ Hid (n = out.length ∧ RNI w l out i A3 c3 wr)) (fun _ vi _ => l.length - (intOf vi).toNat)
  case atStart => exact ⟨0, 0, [], none, 0, rfl, by omega, rfl, Lib.hid ⟨rfl, H0.out⟩⟩
  case round =>
    obtain ⟨n, i, out, A3, c3, rfl, hi, rfl, hI⟩ := hrel
    clear H0
    rcases Nat.lt_or_ge i l.length with hil | hil
    · have hili : (i : Int) < l.length := by omega
      obtain ⟨g, o, rfl, hg0, d1⟩ := (Hs.out.keep hI.out.2.2.1 (by simp)) i hil
      obtain ⟨wo, rfl⟩ : ∃ wo : World, wo = wr := ⟨_, rfl⟩
      go_upto_block 2 with fail
      go_cut [5] (fun v5 wx => ∃ (z q : Nat), v5 = .int .i64 z ∧ 1 ≤ z ∧ i + z ≤ l.length ∧ wx = wo.drewN q ∧ Hid (runsP (l.drop i) = l[i].toNat :: (varP z ++ runsP (l.drop (i + z)))))
      case first =>
        go_wp2_with fail
        go_loopw [5] (fun v5 wx => ∃ (z q : Nat), v5 = .int .i64 z ∧ 1 ≤ z ∧ i + z ≤ l.length ∧ wx = wo.drewN q ∧ Hid (∀ j, i ≤ j → j < i + z → l[j]? = some l[i])) (fun v5 _ => l.length - (intOf v5).toNat)
        case atStart => exact ⟨1, 0, rfl, by omega, by omega, rfl, Lib.hid (fun j h1 h2 => by rw [show j = i by omega, List.getElem?_eq_getElem hil])⟩
        case round =>
          obtain ⟨z, q, rfl, hz1, hz2, rfl, hJ⟩ := hrel
          have hwz : IntKind.i64.wrap ((z : Int) + 1) = (z : Int) + 1 := by rw [IntKind.wrap_i64]; omega
          obtain ⟨v, hv⟩ : ∃ v, i + z = v := ⟨_, rfl⟩
          have hwv : IntKind.i64.wrap ((i : Int) + (z : Int)) = (v : Int) := by rw [IntKind.wrap_i64]; omega
          rcases Nat.lt_or_ge v l.length with hzl | hzl
          · have hzi : (v : Int) < l.length := by omega
            have hzn : decide (v < l.length) = true := decide_eq_true hzl
            have hzn2 : decide ((v : Int) < (l.length : Int)) = true := decide_eq_true hzi
            obtain ⟨g', o', e, _, d2⟩ := (Hs.out.keep hI.out.2.2.1 (by simp)) v hzl
            injection e with e
            injection e with e1 e2
            subst e1; subst e2
            have Hyes : Hid (l[v] = l[i] → ∀ j, i ≤ j → j < i + (z + 1) → l[j]? = some l[i]) := Lib.hid (fun he j h1 h2 => by
              rcases Nat.lt_or_ge j (i + z) with h | h
              · exact hJ.out j h1 h
              · rw [show j = v by omega, List.getElem?_eq_getElem hzl, he])
            have Hno : Hid (l[v] ≠ l[i] → runsP (l.drop i) = l[i].toNat :: (varP z ++ runsP (l.drop (i + z)))) := Lib.hid (fun he => by
              exact runs_drop (m := z) hil (fun j h1 h2 => hJ.out j h1 h2) hz1 (fun y hy => by
                rw [hv, List.getElem?_eq_getElem hzl] at hy
                cases hy; exact he))
            have Hv := Lib.hid hv
            generalize l[v] = y at *
            generalize l[i].toNat = xn at *
            generalize l[i] = x at *
            clear hJ hv
            by_cases hy : y = x
            · subst hy
              have HS := Lib.hid (Hyes.out rfl)
              clear Hyes Hno
              go_wp2
              go_quiet (fail)
              go_wp2
              go_roundw
              case rel => exact ⟨z + 1, _, by simp, by omega, by have := Hv.out; omega, rfl, HS⟩
              case measure => simp [intOf]; have := Hv.out; omega
            · have hyb : (y == x) = false := by simpa using hy
              have HE := Lib.hid (Hno.out hy)
              clear Hyes Hno hy
              go_wp2
              go_quiet (fail)
              go_wp2
              go_meet
              exact ⟨z, _, rfl, hz1, by have := Hv.out; omega, drewN2 _ _ _, HE⟩
          · have hvl : v = l.length := by omega
            subst hvl
            have hzi : ¬ ((l.length : Nat) : Int) < l.length := by omega
            have hzn : decide (l.length < l.length) = false := decide_eq_false (by omega)
            have hzn2 : decide ((l.length : Int) < (l.length : Int)) = false := decide_eq_false hzi
            have HE : Hid (runsP (l.drop i) = l[i].toNat :: (varP z ++ runsP (l.drop (i + z)))) :=
              Lib.hid (runs_drop (m := z) hil (fun j h1 h2 => hJ.out j h1 h2) hz1 (fun y hy => by
                rw [List.getElem?_eq_none_iff.2 (by omega)] at hy
                cases hy))
            have Hv := Lib.hid hv
            clear hJ hv
            go_wp2
            go_quiet (fail)
            go_wp2
            go_meet
            exact ⟨z, _, rfl, hz1, by have := Hv.out; omega, drewN2 _ _ _, HE⟩
      case rest =>
        obtain ⟨z, q, rfl, hz1, hz2, rfl, hR⟩ := hcut
        obtain ⟨hn, hV⟩ := hI.out
        have hV2 : RNI w l out i A3 c3 (wo.drewN q) := ⟨hV.1, hV.2.1.drewN q, hV.2.2⟩
        have hxg := Hg.out _ (List.getElem_mem hil)
        have hR2 := hR.out
        obtain ⟨A1, c1, w1, hrun, hst⟩ := hV2.step hil hl hR2 hz1
        rw [← hn] at hrun hst
        have Hst := Lib.hid hst
        have Hrun := Lib.hid hrun
        have hwx : IntKind.u8.wrap l[i] = (l[i].toNat : Int) := by rw [IntKind.wrap_u8]; omega
        have hwm : IntKind.u64.wrap (z : Int) = (z : Int) := by rw [IntKind.wrap_u64]; omega
        have HV := Lib.hid (fun w => rvarint_any z w (by omega))
        obtain ⟨v, hv⟩ : ∃ v, i + z = v := ⟨_, rfl⟩
        have hwv : IntKind.i64.wrap ((i : Int) + (z : Int)) = (v : Int) := by rw [IntKind.wrap_i64]; omega
        have Hz := Lib.hid hv
        have hiz : i < v ∧ v ≤ l.length := by omega
        clear hI hn hV hV2 hR hR2 hrun hst hv hxg
        generalize l[i].toNat = xn at *
        generalize l[i] = x at *
        have hap := Hrun.out
        go_wp2_with (first
          | (at_builtin; refine wpList_append2 (v1 := .slice A3 n c3) (v2 := .slice (some ⟨wo.heap.size, 0, none⟩) 1 1) rfl (.tmp 31) (.tmp 37) rfl rfl rfl hap ?_)
          | (go_at_call 37; refine (HV.out _).mono ?_; rintro e w2 ⟨A5, c5, rfl, hown5, hk5⟩; obtain ⟨A6, c6, w6, hap2, hN⟩ := Hst.out A5 c5 _ hown5 hk5; have HN := Lib.hid hN; clear hN hown5 hk5 hap; generalize (varP z).length = vl at *)
          | (at_builtin; refine wpList_append2 (v1 := .slice A1 (n + 1) c1) (v2 := .slice A5 vl c5) rfl (.tmp 39) (.tmp 42) rfl rfl rfl hap2 ?_))
        go_roundw
        case rel => exact ⟨_, v, out ++ xn :: varP z, A6, c6, rfl, hiz.2, rfl, Lib.hid ⟨by simp, by rw [← Hz.out]; exact HN.out⟩⟩
        case measure => simp [intOf]; omega
    · obtain rfl : i = l.length := by omega
      have hili : ¬ (l.length : Int) < l.length := by omega
      have HR : Hid (RowB w (runsP l) (.returned (.slice A3 n c3)) wr) := by
        obtain ⟨hn, hown, hk, he, _⟩ := hI.out
        rw [List.drop_of_length_le (Nat.le_refl _)] at he
        have he' : runsP l = out := by rw [he]; simp [runsP, runF]
        rw [he', hn]
        exact Lib.hid ⟨A3, c3, rfl, hown, hk⟩
      clear hI
      go_wp2
      go_ret
      exact HR.out
end Go.Proofs.Ytiejjbdmkgdniaa
