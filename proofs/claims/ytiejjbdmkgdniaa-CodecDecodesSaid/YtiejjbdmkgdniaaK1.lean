/- A token's symbol, and its distance's. -/
import Derived.Test.YtiejjbdmkgdniaaL2
import Derived.Test.YtiejjbdmkgdniaaC2
set_option linter.unusedVariables false
set_option linter.unusedSimpArgs false
namespace Go.Proofs.Ytiejjbdmkgdniaa
open Go.RowKit Go.Sal Go.Huf Go.Cod
def tv (d n : Int) (x : Nat) : Value := .agg #[.int .i64 d, .int .i64 n, .int .u8 (x : Nat)]
def tcells (t : Tk) : List Value := [.int .i64 t.1, .int .i64 t.2.1, .int .u8 (t.2.2 : Nat)]
theorem symbol_lit (n : Int) (x : Nat) (w : World) (hx : x < 256) :
    Calls Try.prog 30 #[.agg #[.int .i64 0, .int .i64 n, .int .u8 (x : Nat)]] w fun e w' => e = .returned (.int .i64 (x : Nat)) ∧ Keep [] w w' := by
  have hwx : IntKind.i64.wrap (x : Int) = (x : Int) := by rw [IntKind.wrap_i64]; omega
  go_enter Try.func30, Try.ntmps30
  go_wp2
  go_ret
  exact ⟨rfl, (Keep.refl [] _).alloc _⟩
theorem symbol_copy (d n : Int) (x : Nat) (w : World) (hd : 1 ≤ d) (hn : 4 ≤ n) (hn2 : n ≤ 258) :
    Calls Try.prog 30 #[.agg #[.int .i64 d, .int .i64 n, .int .u8 (x : Nat)]] w fun e w' => e = .returned (.int .i64 (252 + n)) ∧ Keep [] w w' := by
  have hdf : (d == 0) = false := by simp; omega
  have hwn : IntKind.i64.wrap (252 + n) = 252 + n := by rw [IntKind.wrap_i64]; omega
  go_enter Try.func30, Try.ntmps30
  go_wp2
  go_ret
  exact ⟨rfl, (Keep.refl [] _).alloc _⟩
end Go.Proofs.Ytiejjbdmkgdniaa
set_option linter.unusedVariables false
set_option linter.unusedSimpArgs false
namespace Go.Proofs.Ytiejjbdmkgdniaa
open Go.RowKit Go.Sal Go.Huf Go.Cod
/-- a byte behind a row of bytes -/
theorem byte_app {base n c : Nat} {A : Option Addr} {f : List Nat} {w : World} (h : w.ownsRow base 5 1 (.slice A n c) n (inB f)) (x : Nat) (hn2 : n ≤ 10000000) (hB : base ≤ w.heap.size) :
    ∃ A' c' w', (Builtin.append_ #[24, 24] 24 #[.slice A n c, .slice (some ⟨w.heap.size, 0, none⟩) 1 1]).run Try.prog (w.alloc (.cells #[.int .u8 (x : Nat)] 5)) = .ok (.slice A' (n + 1) c') w' ∧
      w'.ownsRow base 5 1 (.slice A' (n + 1) c') (n + 1) (inB (f ++ [x])) ∧ Keep (Value.slice A n c).ownBlock.toList w w' := by
  have hka : Keep [] w (w.alloc (.cells #[.int .u8 (x : Nat)] 5)) := (Keep.refl [] w).alloc _
  obtain ⟨v', w', hrun, hown, hg, hat⟩ := run_append_src (P := Try.prog) (w.alloc (.cells #[.int .u8 (x : Nat)] 5)) 24 24 5 (.int .u8 0) 1 1 base Try.underlying24 u8info rfl (by omega) (.slice A n c) n (inB f) (ownsRow_keep h hka (by simp))
    (some ⟨w.heap.size, 0, none⟩) 1 1 [.int .u8 (x : Nat)] (src_new w 5 1 [.int .u8 (x : Nat)] rfl) (by simp [Value.oneCell']) (by unfold maxLen; omega) (by omega) (by simp; omega)
  obtain ⟨A', c', rfl, _⟩ := own_slice hown
  exact ⟨A', c', w', hrun, by simpa [inB] using hown, (hka.mono (by simp)).grown hg (fun k hk => .inl (by simp [hk]))⟩
/-- a row of bytes behind a row of bytes -/
theorem bytes_app {base n c m d : Nat} {A B : Option Addr} {f g : List Nat} {w : World} (h : w.ownsRow base 5 1 (.slice A n c) n (inB f)) (hs : Src w 1 B m (inB g)) (hn2 : n ≤ 10000000) (hm : m ≤ 10000000) (hB : base ≤ w.heap.size) :
    ∃ A' c' w', (Builtin.append_ #[24, 24] 24 #[.slice A n c, .slice B m d]).run Try.prog w = .ok (.slice A' (n + m) c') w' ∧
      w'.ownsRow base 5 1 (.slice A' (n + m) c') (n + m) (inB (f ++ g)) ∧ Keep (Value.slice A n c).ownBlock.toList w w' := by
  obtain ⟨v', w', hrun, hown, hg, hat⟩ := run_append_src (P := Try.prog) w 24 24 5 (.int .u8 0) 1 1 base Try.underlying24 u8info rfl (by omega) (.slice A n c) n (inB f) h
    B m d (inB g) hs (inB_one g) (by unfold maxLen; omega) (by omega) hB
  obtain ⟨A', c', rfl, _⟩ := own_slice hown
  exact ⟨A', c', w', hrun, by simpa [inB] using hown, (Keep.refl _ w).grown hg (fun k hk => .inl (by simp [hk]))⟩
theorem bsrc_src {w : World} {A : Option Addr} {l : List Nat} (h : BySrc w A l) : Src w 1 A l.length (inB l) := by
  refine ⟨by simp [inB], fun h0 => ?_⟩
  obtain ⟨g, o, rfl, hg, _⟩ := h.1 0 h0
  refine ⟨_, rfl, fun j u hu => ?_⟩
  have hj : j < l.length := by
    have := (List.getElem?_eq_some_iff.1 hu).1
    simpa [inB] using this
  obtain ⟨g', o', e, _, hc⟩ := h.1 j hj
  injection e with e
  injection e with e1 e2
  subst e1; subst e2
  rw [add_mk, hc]
  simpa [inB, hj] using hu
theorem bsrc_own {w : World} {base c n : Nat} {A : Option Addr} {l : List Nat} (h : w.ownsRow base 5 1 (.slice A n c) n (inB l)) (hl : ∀ x ∈ l, x < 256) : BySrc w A l := by
  refine ⟨fun i hi => ?_, hl⟩
  have hn : n = l.length := by
    have := h.1
    rw [inB_len] at this
    omega
  obtain ⟨g, rfl, hg, _⟩ := own_some h (by omega)
  exact ⟨g, 0, rfl, hg, by rw [Nat.zero_add]; exact (inB_cell h hi).1⟩
/-- what the loop over a number's digits has laid -/
def VI (w : World) (x0 : Nat) (l : List Nat) (x f : Nat) (A : Option Addr) (c : Nat) (wr : World) : Prop :=
  wr.ownsRow w.heap.size 5 1 (.slice A l.length c) l.length (inB l) ∧ Keep [] w wr ∧ varP x0 = l ++ varF f x ∧ x < 128 ^ (f + 1) ∧ l.length + f = 9
theorem VI.start (w : World) (x0 : Nat) (h : x0 < 18446744073709551616) : VI w x0 [] x0 9 none 0 w :=
  ⟨World.ownsRow_nil _ _ _ _, Keep.refl _ _, rfl, by omega, rfl⟩
theorem VI.next {w wr : World} {x0 x f c : Nat} {l : List Nat} {A : Option Addr} (h : VI w x0 l x f A c wr) (hx : 128 ≤ x) :
    ∃ A' c' w', (Builtin.append_ #[24, 24] 24 #[.slice A l.length c, .slice (some ⟨wr.heap.size, 0, none⟩) 1 1]).run Try.prog (wr.alloc (.cells #[.int .u8 ((x % 128 + 128 : Nat) : Int)] 5)) = .ok (.slice A' (l.length + 1) c') w' ∧
      ∃ f', VI w x0 (l ++ [x % 128 + 128]) (x / 128) f' A' c' w' := by
  obtain ⟨hown, hk, he, hlt, hl⟩ := h
  cases f with
  | zero => simp at hlt; omega
  | succ f =>
    obtain ⟨A', c', w', hrun, hown', hk'⟩ := byte_app hown (x % 128 + 128) (by omega) hk.size
    refine ⟨A', c', w', hrun, f, ?_⟩
    have hl' : (l ++ [x % 128 + 128]).length = l.length + 1 := by simp
    refine ⟨by rw [hl']; exact hown', hk.step hk' (fun i hi => .inr ?_), ?_, ?_, by rw [hl']; omega⟩
    · rcases hown.2 with ⟨h0, _⟩ | ⟨g, cap, cur, h0, hg, _⟩
      · rw [h0] at hi; simp [Value.ownBlock] at hi
      · rw [h0] at hi; simp [Value.ownBlock] at hi; omega
    · rw [he, varF, if_neg (by omega), List.append_assoc]; rfl
    · rw [Nat.pow_succ] at hlt
      exact Nat.div_lt_of_lt_mul (by omega)
theorem VI.last {w wr : World} {x0 x f c : Nat} {l : List Nat} {A : Option Addr} (h : VI w x0 l x f A c wr) (hx : x < 128) :
    ∃ A' c' w', (Builtin.append_ #[24, 24] 24 #[.slice A l.length c, .slice (some ⟨wr.heap.size, 0, none⟩) 1 1]).run Try.prog (wr.alloc (.cells #[.int .u8 (x : Nat)] 5)) = .ok (.slice A' (varP x0).length c') w' ∧
      w'.ownsRow w.heap.size 5 1 (.slice A' (varP x0).length c') (varP x0).length (inB (varP x0)) ∧ Keep [] w w' := by
  obtain ⟨hown, hk, he, hlt, hl⟩ := h
  have hv : varF f x = [x] := by
    cases f with
    | zero => rfl
    | succ f => rw [varF, if_pos hx]
  rw [hv] at he
  obtain ⟨A', c', w', hrun, hown', hk'⟩ := byte_app hown x (by omega) hk.size
  have hl' : (l ++ [x]).length = l.length + 1 := by simp
  refine ⟨A', c', w', by rw [he, hl']; exact hrun, by rw [he, hl']; exact hown', hk.step hk' (fun i hi => .inr ?_)⟩
  rcases hown.2 with ⟨h0, _⟩ | ⟨g, cap, cur, h0, hg, _⟩
  · rw [h0] at hi; simp [Value.ownBlock] at hi
  · rw [h0] at hi; simp [Value.ownBlock] at hi; omega
/-- the answer: a new row of bytes -/
def RowB (w : World) (l : List Nat) (e : Ending) (w' : World) : Prop := ∃ A c, e = .returned (.slice A l.length c) ∧ w'.ownsRow w.heap.size 5 1 (.slice A l.length c) l.length (inB l) ∧ Keep [] w w'
theorem or128 {x : Nat} : bits .or .u8 ((x : Int) % 256) 128 = ((x % 128 + 128 : Nat) : Int) := by
  have h1 : x % 256 ||| 128 = x % 128 + 128 := by
    have e : x % 256 = x % 128 + (x / 128 % 2) * 128 := by omega
    have hlt : x % 128 < 2 ^ 7 := by omega
    have h0 := Nat.two_pow_add_eq_or_of_lt hlt 1
    rcases Nat.mod_two_eq_zero_or_one (x / 128) with h | h
    · rw [e, h, Nat.zero_mul, Nat.add_zero, Nat.or_comm, show (128 : Nat) = 2 ^ 7 * 1 by rfl, ← h0]; omega
    · rw [e, h, Nat.one_mul, show x % 128 + 128 = 2 ^ 7 * 1 + x % 128 by omega, h0, Nat.or_comm, ← Nat.or_assoc]
      rw [show (128 ||| 2 ^ 7 * 1) = 2 ^ 7 * 1 by rfl]
  have := bits_or_u8 (a := x % 256) (b := 128) (by omega) (by omega) (by rw [h1]; omega)
  rw [h1] at this
  rw [← this]
  rfl
set_option maxRecDepth 20000 in
set_option maxHeartbeats 2000000 in
theorem varint_any (x0 : Nat) (w : World) (hx : x0 < 18446744073709551616) :
    Calls Try.prog 29 #[.int .u64 (x0 : Nat)] w fun e w' => RowB w (varP x0) e w' := by
  have H0 := Lib.hid (VI.start w x0 hx)
  go_enter Try.func29, Try.ntmps29
  go_wp2
  go_loopw [0, 3] (fun vx vb wr => ∃ (x n f : Nat) (l : List Nat) (A : Option Addr) (c : Nat), vx = .int .u64 x ∧ x < 18446744073709551616 ∧ vb = .slice A n c ∧ Hid (n = l.length ∧ VI w x0 l x f A c wr)) (fun vx _ _ => (intOf vx).toNat)
  case atStart => exact ⟨x0, 0, 9, [], none, 0, rfl, hx, rfl, Lib.hid ⟨rfl, H0.out⟩⟩
  case round =>
    obtain ⟨x, n, f, l, A, c, rfl, hxl, rfl, hI⟩ := hrel
    clear H0
    rcases Nat.lt_or_ge x 128 with h1 | h1
    · as_aux_lemma =>
        obtain ⟨hn, hV⟩ := hI.out
        obtain ⟨A', c', w', hrun, hown, hk⟩ := hV.last h1
        rw [← hn] at hrun
        have HR : Hid (RowB w (varP x0) (.returned (.slice A' (varP x0).length c')) w') := Lib.hid ⟨A', c', rfl, hown, hk⟩
        have hxi : ¬ (128 : Int) ≤ x := by omega
        have hwx : IntKind.u8.wrap (x : Int) = (x : Int) := by rw [IntKind.wrap_u8]; omega
        clear hI hn hV hown hk
        have Hrun := Lib.hid hrun
        clear hrun
        have hap := Hrun.out
        go_wp2_with (at_builtin; refine wpList_append2 (v1 := .slice A n c) (v2 := .slice (some ⟨wr.heap.size, 0, none⟩) 1 1) rfl (.tmp 14) (.tmp 17) rfl rfl rfl hap ?_)
        go_ret
        exact HR.out
    · as_aux_lemma =>
        obtain ⟨hn, hV⟩ := hI.out
        obtain ⟨A', c', w', hrun, f', hV'⟩ := hV.next h1
        rw [← hn] at hrun
        have hxi : (128 : Int) ≤ x := by omega
        have hor := or128 (x := x)
        have hsh : (x : Int) / 2 ^ 7 = ((x / 128 : Nat) : Int) := by omega
        have hws : IntKind.u64.wrap ((x / 128 : Nat) : Int) = ((x / 128 : Nat) : Int) := by rw [IntKind.wrap_u64]; omega
        have HN : Hid (n + 1 = (l ++ [x % 128 + 128]).length ∧ VI w x0 (l ++ [x % 128 + 128]) (x / 128) f' A' c' w') := Lib.hid ⟨by simp [hn], hV'⟩
        have hlt : x / 128 < x := by omega
        have hlt2 : x / 128 < 18446744073709551616 := by omega
        have Hrun := Lib.hid hrun
        clear hI hn hV hV' hrun
        generalize l ++ [x % 128 + 128] = l2 at *
        generalize x % 128 + 128 = xm at *
        obtain ⟨xd, hxd⟩ : ∃ xd, x / 128 = xd := ⟨_, rfl⟩
        rw [hxd] at hsh hws HN hlt hlt2
        have hap := Hrun.out
        have HX := Lib.hid hxd
        clear hxd
        go_wp2_with (at_builtin; refine wpList_append2 (v1 := .slice A n c) (v2 := .slice (some ⟨wr.heap.size, 0, none⟩) 1 1) rfl (.tmp 6) (.tmp 10) rfl rfl rfl hap ?_)
        go_roundw
        case rel => exact ⟨xd, n + 1, f', l2, A', c', by have := HX.out; congr 1, hlt2, by simp, HN⟩
        case measure => simp [intOf]; omega
end Go.Proofs.Ytiejjbdmkgdniaa
set_option linter.unusedVariables false
set_option linter.unusedSimpArgs false
namespace Go.Proofs.Ytiejjbdmkgdniaa
open Go.RowKit Go.Sal Go.Huf Go.Cod
set_option maxRecDepth 20000 in
set_option maxHeartbeats 2000000 in
theorem rvarint_any (x0 : Nat) (w : World) (hx : x0 < 18446744073709551616) :
    Calls Try.prog 37 #[.int .u64 (x0 : Nat)] w fun e w' => RowB w (varP x0) e w' := by
  have H0 := Lib.hid (VI.start w x0 hx)
  go_enter Try.func37, Try.ntmps37
  go_wp2
  go_loopw [0, 3] (fun vx vb wr => ∃ (x n f : Nat) (l : List Nat) (A : Option Addr) (c : Nat), vx = .int .u64 x ∧ x < 18446744073709551616 ∧ vb = .slice A n c ∧ Hid (n = l.length ∧ VI w x0 l x f A c wr)) (fun vx _ _ => (intOf vx).toNat)
  case atStart => exact ⟨x0, 0, 9, [], none, 0, rfl, hx, rfl, Lib.hid ⟨rfl, H0.out⟩⟩
  case round =>
    obtain ⟨x, n, f, l, A, c, rfl, hxl, rfl, hI⟩ := hrel
    clear H0
    rcases Nat.lt_or_ge x 128 with h1 | h1
    · as_aux_lemma =>
        obtain ⟨hn, hV⟩ := hI.out
        obtain ⟨A', c', w', hrun, hown, hk⟩ := hV.last h1
        rw [← hn] at hrun
        have HR : Hid (RowB w (varP x0) (.returned (.slice A' (varP x0).length c')) w') := Lib.hid ⟨A', c', rfl, hown, hk⟩
        have hxi : ¬ (128 : Int) ≤ x := by omega
        have hwx : IntKind.u8.wrap (x : Int) = (x : Int) := by rw [IntKind.wrap_u8]; omega
        clear hI hn hV hown hk
        have Hrun := Lib.hid hrun
        clear hrun
        have hap := Hrun.out
        go_wp2_with (at_builtin; refine wpList_append2 (v1 := .slice A n c) (v2 := .slice (some ⟨wr.heap.size, 0, none⟩) 1 1) rfl (.tmp 15) (.tmp 18) rfl rfl rfl hap ?_)
        go_ret
        exact HR.out
    · as_aux_lemma =>
        obtain ⟨hn, hV⟩ := hI.out
        obtain ⟨A', c', w', hrun, f', hV'⟩ := hV.next h1
        rw [← hn] at hrun
        have hxi : (128 : Int) ≤ x := by omega
        have htm : (x : Int).tmod 128 = ((x % 128 : Nat) : Int) := by rw [Int.tmod_eq_emod_of_nonneg (by omega)]; omega
        have htd : (x : Int).tdiv 128 = ((x / 128 : Nat) : Int) := by rw [Int.tdiv_eq_ediv_of_nonneg (by omega)]; omega
        have hwm : IntKind.u64.wrap ((x % 128 : Nat) : Int) = ((x % 128 : Nat) : Int) := by rw [IntKind.wrap_u64]; omega
        have hwb : IntKind.u8.wrap ((x % 128 : Nat) : Int) = ((x % 128 : Nat) : Int) := by rw [IntKind.wrap_u8]; omega
        have hwa : IntKind.u8.wrap (((x % 128 : Nat) : Int) + 128) = ((x % 128 + 128 : Nat) : Int) := by rw [IntKind.wrap_u8]; omega
        have hws : IntKind.u64.wrap ((x / 128 : Nat) : Int) = ((x / 128 : Nat) : Int) := by rw [IntKind.wrap_u64]; omega
        have HN : Hid (n + 1 = (l ++ [x % 128 + 128]).length ∧ VI w x0 (l ++ [x % 128 + 128]) (x / 128) f' A' c' w') := Lib.hid ⟨by simp [hn], hV'⟩
        have hlt : x / 128 < x := by omega
        have hlt2 : x / 128 < 18446744073709551616 := by omega
        have Hrun := Lib.hid hrun
        clear hI hn hV hV' hrun
        generalize l ++ [x % 128 + 128] = l2 at *
        generalize x % 128 + 128 = xm at *
        generalize x % 128 = xq at *
        obtain ⟨xd, hxd⟩ : ∃ xd, x / 128 = xd := ⟨_, rfl⟩
        rw [hxd] at htd hws HN hlt hlt2
        have hap := Hrun.out
        have HX := Lib.hid hxd
        clear hxd
        go_wp2_with (at_builtin; refine wpList_append2 (v1 := .slice A n c) (v2 := .slice (some ⟨wr.heap.size, 0, none⟩) 1 1) rfl (.tmp 6) (.tmp 11) rfl rfl rfl hap ?_)
        go_roundw
        case rel => exact ⟨xd, n + 1, f', l2, A', c', by first | rfl | (have := HX.out; congr 1), hlt2, by simp, HN⟩
        case measure => simp [intOf]; omega
/-- what a varint's reading answers -/
def RdE (r : Option (Nat × Nat)) (e : Ending) : Prop := match r with
  | some (x, n) => e = .returned (.tuple #[.int .u64 (x : Nat), .int .i64 (n : Nat), .int .i64 0])
  | none => ∃ n E : Int, e = .returned (.tuple #[.int .u64 0, .int .i64 n, .int .i64 E]) ∧ E ≠ 0
theorem RdE.none_ {n E : Int} (h : E ≠ 0) : RdE none (.returned (.tuple #[.int .u64 0, .int .i64 n, .int .i64 E])) := ⟨n, E, rfl, h⟩
theorem pow128 {k : Nat} (h : k ≤ 9) : 1 ≤ 128 ^ k ∧ 128 ^ k ≤ 9223372036854775808 :=
  ⟨Nat.pow_pos (by omega), by have := Nat.pow_le_pow_right (n := 128) (by omega) h; exact Nat.le_trans this (by decide)⟩
set_option maxRecDepth 20000 in
set_option maxHeartbeats 4000000 in
theorem rread_any (bl : List Nat) (A : Option Addr) (c : Nat) (w : World) (hs : BySrc w A bl) (hl : bl.length ≤ 1000000000) :
    Calls Try.prog 60 #[.slice A bl.length c] w fun e w' => RdE (rdV 0 bl) e ∧ w = w' := by
  have Hs := Lib.hid hs
  have H0 := Lib.hid (RI.start bl)
  clear hs
  go_enter Try.func60, Try.ntmps60
  go_wp2
  go_loop [5, 6, 7] (fun vx vs vi => ∃ k acc sc : Nat, vi = .int .i64 k ∧ vx = .int .u64 acc ∧ vs = .int .u64 sc ∧ k ≤ bl.length ∧ k ≤ 9 ∧ acc < 9223372036854775808 ∧ 1 ≤ sc ∧ sc ≤ 9223372036854775808 ∧ Hid (sc = 128 ^ k ∧ RI bl k acc)) (fun _ _ vi => bl.length - (intOf vi).toNat)
  case atStart => exact ⟨0, 0, 1, rfl, rfl, rfl, by omega, by omega, by omega, by omega, by omega, Lib.hid ⟨rfl, H0.out⟩⟩
  case round =>
    obtain ⟨k, acc, sc, rfl, rfl, rfl, hk, hk9, hacc, hsc1, hsc2, hI⟩ := hrel
    clear H0
    have hki9 : ((k : Int) == 9) = decide (k = 9) := by
      by_cases h : k = 9
      · subst h; rfl
      · rw [decide_eq_false h]; simp; omega
    rcases Nat.lt_or_ge k bl.length with hkl | hkl
    · as_aux_lemma =>
        obtain ⟨g, o, rfl, hg, d1⟩ := Hs.out.1 k hkl
        have hv := Hs.out.2 _ (List.getElem_mem hkl)
        have Hbad := Lib.hid (fun hc => hI.out.2.bad hkl hc)
        have Hlast := Lib.hid (fun hc hl => hI.out.2.last hkl hc hl)
        have Hnext := Lib.hid (fun hc hl => hI.out.2.next hkl hc hl hv)
        have Hsc := Lib.hid (And.intro hI.out.1 hI.out.2.2.2.1)
        generalize bl[k] = v at *
        have hkli : (k : Int) < bl.length := by omega
        have hwk : IntKind.i64.wrap ((k : Int) + 1) = (k : Int) + 1 := by rw [IntKind.wrap_i64]; omega
        have htm : (v : Int).tmod 128 = ((v % 128 : Nat) : Int) := by rw [Int.tmod_eq_emod_of_nonneg (by omega)]; omega
        have hwm : IntKind.u8.wrap ((v % 128 : Nat) : Int) = ((v % 128 : Nat) : Int) := by rw [IntKind.wrap_u8]; omega
        have hwm2 : IntKind.u64.wrap ((v % 128 : Nat) : Int) = ((v % 128 : Nat) : Int) := by rw [IntKind.wrap_u64]; omega
        clear hI
        by_cases hbad : k = 9 ∧ v ≠ 1 ∨ 0 < k ∧ v = 0
        · have HR := Lib.hid (Hbad.out hbad)
          clear Hbad Hlast Hnext
          rcases hbad with ⟨h9, hv1⟩ | ⟨h0, hv0⟩
          · subst h9
            have hvn : ((v : Int) != 1) = true := by simp; omega
            clear hki9 hwk hk hk9 hacc hsc1 hsc2
            go_wp2
            go_ret3
            exact ⟨by rw [HR.out]; exact RdE.none_ (by decide), rfl⟩
          · subst hv0
            have hk0 : (0 : Int) < k := by omega
            by_cases h9 : k = 9
            · subst h9
              clear hki9 hwk hk hk9 hacc hsc1 hsc2
              go_wp2
              go_ret3
              exact ⟨by rw [HR.out]; exact RdE.none_ (by decide), rfl⟩
            · have hd : decide (k = 9) = false := by simpa using h9
              rw [hd] at hki9
              go_wp2
              go_ret3
              exact ⟨by rw [HR.out]; exact RdE.none_ (by decide), rfl⟩
        · have hkv : (k : Int) ≤ 0 ∨ v ≠ 0 := by omega
          have hm127 : v % 128 ≤ 127 := by omega
          obtain ⟨p, hp⟩ : ∃ p, p = (v % 128) * sc := ⟨_, rfl⟩
          have hpb : p ≤ 9223372036854775808 ∧ acc + p < 18446744073709551616 ∧ (v % 128 ≤ 127 → k ≤ 8 → p < 9223372036854775808 ∧ acc + p < 9223372036854775808) := by
            have h8 : k ≤ 8 → sc ≤ 72057594037927936 ∧ acc < sc := fun h => by
              have := Nat.pow_le_pow_right (n := 128) (by omega) h
              have h2 := Hsc.out.2
              have h3 := Hsc.out.1
              rw [← h3] at this h2
              exact ⟨Nat.le_trans this (by decide), h2⟩
            by_cases h9 : k = 9
            · have hv1 : v = 1 := by omega
              subst hv1
              simp at hp
              omega
            · have h1 := h8 (by omega)
              have h2 : p ≤ 127 * sc := by rw [hp]; exact Nat.mul_le_mul_right _ hm127
              omega
          have hwp : IntKind.u64.wrap (((v % 128 : Nat) : Int) * (sc : Int)) = (p : Int) := by
            rw [IntKind.wrap_u64, hp]
            have : (((v % 128) * sc : Nat) : Int) = ((v % 128 : Nat) : Int) * (sc : Int) := by simp
            rw [← this, ← hp]
            omega
          have hws : IntKind.u64.wrap ((acc : Int) + (p : Int)) = ((acc + p : Nat) : Int) := by rw [IntKind.wrap_u64]; omega
          have Hlast2 : Hid (v < 128 → rdV 0 bl = some (acc + p, k + 1)) := Lib.hid (fun h => by
            rw [Hlast.out hbad h, hp, ← Hsc.out.1, Nat.mod_eq_of_lt h, Nat.mul_comm])
          have Hnext2 : Hid (¬ v < 128 → k ≤ 8 ∧ RI bl (k + 1) (acc + p)) := Lib.hid (fun h => ⟨by omega, by
            have := Hnext.out hbad h
            rw [← Hsc.out.1, show v - 128 = v % 128 by omega, Nat.mul_comm, ← hp] at this
            exact this⟩)
          have Hpb := Lib.hid hpb
          have Hm := Lib.hid hm127
          have hdv0 : 0 < k → ((v : Int) == 0) = false := fun h => by simp; omega
          have hdv1 : k = 9 → ((v : Int) != 1) = false := fun h => by simp; omega
          have Hb2 := Lib.hid hbad
          have Hs2 : Hid (k ≤ 8 → sc * 128 ≤ 9223372036854775808 ∧ sc * 128 = 128 ^ (k + 1)) := Lib.hid (fun h => by
            rw [Hsc.out.1, ← Nat.pow_succ]
            have := Nat.pow_le_pow_right (n := 128) (by omega) (show k + 1 ≤ 9 by omega)
            exact ⟨Nat.le_trans this (by decide), rfl⟩)
          clear Hbad Hlast Hnext Hsc hp hpb hkv
          generalize v % 128 = vm at *
          have hgo : ∀ {P : Prop}, (k = 0 → P) → (0 < k → k ≠ 9 → P) → (k = 9 → P) → P := fun h1 h2 h3 => by
            rcases Nat.eq_zero_or_pos k with h | h
            · exact h1 h
            · by_cases h9 : k = 9
              · exact h3 h9
              · exact h2 h h9
          by_cases hl : v < 128
          · have HR := Lib.hid (Hlast2.out hl)
            have hli : (v : Int) < 128 := by omega
            clear Hlast2 Hnext2 Hs2 hbad
            rcases Nat.eq_zero_or_pos k with h0 | h0
            · subst h0
              rw [Nat.add_zero] at d1
              clear hdv0 hdv1 hki9 hgo
              go_wp2
              go_ret3
              exact ⟨by rw [HR.out]; rfl, rfl⟩
            · have h0i : (0 : Int) < k := by omega
              have hv0 := hdv0 h0
              by_cases h9 : k = 9
              · have hv1 := hdv1 h9
                subst h9
                clear hdv0 hdv1 hgo hki9 hwk hk hk9
                go_wp2
                go_ret3
                exact ⟨by rw [HR.out]; rfl, rfl⟩
              · have hd : decide (k = 9) = false := by simpa using h9
                rw [hd] at hki9
                clear hdv0 hdv1 hgo h9
                go_wp2
                go_ret3
                exact ⟨by rw [HR.out]; rfl, rfl⟩
          · have HN := Lib.hid (Hnext2.out hl)
            have h8 := HN.out.1
            have HB := Lib.hid ((Hpb.out.2.2 Hm.out h8).2)
            have HS := Lib.hid (Hs2.out h8)
            have hli : ¬ (v : Int) < 128 := by omega
            have hw8 : IntKind.u64.wrap ((sc : Int) * 128) = ((sc * 128 : Nat) : Int) := by have := HS.out.1; rw [IntKind.wrap_u64]; omega
            have hd : decide (k = 9) = false := by simp; omega
            rw [hd] at hki9
            clear Hlast2 Hnext2 hbad hdv1 Hs2 hgo hd
            generalize sc * 128 = sc2 at *
            generalize acc + p = ap at *
            rcases Nat.eq_zero_or_pos k with h0 | h0
            · subst h0
              rw [Nat.add_zero] at d1
              clear hdv0 hki9
              go_wp2
              exact ⟨⟨1, ap, sc2, rfl, rfl, rfl, by omega, by omega, HB.out, by have := HS.out.2; omega, HS.out.1, Lib.hid ⟨HS.out.2, HN.out.2⟩⟩, by simp [intOf]; omega⟩
            · have h0i : (0 : Int) < k := by omega
              have hv0 := hdv0 h0
              clear hdv0
              go_wp2
              exact ⟨⟨k + 1, ap, sc2, by simp, rfl, rfl, by omega, by omega, HB.out, by rw [HS.out.2]; exact (pow128 (by omega)).1, HS.out.1, Lib.hid ⟨HS.out.2, HN.out.2⟩⟩, by simp [intOf]; omega⟩
    · have HR := Lib.hid (hI.out.2.ends (by omega))
      have hkli : ¬ (k : Int) < bl.length := by omega
      clear hI
      go_wp2
      go_ret3
      exact ⟨by rw [HR.out]; exact RdE.none_ (by decide), rfl⟩
end Go.Proofs.Ytiejjbdmkgdniaa
set_option linter.unusedVariables false
set_option linter.unusedSimpArgs false
namespace Go.Proofs.Ytiejjbdmkgdniaa
open Go.RowKit Go.Sal Go.Huf Go.Cod
theorem or64 {a b : Nat} (ha : a < 18446744073709551616) (hb : b < 18446744073709551616) : (BitVec.ofInt 64 (a : Int) ||| BitVec.ofInt 64 (b : Int)).toNat = a ||| b := by
  rw [BitVec.toNat_or, BitVec.ofInt_natCast, BitVec.ofInt_natCast, BitVec.toNat_ofNat, BitVec.toNat_ofNat, Nat.mod_eq_of_lt (by omega), Nat.mod_eq_of_lt (by omega)]
theorem bits_or_u64 {a b : Nat} (ha : a < 18446744073709551616) (hb : b < 18446744073709551616) (hc : a ||| b < 18446744073709551616) : bits .or .u64 (a : Int) (b : Int) = ((a ||| b : Nat) : Int) := by
  show IntKind.u64.wrap ((BitVec.ofInt 64 (a : Int) ||| BitVec.ofInt 64 (b : Int)).toNat : Int) = _
  rw [or64 ha hb, IntKind.wrap_u64]
  omega
theorem bits_and_u8 {v : Nat} (hv : v < 256) : bits .and .u8 (v : Int) 127 = ((v % 128 : Nat) : Int) := by
  show IntKind.u8.wrap ((BitVec.ofInt 8 (v : Int) &&& BitVec.ofInt 8 127).toNat : Int) = _
  have e : (BitVec.ofInt 8 (v : Int) &&& BitVec.ofInt 8 127).toNat = v % 128 := by
    rw [BitVec.toNat_and, BitVec.toNat_ofInt, BitVec.toNat_ofInt]
    have e1 : ((v : Int) % ((2 ^ 8 : Nat) : Int)).toNat = v := by omega
    rw [e1, show ((127 : Int) % ((2 ^ 8 : Nat) : Int)).toNat = 2 ^ 7 - 1 by rfl, Nat.and_two_pow_sub_one_eq_mod]
  rw [e, IntKind.wrap_u8]
  omega
theorem two7 (k : Nat) : 2 ^ (7 * k) = 128 ^ k := by rw [Nat.pow_mul]
theorem or_put {acc vm k : Nat} (h : acc < 128 ^ k) : acc ||| vm * 128 ^ k = acc + vm * 128 ^ k := by
  rw [← two7] at h ⊢
  have := Nat.two_pow_add_eq_or_of_lt h vm
  rw [Nat.or_comm, Nat.mul_comm vm, ← this, Nat.add_comm]
set_option maxRecDepth 20000 in
set_option maxHeartbeats 4000000 in
theorem read_any (bl : List Nat) (A : Option Addr) (c : Nat) (w : World) (hs : BySrc w A bl) (hl : bl.length ≤ 1000000000) :
    Calls Try.prog 74 #[.slice A bl.length c] w fun e w' => RdE (rdV 0 bl) e ∧ w = w' := by
  have Hs := Lib.hid hs
  have H0 := Lib.hid (RI.start bl)
  clear hs
  go_enter Try.func74, Try.ntmps74
  go_wp2
  go_loop [5, 11] (fun vx vi => ∃ k acc : Nat, vi = .int .i64 k ∧ vx = .int .u64 acc ∧ k ≤ bl.length ∧ k ≤ 9 ∧ acc < 9223372036854775808 ∧ Hid (RI bl k acc)) (fun _ vi => bl.length - (intOf vi).toNat)
  case atStart => exact ⟨0, 0, rfl, rfl, by omega, by omega, by omega, H0⟩
  case round =>
    obtain ⟨k, acc, rfl, rfl, hk, hk9, hacc, hI⟩ := hrel
    clear H0
    rcases Nat.lt_or_ge k bl.length with hkl | hkl
    · as_aux_lemma =>
        obtain ⟨g, o, rfl, hg, d1⟩ := Hs.out.1 k hkl
        have hv := Hs.out.2 _ (List.getElem_mem hkl)
        have Hbad := Lib.hid (fun hc => hI.out.bad hkl hc)
        have Hlast := Lib.hid (fun hc hl => hI.out.last hkl hc hl)
        have Hnext := Lib.hid (fun hc hl => hI.out.next hkl hc hl hv)
        have Hsc := Lib.hid hI.out.2.2.1
        generalize bl[k] = v at *
        have hkli : (k : Int) < bl.length := by omega
        have hwk : IntKind.i64.wrap ((k : Int) + 1) = (k : Int) + 1 := by rw [IntKind.wrap_i64]; omega
        have hw7 : IntKind.i64.wrap (7 * (k : Int)) = ((7 * k : Nat) : Int) := by rw [IntKind.wrap_i64]; omega
        have hw7b : IntKind.u64.wrap ((7 * k : Nat) : Int) = ((7 * k : Nat) : Int) := by rw [IntKind.wrap_u64]; omega
        have hand := bits_and_u8 hv
        have hwm2 : IntKind.u64.wrap ((v % 128 : Nat) : Int) = ((v % 128 : Nat) : Int) := by rw [IntKind.wrap_u64]; omega
        clear hI
        by_cases hbad : k = 9 ∧ v ≠ 1 ∨ 0 < k ∧ v = 0
        · have HR := Lib.hid (Hbad.out hbad)
          clear Hbad Hlast Hnext hw7 hw7b hand hwm2
          rcases hbad with ⟨h9, hv1⟩ | ⟨h0, hv0⟩
          · subst h9
            have hvn : ((v : Int) != 1) = true := by simp; omega
            clear hwk hk hk9 hacc
            by_cases hl : v < 128
            · have hli : (v : Int) < 128 := by omega
              go_wp2
              go_ret3
              exact ⟨by rw [HR.out]; exact RdE.none_ (by decide), rfl⟩
            · have hli : ¬ (v : Int) < 128 := by omega
              go_wp2
              go_ret3
              exact ⟨by rw [HR.out]; exact RdE.none_ (by decide), rfl⟩
          · subst hv0
            have hk0 : (0 : Int) < k := by omega
            by_cases h9 : k = 9
            · subst h9
              clear hwk hk hk9 hacc
              go_wp2
              go_ret3
              exact ⟨by rw [HR.out]; exact RdE.none_ (by decide), rfl⟩
            · have hd : ((k : Int) == 9) = false := by simp; omega
              go_wp2
              go_ret3
              exact ⟨by rw [HR.out]; exact RdE.none_ (by decide), rfl⟩
        · have hm127 : v % 128 ≤ 127 := by omega
          obtain ⟨p, hp⟩ : ∃ p, p = (v % 128) * 128 ^ k := ⟨_, rfl⟩
          have hpb : p ≤ 9223372036854775808 ∧ acc + p < 18446744073709551616 ∧ (k ≤ 8 → acc + p < 9223372036854775808) := by
            by_cases h9 : k = 9
            · have hv1 : v = 1 := by omega
              subst hv1
              subst h9
              have hp2 : p = 9223372036854775808 := hp
              omega
            · have := Nat.pow_le_pow_right (n := 128) (by omega) (show k ≤ 8 by omega)
              have h1 : 128 ^ k ≤ 72057594037927936 := Nat.le_trans this (by decide)
              have h2 : p ≤ 127 * 128 ^ k := by rw [hp]; exact Nat.mul_le_mul_right _ hm127
              have h3 := Hsc.out
              generalize 128 ^ k = P at *
              omega
          have hsh : IntKind.u64.wrap (((v % 128 : Nat) : Int) * 2 ^ (7 * k)) = (p : Int) := by
            rw [IntKind.wrap_u64]
            have : ((v % 128 : Nat) : Int) * 2 ^ (7 * k) = (p : Int) := by rw [hp, ← two7]; simp
            rw [this]
            omega
          have hor : bits .or .u64 (acc : Int) (p : Int) = ((acc + p : Nat) : Int) := by
            have h1 : acc ||| p = acc + p := by rw [hp]; exact or_put Hsc.out
            rw [bits_or_u64 (by omega) (by omega) (by omega), h1]
          have Hlast2 : Hid (v < 128 → rdV 0 bl = some (acc + p, k + 1)) := Lib.hid (fun h => by
            rw [Hlast.out hbad h, hp, Nat.mod_eq_of_lt h, Nat.mul_comm])
          have Hnext2 : Hid (¬ v < 128 → k ≤ 8 ∧ RI bl (k + 1) (acc + p)) := Lib.hid (fun h => ⟨by omega, by
            have := Hnext.out hbad h
            rw [show v - 128 = v % 128 by omega, Nat.mul_comm, ← hp] at this
            exact this⟩)
          have Hpb := Lib.hid hpb
          have hdv0 : 0 < k → ((v : Int) == 0) = false := fun h => by simp; omega
          have hdv1 : k = 9 → ((v : Int) != 1) = false := fun h => by simp; omega
          have Hp0 : Hid (k = 0 → p = v % 128) := Lib.hid (fun h => by rw [hp, h]; simp)
          clear Hbad Hlast Hnext Hsc hp hpb
          generalize v % 128 = vm at *
          by_cases hl : v < 128
          · have HR := Lib.hid (Hlast2.out hl)
            have hli : (v : Int) < 128 := by omega
            clear Hlast2 Hnext2 hbad
            by_cases h9 : k = 9
            · have hv1 := hdv1 h9
              have hv0 := hdv0 (by omega)
              subst h9
              have hsh9 : IntKind.u64.wrap ((vm : Int) * 9223372036854775808) = (p : Int) := by simpa using hsh
              clear hdv0 hdv1 hwk hk hk9 hw7 hw7b hsh
              go_wp2
              go_ret3
              exact ⟨by rw [HR.out]; rfl, rfl⟩
            · have hd : ((k : Int) == 9) = false := by simp; omega
              rcases Nat.eq_zero_or_pos k with h0 | h0
              · subst h0
                rw [Nat.add_zero] at d1
                obtain rfl := Hp0.out rfl
                clear hdv0 hdv1 hd hw7 hw7b hsh Hp0
                by_cases hvz : v = 0
                · have hv0 : ((v : Int) == 0) = true := by simpa using hvz
                  clear hvz
                  go_wp2
                  go_ret3
                  exact ⟨by rw [HR.out]; rfl, rfl⟩
                · have hv0 : ((v : Int) == 0) = false := by simpa using hvz
                  clear hvz
                  go_wp2
                  go_ret3
                  exact ⟨by rw [HR.out]; rfl, rfl⟩
              · have hv0 := hdv0 h0
                clear hdv0 hdv1
                go_wp2
                go_ret3
                exact ⟨by rw [HR.out]; rfl, rfl⟩
          · have HN := Lib.hid (Hnext2.out hl)
            have h8 := HN.out.1
            have HB := Lib.hid (Hpb.out.2.2 h8)
            have hli : ¬ (v : Int) < 128 := by omega
            have hd : ((k : Int) == 9) = false := by simp; omega
            clear Hlast2 Hnext2 hbad hdv1
            rcases Nat.eq_zero_or_pos k with h0 | h0
            · subst h0
              rw [Nat.add_zero] at d1
              obtain rfl := Hp0.out rfl
              clear hdv0 hd hw7 hw7b hsh Hp0
              go_wp2
              exact ⟨⟨1, _, rfl, rfl, by omega, by omega, HB.out, Lib.hid HN.out.2⟩, by simp [intOf]; omega⟩
            · have hv0 := hdv0 h0
              clear hdv0
              go_wp2
              exact ⟨⟨k + 1, _, by simp, rfl, by omega, by omega, HB.out, Lib.hid HN.out.2⟩, by simp [intOf]; omega⟩
    · have HR := Lib.hid (hI.out.ends (by omega))
      have hkli : ¬ (k : Int) < bl.length := by omega
      clear hI
      go_wp2
      go_ret3
      exact ⟨by rw [HR.out]; exact RdE.none_ (by decide), rfl⟩
end Go.Proofs.Ytiejjbdmkgdniaa
set_option linter.unusedVariables false
set_option linter.unusedSimpArgs false
namespace Go.Cod
open Go.Huf
theorem lenF_ok : ∀ (f n : Nat) (out : List Int) (b : List Nat) (ls : List Int) (r : List Nat), lenF f n out b = some (ls, r) → out.length ≤ n → okL ls ∧ ls.length = n ∧ r.length ≤ b.length ∧ ∀ x ∈ r, x ∈ b
  | 0, _, _, _, _, _, h, _ => by simp [lenF] at h
  | f + 1, n, out, b, ls, r, h, h0 => by
    unfold lenF at h
    split at h
    · rename_i hlt
      cases b with
      | nil => simp at h
      | cons x b1 =>
        simp only at h
        cases hr : rdV 0 b1 with
        | none => rw [hr] at h; simp at h
        | some p =>
          obtain ⟨k, u⟩ := p
          rw [hr] at h
          simp only at h
          split at h
          · simp at h
          · have ih := lenF_ok f n _ _ ls r h (by simp; omega)
            refine ⟨ih.1, ih.2.1, ?_, fun y hy => List.mem_cons_of_mem _ (List.mem_of_mem_drop (ih.2.2.2 y hy))⟩
            have := ih.2.2.1
            rw [List.length_drop] at this
            simp
            omega
    · split at h
      · rename_i hok
        simp only [Option.some.injEq, Prod.mk.injEq] at h
        obtain ⟨rfl, rfl⟩ := h
        exact ⟨hok, by omega, Nat.le_refl _, fun _ h => h⟩
      · simp at h
theorem lenP_ok {n : Nat} {b : List Nat} {ls : List Int} {r : List Nat} (h : lenP n b = some (ls, r)) : okL ls ∧ ls.length = n ∧ r.length ≤ b.length ∧ ∀ x ∈ r, x ∈ b := lenF_ok _ _ _ _ _ _ h (by simp)
theorem tokR_ok {la lb : List Int} {b : List Nat} {at_ a2 : Nat} {t : Tk} (h : tokR la lb b at_ = some (t, a2)) : at_ + 1 ≤ a2 ∧ a2 ≤ 8 * b.length ∧ t.2.2 < 256 := by
  unfold tokR at h
  cases h1 : one la b at_ with
  | none => rw [h1] at h; simp at h
  | some p =>
    obtain ⟨s, k⟩ := p
    have q1 := one_spec h1
    rw [h1] at h
    simp only at h
    split at h
    · simp only [Option.some.injEq, Prod.mk.injEq] at h
      obtain ⟨rfl, rfl⟩ := h
      exact ⟨by omega, by omega, by assumption⟩
    · cases h2 : one lb b (at_ + k) with
      | none => rw [h2] at h; simp at h
      | some p2 =>
        obtain ⟨x, k2⟩ := p2
        have q2 := one_spec h2
        rw [h2] at h
        simp only at h
        split at h
        · simp at h
        · simp only [Option.some.injEq, Prod.mk.injEq] at h
          obtain ⟨rfl, rfl⟩ := h
          exact ⟨by omega, by omega, by simp⟩
theorem toksF_none {la lb : List Int} {b : List Nat} {n at_ : Nat} (h : tokR la lb b at_ = none) : toksF la lb b (n + 1) at_ = none := by
  rw [toksF, h]
theorem toksF_some {la lb : List Int} {b : List Nat} {n at_ a2 : Nat} {t : Tk} (h : tokR la lb b at_ = some (t, a2)) : toksF la lb b (n + 1) at_ = (toksF la lb b n a2).map (t :: ·) := by
  rw [toksF, h]
end Go.Cod
set_option linter.unusedVariables false
set_option linter.unusedSimpArgs false
namespace Go.Proofs.Ytiejjbdmkgdniaa
open Go.RowKit Go.Sal Go.Huf Go.Cod
theorem check_lit (d n : Int) (x : Nat) (w : World) (hn : n = 1) :
    Calls Try.prog 61 #[.agg #[.int .i64 0, .int .i64 n, .int .u8 (x : Nat)]] w fun e w' => e = .returned (.int .i64 0) ∧ Keep [] w w' := by
  subst hn
  go_enter Try.func61, Try.ntmps61
  go_wp2
  go_ret
  exact ⟨rfl, (Keep.refl [] _).alloc _⟩
theorem check_dn (d n : Int) (x : Nat) (w : World) (hn : n ≠ 1) :
    Calls Try.prog 61 #[.agg #[.int .i64 0, .int .i64 n, .int .u8 (x : Nat)]] w fun e w' => e = .returned (.int .i64 60) ∧ Keep [] w w' := by
  have hnf : (n == 1) = false := by simpa using hn
  clear hn
  go_enter Try.func61, Try.ntmps61
  go_wp2
  go_ret
  exact ⟨rfl, (Keep.refl [] _).alloc _⟩
theorem check_neg (d n : Int) (x : Nat) (w : World) (hd : d < 0) :
    Calls Try.prog 61 #[.agg #[.int .i64 d, .int .i64 n, .int .u8 (x : Nat)]] w fun e w' => e = .returned (.int .i64 60) ∧ Keep [] w w' := by
  have hd0 : (d == 0) = false := by simp; omega
  have hd1 : ¬ 1 ≤ d := by omega
  go_enter Try.func61, Try.ntmps61
  go_wp2
  go_ret
  exact ⟨rfl, (Keep.refl [] _).alloc _⟩
theorem check_far (d n : Int) (x : Nat) (w : World) (hd : 4096 < d) :
    Calls Try.prog 61 #[.agg #[.int .i64 d, .int .i64 n, .int .u8 (x : Nat)]] w fun e w' => e = .returned (.int .i64 60) ∧ Keep [] w w' := by
  have hd0 : (d == 0) = false := by simp; omega
  have hd1 : 1 ≤ d := by omega
  have hd2 : ¬ d < 0 := by omega
  have hd3 : ¬ d ≤ 4096 := by omega
  go_enter Try.func61, Try.ntmps61
  go_wp2
  go_ret
  exact ⟨rfl, (Keep.refl [] _).alloc _⟩
theorem check_short (d n : Int) (x : Nat) (w : World) (hd : 1 ≤ d) (hd3 : d ≤ 4096) (hn : n < 4) :
    Calls Try.prog 61 #[.agg #[.int .i64 d, .int .i64 n, .int .u8 (x : Nat)]] w fun e w' => e = .returned (.int .i64 60) ∧ Keep [] w w' := by
  have hd0 : (d == 0) = false := by simp; omega
  have hd2 : ¬ d < 0 := by omega
  have hd4 : ¬ 4096 < d := by omega
  have hn2 : ¬ 4 ≤ n := by omega
  go_enter Try.func61, Try.ntmps61
  go_wp2
  go_ret
  exact ⟨rfl, (Keep.refl [] _).alloc _⟩
theorem check_long (d n : Int) (x : Nat) (w : World) (hd : 1 ≤ d) (hd3 : d ≤ 4096) (hn : 258 < n) :
    Calls Try.prog 61 #[.agg #[.int .i64 d, .int .i64 n, .int .u8 (x : Nat)]] w fun e w' => e = .returned (.int .i64 60) ∧ Keep [] w w' := by
  have hd0 : (d == 0) = false := by simp; omega
  have hd2 : ¬ d < 0 := by omega
  have hd4 : ¬ 4096 < d := by omega
  have hn2 : 4 ≤ n := by omega
  have hn3 : ¬ n < 4 := by omega
  have hn4 : ¬ n ≤ 258 := by omega
  go_enter Try.func61, Try.ntmps61
  go_wp2
  go_ret
  exact ⟨rfl, (Keep.refl [] _).alloc _⟩
theorem check_byte (d n : Int) (x : Nat) (w : World) (hd : 1 ≤ d) (hd3 : d ≤ 4096) (hn2 : 4 ≤ n) (hn5 : n ≤ 258) (hx : x ≠ 0) :
    Calls Try.prog 61 #[.agg #[.int .i64 d, .int .i64 n, .int .u8 (x : Nat)]] w fun e w' => e = .returned (.int .i64 60) ∧ Keep [] w w' := by
  have hd0 : (d == 0) = false := by simp; omega
  have hd2 : ¬ d < 0 := by omega
  have hd4 : ¬ 4096 < d := by omega
  have hn3 : ¬ n < 4 := by omega
  have hn4 : ¬ 258 < n := by omega
  have hxf : ((x : Int) == 0) = false := by simpa using hx
  have hxn : ((x : Int) != 0) = true := by simpa using hx
  clear hx
  go_enter Try.func61, Try.ntmps61
  go_wp2
  go_ret
  exact ⟨rfl, (Keep.refl [] _).alloc _⟩
theorem check_copy (d n : Int) (x : Nat) (w : World) (hd : 1 ≤ d) (hd3 : d ≤ 4096) (hn2 : 4 ≤ n) (hn5 : n ≤ 258) (hx : x = 0) :
    Calls Try.prog 61 #[.agg #[.int .i64 d, .int .i64 n, .int .u8 (x : Nat)]] w fun e w' => e = .returned (.int .i64 0) ∧ Keep [] w w' := by
  subst hx
  have hd0 : (d == 0) = false := by simp; omega
  have hd2 : ¬ d < 0 := by omega
  have hd4 : ¬ 4096 < d := by omega
  have hn3 : ¬ n < 4 := by omega
  have hn4 : ¬ 258 < n := by omega
  go_enter Try.func61, Try.ntmps61
  go_wp2
  go_ret
  exact ⟨rfl, (Keep.refl [] _).alloc _⟩
theorem tokcheck_any (t : Tk) (w : World) :
    Calls Try.prog 61 #[.agg #[.int .i64 t.1, .int .i64 t.2.1, .int .u8 (t.2.2 : Nat)]] w fun e w' => e = .returned (.int .i64 (if okT t then 0 else 60)) ∧ Keep [] w w' := by
  obtain ⟨d, n, x⟩ := t
  have key : ∀ (r : Int), okT (d, n, x) = decide (r = 0) → (r = 0 ∨ r = 60) → Calls Try.prog 61 #[.agg #[.int .i64 d, .int .i64 n, .int .u8 (x : Nat)]] w (fun e w' => e = .returned (.int .i64 r) ∧ Keep [] w w') →
      Calls Try.prog 61 #[.agg #[.int .i64 d, .int .i64 n, .int .u8 (x : Nat)]] w (fun e w' => e = .returned (.int .i64 (if okT (d, n, x) then 0 else 60)) ∧ Keep [] w w') := fun r h1 h2 h => by
    rcases h2 with rfl | rfl
    · rw [h1]; exact h
    · rw [h1]; exact h
  by_cases h0 : d = 0
  · subst h0
    by_cases hn : n = 1
    · exact key 0 (by simp [okT, hn]) (.inl rfl) (check_lit 0 n x w hn)
    · exact key 60 (by simp [okT, hn]) (.inr rfl) (check_dn 0 n x w hn)
  · by_cases h1 : d < 0
    · exact key 60 (by simp [okT]; omega) (.inr rfl) (check_neg d n x w h1)
    · by_cases h2 : 4096 < d
      · exact key 60 (by simp [okT]; omega) (.inr rfl) (check_far d n x w h2)
      · by_cases h3 : n < 4
        · exact key 60 (by simp [okT]; omega) (.inr rfl) (check_short d n x w (by omega) (by omega) h3)
        · by_cases h4 : 258 < n
          · exact key 60 (by simp [okT]; omega) (.inr rfl) (check_long d n x w (by omega) (by omega) h4)
          · by_cases hx : x = 0
            · exact key 0 (by simp [okT]; omega) (.inl rfl) (check_copy d n x w (by omega) (by omega) (by omega) (by omega) hx)
            · exact key 60 (by simp [okT]; omega) (.inr rfl) (check_byte d n x w (by omega) (by omega) (by omega) (by omega) hx)
theorem rcheck_lit (d n : Int) (x : Nat) (w : World) (hn : n = 1) :
    Calls Try.prog 68 #[.agg #[.int .i64 0, .int .i64 n, .int .u8 (x : Nat)]] w fun e w' => e = .returned (.int .i64 0) ∧ Keep [] w w' := by
  subst hn
  go_enter Try.func68, Try.ntmps68
  go_wp2
  go_ret
  exact ⟨rfl, (Keep.refl [] _).alloc _⟩
theorem rcheck_dn (d n : Int) (x : Nat) (w : World) (hn : n ≠ 1) :
    Calls Try.prog 68 #[.agg #[.int .i64 0, .int .i64 n, .int .u8 (x : Nat)]] w fun e w' => e = .returned (.int .i64 60) ∧ Keep [] w w' := by
  have hnf : (n == 1) = false := by simpa using hn
  clear hn
  go_enter Try.func68, Try.ntmps68
  go_wp2
  go_ret
  exact ⟨rfl, (Keep.refl [] _).alloc _⟩
theorem rcheck_neg (d n : Int) (x : Nat) (w : World) (hd : d < 0) :
    Calls Try.prog 68 #[.agg #[.int .i64 d, .int .i64 n, .int .u8 (x : Nat)]] w fun e w' => e = .returned (.int .i64 60) ∧ Keep [] w w' := by
  have hd0 : (d == 0) = false := by simp; omega
  have hd1 : ¬ 1 ≤ d := by omega
  go_enter Try.func68, Try.ntmps68
  go_wp2
  go_ret
  exact ⟨rfl, (Keep.refl [] _).alloc _⟩
theorem rcheck_far (d n : Int) (x : Nat) (w : World) (hd : 4096 < d) :
    Calls Try.prog 68 #[.agg #[.int .i64 d, .int .i64 n, .int .u8 (x : Nat)]] w fun e w' => e = .returned (.int .i64 60) ∧ Keep [] w w' := by
  have hd0 : (d == 0) = false := by simp; omega
  have hd1 : 1 ≤ d := by omega
  have hd2 : ¬ d < 0 := by omega
  have hd3 : ¬ d ≤ 4096 := by omega
  go_enter Try.func68, Try.ntmps68
  go_wp2
  go_ret
  exact ⟨rfl, (Keep.refl [] _).alloc _⟩
theorem rcheck_short (d n : Int) (x : Nat) (w : World) (hd : 1 ≤ d) (hd3 : d ≤ 4096) (hn : n < 4) :
    Calls Try.prog 68 #[.agg #[.int .i64 d, .int .i64 n, .int .u8 (x : Nat)]] w fun e w' => e = .returned (.int .i64 60) ∧ Keep [] w w' := by
  have hd0 : (d == 0) = false := by simp; omega
  have hd2 : ¬ d < 0 := by omega
  have hd4 : ¬ 4096 < d := by omega
  have hn2 : ¬ 4 ≤ n := by omega
  go_enter Try.func68, Try.ntmps68
  go_wp2
  go_ret
  exact ⟨rfl, (Keep.refl [] _).alloc _⟩
theorem rcheck_long (d n : Int) (x : Nat) (w : World) (hd : 1 ≤ d) (hd3 : d ≤ 4096) (hn : 258 < n) :
    Calls Try.prog 68 #[.agg #[.int .i64 d, .int .i64 n, .int .u8 (x : Nat)]] w fun e w' => e = .returned (.int .i64 60) ∧ Keep [] w w' := by
  have hd0 : (d == 0) = false := by simp; omega
  have hd2 : ¬ d < 0 := by omega
  have hd4 : ¬ 4096 < d := by omega
  have hn2 : 4 ≤ n := by omega
  have hn3 : ¬ n < 4 := by omega
  have hn4 : ¬ n ≤ 258 := by omega
  go_enter Try.func68, Try.ntmps68
  go_wp2
  go_ret
  exact ⟨rfl, (Keep.refl [] _).alloc _⟩
theorem rcheck_byte (d n : Int) (x : Nat) (w : World) (hd : 1 ≤ d) (hd3 : d ≤ 4096) (hn2 : 4 ≤ n) (hn5 : n ≤ 258) (hx : x ≠ 0) :
    Calls Try.prog 68 #[.agg #[.int .i64 d, .int .i64 n, .int .u8 (x : Nat)]] w fun e w' => e = .returned (.int .i64 60) ∧ Keep [] w w' := by
  have hd0 : (d == 0) = false := by simp; omega
  have hd2 : ¬ d < 0 := by omega
  have hd4 : ¬ 4096 < d := by omega
  have hn3 : ¬ n < 4 := by omega
  have hn4 : ¬ 258 < n := by omega
  have hxf : ((x : Int) == 0) = false := by simpa using hx
  have hxn : ((x : Int) != 0) = true := by simpa using hx
  clear hx
  go_enter Try.func68, Try.ntmps68
  go_wp2
  go_ret
  exact ⟨rfl, (Keep.refl [] _).alloc _⟩
theorem rcheck_copy (d n : Int) (x : Nat) (w : World) (hd : 1 ≤ d) (hd3 : d ≤ 4096) (hn2 : 4 ≤ n) (hn5 : n ≤ 258) (hx : x = 0) :
    Calls Try.prog 68 #[.agg #[.int .i64 d, .int .i64 n, .int .u8 (x : Nat)]] w fun e w' => e = .returned (.int .i64 0) ∧ Keep [] w w' := by
  subst hx
  have hd0 : (d == 0) = false := by simp; omega
  have hd2 : ¬ d < 0 := by omega
  have hd4 : ¬ 4096 < d := by omega
  have hn3 : ¬ n < 4 := by omega
  have hn4 : ¬ 258 < n := by omega
  go_enter Try.func68, Try.ntmps68
  go_wp2
  go_ret
  exact ⟨rfl, (Keep.refl [] _).alloc _⟩
theorem tokrcheck_any (t : Tk) (w : World) :
    Calls Try.prog 68 #[.agg #[.int .i64 t.1, .int .i64 t.2.1, .int .u8 (t.2.2 : Nat)]] w fun e w' => e = .returned (.int .i64 (if okT t then 0 else 60)) ∧ Keep [] w w' := by
  obtain ⟨d, n, x⟩ := t
  have key : ∀ (r : Int), okT (d, n, x) = decide (r = 0) → (r = 0 ∨ r = 60) → Calls Try.prog 68 #[.agg #[.int .i64 d, .int .i64 n, .int .u8 (x : Nat)]] w (fun e w' => e = .returned (.int .i64 r) ∧ Keep [] w w') →
      Calls Try.prog 68 #[.agg #[.int .i64 d, .int .i64 n, .int .u8 (x : Nat)]] w (fun e w' => e = .returned (.int .i64 (if okT (d, n, x) then 0 else 60)) ∧ Keep [] w w') := fun r h1 h2 h => by
    rcases h2 with rfl | rfl
    · rw [h1]; exact h
    · rw [h1]; exact h
  by_cases h0 : d = 0
  · subst h0
    by_cases hn : n = 1
    · exact key 0 (by simp [okT, hn]) (.inl rfl) (rcheck_lit 0 n x w hn)
    · exact key 60 (by simp [okT, hn]) (.inr rfl) (rcheck_dn 0 n x w hn)
  · by_cases h1 : d < 0
    · exact key 60 (by simp [okT]; omega) (.inr rfl) (rcheck_neg d n x w h1)
    · by_cases h2 : 4096 < d
      · exact key 60 (by simp [okT]; omega) (.inr rfl) (rcheck_far d n x w h2)
      · by_cases h3 : n < 4
        · exact key 60 (by simp [okT]; omega) (.inr rfl) (rcheck_short d n x w (by omega) (by omega) h3)
        · by_cases h4 : 258 < n
          · exact key 60 (by simp [okT]; omega) (.inr rfl) (rcheck_long d n x w (by omega) (by omega) h4)
          · by_cases hx : x = 0
            · exact key 0 (by simp [okT]; omega) (.inl rfl) (rcheck_copy d n x w (by omega) (by omega) (by omega) (by omega) hx)
            · exact key 60 (by simp [okT]; omega) (.inr rfl) (rcheck_byte d n x w (by omega) (by omega) (by omega) (by omega) hx)
end Go.Proofs.Ytiejjbdmkgdniaa
set_option linter.unusedVariables false
set_option linter.unusedSimpArgs false
namespace Go.Proofs.Ytiejjbdmkgdniaa
open Go.RowKit Go.Sal Go.Huf Go.Cod
/-- a slice that reads as tokens -/
def TSrc (w : World) (A : Option Addr) (l : List Tk) : Prop := (∀ i (h : i < l.length), ∃ g o, A = some ⟨g, o, none⟩ ∧ g < w.heap.size ∧
  w.cell? ⟨g, o + i * 3, none⟩ = some (.int .i64 l[i].1) ∧ w.cell? ⟨g, o + i * 3 + 1, none⟩ = some (.int .i64 l[i].2.1) ∧ w.cell? ⟨g, o + i * 3 + 2, none⟩ = some (.int .u8 (l[i].2.2 : Nat))) ∧
  ∀ t ∈ l, (-9223372036854775808 ≤ t.1 ∧ t.1 ≤ 9223372036854775807) ∧ (-9223372036854775808 ≤ t.2.1 ∧ t.2.1 ≤ 9223372036854775807) ∧ t.2.2 < 256
theorem TSrc.keep {w w' : World} {A : Option Addr} {l : List Tk} {F : List Nat} (h : TSrc w A l) (k : Keep F w w') (hF : ∀ a, A = some a → a.block ∉ F) : TSrc w' A l := ⟨fun i hi => by
  obtain ⟨g, o, rfl, h1, h2, h3, h4⟩ := h.1 i hi
  have hn := hF ⟨g, o, none⟩ rfl
  exact ⟨g, o, rfl, Nat.lt_of_lt_of_le h1 k.size, (k.cell (p := ⟨g, o + i * 3, none⟩) h1 hn).trans h2, (k.cell (p := ⟨g, o + i * 3 + 1, none⟩) h1 hn).trans h3, (k.cell (p := ⟨g, o + i * 3 + 2, none⟩) h1 hn).trans h4⟩, h.2⟩
set_option maxRecDepth 20000 in
set_option maxHeartbeats 2000000 in
theorem size_bad (l : List Tk) (A : Option Addr) (c : Nat) (w : World) (hs : TSrc w A l) (hl : l.length ≤ 1000000000) (h : l.all okT = false) :
    Calls Try.prog 24 #[.slice A l.length c] w fun e w' => e = .returned (.tuple #[.int .i64 0, .int .i64 60]) ∧ Keep [] w w' := by
  have Hs := Lib.hid hs
  have Hn := Lib.hid h
  clear hs h
  go_enter Try.func24, Try.ntmps24
  go_wp2
  go_loopw [11] (fun vi wr => ∃ k : Nat, vi = .int .i64 k ∧ k ≤ l.length ∧ Hid ((l.take k).all okT = true ∧ Keep [] w wr)) (fun vi _ => l.length - (intOf vi).toNat)
  case atStart => exact ⟨0, rfl, by omega, Lib.hid ⟨by simp, Keep.refl _ _⟩⟩
  case round =>
    obtain ⟨k, rfl, hk, hI⟩ := hrel
    rcases Nat.lt_or_ge k l.length with hkl | hkl
    · as_aux_lemma =>
        obtain ⟨g, o, rfl, hg, d1, d2, d3⟩ := (Hs.out.keep hI.out.2 (by simp)).1 k hkl
        have htk : l.take (k + 1) = l.take k ++ [l[k]] := List.take_succ_eq_append_getElem hkl
        have hkli : (k : Int) < l.length := by omega
        have hwk : IntKind.i64.wrap ((k : Int) + 1) = (k : Int) + 1 := by rw [IntKind.wrap_i64]; omega
        have Hc := Lib.hid (fun w => tokcheck_any l[k] w)
        have Hst : Hid (okT l[k] = true → (l.take (k + 1)).all okT = true) := Lib.hid (fun h => by
          rw [htk, List.all_append, hI.out.1]; simp [h])
        have HK := Lib.hid hI.out.2
        generalize l[k] = t at *
        obtain ⟨d, n, x⟩ := t
        dsimp only at d1 d2 d3 Hc
        clear hI htk
        cases hb : okT (d, n, x) with
        | true =>
          rw [hb] at Hc Hst
          have HN := Lib.hid (Hst.out rfl)
          clear hb Hst
          go_wp2_with (go_at_call 61; refine (Hc.out _).mono ?_; rintro e w1 ⟨rfl, hk1⟩; have HK1 := Lib.hid hk1; clear hk1)
          go_roundw
          case rel => exact ⟨k + 1, by simp, by omega, Lib.hid ⟨HN.out, (HK.out.alloc _).trans HK1.out⟩⟩
          case measure => simp [intOf]; omega
        | false =>
          rw [hb] at Hc
          clear hb Hst
          go_wp2_with (go_at_call 61; refine (Hc.out _).mono ?_; rintro e w1 ⟨rfl, hk1⟩; have HK1 := Lib.hid hk1; clear hk1)
          go_ret2
          exact ⟨rfl, (HK.out.alloc _).trans HK1.out⟩
    · exfalso
      have := hI.out.1
      rw [List.take_of_length_le hkl, Hn.out] at this
      cases this
end Go.Proofs.Ytiejjbdmkgdniaa
namespace Go.Cod
open Go.Huf
theorem sumT_snoc (l : List Tk) (t : Tk) : sumT (l ++ [t]) = sumT l + t.2.1 := by simp [sumT]
theorem sumT_app (l r : List Tk) : sumT (l ++ r) = sumT l + sumT r := by simp [sumT]
theorem sumT_pos {l : List Tk} (h : l.all okT = true) : 0 ≤ sumT l ∧ sumT l ≤ 258 * l.length := by
  induction l with
  | nil => simp [sumT]
  | cons t l ih =>
    simp only [List.all_cons, Bool.and_eq_true] at h
    have h1 := okT_len h.1
    have h2 := ih h.2
    simp only [sumT, List.map_cons, List.sum_cons, List.length_cons] at h2 ⊢
    omega
theorem all_take {l : List Tk} (h : l.all okT = true) (k : Nat) : (l.take k).all okT = true := List.all_eq_true.2 (fun t ht => List.all_eq_true.1 h t (List.mem_of_mem_take ht))
theorem sumT_take {l : List Tk} (h : l.all okT = true) (k : Nat) : sumT (l.take k) ≤ sumT l := by
  have h1 : sumT l = sumT (l.take k) + sumT (l.drop k) := by rw [← sumT_app, List.take_append_drop]
  have h2 := sumT_pos (l := l.drop k) (List.all_eq_true.2 (fun t ht => List.all_eq_true.1 h t (List.mem_of_mem_drop ht)))
  omega
theorem all_get {l : List Tk} (h : l.all okT = true) {k : Nat} (hk : k < l.length) : okT l[k] = true := List.all_eq_true.1 h _ (List.getElem_mem hk)
end Go.Cod
namespace Go.Proofs.Ytiejjbdmkgdniaa
open Go.RowKit Go.Sal Go.Huf Go.Cod
set_option maxRecDepth 20000 in
set_option maxHeartbeats 2000000 in
theorem size_ok (l : List Tk) (A : Option Addr) (c : Nat) (w : World) (hs : TSrc w A l) (hl : l.length ≤ 1000000000) (h : l.all okT = true) :
    Calls Try.prog 24 #[.slice A l.length c] w fun e w' => e = .returned (.tuple #[.int .i64 (sizeN l), .int .i64 (sizeE l)]) ∧ Keep [] w w' := by
  have Hs := Lib.hid hs
  have Hn := Lib.hid h
  clear hs h
  go_enter Try.func24, Try.ntmps24
  go_wp2
  go_loopw [11] (fun vi wr => ∃ k : Nat, vi = .int .i64 k ∧ k ≤ l.length ∧ Hid (Keep [] w wr)) (fun vi _ => l.length - (intOf vi).toNat)
  case atStart => exact ⟨0, rfl, by omega, Lib.hid (Keep.refl _ _)⟩
  case round =>
    obtain ⟨k, rfl, hk, hI⟩ := hrel
    rcases Nat.lt_or_ge k l.length with hkl | hkl
    · as_aux_lemma =>
        obtain ⟨g, o, rfl, hg, d1, d2, d3⟩ := (Hs.out.keep hI.out (by simp)).1 k hkl
        have hkli : (k : Int) < l.length := by omega
        have hwk : IntKind.i64.wrap ((k : Int) + 1) = (k : Int) + 1 := by rw [IntKind.wrap_i64]; omega
        have Hc := Lib.hid (fun w => tokcheck_any l[k] w)
        rw [all_get Hn.out hkl] at Hc
        generalize l[k] = t at *
        obtain ⟨d, n, x⟩ := t
        dsimp only at d1 d2 d3 Hc
        go_wp2_with (go_at_call 61; refine (Hc.out _).mono ?_; rintro e w1 ⟨rfl, hk1⟩; have HK1 := Lib.hid hk1; clear hk1)
        go_roundw
        case rel => exact ⟨k + 1, by simp, by omega, Lib.hid ((hI.out.alloc _).trans HK1.out)⟩
        case measure => simp [intOf]; omega
    · have hkli : ¬ (k : Int) < l.length := by omega
      clear hkl
      go_wp2
      go_loopw [21, 6] (fun vi vn w2 => ∃ (j : Nat) (s : Int), vi = .int .i64 j ∧ vn = .int .i64 s ∧ j ≤ l.length ∧ 0 ≤ s ∧ s ≤ 65536 ∧ Hid (s = sumT (l.take j) ∧ Keep [] w w2)) (fun vi _ _ => l.length - (intOf vi).toNat)
      case atStart => exact ⟨0, 0, rfl, rfl, by omega, by omega, by omega, Lib.hid ⟨by simp [sumT], hI.out⟩⟩
      case round =>
        obtain ⟨j, s, rfl, rfl, hj, hs0, hs1, hJ⟩ := hrel
        clear hI
        rcases Nat.lt_or_ge j l.length with hjl | hjl
        · as_aux_lemma =>
            obtain ⟨g, o, rfl, hg, d1, d2, d3⟩ := (Hs.out.keep hJ.out.2 (by simp)).1 j hjl
            have htk : l.take (j + 1) = l.take j ++ [l[j]] := List.take_succ_eq_append_getElem hjl
            have hjli : (j : Int) < l.length := by omega
            have hwj : IntKind.i64.wrap ((j : Int) + 1) = (j : Int) + 1 := by rw [IntKind.wrap_i64]; omega
            have hln := okT_len (all_get Hn.out hjl)
            have HS : Hid (s + l[j].2.1 = sumT (l.take (j + 1))) := Lib.hid (by rw [htk, sumT_snoc, hJ.out.1])
            have HT : Hid (65536 < s + l[j].2.1 → sizeE l = 2 ∧ sizeN l = 0) := Lib.hid (fun h => by
              have h1 := sumT_take Hn.out (j + 1)
              rw [← HS.out] at h1
              have h2 : sizeE l = 2 := by unfold sizeE; rw [if_pos Hn.out, if_pos (by omega)]
              exact ⟨h2, by unfold sizeN; rw [if_neg (by rw [h2]; decide)]⟩)
            have HK := Lib.hid hJ.out.2
            generalize l[j] = t at *
            obtain ⟨d, n, x⟩ := t
            dsimp only at d1 d2 d3 hln HS HT
            have hwn : IntKind.i64.wrap (s + n) = s + n := by rw [IntKind.wrap_i64]; omega
            clear hJ htk
            by_cases h6 : 65536 < s + n
            · obtain ⟨e1, e2⟩ := HT.out h6
              have He := Lib.hid (And.intro e1 e2)
              clear e1 e2
              go_wp2
              go_ret2
              exact ⟨by rw [He.out.1, He.out.2]; rfl, HK.out.alloc _⟩
            · go_wp2
              exact ⟨⟨j + 1, s + n, by simp, rfl, by omega, by omega, by omega, Lib.hid ⟨HS.out, HK.out.alloc _⟩⟩, by simp [intOf]; omega⟩
        · have hjli : ¬ (j : Int) < l.length := by omega
          have hE : Hid (sizeE l = 0 ∧ sizeN l = s) := by
            have h1 : s = sumT l := by rw [hJ.out.1, List.take_of_length_le hjl]
            have h2 : sizeE l = 0 := by unfold sizeE; rw [if_pos Hn.out, if_neg (by omega)]
            exact Lib.hid ⟨h2, by unfold sizeN; rw [if_pos h2, h1]⟩
          have HK := Lib.hid hJ.out.2
          clear hJ hjl
          go_wp2
          go_ret2
          exact ⟨by rw [hE.out.1, hE.out.2]; rfl, HK.out⟩
theorem sizeE_bad {l : List Tk} (h : l.all okT = false) : sizeE l = 60 ∧ sizeN l = 0 := by
  have h1 : sizeE l = 60 := by unfold sizeE; rw [if_neg (by simp [h])]
  exact ⟨h1, by unfold sizeN; rw [if_neg (by rw [h1]; decide)]⟩
theorem size_any (l : List Tk) (A : Option Addr) (c : Nat) (w : World) (hs : TSrc w A l) (hl : l.length ≤ 1000000000) :
    Calls Try.prog 24 #[.slice A l.length c] w fun e w' => e = .returned (.tuple #[.int .i64 (sizeN l), .int .i64 (sizeE l)]) ∧ Keep [] w w' := by
  cases h : l.all okT with
  | true => exact size_ok l A c w hs hl h
  | false =>
    obtain ⟨h1, h2⟩ := sizeE_bad h
    rw [h1, h2]
    exact size_bad l A c w hs hl h
set_option maxRecDepth 20000 in
set_option maxHeartbeats 2000000 in
theorem rsize_bad (l : List Tk) (A : Option Addr) (c : Nat) (w : World) (hs : TSrc w A l) (hl : l.length ≤ 1000000000) (h : l.all okT = false) :
    Calls Try.prog 33 #[.slice A l.length c] w fun e w' => e = .returned (.tuple #[.int .i64 0, .int .i64 60]) ∧ Keep [] w w' := by
  have Hs := Lib.hid hs
  have Hn := Lib.hid h
  clear hs h
  go_enter Try.func33, Try.ntmps33
  go_wp2
  go_loopw [4] (fun vi wr => ∃ k : Nat, vi = .int .i64 k ∧ k ≤ l.length ∧ Hid ((l.take k).all okT = true ∧ Keep [] w wr)) (fun vi _ => l.length - (intOf vi).toNat)
  case atStart => exact ⟨0, rfl, by omega, Lib.hid ⟨by simp, Keep.refl _ _⟩⟩
  case round =>
    obtain ⟨k, rfl, hk, hI⟩ := hrel
    rcases Nat.lt_or_ge k l.length with hkl | hkl
    · as_aux_lemma =>
        obtain ⟨g, o, rfl, hg, d1, d2, d3⟩ := (Hs.out.keep hI.out.2 (by simp)).1 k hkl
        have htk : l.take (k + 1) = l.take k ++ [l[k]] := List.take_succ_eq_append_getElem hkl
        have hkli : (k : Int) < l.length := by omega
        have hwk : IntKind.i64.wrap ((k : Int) + 1) = (k : Int) + 1 := by rw [IntKind.wrap_i64]; omega
        have Hc := Lib.hid (fun w => tokrcheck_any l[k] w)
        have Hst : Hid (okT l[k] = true → (l.take (k + 1)).all okT = true) := Lib.hid (fun h => by
          rw [htk, List.all_append, hI.out.1]; simp [h])
        have HK := Lib.hid hI.out.2
        generalize l[k] = t at *
        obtain ⟨d, n, x⟩ := t
        dsimp only at d1 d2 d3 Hc
        clear hI htk
        cases hb : okT (d, n, x) with
        | true =>
          rw [hb] at Hc Hst
          have HN := Lib.hid (Hst.out rfl)
          clear hb Hst
          go_wp2_with (go_at_call 68; refine (Hc.out _).mono ?_; rintro e w1 ⟨rfl, hk1⟩; have HK1 := Lib.hid hk1; clear hk1)
          go_roundw
          case rel => exact ⟨k + 1, by simp, by omega, Lib.hid ⟨HN.out, HK.out.trans HK1.out⟩⟩
          case measure => simp [intOf]; omega
        | false =>
          rw [hb] at Hc
          clear hb Hst
          go_wp2_with (go_at_call 68; refine (Hc.out _).mono ?_; rintro e w1 ⟨rfl, hk1⟩; have HK1 := Lib.hid hk1; clear hk1)
          go_ret2
          exact ⟨rfl, HK.out.trans HK1.out⟩
    · exfalso
      have := hI.out.1
      rw [List.take_of_length_le hkl, Hn.out] at this
      cases this
set_option maxRecDepth 20000 in
set_option maxHeartbeats 2000000 in
theorem rsize_ok (l : List Tk) (A : Option Addr) (c : Nat) (w : World) (hs : TSrc w A l) (hl : l.length ≤ 1000000000) (h : l.all okT = true) :
    Calls Try.prog 33 #[.slice A l.length c] w fun e w' => e = .returned (.tuple #[.int .i64 (sizeN l), .int .i64 (sizeE l)]) ∧ Keep [] w w' := by
  have Hs := Lib.hid hs
  have Hn := Lib.hid h
  clear hs h
  go_enter Try.func33, Try.ntmps33
  go_wp2
  go_loopw [4] (fun vi wr => ∃ k : Nat, vi = .int .i64 k ∧ k ≤ l.length ∧ Hid (Keep [] w wr)) (fun vi _ => l.length - (intOf vi).toNat)
  case atStart => exact ⟨0, rfl, by omega, Lib.hid (Keep.refl _ _)⟩
  case round =>
    obtain ⟨k, rfl, hk, hI⟩ := hrel
    rcases Nat.lt_or_ge k l.length with hkl | hkl
    · as_aux_lemma =>
        obtain ⟨g, o, rfl, hg, d1, d2, d3⟩ := (Hs.out.keep hI.out (by simp)).1 k hkl
        have hkli : (k : Int) < l.length := by omega
        have hwk : IntKind.i64.wrap ((k : Int) + 1) = (k : Int) + 1 := by rw [IntKind.wrap_i64]; omega
        have Hc := Lib.hid (fun w => tokrcheck_any l[k] w)
        rw [all_get Hn.out hkl] at Hc
        generalize l[k] = t at *
        obtain ⟨d, n, x⟩ := t
        dsimp only at d1 d2 d3 Hc
        go_wp2_with (go_at_call 68; refine (Hc.out _).mono ?_; rintro e w1 ⟨rfl, hk1⟩; have HK1 := Lib.hid hk1; clear hk1)
        go_roundw
        case rel => exact ⟨k + 1, by simp, by omega, Lib.hid (hI.out.trans HK1.out)⟩
        case measure => simp [intOf]; omega
    · have hkli : ¬ (k : Int) < l.length := by omega
      clear hkl
      go_wp2
      go_loop [6, 5] (fun vi vn => ∃ (j : Nat) (s : Int), vi = .int .i64 j ∧ vn = .int .i64 s ∧ j ≤ l.length ∧ 0 ≤ s ∧ s ≤ 65794 ∧ Hid (s = sumT (l.take j))) (fun vi _ => l.length - (intOf vi).toNat)
      case atStart => exact ⟨0, 0, rfl, rfl, by omega, by omega, by omega, Lib.hid (by simp [sumT])⟩
      case round =>
        obtain ⟨j, s, rfl, rfl, hj, hs0, hs1, hJ⟩ := hrel
        have HK := Lib.hid hI.out
        clear hI
        have HT : Hid (65536 < s → sizeE l = 2 ∧ sizeN l = 0) := Lib.hid (fun h => by
          have h1 := sumT_take Hn.out j
          rw [← hJ.out] at h1
          have h2 : sizeE l = 2 := by unfold sizeE; rw [if_pos Hn.out, if_pos (by omega)]
          exact ⟨h2, by unfold sizeN; rw [if_neg (by rw [h2]; decide)]⟩)
        rcases Nat.lt_or_ge j l.length with hjl | hjl
        · by_cases h6 : s ≤ 65536
          · as_aux_lemma =>
              obtain ⟨g, o, rfl, hg, d1, d2, d3⟩ := (Hs.out.keep HK.out (by simp)).1 j hjl
              have htk : l.take (j + 1) = l.take j ++ [l[j]] := List.take_succ_eq_append_getElem hjl
              have hjli : (j : Int) < l.length := by omega
              have hwj : IntKind.i64.wrap ((j : Int) + 1) = (j : Int) + 1 := by rw [IntKind.wrap_i64]; omega
              have hln := okT_len (all_get Hn.out hjl)
              have HS : Hid (s + l[j].2.1 = sumT (l.take (j + 1))) := Lib.hid (by rw [htk, sumT_snoc, hJ.out])
              generalize l[j] = t at *
              obtain ⟨d, n, x⟩ := t
              dsimp only at d1 d2 d3 hln HS
              have hwn : IntKind.i64.wrap (s + n) = s + n := by rw [IntKind.wrap_i64]; omega
              clear hJ htk
              go_wp2
              exact ⟨⟨j + 1, s + n, by simp, rfl, by omega, by omega, by omega, HS⟩, by simp [intOf]; omega⟩
          · obtain ⟨e1, e2⟩ := HT.out (by omega)
            have He := Lib.hid (And.intro e1 e2)
            have h6' : 65536 < s := by omega
            have hjli : (j : Int) < l.length := by omega
            clear e1 e2 hJ HT
            go_wp2
            go_ret2
            exact ⟨by rw [He.out.1, He.out.2]; rfl, HK.out⟩
        · have hjli : ¬ (j : Int) < l.length := by omega
          by_cases h6 : 65536 < s
          · obtain ⟨e1, e2⟩ := HT.out h6
            have He := Lib.hid (And.intro e1 e2)
            clear e1 e2 hJ HT hjl
            go_wp2
            go_ret2
            exact ⟨by rw [He.out.1, He.out.2]; rfl, HK.out⟩
          · have hE : Hid (sizeE l = 0 ∧ sizeN l = s) := by
              have h1 : s = sumT l := by rw [hJ.out, List.take_of_length_le hjl]
              have h2 : sizeE l = 0 := by unfold sizeE; rw [if_pos Hn.out, if_neg (by omega)]
              exact Lib.hid ⟨h2, by unfold sizeN; rw [if_pos h2, h1]⟩
            clear hJ hjl HT
            go_wp2
            go_ret2
            exact ⟨by rw [hE.out.1, hE.out.2]; rfl, HK.out⟩
theorem rsize_any (l : List Tk) (A : Option Addr) (c : Nat) (w : World) (hs : TSrc w A l) (hl : l.length ≤ 1000000000) :
    Calls Try.prog 33 #[.slice A l.length c] w fun e w' => e = .returned (.tuple #[.int .i64 (sizeN l), .int .i64 (sizeE l)]) ∧ Keep [] w w' := by
  cases h : l.all okT with
  | true => exact rsize_ok l A c w hs hl h
  | false =>
    obtain ⟨h1, h2⟩ := sizeE_bad h
    rw [h1, h2]
    exact rsize_bad l A c w hs hl h
end Go.Proofs.Ytiejjbdmkgdniaa
set_option linter.unusedVariables false
set_option linter.unusedSimpArgs false
namespace Go.Proofs.Ytiejjbdmkgdniaa
open Go.RowKit Go.Sal Go.Huf Go.Cod
theorem cut_any (A : Option Addr) (n c : Nat) (w : World) (hn : n ≤ c) (hc : c ≤ maxLen) : Calls Try.prog 14 #[.slice A n c] w fun e w' => e = .returned (.slice A (min n 700) c) ∧ w = w' := by
  unfold maxLen at hc
  by_cases h : 700 < n
  · have hm : min n 700 = 700 := by omega
    have hi : (700 : Int) < (n : Int) := by omega
    have hsl : ∀ W, (Instr.slice 24 (.slice A n c) none (some (.int .i64 700)) none).run Try.prog W = .ok (.slice A 700 c) W := fun W => slice_head (P := Try.prog) 24 5 Try.underlying24 A n c 700 (by omega) W 1 (by kernel_rfl)
    rw [hm]
    clear hm
    go_enter Try.func14, Try.ntmps14
    go_wp2
    go_ret
    exact ⟨rfl, rfl⟩
  · have hm : min n 700 = n := by omega
    have hi : ¬ (700 : Int) < (n : Int) := by omega
    rw [hm]
    clear hm
    go_enter Try.func14, Try.ntmps14
    go_wp2
    go_ret
    exact ⟨rfl, rfl⟩
theorem few_any (A : Option Addr) (n c : Nat) (w : World) (hn : n ≤ c) (hc : c ≤ maxLen) : Calls Try.prog 10 #[.slice A n c] w fun e w' => e = .returned (.slice A (min n 80) c) ∧ w = w' := by
  unfold maxLen at hc
  by_cases h : 80 < n
  · have hm : min n 80 = 80 := by omega
    have hi : (80 : Int) < (n : Int) := by omega
    have hsl : ∀ W, (Instr.slice 22 (.slice A n c) none (some (.int .i64 80)) none).run Try.prog W = .ok (.slice A 80 c) W := fun W => slice_head (P := Try.prog) 22 64 Try.underlying22 A n c 80 (by omega) W 3 (by kernel_rfl)
    rw [hm]
    clear hm
    go_enter Try.func10, Try.ntmps10
    go_wp2
    go_ret
    exact ⟨rfl, rfl⟩
  · have hm : min n 80 = n := by omega
    have hi : ¬ (80 : Int) < (n : Int) := by omega
    rw [hm]
    clear hm
    go_enter Try.func10, Try.ntmps10
    go_wp2
    go_ret
    exact ⟨rfl, rfl⟩
end Go.Proofs.Ytiejjbdmkgdniaa
