/-
  DERIVED: THE SHELF's CONTRACTS AT THIS DUMP, IN PLAIN WORDS (tools/lay-plain.mjs out of 'TryShelf.lean', which tools/lay-shelf.mjs wrote): THE SAME DECLARATIONS UNDER THE SAME NAMES: 'import', 'namespace', 'open', 'def', 'theorem' AND NOTHING ELSE: no command of the shelf's: FOR A HAND-IN. Each laying: the table of numbers ('.._ren') and one theorem, a field a fact of the dump's own or the kernel's comparison; each contract: ONE APPLICATION.
-/
import Derived.Test.YtdnaahbhfjclpaaGreatDoorK3
import Derived.Test.YtdnaahbhfjclpaaGreatDoorCp1
import Derived.Deep.QuietTactic
import Derived.BigQuiet
import Derived.Deep.Cut
import Derived.Laws.Panics
import Derived.WalkLawsBesides
import Derived.Shelf.Small.Bits
import Derived.Shelf.Strconv.Itoa0
import Derived.Shelf.Bits.Mul64
import Derived.Ground.Names2Prog
import Derived.Shelf.Slices.Clone
import Derived.Shelf.Bytes.SlSearch0
import Derived.Ground.SlbCloneProg
import Derived.Shelf.Bytes.SlClone
import Derived.Shelf.Bytes.SlEqualAll
import Derived.Shelf.Bytes.Small
import Derived.Test.YtdnaahbhfjclpaaGreatDoorProg
set_option linter.unusedVariables false
set_option linter.unusedSimpArgs false
namespace Go.Proofs.YtdnaahbhfjclpaaGreatDoor
open Go.RowKit Go.Sal Go.Huf Go.Cod
theorem or64 {a b : Nat} (ha : a < 18446744073709551616) (hb : b < 18446744073709551616) : (BitVec.ofInt 64 (a : Int) ||| BitVec.ofInt 64 (b : Int)).toNat = a ||| b := by
  rw [BitVec.toNat_or, BitVec.ofInt_natCast, BitVec.ofInt_natCast, BitVec.toNat_ofNat, BitVec.toNat_ofNat, Nat.mod_eq_of_lt (by omega), Nat.mod_eq_of_lt (by omega)]
theorem bits_or_u64 {a b : Nat} (ha : a < 18446744073709551616) (hb : b < 18446744073709551616) (hc : a ||| b < 18446744073709551616) : bits .or .u64 (a : Int) (b : Int) = ((a ||| b : Nat) : Int) := by
  show IntKind.u64.wrap ((BitVec.ofInt 64 (a : Int) ||| BitVec.ofInt 64 (b : Int)).toNat : Int) = _
  rw [or64 ha hb, IntKind.wrap_u64]
  omega
theorem bits_and_u8 {v : Nat} (hv : v < 256) : bits .and .u8 (v : Int) 127 = ((v % 128 : Nat) : Int) := by
  show IntKind.u8.wrap ((BitVec.ofInt 8 (v : Int) &&& BitVec.ofInt 8 127).toNat : Int) = _
  have e : (BitVec.ofInt 8 (v : Int) &&& BitVec.ofInt 8 127).toNat = v % 128 := by
    rw [BitVec.toNat_and, BitVec.toNat_ofInt, BitVec.toNat_ofInt]
    have e1 : ((v : Int) % ((2 ^ 8 : Nat) : Int)).toNat = v := by omega
    rw [e1, show ((127 : Int) % ((2 ^ 8 : Nat) : Int)).toNat = 2 ^ 7 - 1 by rfl, Nat.and_two_pow_sub_one_eq_mod]
  rw [e, IntKind.wrap_u8]
  omega
theorem two7 (k : Nat) : 2 ^ (7 * k) = 128 ^ k := by rw [Nat.pow_mul]
theorem or_put {acc vm k : Nat} (h : acc < 128 ^ k) : acc ||| vm * 128 ^ k = acc + vm * 128 ^ k := by
  rw [← two7] at h ⊢
  have := Nat.two_pow_add_eq_or_of_lt h vm
  rw [Nat.or_comm, Nat.mul_comm vm, ← this, Nat.add_comm]
set_option maxRecDepth 20000 in
set_option maxHeartbeats 4000000 in
theorem read_any (bl : List Nat) (A : Option Addr) (c : Nat) (w : World) (hs : BySrc w A bl) (hl : bl.length ≤ 1000000000) :
    Calls Tryz.prog 130 #[.slice A bl.length c] w fun e w' => RdE (rdV 0 bl) e ∧ w = w' := by
  have Hs := Lib.hid hs
  have H0 := Lib.hid (RI.start bl)
  clear hs
  go_enter Tryz.func130, Tryz.ntmps130
  go_wp2
  go_loop [5, 11] (fun vx vi => ∃ k acc : Nat, vi = .int .i64 k ∧ vx = .int .u64 acc ∧ k ≤ bl.length ∧ k ≤ 9 ∧ acc < 9223372036854775808 ∧ Hid (RI bl k acc)) (fun _ vi => bl.length - (intOf vi).toNat)
  case atStart => exact ⟨0, 0, rfl, rfl, by omega, by omega, by omega, H0⟩
  case round =>
    obtain ⟨k, acc, rfl, rfl, hk, hk9, hacc, hI⟩ := hrel
    clear H0
    rcases Nat.lt_or_ge k bl.length with hkl | hkl
    · as_aux_lemma =>
        obtain ⟨g, o, rfl, hg, d1⟩ := Hs.out.1 k hkl
        have hv := Hs.out.2 _ (List.getElem_mem hkl)
        have Hbad := Lib.hid (fun hc => hI.out.bad hkl hc)
        have Hlast := Lib.hid (fun hc hl => hI.out.last hkl hc hl)
        have Hnext := Lib.hid (fun hc hl => hI.out.next hkl hc hl hv)
        have Hsc := Lib.hid hI.out.2.2.1
        generalize bl[k] = v at *
        have hkli : (k : Int) < bl.length := by omega
        have hwk : IntKind.i64.wrap ((k : Int) + 1) = (k : Int) + 1 := by rw [IntKind.wrap_i64]; omega
        have hw7 : IntKind.i64.wrap (7 * (k : Int)) = ((7 * k : Nat) : Int) := by rw [IntKind.wrap_i64]; omega
        have hw7b : IntKind.u64.wrap ((7 * k : Nat) : Int) = ((7 * k : Nat) : Int) := by rw [IntKind.wrap_u64]; omega
        have hand := bits_and_u8 hv
        have hwm2 : IntKind.u64.wrap ((v % 128 : Nat) : Int) = ((v % 128 : Nat) : Int) := by rw [IntKind.wrap_u64]; omega
        clear hI
        by_cases hbad : k = 9 ∧ v ≠ 1 ∨ 0 < k ∧ v = 0
        · have HR := Lib.hid (Hbad.out hbad)
          clear Hbad Hlast Hnext hw7 hw7b hand hwm2
          rcases hbad with ⟨h9, hv1⟩ | ⟨h0, hv0⟩
          · subst h9
            have hvn : ((v : Int) != 1) = true := by simp; omega
            clear hwk hk hk9 hacc
            by_cases hl : v < 128
            · have hli : (v : Int) < 128 := by omega
              go_wp2
              go_ret3
              exact ⟨by rw [HR.out]; exact RdE.none_ (by decide), rfl⟩
            · have hli : ¬ (v : Int) < 128 := by omega
              go_wp2
              go_ret3
              exact ⟨by rw [HR.out]; exact RdE.none_ (by decide), rfl⟩
          · subst hv0
            have hk0 : (0 : Int) < k := by omega
            by_cases h9 : k = 9
            · subst h9
              clear hwk hk hk9 hacc
              go_wp2
              go_ret3
              exact ⟨by rw [HR.out]; exact RdE.none_ (by decide), rfl⟩
            · have hd : ((k : Int) == 9) = false := by simp; omega
              go_wp2
              go_ret3
              exact ⟨by rw [HR.out]; exact RdE.none_ (by decide), rfl⟩
        · have hm127 : v % 128 ≤ 127 := by omega
          obtain ⟨p, hp⟩ : ∃ p, p = (v % 128) * 128 ^ k := ⟨_, rfl⟩
          have hpb : p ≤ 9223372036854775808 ∧ acc + p < 18446744073709551616 ∧ (k ≤ 8 → acc + p < 9223372036854775808) := by
            by_cases h9 : k = 9
            · have hv1 : v = 1 := by omega
              subst hv1
              subst h9
              have hp2 : p = 9223372036854775808 := hp
              omega
            · have := Nat.pow_le_pow_right (n := 128) (by omega) (show k ≤ 8 by omega)
              have h1 : 128 ^ k ≤ 72057594037927936 := Nat.le_trans this (by decide)
              have h2 : p ≤ 127 * 128 ^ k := by rw [hp]; exact Nat.mul_le_mul_right _ hm127
              have h3 := Hsc.out
              generalize 128 ^ k = P at *
              omega
          have hsh : IntKind.u64.wrap (((v % 128 : Nat) : Int) * 2 ^ (7 * k)) = (p : Int) := by
            rw [IntKind.wrap_u64]
            have : ((v % 128 : Nat) : Int) * 2 ^ (7 * k) = (p : Int) := by rw [hp, ← two7]; simp
            rw [this]
            omega
          have hor : bits .or .u64 (acc : Int) (p : Int) = ((acc + p : Nat) : Int) := by
            have h1 : acc ||| p = acc + p := by rw [hp]; exact or_put Hsc.out
            rw [bits_or_u64 (by omega) (by omega) (by omega), h1]
          have Hlast2 : Hid (v < 128 → rdV 0 bl = some (acc + p, k + 1)) := Lib.hid (fun h => by
            rw [Hlast.out hbad h, hp, Nat.mod_eq_of_lt h, Nat.mul_comm])
          have Hnext2 : Hid (¬ v < 128 → k ≤ 8 ∧ RI bl (k + 1) (acc + p)) := Lib.hid (fun h => ⟨by omega, by
            have := Hnext.out hbad h
            rw [show v - 128 = v % 128 by omega, Nat.mul_comm, ← hp] at this
            exact this⟩)
          have Hpb := Lib.hid hpb
          have hdv0 : 0 < k → ((v : Int) == 0) = false := fun h => by simp; omega
          have hdv1 : k = 9 → ((v : Int) != 1) = false := fun h => by simp; omega
          have Hp0 : Hid (k = 0 → p = v % 128) := Lib.hid (fun h => by rw [hp, h]; simp)
          clear Hbad Hlast Hnext Hsc hp hpb
          generalize v % 128 = vm at *
          by_cases hl : v < 128
          · have HR := Lib.hid (Hlast2.out hl)
            have hli : (v : Int) < 128 := by omega
            clear Hlast2 Hnext2 hbad
            by_cases h9 : k = 9
            · have hv1 := hdv1 h9
              have hv0 := hdv0 (by omega)
              subst h9
              have hsh9 : IntKind.u64.wrap ((vm : Int) * 9223372036854775808) = (p : Int) := by simpa using hsh
              clear hdv0 hdv1 hwk hk hk9 hw7 hw7b hsh
              go_wp2
              go_ret3
              exact ⟨by rw [HR.out]; rfl, rfl⟩
            · have hd : ((k : Int) == 9) = false := by simp; omega
              rcases Nat.eq_zero_or_pos k with h0 | h0
              · subst h0
                rw [Nat.add_zero] at d1
                obtain rfl := Hp0.out rfl
                clear hdv0 hdv1 hd hw7 hw7b hsh Hp0
                by_cases hvz : v = 0
                · have hv0 : ((v : Int) == 0) = true := by simpa using hvz
                  clear hvz
                  go_wp2
                  go_ret3
                  exact ⟨by rw [HR.out]; rfl, rfl⟩
                · have hv0 : ((v : Int) == 0) = false := by simpa using hvz
                  clear hvz
                  go_wp2
                  go_ret3
                  exact ⟨by rw [HR.out]; rfl, rfl⟩
              · have hv0 := hdv0 h0
                clear hdv0 hdv1
                go_wp2
                go_ret3
                exact ⟨by rw [HR.out]; rfl, rfl⟩
          · have HN := Lib.hid (Hnext2.out hl)
            have h8 := HN.out.1
            have HB := Lib.hid (Hpb.out.2.2 h8)
            have hli : ¬ (v : Int) < 128 := by omega
            have hd : ((k : Int) == 9) = false := by simp; omega
            clear Hlast2 Hnext2 hbad hdv1
            rcases Nat.eq_zero_or_pos k with h0 | h0
            · subst h0
              rw [Nat.add_zero] at d1
              obtain rfl := Hp0.out rfl
              clear hdv0 hd hw7 hw7b hsh Hp0
              go_wp2
              exact ⟨⟨1, _, rfl, rfl, by omega, by omega, HB.out, Lib.hid HN.out.2⟩, by simp [intOf]; omega⟩
            · have hv0 := hdv0 h0
              clear hdv0
              go_wp2
              exact ⟨⟨k + 1, _, by simp, rfl, by omega, by omega, HB.out, Lib.hid HN.out.2⟩, by simp [intOf]; omega⟩
    · have HR := Lib.hid (hI.out.ends (by omega))
      have hkli : ¬ (k : Int) < bl.length := by omega
      clear hI
      go_wp2
      go_ret3
      exact ⟨by rw [HR.out]; exact RdE.none_ (by decide), rfl⟩
end Go.Proofs.YtdnaahbhfjclpaaGreatDoor

namespace Go.Cod
open Go.Huf
theorem runK_le (x : Int) (l : List Int) : runK x l ≤ l.length := (List.takeWhile_sublist _).length_le
theorem runK_stop {x : Int} : ∀ {l : List Int} {m : Nat}, (∀ j, j < m → l[j]? = some x) → (∀ y, l[m]? = some y → y ≠ x) → runK x l = m
  | [], m, h, _ => by
    cases m with
    | zero => simp [runK]
    | succ m => have := h 0 (by omega); simp at this
  | a :: l, m, h, he => by
    cases m with
    | zero =>
      have := he a (by simp)
      simp [runK, List.takeWhile_cons, this]
    | succ m =>
      have h0 := h 0 (by omega)
      simp at h0
      have ih := runK_stop (l := l) (m := m) (fun j hj => by have := h (j + 1) (by omega); simpa using this) (fun y hy => he y (by simpa using hy))
      unfold runK at ih ⊢
      simp [List.takeWhile_cons, h0, ih]
theorem runF_more : ∀ (f g : Nat) (l : List Int), l.length ≤ f → l.length ≤ g → runF f l = runF g l
  | 0, 0, _, _, _ => rfl
  | 0, g + 1, [], _, _ => rfl
  | f + 1, 0, [], _, _ => rfl
  | f + 1, g + 1, [], _, _ => rfl
  | 0, g + 1, x :: l, h, _ => by simp at h
  | f + 1, 0, x :: l, _, h => by simp at h
  | f + 1, g + 1, x :: l, h1, h2 => by
    rw [runF, runF]
    simp only [List.length_cons] at h1 h2
    rw [runF_more f g (l.drop (runK x l)) (by rw [List.length_drop]; omega) (by rw [List.length_drop]; omega)]
theorem runs_cons (x : Int) (l : List Int) : runsP (x :: l) = x.toNat :: (varP (runK x l + 1) ++ runsP (l.drop (runK x l))) := by
  unfold runsP
  rw [List.length_cons, runF, runF_more l.length (l.drop (runK x l)).length (l.drop (runK x l)) (by rw [List.length_drop]; omega) (Nat.le_refl _)]
theorem runs_drop {l : List Int} {i m : Nat} (hi : i < l.length) (h : ∀ j, i ≤ j → j < i + m → l[j]? = some l[i]) (hm : 1 ≤ m) (he : ∀ y, l[i + m]? = some y → y ≠ l[i]) :
    runsP (l.drop i) = l[i].toNat :: (varP m ++ runsP (l.drop (i + m))) := by
  have hr : runK l[i] (l.drop (i + 1)) = m - 1 := runK_stop (fun j hj => by rw [List.getElem?_drop]; exact h _ (by omega) (by omega)) (fun y hy => he y (by rw [List.getElem?_drop, show i + 1 + (m - 1) = i + m by omega] at hy; exact hy))
  rw [List.drop_eq_getElem_cons hi, runs_cons, hr, List.drop_drop, show m - 1 + 1 = m by omega, show i + 1 + (m - 1) = i + m by omega]
theorem varF_len : ∀ f x, (varF f x).length ≤ f + 1
  | 0, x => by simp [varF]
  | f + 1, x => by
    rw [varF]
    split
    · simp
    · have := varF_len f (x / 128); simp; omega
theorem varP_len (x : Nat) : (varP x).length ≤ 10 := varF_len 9 x
end Go.Cod
namespace Go.Proofs.YtdnaahbhfjclpaaGreatDoor
open Go.RowKit Go.Sal Go.Huf Go.Cod
def RNI (w : World) (l : List Int) (out : List Nat) (i : Nat) (A : Option Addr) (c : Nat) (wr : World) : Prop :=
  wr.ownsRow w.heap.size 5 1 (.slice A out.length c) out.length (inB out) ∧ Keep [] w wr ∧ runsP l = out ++ runsP (l.drop i) ∧ out.length ≤ 11 * i
theorem drewN2 (w : World) (p q : Nat) : (w.drewN p).drewN q = w.drewN (p + q) := by simp [World.drewN, Nat.add_assoc]
theorem own_far {w : World} {base n c : Nat} {A : Option Addr} {e : TypeId} {size : Nat} {xs : List Value} (h : w.ownsRow base e size (.slice A n c) n xs) : ∀ i, i ∈ (Value.slice A n c).ownBlock.toList → base ≤ i := by
  intro i hi
  rcases h.2 with ⟨h0, _⟩ | ⟨g, cap, cur, h0, hg, _⟩
  · rw [h0] at hi; simp [Value.ownBlock] at hi
  · rw [h0] at hi; simp [Value.ownBlock] at hi; omega
theorem RNI.step {w wr : World} {l : List Int} {out : List Nat} {i c m : Nat} {A : Option Addr} (h : RNI w l out i A c wr) (hi : i < l.length) (hl : l.length ≤ 10000)
    (hr : runsP (l.drop i) = l[i].toNat :: (varP m ++ runsP (l.drop (i + m)))) (hm : 1 ≤ m) :
    ∃ A1 c1 w1, (Builtin.append_ #[22, 22] 22 #[.slice A out.length c, .slice (some ⟨wr.heap.size, 0, none⟩) 1 1]).run Tryz.prog (wr.alloc (.cells #[.int .u8 (l[i].toNat : Nat)] 5)) = .ok (.slice A1 (out.length + 1) c1) w1 ∧
      ∀ A2 c2 w2, w2.ownsRow w1.heap.size 5 1 (.slice A2 (varP m).length c2) (varP m).length (inB (varP m)) → Keep [] w1 w2 →
        ∃ A3 c3 w3, (Builtin.append_ #[22, 22] 22 #[.slice A1 (out.length + 1) c1, .slice A2 (varP m).length c2]).run Tryz.prog w2 = .ok (.slice A3 (out ++ l[i].toNat :: varP m).length c3) w3 ∧
          RNI w l (out ++ l[i].toNat :: varP m) (i + m) A3 c3 w3 := by
  obtain ⟨hown, hk, he, hlen⟩ := h
  obtain ⟨A1, c1, w1, hrun, hown1, hk1⟩ := byte_app hown l[i].toNat (by omega) hk.size
  refine ⟨A1, c1, w1, hrun, fun A2 c2 w2 h2 hk2 => ?_⟩
  have hka : Keep [] w w1 := hk.step hk1 (fun j hj => .inr (own_far hown j hj))
  have hv := varP_len m
  obtain ⟨A3, c3, w3, hrun3, hown3, hk3⟩ := bytes_app (d := c2) (ownsRow_keep hown1 hk2 (by simp)) (Src.of_own h2) (by omega) (by omega) ((hka.trans hk2).size)
  have e : (out ++ l[i].toNat :: varP m).length = out.length + 1 + (varP m).length := by simp; omega
  have e2 : out ++ [l[i].toNat] ++ varP m = out ++ l[i].toNat :: varP m := by simp
  rw [e2] at hown3
  refine ⟨A3, c3, w3, by rw [e]; exact hrun3, by rw [e]; exact hown3, (hka.trans hk2).step hk3 (fun j hj => .inr (own_far hown1 j hj)), ?_, by rw [e]; omega⟩
  rw [he, hr]; simp
set_option maxRecDepth 20000 in
set_option maxHeartbeats 4000000 in
theorem runs_any (l : List Int) (A : Option Addr) (c : Nat) (w : World) (hs : ISrc w A l) (hl : l.length ≤ 10000) (hg : ∀ n ∈ l, 0 ≤ n ∧ n ≤ 255) :
    Calls Tryz.prog 106 #[.slice A l.length c] w fun e w' => RowB w (runsP l) e w' := by
  have Hs := Lib.hid hs
  have Hg := Lib.hid hg
  have H0 : Hid (RNI w l [] 0 none 0 w) := Lib.hid ⟨World.ownsRow_nil _ _ _ _, Keep.refl _ _, by simp, by simp⟩
  clear hs hg
  go_enter Tryz.func106, Tryz.ntmps106
  go_wp2
  go_loopw [3, 4] (fun vo vi wr => ∃ (n i : Nat) (out : List Nat) (A3 : Option Addr) (c3 : Nat), vi = .int .i64 i ∧ i ≤ l.length ∧ vo = .slice A3 n c3 ∧ Hid (n = out.length ∧ RNI w l out i A3 c3 wr)) (fun _ vi _ => l.length - (intOf vi).toNat)
  case atStart => exact ⟨0, 0, [], none, 0, rfl, by omega, rfl, Lib.hid ⟨rfl, H0.out⟩⟩
  case round =>
    obtain ⟨n, i, out, A3, c3, rfl, hi, rfl, hI⟩ := hrel
    clear H0
    rcases Nat.lt_or_ge i l.length with hil | hil
    · have hili : (i : Int) < l.length := by omega
      obtain ⟨g, o, rfl, hg0, d1⟩ := (Hs.out.keep hI.out.2.2.1 (by simp)) i hil
      obtain ⟨wo, rfl⟩ : ∃ wo : World, wo = wr := ⟨_, rfl⟩
      go_upto_block 2 with fail
      go_cut [5] (fun v5 wx => ∃ (z q : Nat), v5 = .int .i64 z ∧ i + 1 ≤ z ∧ z ≤ l.length ∧ wx = wo.drewN q ∧ Hid (runsP (l.drop i) = l[i].toNat :: (varP (z - i) ++ runsP (l.drop z))))
      case first =>
        go_wp2_with fail
        go_loopw [5] (fun v5 wx => ∃ (z q : Nat), v5 = .int .i64 z ∧ i ≤ z ∧ z ≤ l.length ∧ wx = wo.drewN q ∧ Hid (∀ j, i ≤ j → j < z → l[j]? = some l[i])) (fun v5 _ => l.length - (intOf v5).toNat)
        case atStart => exact ⟨i, 0, rfl, by omega, by omega, rfl, Lib.hid (fun j h1 h2 => by omega)⟩
        case round =>
          obtain ⟨z, q, rfl, hz1, hz2, rfl, hJ⟩ := hrel
          have hwz : IntKind.i64.wrap ((z : Int) + 1) = (z : Int) + 1 := by rw [IntKind.wrap_i64]; omega
          rcases Nat.lt_or_ge z l.length with hzl | hzl
          · have hzi : (z : Int) < l.length := by omega
            have hzn : decide (z < l.length) = true := decide_eq_true hzl
            have hzn2 : decide ((z : Int) < (l.length : Int)) = true := decide_eq_true hzi
            obtain ⟨g', o', e, _, d2⟩ := (Hs.out.keep hI.out.2.2.1 (by simp)) z hzl
            injection e with e
            injection e with e1 e2
            subst e1; subst e2
            have Hyes : Hid (l[z] = l[i] → ∀ j, i ≤ j → j < z + 1 → l[j]? = some l[i]) := Lib.hid (fun he j h1 h2 => by
              rcases Nat.lt_succ_iff_lt_or_eq.1 h2 with h | rfl
              · exact hJ.out j h1 h
              · rw [List.getElem?_eq_getElem hzl, he])
            have Hno : Hid (l[z] ≠ l[i] → i + 1 ≤ z ∧ runsP (l.drop i) = l[i].toNat :: (varP (z - i) ++ runsP (l.drop z))) := Lib.hid (fun he => by
              have hne : i ≠ z := by rintro rfl; exact he rfl
              have := runs_drop (m := z - i) hil (fun j h1 h2 => hJ.out j h1 (by omega)) (by omega) (fun y hy => by
                rw [show i + (z - i) = z by omega, List.getElem?_eq_getElem hzl] at hy
                cases hy; exact he)
              rw [show i + (z - i) = z by omega] at this
              exact ⟨by omega, this⟩)
            generalize l[z] = y at *
            generalize l[i].toNat = xn at *
            generalize l[i] = x at *
            clear hJ
            by_cases hy : y = x
            · subst hy
              have HS := Lib.hid (Hyes.out rfl)
              clear Hyes Hno
              go_wp2
              go_quiet (fail)
              go_wp2
              go_roundw
              case rel => exact ⟨z + 1, _, by simp, by omega, by omega, rfl, HS⟩
              case measure => simp [intOf]; omega
            · have hyb : (y == x) = false := by simpa using hy
              have HE := Lib.hid (Hno.out hy)
              clear Hyes Hno hy
              go_wp2
              go_quiet (fail)
              go_wp2
              go_meet
              exact ⟨z, _, rfl, HE.out.1, by omega, drewN2 _ _ _, Lib.hid HE.out.2⟩
          · obtain rfl : z = l.length := by omega
            have hzi : ¬ ((l.length : Nat) : Int) < l.length := by omega
            have hzn : decide (l.length < l.length) = false := decide_eq_false (by omega)
            have hzn2 : decide ((l.length : Int) < (l.length : Int)) = false := decide_eq_false hzi
            have HE : Hid (runsP (l.drop i) = l[i].toNat :: (varP (l.length - i) ++ runsP (l.drop l.length))) := by
              have := runs_drop (m := l.length - i) hil (fun j h1 h2 => hJ.out j h1 (by omega)) (by omega) (fun y hy => by
                rw [List.getElem?_eq_none_iff.2 (by omega)] at hy
                cases hy)
              rw [show i + (l.length - i) = l.length by omega] at this
              exact Lib.hid this
            clear hJ
            go_wp2
            go_quiet (fail)
            go_wp2
            go_meet
            exact ⟨l.length, _, rfl, by omega, by omega, drewN2 _ _ _, HE⟩
      case rest =>
        obtain ⟨z, q, rfl, hz1, hz2, rfl, hR⟩ := hcut
        obtain ⟨hn, hV⟩ := hI.out
        have hV2 : RNI w l out i A3 c3 (wo.drewN q) := ⟨hV.1, hV.2.1.drewN q, hV.2.2⟩
        have hxg := Hg.out _ (List.getElem_mem hil)
        obtain ⟨m, hm⟩ : ∃ m, z - i = m := ⟨_, rfl⟩
        have hR2 := hR.out
        rw [hm, show z = i + m by omega] at hR2
        obtain ⟨A1, c1, w1, hrun, hst⟩ := hV2.step hil hl hR2 (by omega)
        rw [← hn] at hrun hst
        have Hst := Lib.hid hst
        have Hrun := Lib.hid hrun
        have hwx : IntKind.u8.wrap l[i] = (l[i].toNat : Int) := by rw [IntKind.wrap_u8]; omega
        have hwz : IntKind.i64.wrap ((z : Int) - (i : Int)) = (m : Int) := by rw [IntKind.wrap_i64]; omega
        have hwm : IntKind.u64.wrap (m : Int) = (m : Int) := by rw [IntKind.wrap_u64]; omega
        have HV := Lib.hid (fun w => varint_any m w (by omega))
        have Hz := Lib.hid (show i + m = z by omega)
        have hiz : i < z := by omega
        clear hI hn hV hV2 hR hR2 hrun hst hm hxg
        generalize l[i].toNat = xn at *
        generalize l[i] = x at *
        have hap := Hrun.out
        go_wp2_with (first
          | (at_builtin; refine wpList_append2 (v1 := .slice A3 n c3) (v2 := .slice (some ⟨wo.heap.size, 0, none⟩) 1 1) rfl (.tmp 28) (.tmp 34) rfl rfl rfl hap ?_)
          | (go_at_call 68; refine (HV.out _).mono ?_; rintro e w2 ⟨A5, c5, rfl, hown5, hk5⟩; obtain ⟨A6, c6, w6, hap2, hN⟩ := Hst.out A5 c5 _ hown5 hk5; have HN := Lib.hid hN; clear hN hown5 hk5 hap; generalize (varP m).length = vl at *)
          | (at_builtin; refine wpList_append2 (v1 := .slice A1 (n + 1) c1) (v2 := .slice A5 vl c5) rfl (.tmp 35) (.tmp 40) rfl rfl rfl hap2 ?_))
        go_roundw
        case rel => exact ⟨_, z, out ++ xn :: varP m, A6, c6, rfl, by omega, rfl, Lib.hid ⟨by simp, by rw [← Hz.out]; exact HN.out⟩⟩
        case measure => simp [intOf]; omega
    · obtain rfl : i = l.length := by omega
      have hili : ¬ (l.length : Int) < l.length := by omega
      have HR : Hid (RowB w (runsP l) (.returned (.slice A3 n c3)) wr) := by
        obtain ⟨hn, hown, hk, he, _⟩ := hI.out
        rw [List.drop_of_length_le (Nat.le_refl _)] at he
        have he' : runsP l = out := by rw [he]; simp [runsP, runF]
        rw [he', hn]
        exact Lib.hid ⟨A3, c3, rfl, hown, hk⟩
      clear hI
      go_wp2
      go_ret
      exact HR.out
end Go.Proofs.YtdnaahbhfjclpaaGreatDoor

namespace Go.Proofs.YtdnaahbhfjclpaaGreatDoor
open Go.RowKit Go.Sal Go.Huf Go.Cod
def PN : List PanicEntry := [{ v := .iface 129 (.agg #[]), recovered := false }]
theorem must_yes (w : World) : Calls Tryz.prog 58 #[.bool true] w fun e w' => e = .returned (.tuple #[]) ∧ w = w' := by
  go_enter Tryz.func58, Tryz.ntmps58
  go_wp2
  refine bodyPost_end (results_none rfl _ _ _) rfl ?_
  exact ⟨rfl, rfl⟩
theorem must_no (w : World) : Calls Tryz.prog 58 #[.bool false] w fun e w' => e = .panicked PN ∧ Keep [] w w' := by
  go_enter Tryz.func58, Tryz.ntmps58
  go_wp2
  exact ⟨rfl, rfl, Keep.refl _ _⟩
def LF (T gl : Nat) (bl : List Nat) (bit : Nat) (w : World) : Prop := ∃ A c, Blk w gl T #[.slice A bl.length c, .int .i64 (bit : Nat)] ∧ BySrc w A bl ∧ bl.length ≤ c ∧ ∀ a, A = some a → a.block < gl
theorem bsrc_tail {w : World} {A : Option Addr} {bl : List Nat} {c k : Nat} (h : BySrc w A bl) (hk : k ≤ bl.length) (hc : bl.length ≤ c) :
    BySrc w (if c = k then A else A.map (·.add (k * 1))) (bl.drop k) ∧ (bl.drop k).length = bl.length - k ∧ (bl.drop k).length ≤ c - k ∧ ∀ a, (if c = k then A else A.map (·.add (k * 1))) = some a → ∃ a', A = some a' ∧ a.block = a'.block := by
  refine ⟨⟨fun i hi => ?_, fun x hx => h.2 x (List.mem_of_mem_drop hx)⟩, List.length_drop, by rw [List.length_drop]; omega, fun a ha => ?_⟩
  · rw [List.length_drop] at hi
    rw [if_neg (by omega)]
    obtain ⟨g, o, rfl, hg, hc⟩ := h.1 (k + i) (by omega)
    refine ⟨g, o + k, by simp [add_mk], hg, ?_⟩
    rw [Nat.add_assoc, hc, List.getElem_drop]
  · split at ha
    · exact ⟨a, ha, rfl⟩
    · cases A with
      | none => cases ha
      | some a' =>
        simp at ha
        exact ⟨a', rfl, by rw [← ha, add_block]⟩
set_option maxRecDepth 20000 in
set_option maxHeartbeats 2000000 in
theorem varint_ok (T gl : Nat) (bl : List Nat) (bit most x n : Nat) (w : World) (h : LF T gl bl bit w) (hl : bl.length ≤ 1000000) (hm : most ≤ 100000) (hx : rdV 0 bl = some (x, n)) (hle : x ≤ most) :
    Calls Tryz.prog 88 #[.pointer (some ⟨gl, 0, none⟩), .int .u64 (most : Nat)] w fun e w' => e = .returned (.int .i64 (x : Nat)) ∧ LF T gl (bl.drop n) bit w' ∧ Keep [gl] w w' := by
  obtain ⟨A, c, hb, hs, hc, hne⟩ := h
  have hbd := rdV_bd bl 0 x n hs.2 (by omega) hx
  have HR := Lib.hid (read_any bl A c w hs (by omega))
  rw [hx] at HR
  have m0 : w.cell? ⟨gl, 0, none⟩ = some (.slice A bl.length c) := hb.cell 0
  have m1 : w.cell? ⟨gl, 1, none⟩ = some (.int .i64 (bit : Nat)) := hb.cell 1
  have f0 := hb.free 0
  have hst := slice_tail (P := Tryz.prog) 22 5 Tryz.underlying22 A bl.length c n (by omega) w 1 (by kernel_rfl)
  obtain ⟨t1, t2, t3, t4⟩ := bsrc_tail (k := n) hs (by omega) hc
  generalize (if c = n then A else A.map (·.add (n * 1))) = A' at *
  have HE : Hid (LF T gl (bl.drop n) bit (w.setCell ⟨gl, 0, none⟩ (.slice A' (bl.length - n) (c - n))) ∧ Keep [gl] w (w.setCell ⟨gl, 0, none⟩ (.slice A' (bl.length - n) (c - n)))) := by
    have hn' : ∀ a, A' = some a → a.block < gl := fun a ha => by
      obtain ⟨a', h1, h2⟩ := t4 a ha
      rw [h2]
      exact hne a' h1
    have hk : Keep [gl] w (w.setCell ⟨gl, 0, none⟩ (.slice A' (bl.length - n) (c - n))) := (Keep.refl [gl] w).setCell (.inl (by simp)) _
    refine Lib.hid ⟨⟨A', c - n, ?_, t1.keep hk (fun a ha hm => Nat.ne_of_lt (hn' a ha) (by simpa using hm)), t3, hn'⟩, hk⟩
    rw [t2]
    have := hb.set_ 0 (.slice A' (bl.length - n) (c - n))
    simpa using this
  have hlei : (x : Int) ≤ most := by omega
  have hleb : decide ((x : Int) ≤ (most : Int)) = true := decide_eq_true hlei
  have hwx : IntKind.i64.wrap (x : Int) = (x : Int) := by rw [IntKind.wrap_i64]; omega
  have hx9 : x ≤ 100000 := by omega
  clear hs hc hne hbd hx t1 t2 t3 t4 hb
  go_enter Tryz.func88, Tryz.ntmps88
  go_wp2_with (first
    | (go_at_call 130; refine HR.out.mono ?_; rintro e w' ⟨rfl, rfl⟩)
    | (go_at_call 58; refine (must_yes _).mono ?_; rintro e w' ⟨rfl, rfl⟩))
  go_ret
  exact ⟨rfl, HE.out⟩
set_option maxRecDepth 20000 in
set_option maxHeartbeats 2000000 in
theorem varint_no (T gl : Nat) (bl : List Nat) (bit most : Nat) (w : World) (h : LF T gl bl bit w) (hl : bl.length ≤ 1000000) (hm : most ≤ 100000) (hx : ∀ x n, rdV 0 bl = some (x, n) → most < x) :
    Calls Tryz.prog 88 #[.pointer (some ⟨gl, 0, none⟩), .int .u64 (most : Nat)] w fun e w' => e = .panicked PN ∧ Keep [] w w' := by
  obtain ⟨A, c, hb, hs, hc, hne⟩ := h
  have HR := Lib.hid (read_any bl A c w hs (by omega))
  have m0 : w.cell? ⟨gl, 0, none⟩ = some (.slice A bl.length c) := hb.cell 0
  cases hr : rdV 0 bl with
  | none =>
    rw [hr] at HR
    clear hb hs hc hne hx hr
    go_enter Tryz.func88, Tryz.ntmps88
    have HR2 : Hid (Calls Tryz.prog 130 #[.slice A bl.length c] w fun e w' => ∃ n E : Int, e = .returned (.tuple #[.int .u64 0, .int .i64 n, .int .i64 E]) ∧ (E == 0) = false ∧ w = w') := Lib.hid (HR.out.mono (fun e w' h => by
      obtain ⟨⟨n, E, h1, h2⟩, h3⟩ := h
      exact ⟨n, E, h1, by simpa using h2, h3⟩))
    go_wp2_with (first
      | (go_at_call 130; refine HR2.out.mono ?_; rintro e w' ⟨n, E, rfl, hE, rfl⟩)
      | (go_at_call 58; refine (must_no _).mono ?_; rintro e w' ⟨rfl, hk⟩; have Hk := Lib.hid hk; clear hk))
    exact ⟨rfl, rfl, Hk.out⟩
  | some p =>
    obtain ⟨x, n⟩ := p
    rw [hr] at HR
    have hgt := hx x n hr
    have hlei : ¬ (x : Int) ≤ most := by omega
    have hlen : ¬ x ≤ most := by omega
    have hleb : decide ((x : Int) ≤ (most : Int)) = false := decide_eq_false hlei
    clear hb hs hc hne hx hr
    go_enter Tryz.func88, Tryz.ntmps88
    go_wp2_with (first
      | (go_at_call 130; refine HR.out.mono ?_; rintro e w' ⟨rfl, rfl⟩)
      | (go_at_call 58; refine (must_no _).mono ?_; rintro e w' ⟨rfl, hk⟩; have Hk := Lib.hid hk; clear hk))
    exact ⟨rfl, rfl, Hk.out⟩
end Go.Proofs.YtdnaahbhfjclpaaGreatDoor

namespace Go.Proofs
open Go.Shelf
def Tryz.lays125_ren : Go.Shelf.Ren := ⟨fun | 125 => 145 | 128 => 158 | 129 => 159 | n => n, fun | 46 => 111 | 3 => 3 | 51 => 64 | 53 => 69 | 4 => 4 | 5 => 5 | 9 => 9 | n => n, fun | n => n⟩
theorem Tryz.lays125 : Go.Proofs.Lays.n125 Tryz.prog Tryz.lays125_ren := {
  mixed := by kernel_rfl
  f125 := Tryz.func145.trans (congrArg some (by kernel_rfl))
  f128 := Tryz.func158.trans (congrArg some (by kernel_rfl))
  f129 := Tryz.func159.trans (congrArg some (by kernel_rfl))
  t3 := Tryz.underlying3
  a3 := Tryz.isAgg3
  z3 := Tryz.sizeOf3
  v3 := Tryz.zeroValue3
  t4 := Tryz.underlying4
  a4 := Tryz.isAgg4
  z4 := Tryz.sizeOf4
  v4 := Tryz.zeroValue4
  t5 := Tryz.underlying5
  a5 := Tryz.isAgg5
  z5 := Tryz.sizeOf5
  v5 := Tryz.zeroValue5
  t9 := Tryz.underlying9
  a9 := Tryz.isAgg9
  z9 := Tryz.sizeOf9
  v9 := Tryz.zeroValue9
  t46 := Tryz.underlying111
  a46 := Tryz.isAgg111
  z46 := Tryz.sizeOf111
  v46 := Tryz.zeroValue111
  t51 := Tryz.underlying64
  a51 := Tryz.isAgg64
  z51 := Tryz.sizeOf64
  v51 := Tryz.zeroValue64
  t53 := Tryz.underlying69
  a53 := Tryz.isAgg69
  z53 := Tryz.sizeOf69
  v53 := Tryz.zeroValue69 }
theorem Tryz.bits_Len (x : Int) (w : World) (h0 : 0 ≤ x) (h1 : x ≤ 18446744073709551615) :
    Calls Tryz.prog 145 #[.int .u64 x] w fun e w' => e = .returned (.int .i64 (Lib.bitLen x.toNat)) ∧ w' = w := Any.bits_Len Tryz.lays125 x w h0 h1
open Go.RowKit Go.Lib in
def Tryz.lays212_ren : Go.Shelf.Ren := ⟨fun | 212 => 152 | 263 => 161 | 264 => 162 | n => n, fun | 46 => 111 | 51 => 64 | 146 => 231 | 53 => 69 | 148 => 233 | n => n, fun | n => n⟩
theorem Tryz.lays212 : Go.Proofs.Lays.n212 Tryz.prog Tryz.lays212_ren := {
  mixed := by kernel_rfl
  f212 := Tryz.func152.trans (congrArg some (by kernel_rfl))
  f263 := Tryz.func161.trans (congrArg some (by kernel_rfl))
  f264 := Tryz.func162.trans (congrArg some (by kernel_rfl))
  t46 := Tryz.underlying111
  a46 := Tryz.isAgg111
  z46 := Tryz.sizeOf111
  v46 := Tryz.zeroValue111
  t51 := Tryz.underlying64
  a51 := Tryz.isAgg64
  z51 := Tryz.sizeOf64
  v51 := Tryz.zeroValue64
  t53 := Tryz.underlying69
  a53 := Tryz.isAgg69
  z53 := Tryz.sizeOf69
  v53 := Tryz.zeroValue69
  t146 := Tryz.underlying231
  a146 := Tryz.isAgg231
  z146 := Tryz.sizeOf231
  v146 := Tryz.zeroValue231
  t148 := Tryz.underlying233
  a148 := Tryz.isAgg233
  z148 := Tryz.sizeOf233
  v148 := Tryz.zeroValue233 }
open Go.RowKit Go.Lib in
theorem Tryz.bits_Mul (x y : Nat) (hx : x < 18446744073709551616) (hy : y < 18446744073709551616) (w : World) :
    Calls Tryz.prog 152 #[.int .u64 x, .int .u64 y] w fun e w' => e = .returned (.tuple #[.int .u64 ((x * y / 18446744073709551616 : Nat) : Int), .int .u64 ((x * y % 18446744073709551616 : Nat) : Int)]) ∧ w' = w := Any.bits_Mul Tryz.lays212 x y hx hy w
open Go.RowKit Go.Lib in
open Go.RowKit Go.Lib in
open Go.RowKit Go.Lib in
open Go.Proofs Go.RowKit Go.Lib in
def Tryz.laysSlK4_ren : Go.Shelf.Ren := ⟨fun | 4 => 60 | n => n, fun | 22 => 22 | 4 => 4 | 5 => 5 | n => n, fun | n => n⟩
theorem Tryz.laysSlK4 : Go.Proofs.SlLaysK.n4 Tryz.prog Tryz.laysSlK4_ren := {
  mixed := by kernel_rfl
  f4 := Tryz.func60.trans (congrArg some (by kernel_rfl))
  t4 := Tryz.underlying4
  a4 := Tryz.isAgg4
  z4 := Tryz.sizeOf4
  v4 := Tryz.zeroValue4
  t22 := Tryz.underlying22
  a22 := Tryz.isAgg22
  z22 := Tryz.sizeOf22
  v22 := Tryz.zeroValue22
  t5 := Tryz.underlying5
  i5 := by kernel_rfl }
open Go.RowKit Go.Lib in
theorem Tryz.bytes_Clone_at (a : Addr) (n c : Nat) (xs : List Int) (w : World) (hx : xs.length = n) (hbig : n ≤ 140737488355328) (hc : ∀ i, i < n → w.cell? (a.add i) = some (.int .u8 (xs.getD i 0))) :
    Calls Tryz.prog 60 #[.slice (some a) n c] w fun e w' => ∃ v', e = .returned v' ∧ w'.ownsRow w.heap.size 5 1 v' n (xs.map (Value.int .u8)) ∧ v' ≠ .slice none 0 0 ∧ Below w.heap.size w w' := Any.bytes_Clone_at Tryz.laysSlK4 a n c xs w hx hbig hc
open Go.RowKit Go.Lib in
theorem Tryz.bytes_Clone_nil (n c : Nat) (w : World) :
    Calls Tryz.prog 60 #[.slice none n c] w fun e w' => e = .returned (.slice none 0 0) ∧ w' = w := Any.bytes_Clone_nil Tryz.laysSlK4 n c w
def Tryz.laysnb115_ren : Go.Shelf.Ren := ⟨fun | 115 => 93 | n => n, fun | 37 => 22 | 4 => 4 | 9 => 9 | 5 => 5 | n => n, fun | n => n⟩
theorem Tryz.laysnb115 : Go.Proofs.Lays.nb115 Tryz.prog Tryz.laysnb115_ren := {
  mixed := by kernel_rfl
  f115 := Tryz.func93.trans (congrArg some (by kernel_rfl))
  t4 := Tryz.underlying4
  a4 := Tryz.isAgg4
  z4 := Tryz.sizeOf4
  v4 := Tryz.zeroValue4
  t9 := Tryz.underlying9
  a9 := Tryz.isAgg9
  z9 := Tryz.sizeOf9
  v9 := Tryz.zeroValue9
  t37 := Tryz.underlying22
  a37 := Tryz.isAgg22
  z37 := Tryz.sizeOf22
  v37 := Tryz.zeroValue22
  t5 := Tryz.underlying5
  a5 := Tryz.isAgg5
  z5 := Tryz.sizeOf5
  v5 := Tryz.zeroValue5 }
theorem Tryz.bytes_Equal_all (p1 p2 : Option Addr) (n c m d : Nat) (xs ys : List Int) (w : World) (hx : xs.length = n) (hy : ys.length = m) (h1 : Lib.BytesIn w p1 n xs) (h2 : Lib.BytesIn w p2 m ys) :
    Calls Tryz.prog 93 #[.slice p1 n c, .slice p2 m d] w fun e w' => e = .returned (.bool (Lib.bytesOf xs == Lib.bytesOf ys)) ∧ w' = w := Any.bytes_Equal_all Tryz.laysnb115 p1 p2 n c m d xs ys w hx hy h1 h2
end Go.Proofs

