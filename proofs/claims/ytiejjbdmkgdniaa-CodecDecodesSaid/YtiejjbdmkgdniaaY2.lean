/- Lengths read, in the reference. -/
import Derived.Test.YtiejjbdmkgdniaaV2
import Derived.Test.YtiejjbdmkgdniaaU6
import Derived.Test.YtiejjbdmkgdniaaW4
set_option linter.unusedVariables false
set_option linter.unusedSimpArgs false
namespace Go.Cod
open Go.Huf
theorem lenF_end {f n : Nat} {out : List Int} {b : List Nat} (h : out.length = n) : lenF (f + 1) n out b = if okL out then some (out, b) else none := by cases b <;> rw [lenF, if_neg (by omega)]
theorem lenF_nil {f n : Nat} {out : List Int} (h : out.length < n) : lenF (f + 1) n out [] = none := by simp [lenF, h]
theorem lenF_bad {f n x : Nat} {out : List Int} {b1 : List Nat} (h : out.length < n) (hr : rdV 0 b1 = none) : lenF (f + 1) n out (x :: b1) = none := by
  rw [lenF, if_pos h, hr]
theorem lenF_num {f n x k u : Nat} {out : List Int} {b1 : List Nat} (h : out.length < n) (hr : rdV 0 b1 = some (k, u)) (hk : k < 1 ∨ n - out.length < k) : lenF (f + 1) n out (x :: b1) = none := by
  rw [lenF, if_pos h, hr]
  simp only
  rw [if_pos hk]
theorem lenF_go {n x k u : Nat} {out : List Int} {b1 : List Nat} (h : out.length < n) (hr : rdV 0 b1 = some (k, u)) (hk : ¬ (k < 1 ∨ n - out.length < k)) : lenF (n + 1) n out (x :: b1) = lenF (n + 1) n (out ++ List.replicate k (x : Int)) (b1.drop u) := by
  rw [lenF, if_pos h, hr]
  simp only
  rw [if_neg hk]
  refine Go.Proofs.Ytiejjbdmkgdniaa.lenF_more _ _ _ _ _ ?_ ?_ ?_ <;> rw [List.length_append, List.length_replicate] <;> omega
end Go.Cod
namespace Go.Proofs.Ytiejjbdmkgdniaa
open Go.RowKit Go.Sal Go.Huf Go.Cod
/-- what the reference's lengths answers -/
def RLE (w : World) (b : List Nat) (r : Option (List Int × List Nat)) (e : Ending) (w' : World) : Prop := match r with
  | some (ls, rest) => ∃ A c at_, e = .returned (.tuple #[.slice A ls.length c, .int .i64 (at_ : Nat), .bool true]) ∧ rest = b.drop at_ ∧ at_ ≤ b.length ∧ w'.ownsRow w.heap.size 3 1 (.slice A ls.length c) ls.length (inI ls) ∧ Keep [] w w'
  | none => ∃ A n c at_, e = .returned (.tuple #[.slice A n c, .int .i64 (at_ : Nat), .bool false]) ∧ Keep [] w w'
theorem RLE.no {w w' : World} {b : List Nat} {r : Option (List Int × List Nat)} (h : r = none) (A : Option Addr) (n c at_ : Nat) (k : Keep [] w w') : RLE w b r (.returned (.tuple #[.slice A n c, .int .i64 (at_ : Nat), .bool false])) w' := by
  subst h
  exact ⟨A, n, c, at_, rfl, k⟩
/-- ints laid so far -/
structure II (w : World) (q : List Int) (A : Option Addr) (n c : Nat) (wr : World) : Prop where
  len : n = q.length
  own : wr.ownsRow w.heap.size 3 1 (.slice A n c) n (inI q)
  kp : Keep [] w wr
section
variable {w wr w1 : World} {q : List Int} {A : Option Addr} {n c : Nat}
theorem II.start (w : World) : II w [] none 0 0 w := ⟨rfl, World.ownsRow_nil _ _ _ _, Keep.refl _ _⟩
theorem II.keep (h : II w q A n c wr) (k : Keep [] wr w1) : II w q A n c w1 := ⟨h.len, ownsRow_keep h.own k (by simp), h.kp.trans k⟩
theorem II.add (h : II w q A n c wr) (hn : n ≤ 1000000) (x : Int) : ∃ A' c' w', (Builtin.append_ #[49, 49] 49 #[.slice A n c, .slice (some ⟨wr.heap.size, 0, none⟩) 1 1]).run Try.prog (wr.alloc (.cells #[.int .i64 x] 3)) = .ok (.slice A' (n + 1) c') w' ∧
    II w (q ++ [x]) A' (n + 1) c' w' := by
  obtain ⟨A', c', w', h1, h2, h3, _⟩ := int_append2 h.own x (by omega) h.kp.size
  exact ⟨A', c', w', h1, ⟨by rw [List.length_append, h.len]; rfl, h2, h.kp.step h3 (fun i hi => .inr (own_far h.own i hi))⟩⟩
end
/-- a slice's length -/
def slN : Value → Nat
  | .slice _ n _ => n
  | _ => 0
set_option maxRecDepth 20000 in
set_option maxHeartbeats 2000000 in
theorem rlengths_read (n : Nat) (bl : List Nat) (AB : Option Addr) (cB : Nat) (w : World) (hs : BySrc w AB bl) (hc : bl.length ≤ cB) (hl : bl.length ≤ 100000) (hn : n ≤ 512) :
    Calls Try.prog 77 #[.slice AB bl.length cB, .int .i64 (n : Nat)] w fun e w' => RLE w bl (lenP n bl) e w' := by
  have Hs := Lib.hid hs
  clear hs
  go_enter Try.func77, Try.ntmps77
  go_wp2
  go_loopw [8, 7] (fun v8 v7 wr => ∃ (k m : Nat) (A : Option Addr) (c : Nat), v8 = .int .i64 k ∧ k ≤ bl.length ∧ v7 = .slice A m c ∧ m ≤ n ∧ Hid (∃ out, II w out A m c wr ∧ lenP n bl = lenF (n + 1) n out (bl.drop k))) (fun _ v7 _ => n - slN v7)
  case atStart => exact ⟨0, 0, none, 0, rfl, by omega, rfl, by omega, Lib.hid ⟨[], II.start w, rfl⟩⟩
  case round =>
    obtain ⟨k, m, A, c, rfl, hk, rfl, hm, hI⟩ := hrel
    obtain ⟨out, hO, hP⟩ := hI.out
    clear hI
    have hlen := hO.len
    rcases Nat.lt_or_ge m n with hmn | hmn
    · have hmni : (m : Int) < n := by omega
      rcases Nat.lt_or_ge k bl.length with hkl | hkl
      · as_aux_lemma =>
          have hkli : (k : Int) < bl.length := by omega
          have hge : decide ((k : Int) ≥ (bl.length : Int)) = false := decide_eq_false (by omega)
          have hgn : ¬ bl.length ≤ k := by omega
          have hgi : ¬ (bl.length : Int) ≤ k := by omega
          have hsr := Hs.out.keep hO.kp (by simp)
          obtain ⟨g, o, rfl, hg, d0⟩ := hsr.1 k hkl
          obtain ⟨t1, t2, t3, t4⟩ := bsrc_tail (k := k + 1) hsr hkl hc
          obtain ⟨A1, hA1⟩ : ∃ A1, A1 = (if cB = k + 1 then (some ⟨g, o, none⟩ : Option Addr) else Option.map (fun x : Addr => x.add ((k + 1) * 1)) (some ⟨g, o, none⟩)) := ⟨_, rfl⟩
          rw [← hA1] at t1 t4
          have hst : ∀ W, (Instr.slice 24 (.slice (some ⟨g, o, none⟩) bl.length cB) (some (.int .i64 ((k + 1 : Nat) : Int))) none none).run Try.prog W = .ok (.slice A1 (bl.length - (k + 1)) (cB - (k + 1))) W := fun W => by
            rw [hA1]
            exact slice_tail (P := Try.prog) 24 5 Try.underlying24 (some ⟨g, o, none⟩) bl.length cB (k + 1) (by omega) W 1 (by kernel_rfl)
          rw [← t2] at hst
          have hdk : bl.drop k = bl[k] :: bl.drop (k + 1) := List.drop_eq_getElem_cons hkl
          rw [hdk] at hP
          have hwk : IntKind.i64.wrap ((k : Int) + 1) = ((k + 1 : Nat) : Int) := by rw [IntKind.wrap_i64]; omega
          have HR := Lib.hid (rread_any (bl.drop (k + 1)) A1 (cB - (k + 1)) wr t1 (by rw [t2]; omega))
          have HP := Lib.hid hP
          have HO := Lib.hid hO
          have hom : out.length < n := by omega
          have Hlen := Lib.hid hlen
          have hx := hsr.2 _ (List.getElem_mem hkl)
          clear hlen
          have Hrd := Lib.hid (@rdV_bd (bl.drop (k + 1)) 0)
          have Hlt := Lib.hid t1.2
          have Htl := Lib.hid t2
          have Hk1 : Hid (∀ u, (bl.drop (k + 1)).drop u = bl.drop (k + 1 + u)) := Lib.hid (fun u => by rw [List.drop_drop])
          clear hsr t1 t2 t3 t4 hA1 hdk hP hO
          generalize bl[k] = x at *
          have hwx : IntKind.i64.wrap (x : Int) = (x : Int) := by rw [IntKind.wrap_i64]; omega
          obtain ⟨k1, hk1⟩ : ∃ k1, k1 = k + 1 := ⟨_, rfl⟩
          rw [← hk1] at hst hwk HR HP Hrd Hlt Htl Hk1
          generalize bl.drop k1 = b1 at *
          have Hke := Lib.hid hk1
          clear hk1
          cases hr : rdV 0 b1 with
          | none =>
            rw [hr] at HR
            have HN : Hid (lenP n bl = none) := Lib.hid (by rw [HP.out, lenF_bad hom hr])
            clear hr
            go_wp2_with (go_at_call 60; refine HR.out.mono ?_; rintro e w2 ⟨⟨n2, E2, rfl, hE⟩, rfl⟩; have hEb : (E2 != 0) = true := (by simpa using hE); clear hE)
            go_ret3
            exact RLE.no HN.out none 0 0 0 HO.out.kp
          | some p =>
            obtain ⟨q, u⟩ := p
            rw [hr] at HR
            obtain ⟨u1, u2, u3, u4⟩ := Hrd.out q u Hlt.out (by omega) hr
            have hq64 : q < 18446744073709551616 := by simpa using u3
            have hwn : IntKind.i64.wrap ((n : Int) - (m : Int)) = ((n - m : Nat) : Int) := by rw [IntKind.wrap_i64]; omega
            have hwu : IntKind.u64.wrap ((n - m : Nat) : Int) = ((n - m : Nat) : Int) := by rw [IntKind.wrap_u64]; omega
            obtain ⟨nm, hnm⟩ : ∃ nm, nm = n - m := ⟨_, rfl⟩
            rw [← hnm] at hwn hwu
            by_cases hq0 : q < 1
            · have HN : Hid (lenP n bl = none) := Lib.hid (by rw [HP.out, lenF_num hom hr (.inl hq0)])
              have hq0i : (q : Int) < 1 := by omega
              clear hr hnm
              go_wp2_with (go_at_call 60; refine HR.out.mono ?_; rintro e w2 ⟨rfl, rfl⟩)
              go_ret3
              exact RLE.no HN.out none 0 0 0 HO.out.kp
            · have hq0i : ¬ (q : Int) < 1 := by omega
              by_cases hqn : nm < q
              · have HN : Hid (lenP n bl = none) := Lib.hid (by rw [HP.out, lenF_num hom hr (.inr (by have := Hlen.out; omega))])
                have hqni : (nm : Int) < q := by omega
                clear hr hnm
                go_wp2_with (go_at_call 60; refine HR.out.mono ?_; rintro e w2 ⟨rfl, rfl⟩)
                go_ret3
                exact RLE.no HN.out none 0 0 0 HO.out.kp
              · have hqni : ¬ (nm : Int) < q := by omega
                have HN : Hid (lenP n bl = lenF (n + 1) n (out ++ List.replicate q (x : Int)) (bl.drop (k + 1 + u)) ∧ k + 1 + u ≤ bl.length ∧ m + q ≤ n) := Lib.hid (by
                  refine ⟨?_, ?_, by omega⟩
                  · rw [HP.out, lenF_go hom hr (by have := Hlen.out; omega), Hk1.out, Hke.out]
                  · have h1 := Htl.out
                    have h2 := Hke.out
                    omega)
                have hku : k + 1 + u ≤ bl.length := HN.out.2.1
                have hwa : IntKind.i64.wrap ((k1 : Int) + (u : Int)) = ((k + 1 + u : Nat) : Int) := by
                  have h2 := Hke.out
                  rw [IntKind.wrap_i64]
                  omega
                have hq512 : q ≤ 512 := by omega
                clear hr hnm u3
                go_upto_region 10 with (go_at_call 60; refine HR.out.mono ?_; rintro e w2 ⟨rfl, rfl⟩)
                clear HR hst Hrd HP
                go_wp2
                go_loopw [13, 7] (fun v13 v7 w2 => ∃ (j m2 : Nat) (A2 : Option Addr) (c2 : Nat), v13 = .int .u64 j ∧ j ≤ q ∧ v7 = .slice A2 m2 c2 ∧ Hid (m2 = m + j ∧ II w (out ++ List.replicate j (x : Int)) A2 m2 c2 w2)) (fun v13 _ _ => q - (intOf v13).toNat)
                case atStart => exact ⟨0, m, A, c, rfl, by omega, rfl, Lib.hid ⟨rfl, by simpa using HO.out⟩⟩
                case round =>
                  obtain ⟨j, m2, A2, c2, rfl, hj, rfl, hJ⟩ := hrel
                  clear HO
                  have hm2 : m2 ≤ 1000 := by have := hJ.out.1; have := HN.out.2.2; omega
                  rcases Nat.lt_or_ge j q with hjq | hjq
                  · have hjqi : (j : Int) < q := by omega
                    have hwj : IntKind.u64.wrap ((j : Int) + 1) = (j : Int) + 1 := by rw [IntKind.wrap_u64]; omega
                    obtain ⟨A6, c6, w3, hap, hB3⟩ := hJ.out.2.add (by omega) (x : Int)
                    have H3 : Hid (m2 + 1 = m + (j + 1) ∧ II w (out ++ List.replicate (j + 1) (x : Int)) A6 (m2 + 1) c6 w3) := Lib.hid ⟨by have := hJ.out.1; omega, by
                      have e : out ++ List.replicate (j + 1) (x : Int) = out ++ List.replicate j (x : Int) ++ [(x : Int)] := by rw [List.replicate_succ', List.append_assoc]
                      rw [e]
                      exact hB3⟩
                    clear hJ hB3
                    go_wp2_with (at_builtin; refine wpList_append2 (v1 := .slice A2 m2 c2) (v2 := .slice (some ⟨wr.heap.size, 0, none⟩) 1 1) rfl (.tmp 56) (.tmp 58) rfl rfl rfl hap ?_)
                    go_roundw
                    case rel => exact ⟨j + 1, m2 + 1, A6, c6, by simp, by omega, by simp, H3⟩
                    case measure => simp [intOf]; omega
                  · obtain rfl : j = q := by omega
                    have hjn : ¬ (j : Int) < j := by omega
                    have hJ1 := hJ.out.1
                    have HF : Hid (∃ out, II w out A2 m2 c2 wr ∧ lenP n bl = lenF (n + 1) n out (bl.drop (k + 1 + u))) := Lib.hid ⟨_, hJ.out.2, HN.out.1⟩
                    have hm3 : m2 ≤ n := by have := HN.out.2.2; omega
                    have hm4 : m < m2 := by omega
                    clear hJ hJ1 hjq
                    go_wp2
                    go_roundw
                    case rel => exact ⟨k + 1 + u, m2, A2, c2, rfl, hku, by simp, hm3, HF⟩
                    case measure => simp [slN]; omega
      · have hgt : decide ((k : Int) ≥ (bl.length : Int)) = true := decide_eq_true (by omega)
        have hgi : (bl.length : Int) ≤ k := by omega
        have HN : Hid (lenP n bl = none) := Lib.hid (by
          rw [hP, List.drop_of_length_le hkl]
          exact lenF_nil (by omega))
        have HO := Lib.hid hO.kp
        clear hP hO hlen
        go_wp2
        go_ret3
        exact RLE.no HN.out none 0 0 0 HO.out
    · obtain rfl : m = n := by omega
      have hmi : ¬ (m : Int) < m := by omega
      rw [lenF_end hlen.symm] at hP
      have HC := Lib.hid (rcheck_any out A c wr (ISrc.of_own hO.own) (by omega))
      have HO := Lib.hid hO
      rw [← hlen] at HC
      by_cases hok : okL out
      · rw [if_pos hok] at hP
        have hz : chkE out = 0 := by unfold chkE; rw [if_pos hok]
        rw [hz] at HC
        have HR : Hid (RLE w bl (lenP m bl) (.returned (.tuple #[.slice A m c, .int .i64 (k : Nat), .bool true])) wr) := by
          refine Lib.hid ?_
          rw [hP]
          refine ⟨A, c, k, by rw [hlen], rfl, hk, ?_, hO.kp⟩
          rw [← hlen]
          exact hO.own
        clear hP hO hok hz hlen
        go_wp2_with (go_at_call 72; refine HC.out.mono ?_; rintro e w2 ⟨rfl, rfl⟩)
        go_ret3
        exact HR.out
      · rw [if_neg hok] at hP
        have hz : chkE out = 51 := by unfold chkE; rw [if_neg hok]
        rw [hz] at HC
        have HN := Lib.hid hP
        have HK := Lib.hid hO.kp
        clear hP hO hok hz hlen HO
        go_wp2_with (go_at_call 72; refine HC.out.mono ?_; rintro e w2 ⟨rfl, rfl⟩)
        go_ret3
        exact RLE.no HN.out A m c k HK.out
end Go.Proofs.Ytiejjbdmkgdniaa
set_option linter.unusedVariables false
set_option linter.unusedSimpArgs false
namespace Go.Cod
open Go.Huf
section
variable {la lb : List Int} {b : List Nat} {a s k x k2 : Nat}
theorem tokR_n1 (h : one la b a = none) : tokR la lb b a = none := by unfold tokR; rw [h]
theorem tokR_lit (h : one la b a = some (s, k)) (hs : s < 256) : tokR la lb b a = some ((0, 1, s), a + k) := by
  unfold tokR
  rw [h]
  simp only
  rw [if_pos hs]
theorem tokR_n2 (h : one la b a = some (s, k)) (hs : ¬ s < 256) (h2 : one lb b (a + k) = none) : tokR la lb b a = none := by
  unfold tokR
  rw [h]
  simp only
  rw [if_neg hs, h2]
theorem tokR_n3 (h : one la b a = some (s, k)) (hs : ¬ s < 256) (h2 : one lb b (a + k) = some (x, k2)) (h3 : 8 * b.length < a + k + k2 + x) : tokR la lb b a = none := by
  unfold tokR
  rw [h]
  simp only
  rw [if_neg hs, h2]
  simp only
  rw [if_pos h3]
theorem tokR_cpy (h : one la b a = some (s, k)) (hs : ¬ s < 256) (h2 : one lb b (a + k) = some (x, k2)) (h3 : ¬ 8 * b.length < a + k + k2 + x) : tokR la lb b a = some ((((vAt b (a + k + k2) x : Nat) : Int), (s : Int) - 252, 0), a + k + k2 + x) := by
  unfold tokR
  rw [h]
  simp only
  rw [if_neg hs, h2]
  simp only
  rw [if_neg h3]
end
end Go.Cod
namespace Go.Proofs.Ytiejjbdmkgdniaa
open Go.RowKit Go.Sal Go.Huf Go.Cod
/-- the rest of a row of bytes -/
theorem cut_at {w : World} {A : Option Addr} {bl : List Nat} {c k : Nat} (h : BySrc w A bl) (hc : bl.length ≤ c) (hk : k ≤ bl.length) :
    ∃ A1 c1, (∀ W, (Instr.slice 24 (.slice A bl.length c) (some (.int .i64 (k : Nat))) none none).run Try.prog W = .ok (.slice A1 (bl.drop k).length c1) W) ∧ (bl.drop k).length ≤ c1 ∧ ∀ W, BySrc W A bl → BySrc W A1 (bl.drop k) := by
  obtain ⟨t1, t2, t3, t4⟩ := bsrc_tail h hk hc
  refine ⟨_, c - k, fun W => ?_, t3, fun W hW => (bsrc_tail hW hk hc).1⟩
  rw [t2]
  exact slice_tail (P := Try.prog) 24 5 Try.underlying24 A bl.length c k hk W 1 (by kernel_rfl)
/-- what the reference's read answers -/
def RdT (w : World) (r : Option (List Tk)) (e : Ending) (w' : World) : Prop := match r with
  | some l => ∃ A c, e = .returned (.tuple #[.slice A l.length c, .bool true]) ∧ w'.ownsRow w.heap.size 64 3 (.slice A l.length c) l.length (tksC l) ∧ Keep [] w w'
  | none => e = .returned (.tuple #[.slice none 0 0, .bool false]) ∧ Keep [] w w'
theorem RdT.no {w w' : World} {r : Option (List Tk)} (h : r = none) (k : Keep [] w w') : RdT w r (.returned (.tuple #[.slice none 0 0, .bool false])) w' := by
  subst h
  exact ⟨rfl, k⟩
/-- the books with their codes, and the tokens so far -/
structure RdS (w : World) (la lb : List Int) (AA : Option Addr) (cA : Nat) (AC : Option Addr) (cC : Nat) (AD : Option Addr) (cD : Nat) (AE : Option Addr) (cE : Nat) (tl : List Tk) (A : Option Addr) (n c : Nat) (wr : World) : Prop where
  a : LC w la AA cA AC cC wr
  b : LC w lb AD cD AE cE wr
  len : n = tl.length
  own : wr.ownsRow w.heap.size 64 3 (.slice A n c) n (tksC tl)
  kp : Keep [] w wr
theorem RdS.add {w wr : World} {la lb : List Int} {AA AC AD AE A : Option Addr} {cA cC cD cE n c : Nat} {tl : List Tk} (h : RdS w la lb AA cA AC cC AD cD AE cE tl A n c wr) (hn : n ≤ 1000000) (d m : Int) (x : Nat) :
    ∃ A' c' w', (Builtin.append_ #[22, 22] 22 #[.slice A n c, .slice (some ⟨wr.heap.size, 0, none⟩) 1 1]).run Try.prog (wr.alloc (.cells #[.int .i64 d, .int .i64 m, .int .u8 (x : Nat)] 64)) = .ok (.slice A' (n + 1) c') w' ∧
      RdS w la lb AA cA AC cC AD cD AE cE (tl ++ [(d, m, x)]) A' (n + 1) c' w' := by
  obtain ⟨A', c', w', h1, h2, h3⟩ := tok_append h.own d m x hn h.kp.size
  refine ⟨A', c', w', h1, ⟨h.a.keep h3 (fun i hi hm => own_ne_own h.a.len h.own (by decide) hi (by simpa using hm)) (fun i hi hm => own_ne_own h.a.cod h.own (by decide) hi (by simpa using hm)),
    h.b.keep h3 (fun i hi hm => own_ne_own h.b.len h.own (by decide) hi (by simpa using hm)) (fun i hi hm => own_ne_own h.b.cod h.own (by decide) hi (by simpa using hm)), by rw [List.length_append, h.len]; rfl, h2, h.kp.step h3 (fun i hi => .inr (own_far h.own i hi))⟩⟩
theorem RdS.fin {w wr : World} {la lb : List Int} {AA AC AD AE A : Option Addr} {cA cC cD cE n c : Nat} {tl : List Tk} (h : RdS w la lb AA cA AC cC AD cD AE cE tl A n c wr) {r : Option (List Tk)} (hr : r = some tl) : RdT w r (.returned (.tuple #[.slice A n c, .bool true])) wr := by
  subst hr
  have h1 := h.len
  have h2 := h.own
  subst h1
  exact ⟨A, c, rfl, h2, h.kp⟩
set_option maxRecDepth 20000 in
set_option maxHeartbeats 4000000 in
theorem rread_toks (bl : List Nat) (AB : Option Addr) (cB : Nat) (w : World) (hs : BySrc w AB bl) (hc : bl.length ≤ cB) (hl : bl.length ≤ 10000) :
    Calls Try.prog 51 #[.slice AB bl.length cB] w fun e w' => RdT w (readP bl) e w' := by
  have HL := Lib.hid (rlengths_read 511 bl AB cB w hs hc (by omega) (by omega))
  have Hs := Lib.hid hs
  clear hs
  go_enter Try.func51, Try.ntmps51
  cases hla : lenP 511 bl with
  | none =>
    rw [hla] at HL
    have HR : Hid (readP bl = none) := Lib.hid (by unfold readP; rw [hla])
    clear hla
    go_wp2_with (go_at_call 77; refine HL.out.mono ?_; rintro e w1 ⟨A1, n1, c1, at1, rfl, hk⟩; have Hk := Lib.hid hk; clear hk)
    go_ret2
    exact RdT.no HR.out Hk.out
  | some p1 =>
    obtain ⟨la, b1⟩ := p1
    rw [hla] at HL
    obtain ⟨hoa, hla5, hb1, _⟩ := lenP_ok hla
    have HP1 := Lib.hid (And.intro hla (And.intro hla5 hoa))
    clear hla hla5 hoa
    go_upto_region 4 with (go_at_call 77; refine HL.out.mono ?_; rintro e w1 ⟨A1, c1, at1, rfl, hre, hat, ho1, hk1⟩; have H1 := Lib.hid (And.intro ho1 hk1); obtain ⟨A2, c2, hst1, hc2, hB2⟩ := cut_at (Hs.out.keep hk1 (by simp)) hc hat; rw [← hre] at hst1 hc2 hB2; have HB1 := Lib.hid hB2; clear ho1 hk1 hre hB2 hat)
    go_upto_region 5 with fail
    clear HL hst1
    have HL := Lib.hid (rlengths_read 13 b1 A2 c2 w1 (HB1.out _ (Hs.out.keep H1.out.2 (by simp))) hc2 (by omega) (by omega))
    cases hlb : lenP 13 b1 with
    | none =>
      rw [hlb] at HL
      have HR : Hid (readP bl = none) := Lib.hid (by unfold readP; rw [HP1.out.1]; simp only; rw [hlb])
      clear hlb
      go_wp2_with (go_at_call 77; refine HL.out.mono ?_; rintro e w2 ⟨A3, n3, c3, at3, rfl, hk⟩; have Hk := Lib.hid (H1.out.2.trans hk); clear hk)
      go_ret2
      exact RdT.no HR.out Hk.out
    | some p2 =>
      obtain ⟨lb, b2⟩ := p2
      rw [hlb] at HL
      obtain ⟨hob, hlb5, hb2, _⟩ := lenP_ok hlb
      have HP2 := Lib.hid (And.intro hlb (And.intro hlb5 hob))
      clear hlb hlb5 hob
      go_upto_region 8 with (go_at_call 77; refine HL.out.mono ?_; rintro e w2 ⟨A3, c3, at3, rfl, hre, hat, ho2, hk2⟩; have H2 := Lib.hid (And.intro (ownsRow_keep H1.out.1 hk2 (by simp)) (And.intro (own_le ho2 H1.out.2.size) (H1.out.2.trans hk2))); obtain ⟨A4, c4, hst2, hc4, hB4⟩ := cut_at (HB1.out _ (Hs.out.keep (H1.out.2.trans hk2) (by simp))) hc2 hat; rw [← hre] at hst2 hc4 hB4; have HB2 := Lib.hid hB4; clear ho2 hk2 hre hB4 hat)
      go_upto_region 9 with fail
      clear HL hst2
      have HS2 : Hid (BySrc w2 A4 b2) := Lib.hid (HB2.out _ (HB1.out _ (Hs.out.keep H2.out.2.2 (by simp))))
      have HR3 := Lib.hid (rread_any b2 A4 c4 w2 HS2.out (by omega))
      cases hr : rdV 0 b2 with
      | none =>
        rw [hr] at HR3
        have HR : Hid (readP bl = none) := Lib.hid (by unfold readP; rw [HP1.out.1]; simp only; rw [HP2.out.1]; simp only; rw [hr])
        clear hr
        go_wp2_with (go_at_call 60; refine HR3.out.mono ?_; rintro e w3 ⟨⟨n3, E3, rfl, hE⟩, rfl⟩; have hEb : (E3 != 0) = true := (by simpa using hE); clear hE)
        go_ret2
        exact RdT.no HR.out H2.out.2.2
      | some p =>
        obtain ⟨cnt, u⟩ := p
        obtain ⟨u1, u2, u3, u4⟩ := rdV_bd _ _ _ _ HS2.out.2 (by omega) hr
        rw [hr] at HR3
        by_cases hcn : 65536 < cnt
        · have HR : Hid (readP bl = none) := Lib.hid (by unfold readP; rw [HP1.out.1]; simp only; rw [HP2.out.1]; simp only; rw [hr]; simp only; rw [if_pos hcn])
          have hcni : (65536 : Int) < cnt := by omega
          clear hr u3
          go_wp2_with (go_at_call 60; refine HR3.out.mono ?_; rintro e w3 ⟨rfl, rfl⟩)
          go_ret2
          exact RdT.no HR.out H2.out.2.2
        · have hcni : ¬ (65536 : Int) < cnt := by omega
          obtain ⟨A5, c5, hst3, hc5, hB5⟩ := cut_at HS2.out hc4 u2
          have HR : Hid (readP bl = toksF la lb (b2.drop u) cnt 0) := Lib.hid (by unfold readP; rw [HP1.out.1]; simp only; rw [HP2.out.1]; simp only; rw [hr]; simp only; rw [if_neg hcn])
          have hb3 : (b2.drop u).length ≤ 10000 := by rw [List.length_drop]; omega
          obtain ⟨b3, hb3e⟩ : ∃ b3, b2.drop u = b3 := ⟨_, rfl⟩
          rw [hb3e] at hst3 hc5 hB5 HR hb3
          have HB3 : Hid (BySrc w A5 b3) := Lib.hid (hB5 _ (HB2.out _ (HB1.out _ Hs.out)))
          clear hr u3 u1 u2 u4 hb3e hB5
          go_upto_region 12 with (go_at_call 60; refine HR3.out.mono ?_; rintro e w3 ⟨rfl, rfl⟩)
          go_upto_region 13 with fail
          clear HR3 hst3
          have HC1 := Lib.hid (fun (w : World) (A : Option Addr) (c : Nat) (h : ISrc w A la) => rcodes_ok la A c w h HP1.out.2.2)
          have HC2 := Lib.hid (fun (w : World) (A : Option Addr) (c : Nat) (h : ISrc w A lb) => rcodes_ok lb A c w h HP2.out.2.2)
          go_upto_region 14 with (go_at_call 38; refine (HC1.out _ _ _ (ISrc.of_own H2.out.1)).mono ?_; rintro e w4 ⟨A6, c6, rfl, ho6, hk6⟩; have H4 : Hid (LC w la A1 c1 A6 c6 w4 ∧ w4.ownsRow w.heap.size 3 1 (.slice A3 lb.length c3) lb.length (inI lb) ∧ Keep [] w w4) := Lib.hid ⟨⟨ownsRow_keep H2.out.1 hk6 (by simp), own_le ho6 H2.out.2.2.size⟩, ownsRow_keep H2.out.2.1 hk6 (by simp), H2.out.2.2.trans hk6⟩; clear ho6 hk6)
          go_upto_region 15 with (go_at_call 38; refine (HC2.out _ _ _ (ISrc.of_own H4.out.2.1)).mono ?_; rintro e w5 ⟨A7, c7, rfl, ho7, hk7⟩; have H5 : Hid (RdS w la lb A1 c1 A6 c6 A3 c3 A7 c7 [] none 0 0 w5) := Lib.hid ⟨H4.out.1.keep hk7 (by simp) (by simp), ⟨ownsRow_keep H4.out.2.1 hk7 (by simp), own_le ho7 H4.out.2.2.size⟩, rfl, World.ownsRow_nil _ _ _ _, H4.out.2.2.trans hk7⟩; clear ho7 hk7)
          clear HC1 HC2 H1 H2 H4 HB1 HB2 HS2
          have hN511 : la.length = 511 := HP1.out.2.1
          have hN13 : lb.length = 13 := HP2.out.2.1
          have HN511 := Lib.hid hN511
          have HN13 := Lib.hid hN13
          clear hN511 hN13
          go_wp2
          go_loopw [14, 15] (fun v14 v15 wr => ∃ (n a : Nat) (A : Option Addr) (c : Nat), v14 = .slice A n c ∧ v15 = .int .i64 (a : Nat) ∧ n ≤ cnt ∧ Hid (∃ tl, RdS w la lb A1 c1 A6 c6 A3 c3 A7 c7 tl A n c wr ∧ readP bl = (toksF la lb b3 (cnt - n) a).map (tl ++ ·) ∧ a ≤ 8 * b3.length)) (fun v14 _ _ => cnt - slN v14)
          case atStart => exact ⟨0, 0, none, 0, rfl, rfl, by omega, Lib.hid ⟨[], H5.out, by rw [HR.out]; simp, by omega⟩⟩
          case round =>
            obtain ⟨n, a, A, c, rfl, rfl, hn, hI⟩ := hrel
            clear H5
            obtain ⟨tl, hR, hP, ha8⟩ := hI.out
            clear hI
            have hsb := HB3.out.keep hR.kp (by simp)
            have hwl : IntKind.u64.wrap (n : Int) = (n : Int) := by rw [IntKind.wrap_u64]; omega
            rcases Nat.lt_or_ge n cnt with hnc | hnc
            · as_aux_lemma =>
                have hnci : (n : Int) < cnt := by omega
                obtain ⟨f, hf⟩ : ∃ f, cnt - n = f + 1 := ⟨cnt - n - 1, by omega⟩
                have hf2 : cnt - (n + 1) = f := by omega
                have HO1 := Lib.hid (rone_any la b3 A1 A6 A5 c1 c6 c5 w.heap.size a wr (ISrc.of_own hR.a.len) hR.a.cod hsb HP1.out.2.2 (by omega) (by omega))
                have HO2 := Lib.hid (fun a1 (h : a1 ≤ 80000) => rone_any lb b3 A3 A7 A5 c3 c7 c5 w.heap.size a1 wr (ISrc.of_own hR.b.len) hR.b.cod hsb HP2.out.2.2 (by omega) h)
                have HB := Lib.hid (fun i (h : i < 8 * b3.length) => rbit_any b3 A5 c5 i wr hsb h (by omega))
                have HRd := Lib.hid hR
                have HA := Lib.hid (fun (d m : Int) (x : Nat) => hR.add (by omega) d m x)
                have HPn : Hid (tokR la lb b3 a = none → readP bl = none) := Lib.hid (fun h => by rw [hP, hf, toksF_none h]; rfl)
                have HPs : Hid (∀ t a2, tokR la lb b3 a = some (t, a2) → readP bl = (toksF la lb b3 (cnt - (n + 1)) a2).map ((tl ++ [t]) ++ ·) ∧ a2 ≤ 8 * b3.length) := Lib.hid (fun t a2 h => by
                  refine ⟨?_, (tokR_ok h).2.1⟩
                  rw [hP, hf, hf2, toksF_some h, Option.map_map]
                  congr 1
                  funext l
                  simp)
                have hcnt : cnt ≤ 65536 := by omega
                clear hR hP hsb hf hf2 hcn
                cases h1 : one la b3 a with
                | none =>
                  rw [h1] at HO1
                  have HN := Lib.hid (HPn.out (tokR_n1 h1))
                  clear h1
                  go_wp2_with (go_at_call 78; refine HO1.out.mono ?_; rintro e w6 ⟨rfl, rfl⟩)
                  go_ret2
                  exact RdT.no HN.out HRd.out.kp
                | some p =>
                  obtain ⟨s, k⟩ := p
                  rw [h1] at HO1
                  obtain ⟨q1, q2, q3, q4, _, _⟩ := one_spec h1
                  have hs511 : s < 511 := by have := HN511.out; omega
                  obtain ⟨a1, ha1⟩ : ∃ a1, a1 = a + k := ⟨_, rfl⟩
                  have hw1 : IntKind.i64.wrap ((a : Int) + (k : Int)) = (a1 : Int) := by rw [IntKind.wrap_i64]; omega
                  have hsi : ¬ (s : Int) < 0 := by omega
                  have H1 := Lib.hid h1
                  have Ha1 := Lib.hid ha1
                  have ha18 : a1 ≤ 80000 := by omega
                  clear h1 ha1 q4
                  by_cases hs : s < 256
                  · have hsl : (s : Int) < 256 := by omega
                    have hwb : IntKind.u8.wrap (s : Int) = (s : Int) := by rw [IntKind.wrap_u8]; omega
                    obtain ⟨A', c', w4, hap, hN⟩ := HA.out 0 1 s
                    have HX := HPs.out _ _ (tokR_lit H1.out hs)
                    have HN : Hid (∃ tl, RdS w la lb A1 c1 A6 c6 A3 c3 A7 c7 tl A' (n + 1) c' w4 ∧ readP bl = (toksF la lb b3 (cnt - (n + 1)) a1).map (tl ++ ·) ∧ a1 ≤ 8 * b3.length) := Lib.hid ⟨_, hN, by rw [Ha1.out]; exact HX.1, by rw [Ha1.out]; exact HX.2⟩
                    clear hN HX
                    go_upto_region 19 with (go_at_call 78; refine HO1.out.mono ?_; rintro e w6 ⟨rfl, rfl⟩)
                    go_wp2_with (at_builtin; refine wpList_append2 (v1 := .slice A n c) (v2 := .slice (some ⟨wr.heap.size, 0, none⟩) 1 1) rfl (.tmp 88) (.tmp 92) rfl rfl rfl hap ?_)
                    go_roundw
                    case rel => exact ⟨n + 1, a1, A', c', by simp, rfl, by omega, HN⟩
                    case measure => simp [slN]; omega
                  · have hsl : ¬ (s : Int) < 256 := by omega
                    have HO2' := Lib.hid (HO2.out a1 ha18)
                    cases h2 : one lb b3 a1 with
                    | none =>
                      rw [h2] at HO2'
                      have HN := Lib.hid (HPn.out (tokR_n2 H1.out hs (by rw [← Ha1.out]; exact h2)))
                      clear h2
                      go_upto_region 24 with (go_at_call 78; refine HO1.out.mono ?_; rintro e w6 ⟨rfl, rfl⟩)
                      clear HO1
                      go_wp2_with (go_at_call 78; refine HO2'.out.mono ?_; rintro e w6 ⟨rfl, rfl⟩)
                      go_ret2
                      exact RdT.no HN.out HRd.out.kp
                    | some p2 =>
                      obtain ⟨x, k2⟩ := p2
                      rw [h2] at HO2'
                      obtain ⟨r1, r2, r3, r4, _, _⟩ := one_spec h2
                      have hx13 : x < 13 := by have := HN13.out; omega
                      obtain ⟨a2, ha2⟩ : ∃ a2, a2 = a1 + k2 := ⟨_, rfl⟩
                      obtain ⟨a3, ha3⟩ : ∃ a3, a3 = a2 + x := ⟨_, rfl⟩
                      have hw2 : IntKind.i64.wrap ((a1 : Int) + (k2 : Int)) = (a2 : Int) := by rw [IntKind.wrap_i64]; omega
                      have hw3 : IntKind.i64.wrap ((a2 : Int) + (x : Int)) = (a3 : Int) := by rw [IntKind.wrap_i64]; omega
                      have hw8 : IntKind.i64.wrap (8 * (b3.length : Int)) = 8 * (b3.length : Int) := by rw [IntKind.wrap_i64]; omega
                      have hxi : ¬ (x : Int) < 0 := by omega
                      have Ha2 := Lib.hid (And.intro ha2 ha3)
                      have H2 : Hid (one lb b3 (a + k) = some (x, k2) ∧ a + k + k2 = a2 ∧ a2 + x = a3) := Lib.hid ⟨by rw [← Ha1.out]; exact h2, by have := Ha1.out; omega, by omega⟩
                      have ha3b : a3 ≤ 100000 := by omega
                      clear h2 r4 ha2 ha3
                      by_cases hbig : 8 * b3.length < a3
                      · have hbi : 8 * (b3.length : Int) < (a3 : Int) := by omega
                        have HN := Lib.hid (HPn.out (tokR_n3 H1.out hs H2.out.1 (by rw [H2.out.2.1, H2.out.2.2]; exact hbig)))
                        go_upto_region 24 with (go_at_call 78; refine HO1.out.mono ?_; rintro e w6 ⟨rfl, rfl⟩)
                        clear HO1
                        go_wp2_with (go_at_call 78; refine HO2'.out.mono ?_; rintro e w6 ⟨rfl, rfl⟩)
                        go_ret2
                        exact RdT.no HN.out HRd.out.kp
                      · have hbi : ¬ 8 * (b3.length : Int) < (a3 : Int) := by omega
                        have hwm : IntKind.i64.wrap ((s : Int) - 252) = (s : Int) - 252 := by rw [IntKind.wrap_i64]; omega
                        obtain ⟨A', c', w4, hap0, hN⟩ := HA.out ((vAt b3 a2 x : Nat) : Int) ((s : Int) - 252) 0
                        have HX := HPs.out _ _ (tokR_cpy H1.out hs H2.out.1 (by rw [H2.out.2.1, H2.out.2.2]; exact hbig))
                        rw [H2.out.2.1, H2.out.2.2] at HX
                        have HN : Hid (∃ tl, RdS w la lb A1 c1 A6 c6 A3 c3 A7 c7 tl A' (n + 1) c' w4 ∧ readP bl = (toksF la lb b3 (cnt - (n + 1)) a3).map (tl ++ ·) ∧ a3 ≤ 8 * b3.length) := Lib.hid ⟨_, hN, HX⟩
                        have hap : (Builtin.append_ #[22, 22] 22 #[.slice A n c, .slice (some ⟨wr.heap.size, 0, none⟩) 1 1]).run Try.prog (wr.alloc (.cells #[.int .i64 ((vAt b3 a2 x : Nat) : Int), .int .i64 ((s : Int) - 252), .int .u8 0] 64)) = .ok (.slice A' (n + 1) c') w4 := hap0
                        have Hap := Lib.hid hap
                        have HV := Lib.hid (fun j (h : j ≤ 13) => (show vAt b3 a2 j < 16384 from Nat.lt_of_lt_of_le (vAt_lt b3 a2 j) (Nat.pow_le_pow_right (by omega) (by omega : j + 1 ≤ 14))))
                        have HBa : Hid (∀ j, j < x → a2 + j < 8 * b3.length) := Lib.hid (fun j h => by have := Ha2.out; omega)
                        have HBb : Hid (∀ j, bitB b3 (a2 + j) < 2) := Lib.hid (fun j => bitB_lt b3 (a2 + j))
                        clear hN HX hap0 hap HA HPs HPn
                        go_upto_region 24 with (go_at_call 78; refine HO1.out.mono ?_; rintro e w6 ⟨rfl, rfl⟩)
                        clear HO1
                        go_upto_region 28 with (go_at_call 78; refine HO2'.out.mono ?_; rintro e w6 ⟨rfl, rfl⟩)
                        clear HO2 HO2' q2 q3 r2 r3
                        go_wp2
                        go_loop [20, 19] (fun v20 v19 => ∃ (j v : Nat), v20 = .int .i64 j ∧ v19 = .int .i64 v ∧ j ≤ x ∧ v ≤ 16384 ∧ Hid (v = vAt b3 a2 j)) (fun v20 _ => x - (intOf v20).toNat)
                        case atStart => exact ⟨0, 1, rfl, rfl, by omega, by omega, Lib.hid rfl⟩
                        case round =>
                          obtain ⟨j, v, rfl, rfl, hj, hv, hV⟩ := hrel
                          rcases Nat.lt_or_ge j x with hjx | hjx
                          · have hjxi : (j : Int) < x := by omega
                            have hwj : IntKind.i64.wrap ((j : Int) + 1) = (j : Int) + 1 := by rw [IntKind.wrap_i64]; omega
                            obtain ⟨aj, haj⟩ : ∃ aj, aj = a2 + j := ⟨_, rfl⟩
                            have hwaj : IntKind.i64.wrap ((a2 : Int) + (j : Int)) = (aj : Int) := by
                              rw [IntKind.wrap_i64]
                              have := Ha2.out
                              omega
                            have HBj := Lib.hid (HB.out aj (by rw [haj]; exact HBa.out j hjx))
                            have hbj := HBb.out j
                            rw [← haj] at hbj
                            have hw2v : IntKind.i64.wrap ((v : Int) * 2) = (v : Int) * 2 := by rw [IntKind.wrap_i64]; omega
                            have HV1 : Hid (v * 2 + bitB b3 aj = vAt b3 a2 (j + 1)) := Lib.hid (by rw [haj, hV.out]; rfl)
                            have hv1 := HV.out (j + 1) (by omega)
                            rw [← HV1.out] at hv1
                            clear haj
                            generalize bitB b3 aj = bt at *
                            have hwv : IntKind.i64.wrap ((v : Int) * 2 + (bt : Int)) = ((v * 2 + bt : Nat) : Int) := by rw [IntKind.wrap_i64]; omega
                            go_wp2_with (go_at_call 79; refine HBj.out.mono ?_; rintro e w6 ⟨rfl, rfl⟩)
                            exact ⟨⟨j + 1, v * 2 + bt, by simp, rfl, by omega, by omega, HV1⟩, by simp [intOf]; omega⟩
                          · obtain rfl : j = x := by omega
                            have hjn : ¬ (j : Int) < j := by omega
                            have hap := Hap.out
                            rw [← hV.out] at hap
                            clear hV hjx HV
                            go_wp2_with (at_builtin; refine wpList_append2 (v1 := .slice A n c) (v2 := .slice (some ⟨wr.heap.size, 0, none⟩) 1 1) rfl (.tmp 134) (.tmp 139) rfl rfl rfl hap ?_)
                            go_roundw
                            case rel => exact ⟨n + 1, a3, A', c', by simp, rfl, by omega, HN⟩
                            case measure => simp [slN]; omega
            · obtain rfl : n = cnt := by omega
              have hni : ¬ (n : Int) < n := by omega
              have HF : Hid (RdT w (readP bl) (.returned (.tuple #[.slice A n c, .bool true])) wr) := Lib.hid (hR.fin (by rw [hP, Nat.sub_self]; simp [toksF]))
              clear hR hP hsb ha8 hnc hn
              go_wp2
              go_ret2
              exact HF.out
end Go.Proofs.Ytiejjbdmkgdniaa
