/- CodecDecodes, walked. -/
import Derived.Test.YtiejjbdmkgdniaaArg
import Derived.Test.YtiejjbdmkgdniaaY5
set_option linter.unusedVariables false
set_option linter.unusedSimpArgs false
namespace Go.Cod
open Go.Huf
theorem decT_lt {b : List Nat} (hb : ∀ x ∈ b, x < 256) : ∀ x ∈ decT b, x < 256 := by
  unfold decT
  cases hd : decP b with
  | none => simp
  | some q =>
    unfold decP at hd
    cases hh : headP b with
    | none => rw [hh] at hd; cases hd
    | some z =>
      obtain ⟨n, p, r⟩ := z
      have hr := (head_cut hb hh).1
      rw [hh] at hd
      simp only at hd
      split at hd
      · split at hd
        · split at hd
          · cases hd
          · rename_i q2 hq
            split at hd
            · injection hd with hd
              subst hd
              exact (bytF_lt _ [] _ (unpT_lit r) (by simp) (by simp) hq).1
            · cases hd
        · cases hd
      · split at hd
        · injection hd with hd
          subst hd
          intro x hx
          rw [Option.getD_some, hr] at hx
          exact hb x (List.mem_of_mem_drop hx)
        · cases hd
end Go.Cod
namespace Go.Proofs.Ytiejjbdmkgdniaa
open Go.RowKit Go.Sal Go.Huf Go.Cod
set_option maxRecDepth 20000 in
set_option maxHeartbeats 2000000 in
theorem law8_any (v : Value) (l0 : List Nat) (w : World) (h : BytArg w v l0) : Calls Try.prog 8 #[v] w fun e w' => e = .returned (.bool true) ∧ Keep [] w w' := by
  have Hf := Lib.hid (cut_arg h)
  clear h
  have hl : (l0.take 700).length ≤ 700 := by rw [List.length_take]; omega
  generalize l0.take 700 = l at *
  have HD := Lib.hid (fun (A : Option Addr) (c : Nat) (w1 : World) (hs : BySrc w1 A l) (hc : l.length ≤ c) (hA : ∀ a, A = some a → a.block < w1.heap.size) => decode_any l A c w1 hs hc hA (by omega))
  have HR := Lib.hid (fun (A : Option Addr) (c : Nat) (w1 : World) (hs : BySrc w1 A l) (hc : l.length ≤ c) => rdecode_any l A c w1 hs hc (by omega))
  have HH := Lib.hid (fun (A : Option Addr) (c : Nat) (w1 : World) (hs : BySrc w1 A l) (hc : l.length ≤ c) => head22_any l A c w1 hs hc (by omega))
  have HI := Lib.hid (fun (A : Option Addr) (c : Nat) (w1 : World) (hs : BySrc w1 A l) (hc : l.length ≤ c) => rhead_any l A c w1 hs hc (by omega))
  unfold HdE at HH HI
  have Hlt : Hid ((∀ x ∈ l, x < 256) → ∀ x ∈ decT l, x < 256) := Lib.hid decT_lt
  generalize decT l = dt at *
  generalize decC l = dc at *
  generalize hdN l = hn at *
  generalize hdB l = hb at *
  generalize hdC l = hcc at *
  go_enter Try.func8, Try.ntmps8
  go_upto_region 2 with (go_at_call 14; refine Hf.out.mono ?_; rintro e w1 ⟨A, c, rfl, hc, hs, hA, rfl⟩; have Hs := Lib.hid (And.intro hs hA); clear hs hA)
  have Hlt2 := Lib.hid (Hlt.out Hs.out.1.2)
  go_upto_region 3 with (go_at_call 20; refine (HD.out A c _ Hs.out.1 hc Hs.out.2).mono ?_; rintro e w1 ⟨A1, c1, rfl, ho1, hk1⟩; have H1 := Lib.hid (And.intro (bsrc_own ho1 Hlt2.out) hk1); clear ho1 hk1)
  go_upto_region 4 with (go_at_call 21; refine (HR.out A c _ (Hs.out.1.keep H1.out.2 (by simp)) hc).mono ?_; rintro e w2 ⟨A2, c2, rfl, ho2, hk2⟩; have H2 := Lib.hid (And.intro (H1.out.1.keep hk2 (by simp)) (And.intro (bsrc_own ho2 Hlt2.out) (H1.out.2.trans hk2))); clear ho2 hk2)
  go_upto_region 5 with (go_at_call 22; refine (HH.out A c _ (Hs.out.1.keep H2.out.2.2 (by simp)) hc).mono ?_; rintro e w3 ⟨rfl, hk3⟩; have H3 := Lib.hid (And.intro (H2.out.1.keep hk3 (by simp)) (And.intro (H2.out.2.1.keep hk3 (by simp)) (H2.out.2.2.trans hk3))); clear hk3)
  go_upto_region 6 with (go_at_call 23; refine (HI.out A c _ (Hs.out.1.keep H3.out.2.2 (by simp)) hc).mono ?_; rintro e w4 ⟨rfl, hk4⟩; have H4 := Lib.hid (And.intro (H3.out.1.keep hk4 (by simp)) (And.intro (H3.out.2.1.keep hk4 (by simp)) (H3.out.2.2.trans hk4))); clear hk4)
  have e1 := str_src H4.out.1 c1
  have e2 := str_src H4.out.2.1 c2
  generalize strN dt = S at *
  clear HD HR HH HI
  cases hb
  · go_wp2_with (go_at_call 13; refine (alive_any _).mono ?_; rintro e w5 ⟨rfl, hk5⟩; have Hk5 := Lib.hid (H4.out.2.2.trans hk5); clear hk5)
    go_ret
    exact ⟨rfl, Hk5.out⟩
  · go_wp2_with (go_at_call 13; refine (alive_any _).mono ?_; rintro e w5 ⟨rfl, hk5⟩; have Hk5 := Lib.hid (H4.out.2.2.trans hk5); clear hk5)
    go_ret
    exact ⟨rfl, Hk5.out⟩
end Go.Proofs.Ytiejjbdmkgdniaa
