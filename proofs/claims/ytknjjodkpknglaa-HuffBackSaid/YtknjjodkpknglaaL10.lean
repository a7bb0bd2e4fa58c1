/- HuffBack, walked. -/
import Derived.Test.YtknjjodkpknglaaL9
import Derived.Test.YtknjjodkpknglaaL4
import Derived.Test.YtknjjodkpknglaaHfD
set_option linter.unusedVariables false
set_option linter.unusedSimpArgs false
namespace Go.Huf
theorem toI_back {ls ss : List Int} (h : ∀ s ∈ ss, okS ls s) : toI (ss.map Int.toNat) = ss := by
  unfold toI
  rw [List.map_map]
  conv => rhs; rw [← List.map_id ss]
  refine List.map_congr_left (fun s hs => ?_)
  have := (h s hs).1
  simp only [Function.comp, id]
  omega
end Go.Huf
namespace Go.Proofs.Ytknjjodkpknglaa
open Go.ChangeShapes Go.WideShapes Go.ChangeAt Go.RowKit Go.Sal Go.Huf
theorem by_src {w : World} {A : Option Addr} {l : List Nat} (h : BySrc w A l) : Src w 1 A l.length (inB l) := by
  refine ⟨by rw [inB_len]; omega, fun h0 => ?_⟩
  obtain ⟨g, o, rfl, _, _⟩ := h.1 0 h0
  refine ⟨_, rfl, fun j u hu => ?_⟩
  have hj : j < l.length := by
    rcases Nat.lt_or_ge j l.length with h1 | h1
    · exact h1
    · rw [List.getElem?_eq_none (by rw [inB_len]; exact h1)] at hu; cases hu
  obtain ⟨g', o', e, _, hc⟩ := h.1 j hj
  injection e with e
  injection e with e1 e2
  subst e1; subst e2
  rw [add_mk, hc, ← hu]
  simp [inB, hj]
theorem by_own {w : World} {base n c : Nat} {A : Option Addr} {l : List Nat} (h : w.ownsRow base 5 1 (.slice A n c) n (inB l)) (hb : ∀ x ∈ l, x < 256) : BySrc w A l := ⟨fun i hi => by
  have hl : n = l.length := by have := h.1; rw [inB_len] at this; omega
  obtain ⟨g, rfl, hg, _⟩ := own_some h (by omega)
  exact ⟨g, 0, rfl, hg, by rw [Nat.zero_add]; exact (inB_cell h hi).1⟩, hb⟩
/-- bytes behind a row of bytes -/
theorem bytes_append {base n m c c2 : Nat} {A A2 : Option Addr} {f l2 : List Nat} {w : World} (h : w.ownsRow base 5 1 (.slice A n c) n (inB f)) (h2 : Src w 1 A2 m (inB l2)) (hn2 : n + m ≤ 10000000) (hB : base ≤ w.heap.size) :
    ∃ A' c' w', (Builtin.append_ #[32, 32] 32 #[.slice A n c, .slice A2 m c2]).run Try.prog w = .ok (.slice A' (n + m) c') w' ∧
      w'.ownsRow base 5 1 (.slice A' (n + m) c') (n + m) (inB (f ++ l2)) ∧ Keep (Value.slice A n c).ownBlock.toList w w' := by
  obtain ⟨v', w', hrun, hown, hg, hat⟩ := run_append_src (P := Try.prog) w 32 32 5 (.int .u8 0) 1 1 base Try.underlying32 u8info rfl (by omega) (.slice A n c) n (inB f) h
    A2 m c2 (inB l2) h2 (inB_one l2) (by unfold maxLen; omega) (by omega) hB
  obtain ⟨A', c', rfl, _⟩ := own_slice hown
  exact ⟨A', c', w', hrun, by simpa [inB] using hown, (Keep.refl _ w).grown hg (fun k hk => .inl (by simp [hk]))⟩
/-- the two appends of the law: a fresh copy of the code, and what stands behind -/
theorem two_appends {w : World} {A1 AB : Option Addr} {c1 cB : Nat} {b beh : List Nat} {b0 : Nat} (h1 : w.ownsRow b0 5 1 (.slice A1 b.length c1) b.length (inB b)) (h2 : BySrc w AB beh) (hb : b.length ≤ 100000) (hh : beh.length ≤ 120) :
    ∃ A2 c2 w2 A3 c3 w3, (Builtin.append_ #[32, 32] 32 #[.slice (some ⟨w.heap.size, 0, none⟩) 0 0, .slice A1 b.length c1]).run Try.prog (w.alloc (.cells #[] 5)) = .ok (.slice A2 b.length c2) w2 ∧
      (Builtin.append_ #[32, 32] 32 #[.slice A2 b.length c2, .slice AB beh.length cB]).run Try.prog w2 = .ok (.slice A3 (b ++ beh).length c3) w3 ∧
      w3.ownsRow w.heap.size 5 1 (.slice A3 (b ++ beh).length c3) (b ++ beh).length (inB (b ++ beh)) ∧ Keep [] w w3 := by
  have hka : Keep [] w (w.alloc (.cells #[] 5)) := (Keep.refl [] w).alloc _
  have hm : (w.alloc (.cells #[] 5)).ownsRow w.heap.size 5 1 (.slice (some ⟨w.heap.size, 0, none⟩) 0 0) 0 (inB []) := World.ownsRow_made w #[] 0 (Nat.le_refl _) (by simp [maxLen]) (by simp)
  obtain ⟨A2, c2, w2, hrun2, hown2, hk2⟩ := bytes_append (c2 := c1) hm (own_src (ownsRow_keep h1 hka (by simp))) (by omega) hka.size
  rw [Nat.zero_add, List.nil_append] at hown2
  rw [Nat.zero_add] at hrun2
  have hk02 : Keep [] w w2 := hka.step hk2 (fun j hj => .inr (by simp [Value.ownBlock] at hj; omega))
  obtain ⟨A3, c3, w3, hrun3, hown3, hk3⟩ := bytes_append (c2 := cB) hown2 (by_src (h2.keep hk02 (by simp))) (by omega) hk02.size
  have hl : b.length + beh.length = (b ++ beh).length := by simp
  rw [hl] at hrun3 hown3
  exact ⟨A2, c2, w2, A3, c3, w3, hrun2, hrun3, hown3, hk02.step hk3 (fun j hj => .inr (hown2.lt j (by simpa using hj)).1)⟩
set_option maxRecDepth 20000 in
set_option maxHeartbeats 2000000 in
theorem law10_any (v0 : Value) (l0 : List Int) (v1 : Value) (l1 : List Int) (v2 : Value) (b2 : List UInt8) (w : World) (h0 : IntArg w v0 l0) (h1 : IntArg w v1 l1) (h2 : Reads w.heap.size 5 w v2 b2) :
    Calls Try.prog 10 #[v0, v1, v2] w fun e w' => e = .returned (.bool true) ∧ Keep [] w w' := by
  have Hf := Lib.hid (few_ints h0)
  have Hcu := Lib.hid (cut_ints h1)
  obtain ⟨AB, cB, n, beh, rfl, a1, a2, hb, hbl, hcase⟩ := by_arg h2
  clear h0 h1 h2
  have hl60 : (l0.take 60).length ≤ 60 := by rw [List.length_take]; omega
  have hs120 : (l1.take 120).length ≤ 120 := by rw [List.length_take]; omega
  generalize l0.take 60 = ls at *
  generalize l1.take 120 = ss at *
  obtain ⟨l, M, E, hE, hspec⟩ := enc_both ls ss hl60 hs120
  have He := Lib.hid hE
  have Hb := Lib.hid hb
  clear hE hb
  have hbq := Lib.run_eql_slice_nil (P := Try.prog)
  clear hbq
  have hem := run_empty_slice (P := Try.prog) 32 5 _ _ _ Try.underlying32 u8info
  rcases hspec with ⟨rfl, hok, hall, rfl, rfl⟩ | ⟨hE0, rfl, rfl⟩
  · have hbits : (bitsOf ls ss).length ≤ 1800 := by have := bitsOf_len hok.2.1 ss; omega
    have hpl : (pack (bitsOf ls ss)).length ≤ 1000 := by rw [pack_len]; omega
    have hx := dec_back (beh := beh) hok hall
    have Hdec : Hid (∀ A c A3 c3 w, ISrc w A ls → BySrc w A3 (pack (bitsOf ls ss) ++ beh) → Calls Try.prog 29 #[.slice A ls.length c, .slice A3 (pack (bitsOf ls ss) ++ beh).length c3, .int .i64 (ss.length : Nat)] w (fun e w' =>
        ∃ A4 c4, e = .returned (.tuple #[.slice A4 ss.length c4, .int .i64 ((bitsOf ls ss).length : Nat), .int .i64 0]) ∧ ISrc w' A4 ss ∧ Keep [] w w')) := Lib.hid (fun A c A3 c3 w hs ht =>
      (decode_any stab_k (Nat.le_refl _) ls _ A A3 c c3 ss.length w hs ht hok (by omega) (by rw [List.length_append]; omega) (by omega)).mono (by
        rintro e w' ⟨l', a', E', hP', A4, c4, rfl, hown, hk⟩
        obtain ⟨rfl, rfl, rfl⟩ := hx.same hP'
        rw [inN_inI, toI_back hall] at hown
        rw [List.length_map]
        exact ⟨A4, c4, rfl, ISrc.of_own hown, hk⟩))
    have Hby : Hid (∀ x ∈ pack (bitsOf ls ss) ++ beh, x < 256) := Lib.hid (fun x hx => by
      rcases List.mem_append.1 hx with h | h
      · exact pack_lt x h
      · exact Hb.out.2 x h)
    have Hsm : Hid (∀ A1 A2 c1 c2 w, ISrc w A1 ss → ISrc w A2 ss → Calls Try.prog 14 #[.slice A1 ss.length c1, .slice A2 ss.length c2] w fun e w' => e = .returned (.bool true) ∧ ∃ k, w' = w.drewN k) := Lib.hid (fun A1 A2 c1 c2 w h1 h2 => (same_any ss ss A1 A2 c1 c2 w h1 h2 (by omega) (by omega)).mono (by
      rintro e w' ⟨b, rfl, hb, k, rfl⟩
      obtain rfl : b = true := hb.2 rfl
      exact ⟨rfl, k, rfl⟩))
    generalize pack (bitsOf ls ss) = pb at *
    generalize (bitsOf ls ss).length = nb at *
    clear hok hall hx
    rcases hcase with ⟨⟨hn, gb, ob, rfl⟩, hln⟩ | ⟨hn, hln⟩
    · have hni : (120 : Int) < n := by omega
      have Happ : Hid (∀ w1 A1 c1, w1.ownsRow w.heap.size 5 1 (.slice A1 pb.length c1) pb.length (inB pb) → Keep [] w w1 → ∃ A2 c2 w2 A3 c3 w3, (Builtin.append_ #[32, 32] 32 #[.slice (some ⟨w1.heap.size, 0, none⟩) 0 0, .slice A1 pb.length c1]).run Try.prog (w1.alloc (.cells #[] 5)) = .ok (.slice A2 pb.length c2) w2 ∧
          (Builtin.append_ #[32, 32] 32 #[.slice A2 pb.length c2, .slice (some ⟨gb, ob, none⟩) 120 cB]).run Try.prog w2 = .ok (.slice A3 (pb ++ beh).length c3) w3 ∧ BySrc w3 A3 (pb ++ beh) ∧ Keep [] w1 w3) := Lib.hid (fun w1 A1 c1 ho hk => by
        obtain ⟨A2, c2, w2, A3, c3, w3, q1, q2, q3, q4⟩ := two_appends (cB := cB) ho (Hb.out.keep hk (by simp)) (by omega) (by omega)
        rw [hln] at q2
        exact ⟨A2, c2, w2, A3, c3, w3, q1, q2, by_own q3 Hby.out, q4⟩)
      clear hln
      as_aux_lemma =>
        go_enter Try.func10, Try.ntmps10
        go_wp2_with (first
          | (go_at_call 11; refine Hf.out.mono ?_; rintro e w1 ⟨A, c, rfl, _, hs, rfl⟩; have Hs := Lib.hid hs; clear hs)
          | (go_at_call 16; refine Hcu.out.mono ?_; rintro e w1 ⟨As, cs, rfl, _, hss, rfl⟩; have Hss := Lib.hid hss; clear hss)
          | (go_at_call 17; refine (He.out A c As cs _ Hs.out Hss.out).1.mono ?_; rintro e w1 ⟨A1, c1, rfl, hown1, hk1⟩
             obtain ⟨A2, c2, w2, A3, c3, w3, q1, q2, q3, q4⟩ := Happ.out w1 A1 c1 hown1 hk1
             have Hs3 := Lib.hid (Hs.out.keep (hk1.trans q4) (by simp)); have Hss3 := Lib.hid (Hss.out.keep (hk1.trans q4) (by simp)); have Q3 := Lib.hid q3; have Hk3 := Lib.hid (hk1.trans q4); have Q1 := Lib.hid q1; have Q2 := Lib.hid q2
             clear hown1 hk1 q1 q2 q3 q4
             generalize (pb ++ beh).length = nl at *)
          | (at_builtin; refine wpList_append2 rfl (.tmp 43) (.tmp 44) rfl rfl rfl Q1.out ?_)
          | (at_builtin; refine wpList_append2 rfl (.tmp 45) (.tmp 46) rfl rfl rfl Q2.out ?_)
          | (go_at_call 29; refine (Hdec.out A c A3 c3 _ Hs3.out Q3.out).mono ?_; rintro e w4 ⟨A4, c4, rfl, hs4, hk4⟩
             have Hsm4 := Lib.hid (Hsm.out A4 As c4 cs _ hs4 (Hss3.out.keep hk4 (by simp))); have Hk4 := Lib.hid (Hk3.out.trans hk4); clear hs4 hk4)
          | (go_at_call 14; refine Hsm4.out.mono ?_; rintro e w5 ⟨rfl, k, rfl⟩)
          | (go_at_call 15; refine (alive_any _).mono ?_; rintro e w6 ⟨rfl, hk6⟩; have Hk6 := Lib.hid ((Hk4.out.drewN _).trans hk6); clear hk6))
        go_ret
        exact ⟨rfl, Hk6.out⟩
    · have hni : ¬ (120 : Int) < n := by omega
      have Happ : Hid (∀ w1 A1 c1, w1.ownsRow w.heap.size 5 1 (.slice A1 pb.length c1) pb.length (inB pb) → Keep [] w w1 → ∃ A2 c2 w2 A3 c3 w3, (Builtin.append_ #[32, 32] 32 #[.slice (some ⟨w1.heap.size, 0, none⟩) 0 0, .slice A1 pb.length c1]).run Try.prog (w1.alloc (.cells #[] 5)) = .ok (.slice A2 pb.length c2) w2 ∧
          (Builtin.append_ #[32, 32] 32 #[.slice A2 pb.length c2, .slice AB n cB]).run Try.prog w2 = .ok (.slice A3 (pb ++ beh).length c3) w3 ∧ BySrc w3 A3 (pb ++ beh) ∧ Keep [] w1 w3) := Lib.hid (fun w1 A1 c1 ho hk => by
        obtain ⟨A2, c2, w2, A3, c3, w3, q1, q2, q3, q4⟩ := two_appends (cB := cB) ho (Hb.out.keep hk (by simp)) (by omega) (by omega)
        rw [hln] at q2
        exact ⟨A2, c2, w2, A3, c3, w3, q1, q2, by_own q3 Hby.out, q4⟩)
      clear hln
      as_aux_lemma =>
        go_enter Try.func10, Try.ntmps10
        go_wp2_with (first
          | (go_at_call 11; refine Hf.out.mono ?_; rintro e w1 ⟨A, c, rfl, _, hs, rfl⟩; have Hs := Lib.hid hs; clear hs)
          | (go_at_call 16; refine Hcu.out.mono ?_; rintro e w1 ⟨As, cs, rfl, _, hss, rfl⟩; have Hss := Lib.hid hss; clear hss)
          | (go_at_call 17; refine (He.out A c As cs _ Hs.out Hss.out).1.mono ?_; rintro e w1 ⟨A1, c1, rfl, hown1, hk1⟩
             obtain ⟨A2, c2, w2, A3, c3, w3, q1, q2, q3, q4⟩ := Happ.out w1 A1 c1 hown1 hk1
             have Hs3 := Lib.hid (Hs.out.keep (hk1.trans q4) (by simp)); have Hss3 := Lib.hid (Hss.out.keep (hk1.trans q4) (by simp)); have Q3 := Lib.hid q3; have Hk3 := Lib.hid (hk1.trans q4); have Q1 := Lib.hid q1; have Q2 := Lib.hid q2
             clear hown1 hk1 q1 q2 q3 q4
             generalize (pb ++ beh).length = nl at *)
          | (at_builtin; refine wpList_append2 rfl (.tmp 43) (.tmp 44) rfl rfl rfl Q1.out ?_)
          | (at_builtin; refine wpList_append2 rfl (.tmp 45) (.tmp 46) rfl rfl rfl Q2.out ?_)
          | (go_at_call 29; refine (Hdec.out A c A3 c3 _ Hs3.out Q3.out).mono ?_; rintro e w4 ⟨A4, c4, rfl, hs4, hk4⟩
             have Hsm4 := Lib.hid (Hsm.out A4 As c4 cs _ hs4 (Hss3.out.keep hk4 (by simp))); have Hk4 := Lib.hid (Hk3.out.trans hk4); clear hs4 hk4)
          | (go_at_call 14; refine Hsm4.out.mono ?_; rintro e w5 ⟨rfl, k, rfl⟩)
          | (go_at_call 15; refine (alive_any _).mono ?_; rintro e w6 ⟨rfl, hk6⟩; have Hk6 := Lib.hid ((Hk4.out.drewN _).trans hk6); clear hk6))
        go_ret
        exact ⟨rfl, Hk6.out⟩
  · have hE1 : (E != 0) = true := by simpa using hE0
    clear hE0
    rcases hcase with ⟨⟨hn, gb, ob, rfl⟩, hln⟩ | ⟨hn, hln⟩
    · have hni : (120 : Int) < n := by omega
      clear hln
      as_aux_lemma =>
        go_enter Try.func10, Try.ntmps10
        go_wp2_with (first
          | (go_at_call 11; refine Hf.out.mono ?_; rintro e w1 ⟨A, c, rfl, _, hs, rfl⟩; have Hs := Lib.hid hs; clear hs)
          | (go_at_call 16; refine Hcu.out.mono ?_; rintro e w1 ⟨As, cs, rfl, _, hss, rfl⟩; have Hss := Lib.hid hss; clear hss)
          | (go_at_call 17; refine (He.out A c As cs _ Hs.out Hss.out).1.mono ?_; rintro e w1 ⟨A1, c1, rfl, hown1, hk1⟩; have Hk1 := Lib.hid hk1; clear hown1 hk1)
          | (go_at_call 15; refine (alive_any _).mono ?_; rintro e w6 ⟨rfl, hk6⟩; have Hk6 := Lib.hid (Hk1.out.trans hk6); clear hk6))
        go_ret
        exact ⟨rfl, Hk6.out⟩
    · have hni : ¬ (120 : Int) < n := by omega
      clear hln
      as_aux_lemma =>
        go_enter Try.func10, Try.ntmps10
        go_wp2_with (first
          | (go_at_call 11; refine Hf.out.mono ?_; rintro e w1 ⟨A, c, rfl, _, hs, rfl⟩; have Hs := Lib.hid hs; clear hs)
          | (go_at_call 16; refine Hcu.out.mono ?_; rintro e w1 ⟨As, cs, rfl, _, hss, rfl⟩; have Hss := Lib.hid hss; clear hss)
          | (go_at_call 17; refine (He.out A c As cs _ Hs.out Hss.out).1.mono ?_; rintro e w1 ⟨A1, c1, rfl, hown1, hk1⟩; have Hk1 := Lib.hid hk1; clear hown1 hk1)
          | (go_at_call 15; refine (alive_any _).mono ?_; rintro e w6 ⟨rfl, hk6⟩; have Hk6 := Lib.hid (Hk1.out.trans hk6); clear hk6))
        go_ret
        exact ⟨rfl, Hk6.out⟩
end Go.Proofs.Ytknjjodkpknglaa
