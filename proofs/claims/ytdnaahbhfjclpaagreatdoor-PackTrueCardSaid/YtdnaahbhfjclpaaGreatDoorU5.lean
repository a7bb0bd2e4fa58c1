/- The book: a map from codes to symbols. -/
import Derived.Test.YtdnaahbhfjclpaaGreatDoorS11
import Derived.Test.YtdnaahbhfjclpaaGreatDoorHfK
import Derived.Test.YtdnaahbhfjclpaaGreatDoorS5
import Derived.Test.YtdnaahbhfjclpaaGreatDoorF2
import Derived.Test.YtdnaahbhfjclpaaGreatDoorF6
set_option linter.unusedVariables false
set_option linter.unusedSimpArgs false
namespace Go.Proofs.YtdnaahbhfjclpaaGreatDoor
open Go.RowKit Go.Sal Go.Huf
theorem sym_any {key : Nat → Int} {m0 base g n cap bx : Nat} (hn : n ≤ 1000000) (hk : ∀ z < m0, -100 ≤ key z ∧ key z ≤ 100) : ∀ N, SymOK key m0 base g n cap bx N
  | 0 => fun A B P R w h hA hB => by omega
  | N + 1 => fun A B P R w h hA hB hrow hc hT => by
    have IH := sym_any (base := base) (g := g) (cap := cap) (bx := bx) hn hk N
    rcases Nat.lt_or_ge N (A.length + B.length) with h1 | h1
    · by_cases hA1 : A.length = 1
      · obtain ⟨x, rfl⟩ := List.length_eq_one_iff.1 hA1
        exact sym_one key m0 base g n cap bx x B P R w hrow hc hT.lt hk hT.sb (fun y hy => hT.ab x (by simp) y hy) hn
      · by_cases hB1 : B.length = 1
        · obtain ⟨y, rfl⟩ := List.length_eq_one_iff.1 hB1
          exact sym_last key m0 base g n cap bx y A P R w hrow hc hT.lt hk hT.sa (fun z hz => hT.ab z hz y (by simp)) hn hA1
        · exact sym_gen IH hn hk A B P R w (by omega) (by omega) (by omega) hrow hc hT
    · exact IH A B P R w h1 hA hB hrow hc hT
section
variable {key : Nat → Int} {m base g n cap bx : Nat} {w wr : World}
theorem stab_ins {P X R : List Nat} (hS : SR w base g n cap (P ++ X ++ R) wr) (hc : Cmp g w key m bx) (hm : ∀ x ∈ X, x < m) (hk : ∀ x < m, -100 ≤ key x ∧ key x ≤ 100) (hX : X.Pairwise (· < ·)) (hn : n ≤ 1000000) {a b : Nat} (ha : a = P.length) (hb : b = P.length + X.length) :
    Calls Tryz.prog 167 #[.slice (some ⟨g, 0, none⟩) n cap, .int .i64 (a : Nat), .int .i64 (b : Nat), .func (.func 157) #[] #[.pointer (some ⟨bx, 0, none⟩)]] wr fun e w' => e = .returned (.tuple #[]) ∧ SR w base g n cap (P ++ isort key X ++ R) w' := by
  subst ha hb
  refine (inssort_any key m base g n cap bx P X R wr hS.1 (hc.keep hS.2) hm hk hX hn).mono ?_
  rintro e w' ⟨rfl, hr, hk2⟩
  exact ⟨rfl, hr, hS.2.trans hk2⟩
theorem stab_merge {P X Y R : List Nat} (hS : SR w base g n cap (P ++ (isort key X ++ isort key Y) ++ R) wr) (hc : Cmp g w key m bx) (hm : ∀ x ∈ X ++ Y, x < m) (hk : ∀ x < m, -100 ≤ key x ∧ key x ≤ 100) (hX : (X ++ Y).Pairwise (· < ·)) (hn : n ≤ 1000000) (h1 : 0 < X.length) (h2 : 0 < Y.length) {a b c : Nat} (ha : a = P.length) (hb : b = P.length + X.length) (hcc : c = P.length + X.length + Y.length) :
    Calls Tryz.prog 168 #[.slice (some ⟨g, 0, none⟩) n cap, .int .i64 (a : Nat), .int .i64 (b : Nat), .int .i64 (c : Nat), .func (.func 157) #[] #[.pointer (some ⟨bx, 0, none⟩)]] wr fun e w' => e = .returned (.tuple #[]) ∧ SR w base g n cap (P ++ isort key (X ++ Y) ++ R) w' := by
  subst ha hb hcc
  have hnd : (X ++ Y).Nodup := hX.imp (fun h => by omega)
  have hnd' := List.nodup_append.1 hnd
  have hT : Two key m (isort key X) (isort key Y) := ⟨fun x hx => hm x (by
      rcases List.mem_append.1 hx with hx | hx
      · exact List.mem_append_left _ ((isort_perm X).mem_iff.1 hx)
      · exact List.mem_append_right _ ((isort_perm Y).mem_iff.1 hx)), isort_srtd hnd'.1, isort_srtd hnd'.2.1, fun x hx y hy => (List.pairwise_append.1 hX).2.2 x ((isort_perm X).mem_iff.1 hx) y ((isort_perm Y).mem_iff.1 hy)⟩
  have := sym_any hn hk (X.length + Y.length) (isort key X) (isort key Y) P R wr (by rw [isort_len, isort_len]; omega) (by rw [isort_len]; exact h1) (by rw [isort_len]; exact h2) hS.1 (hc.keep hS.2) hT
  rw [isort_len, isort_len] at this
  refine this.mono ?_
  rintro e w' ⟨rfl, hr, hk2⟩
  rw [isort_two hnd] at hr
  exact ⟨rfl, hr, hS.2.trans hk2⟩
end
def MG (w : World) (base g n cap : Nat) (key : Nat → Int) (l : List Nat) (s k : Nat) (wr : World) : Prop := SR w base g n cap (sb key (2 * s) (l.take (k * (2 * s))) ++ sb key s (l.drop (k * (2 * s)))) wr
section
variable {key : Nat → Int} {m base g n cap bx : Nat} {w wr : World} {l : List Nat} {s k : Nat}
theorem MG.next (h : MG w base g n cap key l s k wr) (hs : 0 < s) (hc : Cmp g w key m bx) (hm : ∀ x ∈ l, x < m) (hk : ∀ x < m, -100 ≤ key x ∧ key x ≤ 100) (hl : l.Pairwise (· < ·)) (hn : n ≤ 1000000) (hb : k * (2 * s) + 2 * s ≤ l.length) {a b c : Nat} (ha : a = k * (2 * s)) (hb' : b = a + s) (hcc : c = a + 2 * s) :
    Calls Tryz.prog 168 #[.slice (some ⟨g, 0, none⟩) n cap, .int .i64 (a : Nat), .int .i64 (b : Nat), .int .i64 (c : Nat), .func (.func 157) #[] #[.pointer (some ⟨bx, 0, none⟩)]] wr fun e w' => e = .returned (.tuple #[]) ∧ MG w base g n cap key l s (k + 1) w' := by
  subst ha
  subst hb' hcc
  have hd : (l.drop (k * (2 * s))).length = l.length - k * (2 * s) := List.length_drop
  have hS := h
  unfold MG at hS
  rw [sb_two (l := l.drop (k * (2 * s))) hs (by omega)] at hS
  have hpl : (sb key (2 * s) (l.take (k * (2 * s)))).length = k * (2 * s) := by rw [sb_len (by omega), List.length_take]; omega
  have hx : ((l.drop (k * (2 * s))).take s).length = s := by rw [List.length_take]; omega
  have hy : (((l.drop (k * (2 * s))).drop s).take s).length = s := by rw [List.length_take, List.length_drop]; omega
  have hxy : (l.drop (k * (2 * s))).take s ++ ((l.drop (k * (2 * s))).drop s).take s = (l.drop (k * (2 * s))).take (s + s) := (take_two _ s s).symm
  have hsub : ((l.drop (k * (2 * s))).take (s + s)).Sublist l := (List.take_sublist _ _).trans (List.drop_sublist _ _)
  have := stab_merge (P := sb key (2 * s) (l.take (k * (2 * s)))) (X := (l.drop (k * (2 * s))).take s) (Y := ((l.drop (k * (2 * s))).drop s).take s) (R := sb key s ((l.drop (k * (2 * s))).drop (s + s))) (by simpa using hS) hc
    (by rw [hxy]; exact fun x hx => hm x (hsub.mem hx)) hk (by rw [hxy]; exact hl.sublist hsub) hn (by omega) (by omega) hpl.symm (b := k * (2 * s) + s) (by rw [hpl, hx]) (c := k * (2 * s) + 2 * s) (by rw [hpl, hx, hy]; omega)
  refine this.mono ?_
  rintro e w' ⟨rfl, hr⟩
  refine ⟨rfl, ?_⟩
  unfold MG
  rw [hxy, List.drop_drop] at hr
  rw [show (k + 1) * (2 * s) = k * (2 * s) + 2 * s by rw [Nat.add_mul]; omega, sb_next (by omega) (by omega)]
  rw [show s + s = 2 * s by omega] at hr
  exact hr
theorem MG.last (h : MG w base g n cap key l s k wr) (hs : 0 < s) (hc : Cmp g w key m bx) (hm : ∀ x ∈ l, x < m) (hk : ∀ x < m, -100 ≤ key x ∧ key x ≤ 100) (hl : l.Pairwise (· < ·)) (hn : n ≤ 1000000) (hnl : n = l.length) (hb : l.length < k * (2 * s) + 2 * s) (hb2 : k * (2 * s) + s < l.length) {a b : Nat} (ha : a = k * (2 * s)) (hb' : b = a + s) :
    Calls Tryz.prog 168 #[.slice (some ⟨g, 0, none⟩) n cap, .int .i64 (a : Nat), .int .i64 (b : Nat), .int .i64 (n : Nat), .func (.func 157) #[] #[.pointer (some ⟨bx, 0, none⟩)]] wr fun e w' => e = .returned (.tuple #[]) ∧ SR w base g n cap (sb key (2 * s) l) w' := by
  subst ha
  subst hb'
  have hd : (l.drop (k * (2 * s))).length = l.length - k * (2 * s) := List.length_drop
  have hS := h
  unfold MG at hS
  rw [sb_two (l := l.drop (k * (2 * s))) hs (by omega), List.drop_drop (i := s + s), List.drop_of_length_le (i := k * (2 * s) + (s + s)) (by omega), sb_nil] at hS
  have hpl : (sb key (2 * s) (l.take (k * (2 * s)))).length = k * (2 * s) := by rw [sb_len (by omega), List.length_take]; omega
  have hx : ((l.drop (k * (2 * s))).take s).length = s := by rw [List.length_take]; omega
  have hy : (((l.drop (k * (2 * s))).drop s).take s).length = l.length - k * (2 * s) - s := by rw [List.length_take, List.length_drop]; omega
  have hxy : (l.drop (k * (2 * s))).take s ++ ((l.drop (k * (2 * s))).drop s).take s = l.drop (k * (2 * s)) := by
    rw [← take_two]; exact List.take_of_length_le (by omega)
  have hsub : (l.drop (k * (2 * s))).Sublist l := List.drop_sublist _ _
  have := stab_merge (P := sb key (2 * s) (l.take (k * (2 * s)))) (X := (l.drop (k * (2 * s))).take s) (Y := ((l.drop (k * (2 * s))).drop s).take s) (R := []) (by simpa using hS) hc
    (by rw [hxy]; exact fun x hx => hm x (hsub.mem hx)) hk (by rw [hxy]; exact hl.sublist hsub) hn (by omega) (by omega) hpl.symm (b := k * (2 * s) + s) (by rw [hpl, hx]) (c := n) (by rw [hpl, hx, hy, hnl]; omega)
  refine this.mono ?_
  rintro e w' ⟨rfl, hr⟩
  refine ⟨rfl, ?_⟩
  rw [hxy, List.append_nil] at hr
  rw [sb_rest (s := 2 * s) (k := k) (by omega) (by omega) (by omega)]
  exact hr
theorem MG.none (h : MG w base g n cap key l s k wr) (hs : 0 < s) (hb : l.length ≤ k * (2 * s) + s) (ha : k * (2 * s) ≤ l.length) : SR w base g n cap (sb key (2 * s) l) wr := by
  unfold MG at h
  rw [sb_small (l := l.drop (k * (2 * s))) hs (by rw [List.length_drop]; omega)] at h
  rw [sb_rest (s := 2 * s) (k := k) (by omega) ha (by omega)]
  exact h
end
set_option maxRecDepth 20000 in
set_option maxHeartbeats 4000000 in
theorem stab_any : StabOK 1000000 := fun key m base g n cap bx l w h hc hm hk hl hn => by
  have hnl := row_n h
  have Hc := Lib.hid hc
  have Hm := Lib.hid hm
  have Hk := Lib.hid hk
  have Hl := Lib.hid hl
  have Hnl := Lib.hid hnl
  have H0 : Hid (SR w base g n cap (sb key 20 (l.take 0) ++ l.drop 0) w) := Lib.hid ⟨by rw [List.take_zero, sb_nil]; exact h, Keep.refl _ _⟩
  clear h hc hm hk hl hnl
  go_enter Tryz.func166, Tryz.ntmps166
  go_wp2
  go_loopw [7, 8] (fun va vb wr => ∃ k a b : Nat, va = .int .i64 a ∧ vb = .int .i64 b ∧ a ≤ n ∧ Hid (a = k * 20 ∧ b = a + 20) ∧ Hid (SR w base g n cap (sb key 20 (l.take a) ++ l.drop a) wr)) (fun va _ _ => n - (intOf va).toNat)
  case atStart => exact ⟨0, 0, 20, rfl, rfl, by omega, Lib.hid ⟨rfl, rfl⟩, H0⟩
  case round =>
    obtain ⟨k, a, b, rfl, rfl, han, hab, hI⟩ := hrel
    clear H0
    rcases Nat.lt_or_ge n b with hlt | hge
    · -- the last block
      have HI2 : Hid (Calls Tryz.prog 167 #[.slice (some ⟨g, 0, none⟩) n cap, .int .i64 (a : Nat), .int .i64 (n : Nat), .func (.func 157) #[] #[.pointer (some ⟨bx, 0, none⟩)]] wr fun e w' => e = .returned (.tuple #[]) ∧ SR w base g n cap (sb key 20 l) w') := by
        have hnl := Hnl.out
        have hab := hab.out
        have := stab_ins (P := sb key 20 (l.take a)) (X := l.drop a) (R := []) (by simpa using hI.out) Hc.out (fun x hx => Hm.out x ((List.drop_sublist _ _).mem hx)) Hk.out (Hl.out.sublist (List.drop_sublist _ _)) hn (a := a) (b := n) (by rw [sb_len (by omega), List.length_take]; omega) (by rw [sb_len (by omega), List.length_take, List.length_drop]; omega)
        refine Lib.hid (this.mono ?_)
        rintro e w' ⟨rfl, hr⟩
        refine ⟨rfl, ?_⟩
        rw [List.append_nil] at hr
        rw [sb_rest (s := 20) (k := k) (by omega) (by omega) (by omega), ← hab.1]
        exact hr
      have hltn : ¬ (b : Int) ≤ n := by omega
      clear hI hab hlt
      go_wp2_with (go_at_call 167; refine HI2.out.mono ?_; rintro e w2 ⟨rfl, hS⟩; have HS := Lib.hid hS; clear hS)
      clear HI2
      go_loopw [6] (fun vs wr => ∃ s : Nat, vs = .int .i64 s ∧ 0 < s ∧ s ≤ 2000000 ∧ Hid (SR w base g n cap (sb key s l) wr)) (fun vs _ => 2 * n - (intOf vs).toNat)
      case atStart => exact ⟨20, rfl, by omega, by omega, HS⟩
      case round =>
        obtain ⟨s, rfl, hs0, hsm, hJ⟩ := hrel
        clear HS
        rcases Nat.lt_or_ge s n with hsn | hsn
        · as_aux_lemma =>
            obtain ⟨s2, hs2⟩ : ∃ s2, s2 = 2 * s := ⟨_, rfl⟩
            have hw2 : IntKind.i64.wrap (2 * (s : Int)) = (s2 : Int) := by rw [IntKind.wrap_i64]; omega
            have hw3 : IntKind.i64.wrap ((s : Int) * 2) = (s2 : Int) := by rw [IntKind.wrap_i64]; omega
            have H1 : Hid (MG w base g n cap key l s 0 wr) := by
              have := hJ.out
              refine Lib.hid ?_
              unfold MG
              rw [Nat.zero_mul, List.take_zero, sb_nil]
              exact this
            have Hs2 := Lib.hid hs2
            have hsni : (s : Int) < n := by omega
            clear hJ hs2
            go_wp2_with fail
            go_loopw [7, 8] (fun va vb wr => ∃ k a b : Nat, va = .int .i64 a ∧ vb = .int .i64 b ∧ a ≤ n ∧ Hid (a = k * (2 * s) ∧ b = a + s2) ∧ Hid (MG w base g n cap key l s k wr)) (fun va _ _ => n - (intOf va).toNat)
            case atStart => exact ⟨0, 0, s2, rfl, rfl, by omega, Lib.hid ⟨by simp, by simp⟩, H1⟩
            case round =>
              obtain ⟨k, a, b, rfl, rfl, han, hab, hM⟩ := hrel
              clear H1
              obtain ⟨aS, has⟩ : ∃ aS, aS = a + s := ⟨_, rfl⟩
              rcases Nat.lt_or_ge n b with hlt | hge
              · have hltn : ¬ (b : Int) ≤ n := by omega
                rcases Nat.lt_or_ge aS n with h1 | h1
                · as_aux_lemma =>
                    have HX := Lib.hid (hM.out.last hs0 Hc.out Hm.out Hk.out Hl.out hn Hnl.out (by have := hab.out; have := Hs2.out; have := Hnl.out; omega) (by have := hab.out; have := Hnl.out; omega) hab.out.1 has)
                    have hwas : IntKind.i64.wrap ((a : Int) + s) = (aS : Int) := by rw [IntKind.wrap_i64]; omega
                    have h1i : (aS : Int) < n := by omega
                    clear hM hab has hlt
                    go_wp2_with (go_at_call 168; refine HX.out.mono ?_; rintro e w3 ⟨rfl, hS⟩; have HS := Lib.hid hS; clear hS)
                    go_roundw
                    case rel => exact ⟨s2, rfl, by have := Hs2.out; omega, by have := Hs2.out; omega, by rw [Hs2.out]; exact HS⟩
                    case measure => have := Hs2.out; simp [intOf]; omega
                · as_aux_lemma =>
                    have HX := Lib.hid (hM.out.none hs0 (by have := hab.out; have := Hnl.out; omega) (by have := hab.out; have := Hnl.out; omega))
                    have hwas : IntKind.i64.wrap ((a : Int) + s) = (aS : Int) := by rw [IntKind.wrap_i64]; omega
                    have h1i : ¬ (aS : Int) < n := by omega
                    clear hM hab has hlt
                    go_wp2_with fail
                    go_roundw
                    case rel => exact ⟨s2, rfl, by have := Hs2.out; omega, by have := Hs2.out; omega, by rw [Hs2.out]; exact HX⟩
                    case measure => have := Hs2.out; simp [intOf]; omega
              · as_aux_lemma =>
                  have hbb := hab.out.2
                  have HX := Lib.hid (hM.out.next hs0 Hc.out Hm.out Hk.out Hl.out hn (by have := hab.out; have := Hs2.out; have := Hnl.out; omega) hab.out.1 has (c := b) (by have := Hs2.out; omega))
                  have hwas : IntKind.i64.wrap ((a : Int) + s) = (aS : Int) := by rw [IntKind.wrap_i64]; omega
                  have hgei : (b : Int) ≤ n := by omega
                  have hwb : IntKind.i64.wrap ((b : Int) + s2) = ((b + s2 : Nat) : Int) := by rw [IntKind.wrap_i64]; have := Hs2.out; omega
                  have Hab : Hid (b = (k + 1) * (2 * s) ∧ a < b) := Lib.hid (by have := hab.out; have := Hs2.out; rw [Nat.add_mul]; omega)
                  clear hM hab has hbb
                  go_wp2_with (go_at_call 168; refine HX.out.mono ?_; rintro e w3 ⟨rfl, hS⟩; have HS := Lib.hid hS; clear hS)
                  exact ⟨⟨k + 1, b, b + s2, rfl, by simp, by omega, Lib.hid ⟨Hab.out.1, rfl⟩, HS⟩, by have := Hab.out.2; simp [intOf]; omega⟩
        · have HR : Hid (SR w base g n cap (isort key l) wr) := by
            have := hJ.out
            rw [sb_small hs0 (by have := Hnl.out; omega)] at this
            exact Lib.hid this
          have hsni : ¬ (s : Int) < n := by omega
          clear hJ
          go_wp2_with fail
          refine bodyPost_end (results_none rfl _ _ _) rfl ?_
          exact ⟨rfl, HR.out⟩
    · as_aux_lemma =>
        have HI2 : Hid (Calls Tryz.prog 167 #[.slice (some ⟨g, 0, none⟩) n cap, .int .i64 (a : Nat), .int .i64 (b : Nat), .func (.func 157) #[] #[.pointer (some ⟨bx, 0, none⟩)]] wr fun e w' => e = .returned (.tuple #[]) ∧ SR w base g n cap (sb key 20 (l.take b) ++ l.drop b) w') := by
          have hnl := Hnl.out
          have hab := hab.out
          have hsub : ((l.drop a).take 20).Sublist l := (List.take_sublist _ _).trans (List.drop_sublist _ _)
          have hdd : (l.drop a).take 20 ++ l.drop b = l.drop a := by
            rw [hab.2, ← List.drop_drop]
            exact List.take_append_drop _ _
          have := stab_ins (P := sb key 20 (l.take a)) (X := (l.drop a).take 20) (R := l.drop b) (by rw [List.append_assoc, hdd]; exact hI.out) Hc.out (fun x hx => Hm.out x (hsub.mem hx)) Hk.out (Hl.out.sublist hsub) hn (a := a) (b := b) (by rw [sb_len (by omega), List.length_take]; omega) (by rw [sb_len (by omega), List.length_take, List.length_take, List.length_drop]; omega)
          refine Lib.hid (this.mono ?_)
          rintro e w' ⟨rfl, hr⟩
          refine ⟨rfl, ?_⟩
          rw [hab.2, hab.1, sb_next (by omega) (by omega), ← hab.1, ← hab.2]
          exact hr
        have hgei : (b : Int) ≤ n := by omega
        have hwb : IntKind.i64.wrap ((b : Int) + 20) = ((b + 20 : Nat) : Int) := by rw [IntKind.wrap_i64]; omega
        have Hab : Hid (b = (k + 1) * 20 ∧ a < b) := Lib.hid (by have := hab.out; omega)
        clear hI hab
        go_wp2_with (go_at_call 167; refine HI2.out.mono ?_; rintro e w2 ⟨rfl, hS⟩; have HS := Lib.hid hS; clear hS)
        exact ⟨⟨k + 1, b, b + 20, rfl, by simp, by omega, Lib.hid ⟨Hab.out.1, rfl⟩, HS⟩, by have := Hab.out.2; simp [intOf]; omega⟩
theorem stab_k : StabOK 100000 := fun key m base g n cap bx l w h hc hm hk hl hn => stab_any key m base g n cap bx l w h hc hm hk hl (by omega)
end Go.Proofs.YtdnaahbhfjclpaaGreatDoor

namespace Go.Proofs.YtdnaahbhfjclpaaGreatDoor
open Go.RowKit Go.Sal Go.Huf Go.Cod
def ckey (q : Nat × Nat) : Value := .agg #[.int .u64 (q.1 : Nat), .int .i64 (q.2 : Nat)]
theorem chk110 (e : Bool) (n : Nat) (a0 a1 : Nat) (w : World) : (Instr.checkKey e (n + 1 + 1) 188 (.agg #[.int .u64 (a0 : Nat), .int .i64 (a1 : Nat)])).run Tryz.prog w = .ok () w := by
  have z3 := Tryz.isAgg3
  have s3 := Tryz.sizeOf3
  have z67 := Tryz.isAgg111
  have s67 := Tryz.sizeOf111
  rw [Instr.checkKey]
  simp only [Sem.run_bind, run_underlying Tryz.underlying188, Result.andThen_ok]
  simp only [List.forIn_toArray, Array.forIn_toList, List.forIn_cons, List.forIn_nil]
  go_simp
  simp [Instr.checkKey, run_underlying Tryz.underlying3, run_underlying Tryz.underlying111]
theorem claw : KeyLaw Tryz.prog 188 ckey where
  same a := by simp [ckey, Instr.sameBits]
  eq a b w := by
    obtain ⟨a0, a1⟩ := a
    obtain ⟨b0, b1⟩ := b
    have z3 := Tryz.isAgg3
    have s3 := Tryz.sizeOf3
    have z67 := Tryz.isAgg111
    have s67 := Tryz.sizeOf111
    have u3 := Tryz.underlying3
    have u67 := Tryz.underlying111
    simp only [ckey]
    show (Op.equalIn 10000 188 _ _).run Tryz.prog w = _
    rw [show (10000 : Nat) = 9999 + 1 from rfl, Op.equalIn]
    simp only [Sem.run_bind, run_underlying Tryz.underlying188, Result.andThen_ok]
    go_simp
    by_cases h0 : a0 = b0 <;> by_cases h1 : a1 = b1 <;> simp [h0, h1] <;> omega
  chk e a w := by
    obtain ⟨a0, a1⟩ := a
    exact chk110 e 9998 _ _ w
  desc := ⟨_, Tryz.underlying188, fun a v => by cases v <;> rfl⟩
def BkF (ls : List Int) (k : Nat) (f : Nat × Nat → Option Value) : Prop :=
  (∀ s, s < k → 0 < ln ls s → f (codeV ls s, (ln ls s).toNat) = some (.int .i64 (s : Nat))) ∧ ∀ q v, f q = some v → ∃ s, s < k ∧ 0 < ln ls s ∧ q = (codeV ls s, (ln ls s).toNat)
theorem BkF.skip {ls : List Int} {k : Nat} {f : Nat × Nat → Option Value} (h : BkF ls k f) (hk : ¬ 0 < ln ls k) : BkF ls (k + 1) f :=
  ⟨fun s hs hp => h.1 s (by rcases Nat.lt_succ_iff_lt_or_eq.1 hs with h | rfl; exact h; exact absurd hp hk) hp, fun q v hq => by
    obtain ⟨s, h1, h2⟩ := h.2 q v hq
    exact ⟨s, by omega, h2⟩⟩
theorem BkF.add {ls : List Int} {k : Nat} {f : Nat × Nat → Option Value} (h : BkF ls k f) (hok : okL ls) (hk : k < ls.length) (hp : 0 < ln ls k) {f' : Nat × Nat → Option Value} (hf : ∀ x, f' x = if x = (codeV ls k, (ln ls k).toNat) then some (.int .i64 (k : Nat)) else f x) : BkF ls (k + 1) f' := by
  refine ⟨fun s hs hps => ?_, fun q v hq => ?_⟩
  · rw [hf]
    rcases Nat.lt_succ_iff_lt_or_eq.1 hs with h1 | rfl
    · rw [if_neg ?_]
      · exact h.1 s h1 hps
      · intro e
        injection e with e1 e2
        have hll : ln ls s = ln ls k := by omega
        have := code_apart hok (a := s) (b := k) (by omega) hk hps (by omega) (by rw [hll, Nat.sub_self, Nat.pow_zero, Nat.div_one, e1])
        omega
    · rw [if_pos rfl]
  · rw [hf] at hq
    by_cases he : q = (codeV ls k, (ln ls k).toNat)
    · exact ⟨k, by omega, hp, he⟩
    · rw [if_neg he] at hq
      obtain ⟨s, h1, h2⟩ := h.2 q v hq
      exact ⟨s, by omega, h2⟩
def BkM (w : World) (gm : Nat) (ls : List Int) : Prop := ∃ f, MapF ckey w gm f ∧ ∀ c n, 1 ≤ n → f (c, n) = (symAt ls n c).map fun s => .int .i64 (s : Nat)
theorem BkF.all {ls : List Int} {f : Nat × Nat → Option Value} (h : BkF ls ls.length f) : ∀ c n, 1 ≤ n → f (c, n) = (symAt ls n c).map fun s => .int .i64 (s : Nat) := by
  intro c n hn
  cases hx : symAt ls n c with
  | some s =>
    obtain ⟨h1, h2, h3⟩ := (symAt_some (by omega)).1 hx
    have := h.1 s h1 (by omega)
    rw [h2, h3] at this
    simpa using this
  | none =>
    cases hf : f (c, n) with
    | none => rfl
    | some v =>
      obtain ⟨s, h1, h2, h3⟩ := h.2 _ _ hf
      injection h3 with h3 h4
      exact absurd h3.symm ((symAt_none (by omega)).1 hx s h1 (by omega))
theorem BkM.keep {w w' : World} {gm : Nat} {ls : List Int} {F : List Nat} (h : BkM w gm ls) (k : Keep F w w') (hn : gm ∉ F) : BkM w' gm ls := by
  obtain ⟨f, h1, h2⟩ := h
  exact ⟨f, h1.keep k hn, h2⟩
theorem BkM.lt {w : World} {gm : Nat} {ls : List Int} (h : BkM w gm ls) : gm < w.heap.size := by
  obtain ⟨f, h1, h2⟩ := h
  exact h1.lt
structure BkI (w : World) (ls : List Int) (gm b0 : Nat) (AC : Option Addr) (cC k : Nat) (wr : World) : Prop where
  map : ∃ f, MapF ckey wr gm f ∧ BkF ls k f
  own : wr.ownsRow b0 168 1 (.slice AC ls.length cC) ls.length (inU (codesL ls))
  kp : Keep [] w wr
  fr : w.heap.size ≤ gm
theorem BkI.skip {w wr : World} {ls : List Int} {gm b0 cC k : Nat} {AC : Option Addr} (h : BkI w ls gm b0 AC cC k wr) (hk : ¬ 0 < ln ls k) : BkI w ls gm b0 AC cC (k + 1) wr := by
  obtain ⟨⟨f, h1, h2⟩, h3, h4, h5⟩ := h
  exact ⟨⟨f, h1, h2.skip hk⟩, h3, h4, h5⟩
theorem BkI.add {w wr : World} {ls : List Int} {gm b0 cC k n : Nat} {AC : Option Addr} (h : BkI w ls gm b0 AC cC k wr) (hok : okL ls) (hk : k < ls.length) (hp : ln ls k = n) (hn : 0 < n) :
    ∃ w', (Instr.mapUpdate 138 (.map (some gm)) (.agg #[.int .u64 (codeV ls k : Nat), .int .i64 (n : Nat)]) (.int .i64 (k : Nat))).run Tryz.prog wr = .ok () w' ∧ BkI w ls gm b0 AC cC (k + 1) w' := by
  obtain ⟨⟨f, h1, h2⟩, h3, h4, h5⟩ := h
  obtain ⟨w', hrun, hm, hkp, _⟩ := kmapUpdate claw Tryz.underlying138 h1 (codeV ls k, n) (.int .i64 (k : Nat))
  refine ⟨w', hrun, ⟨⟨_, hm, h2.add hok hk (by omega) (fun x => by rw [hp]; rfl)⟩, ownsRow_keep h3 hkp (fun g hg hmem => ?_), h4.step hkp (fun i hi => ?_), h5⟩⟩
  · simp at hmem
    subst hmem
    exact h1.ne_own h3 hg
  · simp at hi
    subst hi
    exact .inr h5
set_option maxRecDepth 20000 in
set_option maxHeartbeats 4000000 in
theorem book_any (ls : List Int) (A : Option Addr) (c : Nat) (w : World) (hs : ISrc w A ls) (hok : okL ls) :
    Calls Tryz.prog 90 #[.slice A ls.length c] w fun e w' => ∃ gm, e = .returned (.map (some gm)) ∧ w.heap.size ≤ gm ∧ BkM w' gm ls ∧ Keep [] w w' := by
  have hl := hok.1
  have Hs := Lib.hid hs
  have HC := Lib.hid (codes_ok stab_k (Nat.le_refl _) ls A c (w.alloc (.map #[] 0)) (hs.keep ((Keep.refl [] w).alloc _) (by simp)) (by omega) hok)
  have Hok := Lib.hid hok
  have hmm := @run_makeMap Tryz.prog
  clear hs hok
  go_enter Tryz.func90, Tryz.ntmps90
  go_wp2_with (go_at_call 105; refine HC.out.mono ?_; rintro e w1 ⟨AC, cC, rfl, hown, hk⟩)
  have H0 : Hid (BkI w ls w.heap.size (w.alloc (.map #[] 0)).heap.size AC cC 0 w1) := Lib.hid ⟨⟨fun _ => none, MapF.keep ⟨[], #[], 0, heap_alloc_new w _, rfl, fun q => rfl⟩ hk (by simp), ⟨fun s hs => by omega, fun q v h => by cases h⟩⟩, hown, ((Keep.refl [] w).alloc _).trans hk, Nat.le_refl _⟩
  generalize (w.alloc (.map #[] 0)).heap.size = b0 at *
  clear hown hk HC hmm
  go_loopw [16] (fun vk wr => ∃ k : Nat, vk = .int .i64 k ∧ k ≤ ls.length ∧ Hid (BkI w ls w.heap.size b0 AC cC k wr)) (fun vk _ => ls.length - (intOf vk).toNat)
  case atStart => exact ⟨0, rfl, by omega, H0⟩
  case round =>
    obtain ⟨k, rfl, hk, hI⟩ := hrel
    clear H0
    rcases Nat.lt_or_ge k ls.length with hkl | hkl
    · have hki : (k : Int) < ls.length := by omega
      obtain ⟨g, o, rfl, hg, d1⟩ := (Hs.out.keep hI.out.kp (by simp)) k hkl
      have hle := ln_eq hkl
      have hlg := ln_good Hok.out.2.1 k
      have hwk : IntKind.i64.wrap ((k : Int) + 1) = (k : Int) + 1 := by rw [IntKind.wrap_i64]; omega
      by_cases hp : 0 < ln ls k
      · obtain ⟨n, hn⟩ : ∃ n : Nat, ln ls k = n := ⟨(ln ls k).toNat, by omega⟩
        obtain ⟨gc, rfl, _, _⟩ := own_some hI.out.own (by omega)
        have d2 : wr.cell? ⟨gc, k, none⟩ = some (.int .u16 (codeV ls k : Nat)) := by
          have := (inU_cell hI.out.own (i := k) (by rw [codesL_len]; exact hkl)).1
          simpa [codesL] using this
        obtain ⟨w2, hup, hN⟩ := hI.out.add Hok.out hkl hn (by omega)
        have HN := Lib.hid hN
        have hcs := codeV_small Hok.out hkl
        have hwc : IntKind.u64.wrap (codeV ls k : Nat) = (codeV ls k : Nat) := by rw [IntKind.wrap_u64]; omega
        rw [← hle, hn] at d1
        have hn0 : (0 : Int) < n := by omega
        have hn1 : 0 < n := by omega
        have hnb : decide ((n : Int) > 0) = true := decide_eq_true hn0
        clear hN hI hle hlg hp hn
        generalize codeV ls k = cv at *
        go_wp2
        go_roundw
        case rel => exact ⟨k + 1, by simp, by omega, HN⟩
        case measure => simp [intOf]; omega
      · have hz : ls[k] = 0 := by omega
        rw [hz] at d1
        have HN := Lib.hid (hI.out.skip hp)
        clear hI hle hlg hp hz
        go_wp2
        go_roundw
        case rel => exact ⟨k + 1, by simp, by omega, HN⟩
        case measure => simp [intOf]; omega
    · obtain rfl : k = ls.length := by omega
      have hki : ¬ (ls.length : Int) < ls.length := by omega
      have HE : Hid (w.heap.size ≤ w.heap.size ∧ BkM wr w.heap.size ls ∧ Keep [] w wr) := by
        obtain ⟨⟨f, h1, h2⟩, h3, h4, h5⟩ := hI.out
        exact Lib.hid ⟨h5, ⟨f, h1, h2.all⟩, h4⟩
      clear hI
      go_wp2
      go_ret
      exact ⟨_, rfl, HE.out⟩
end Go.Proofs.YtdnaahbhfjclpaaGreatDoor

