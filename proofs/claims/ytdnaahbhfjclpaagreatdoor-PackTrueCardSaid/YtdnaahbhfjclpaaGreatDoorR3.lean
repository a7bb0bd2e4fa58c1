/- The reference's lengths, walked. -/
import Derived.Test.YtdnaahbhfjclpaaGreatDoorH5
import Derived.Test.YtdnaahbhfjclpaaGreatDoorHfK
import Derived.BigQuiet
import Derived.Deep.CutBlock
import Derived.Deep.DeepCutAuto
set_option linter.unusedVariables false
set_option linter.unusedSimpArgs false
namespace Go.Proofs.YtdnaahbhfjclpaaGreatDoor
open Go.RowKit Go.Sal Go.Huf
theorem made_ints : ∀ n : Nat, (madeCells (Value.int .i64 0).cells (n * 1)).toList = inI (List.replicate n 0) := fun n => by
  apply List.ext_getElem
  · simp [madeCells, inI, Value.cells]
  · intro i h1 h2
    simp [madeCells, inI, Value.cells, Nat.mod_one]
theorem wpList_make_ints {w : World} {ops : Array Oper} {rest : List Oper} {o : Oper} {a : Act} {Q : Exit → Act → World → Prop} (base n : Nat)
    (hg : o.guard = none) (l c : Operand) (hop : o.op = Op.makeSlice 140 l c) (hl : a.eval l = .int .i64 (n : Int)) (hc : a.eval c = .int .i64 (n : Int)) (hn : n ≤ 1000000) (hB : base ≤ w.heap.size)
    (hK : ∀ w', w'.ownsRow base 3 1 (.slice (some ⟨w.heap.size, 0, none⟩) n n) n (inI (List.replicate n 0)) → Keep [] w w' → wpList Tryz.prog ops Q rest (a.put o.dst (.slice (some ⟨w.heap.size, 0, none⟩) n n)) w') :
    wpList Tryz.prog ops Q (o :: rest) a w := by
  obtain ⟨i, hi, hz, hs, hby⟩ : ∃ i, Tryz.prog.info? 3 = some i ∧ i.zero = some (.int .i64 0) ∧ i.size = 1 ∧ i.bytes = 8 := by
    cases hx : Tryz.prog.info? 3 with
    | none => have := intinfo; rw [hx] at this; cases this
    | some i =>
      have := intinfo
      rw [hx] at this
      simp only [Option.map_some, Option.some.injEq, Prod.mk.injEq] at this
      exact ⟨i, rfl, this.1, this.2.1, this.2.2⟩
  refine wpList_make_full w hg l c 140 hop base 3 i (.int .i64 0) 1 Tryz.underlying140 hi hz hs .i64 .i64 _ _ n hl hc rfl rfl (by rw [hby]; omega) (by unfold maxLen; omega) hB ?_
  intro w' h1 h2
  rw [made_ints] at h1
  exact hK w' h1 ((Keep.refl [] w).grown h2 (fun k hk => by cases hk))
def dRow (cs : List Int) (i : Nat) : List Int := ((List.range i).map fun j => (dAt cs j : Int)) ++ List.replicate (cs.length - i) 0
theorem dRow_len {cs : List Int} {i : Nat} (h : i ≤ cs.length) : (dRow cs i).length = cs.length := by
  simp [dRow]; omega
theorem dRow_zero (cs : List Int) : dRow cs 0 = List.replicate cs.length 0 := by simp [dRow]
theorem dRow_all (cs : List Int) : dRow cs cs.length = (depths cs).map fun (k : Nat) => (k : Int) := by simp [dRow, depths]
theorem dRow_succ {cs : List Int} {i : Nat} (h : i < cs.length) (x : Int) (hx : x = dAt cs i) : (dRow cs i).set i x = dRow cs (i + 1) := by
  subst hx
  unfold dRow
  rw [List.range_succ, List.map_append, List.set_append_right _ _ (by simp)]
  simp only [List.length_map, List.length_range, Nat.sub_self, List.map_cons, List.map_nil, List.append_assoc]
  congr 1
  obtain ⟨m, hm⟩ : ∃ m, cs.length - i = m + 1 := ⟨cs.length - i - 1, by omega⟩
  rw [hm, show cs.length - (i + 1) = m by omega, List.replicate_succ]
  rfl
theorem dRow_skip {cs : List Int} {i : Nat} (h : i < cs.length) (hz : dAt cs i = 0) : dRow cs (i + 1) = dRow cs i := by
  unfold dRow
  obtain ⟨m, hm⟩ : ∃ m, cs.length - i = m + 1 := ⟨cs.length - i - 1, by omega⟩
  rw [List.range_succ, List.map_append, hm, show cs.length - (i + 1) = m by omega, List.replicate_succ]
  simp [hz]
theorem inI_cell {w : World} {base g n cap i : Nat} {l : List Int} (h : w.ownsRow base 3 1 (.slice (some ⟨g, 0, none⟩) n cap) n (inI l)) (hi : i < l.length) :
    w.cell? ⟨g, i, none⟩ = some (.int .i64 l[i]) ∧ w.frozen? ⟨g, i, none⟩ = false := ownsRow_cell h (show (inI l)[i]? = some (.int .i64 l[i]) by simp [inI, hi])
theorem inI_set {w : World} {base g n cap i : Nat} {l : List Int} (h : w.ownsRow base 3 1 (.slice (some ⟨g, 0, none⟩) n cap) n (inI l)) (hi : i < n) (x : Int) :
    (w.setCell ⟨g, i, none⟩ (.int .i64 x)).ownsRow base 3 1 (.slice (some ⟨g, 0, none⟩) n cap) n (inI (l.set i x)) := by
  have h1 := ownsRow_set h i (by omega) (.int .i64 x)
  rw [show (inI l).set i (.int .i64 x) = inI (l.set i x) by simp [inI, List.map_set]] at h1
  exact h1
end Go.Proofs.YtdnaahbhfjclpaaGreatDoor

namespace Go.Huf
theorem upN_le (l : List (Int × Int)) : ∀ (f : Nat) (k : Int), upN l f k ≤ f
  | 0, _ => Nat.le_refl _
  | f + 1, k => by
    rw [upN]
    have := upN_le l f (up1 l k.toNat)
    split <;> omega
def mUp (L : Nat) (k : Int) : Nat := if k < 0 then 0 else L - k.toNat
end Go.Huf
namespace Go.Proofs.YtdnaahbhfjclpaaGreatDoor
open Go.RowKit Go.Sal Go.Huf
def DI (base go : Nat) (cs : List Int) (w1 : World) (k : Nat) (wr : World) : Prop :=
  wr.ownsRow base 3 1 (.slice (some ⟨go, 0, none⟩) cs.length cs.length) cs.length (inI (dRow cs k)) ∧ Keep [go] w1 wr
def DU (base go : Nat) (cs : List Int) (w1 : World) (k D : Nat) (kk : Int) (c : Nat) (wr : World) : Prop :=
  wr.ownsRow base 3 1 (.slice (some ⟨go, 0, none⟩) cs.length cs.length) cs.length (inI ((dRow cs k).set k (c : Int))) ∧ Keep [go] w1 wr ∧
    ∃ f, (kk = -1 ∨ ∃ t : Nat, kk = t ∧ t < (tree cs).length ∧ (tree cs).length - t ≤ f) ∧ c + upN (tree cs) f kk = D
set_option maxRecDepth 20000 in
set_option maxHeartbeats 4000000 in
theorem deep_any (cs : List Int) (A : Option Addr) (c : Nat) (w : World) (hs : ISrc w A cs) (hn : cs.length ≤ 600) (hpos : ∀ n ∈ cs, 0 ≤ n ∧ n ≤ 1073741824) :
    Calls Tryz.prog 143 #[.slice A cs.length c] w fun e w' => ∃ go, e = .returned (.tuple #[.slice (some ⟨go, 0, none⟩) cs.length cs.length, .int .i64 (dMost cs cs.length : Nat)]) ∧
      w'.ownsRow w.heap.size 3 1 (.slice (some ⟨go, 0, none⟩) cs.length cs.length) cs.length (inI ((depths cs).map fun (k : Nat) => (k : Int))) ∧ Keep [] w w' := by
  have Hs := Lib.hid hs
  have Hpos := Lib.hid hpos
  have htree := tree_any cs A c w hs hn hpos
  have Htree := Lib.hid htree
  have hsz := tree_sz cs
  clear hs hpos htree
  go_enter Tryz.func143, Tryz.ntmps143
  go_wp2_with (first
    | (go_at_call 155; refine Htree.out.mono ?_; rintro e w0 ⟨AL, cL, rfl, hT, hk0⟩; have HT := Lib.hid hT; have Hk0 := Lib.hid hk0; clear hT hk0)
    | (at_make; refine wpList_make_ints w.heap.size cs.length rfl (.tmp 14) (.tmp 14) rfl rfl rfl (by omega) (Hk0.out.size) ?_; intro w1 hown1 hk1; have Hown1 := Lib.hid hown1; have Hk1 := Lib.hid hk1; clear hown1 hk1))
  obtain ⟨go, hgo⟩ : ∃ go, go = w0.heap.size := ⟨_, rfl⟩
  rw [← hgo] at Hown1 ⊢
  have hgo1 : w.heap.size ≤ go := by rw [hgo]; exact Hk0.out.size
  have HT1 : Hid (w1.ownsRow w.heap.size 224 2 (.slice AL (tree cs).length cL) (tree cs).length ((tree cs).flatMap ncells)) := Lib.hid (ownsRow_keep HT.out Hk1.out (by simp))
  have Hkw : Hid (Keep [] w w1) := Lib.hid (Hk0.out.trans Hk1.out)
  have H0 : Hid (DI w.heap.size go cs w1 0 w1) := Lib.hid ⟨by rw [dRow_zero]; exact Hown1.out, Keep.refl _ _⟩
  have Hne : Hid (∀ i, (Value.slice AL (tree cs).length cL).ownBlock = some i → i ∉ [go]) := Lib.hid (fun i hi => by
    have := own_ne_own HT1.out Hown1.out (by decide) hi
    simp [Value.ownBlock] at this
    simpa using fun e => this e.symm)
  clear HT Hk0 Hk1 Hown1 hgo Htree
  go_loopw [6, 7, 18] (fun at_ most i wr => ∃ k : Nat, i = .int .i64 k ∧ k ≤ cs.length ∧ at_ = .int .i64 (leaf cs k : Nat) ∧ most = .int .i64 (dMost cs k : Nat) ∧ Hid (DI w.heap.size go cs w1 k wr)) (fun _ _ i _ => cs.length - (intOf i).toNat)
  case atStart => exact ⟨0, rfl, by omega, rfl, rfl, H0⟩
  case round =>
    obtain ⟨k, rfl, hk, rfl, rfl, hI⟩ := hrel
    clear H0
    rcases Nat.lt_or_ge k cs.length with hkl | hkl
    · as_aux_lemma =>
        obtain ⟨hown, hkp⟩ := hI.out
        obtain ⟨g, o, rfl, hg, hc⟩ := Hs.out k hkl
        have hgw1 : g < w1.heap.size := Nat.lt_of_lt_of_le hg Hkw.out.size
        have hggo : g ≠ go := by omega
        have d0 := ((hkp.cell (p := ⟨g, o + k, none⟩) hgw1 (by simpa using hggo)).trans (Hkw.out.cell (p := ⟨g, o + k, none⟩) hg (by simp))).trans hc
        have hx0 := Hpos.out _ (List.getElem_mem hkl)
        have hls := nodes0_succ hkl
        have hD : dAt cs k = if cs[k] = 0 then 0 else max (upN (tree cs) (tree cs).length (up1 (tree cs) (leaf cs k))) 1 := by
          unfold dAt
          rw [List.getD_eq_getElem?_getD, List.getElem?_eq_getElem hkl, Option.getD_some]
        have hll := fun hp => leaf_lt hkl hp
        have hms : dMost cs (k + 1) = max (dMost cs k) (dAt cs k) := rfl
        have hdsk := dRow_skip hkl
        have hdset := dRow_succ hkl
        have hwk : IntKind.i64.wrap ((k : Int) + 1) = (k : Int) + 1 := by rw [IntKind.wrap_i64]; omega
        generalize hx : cs[k] = x at *
        by_cases hz : x = 0
        · subst hz
          have hls : leaf cs (k + 1) = leaf cs k := by rw [hls]; simp
          rw [if_pos rfl] at hD
          rw [hD, Nat.max_zero] at hms
          have HF : Hid (DI w.heap.size go cs w1 (k + 1) wr) := Lib.hid ⟨by rw [hdsk hD]; exact hown, hkp⟩
          have Hls := Lib.hid hls
          have Hms := Lib.hid hms
          clear hI hown hkp hc hls hD hll hms hdsk hdset hx hx0
          go_wp2
          exact ⟨⟨k + 1, by simp, by omega, by rw [Hls.out], by rw [Hms.out], HF⟩, by simp [intOf]; omega⟩
        · have hxp : 0 < x := by omega
          rw [if_pos hxp] at hls
          rw [if_neg hz] at hD
          have hlt := hll hxp
          have hTr := ownsRow_keep HT1.out hkp Hne.out
          obtain ⟨gT, rfl, _, _⟩ := own_some hTr (by omega)
          have hxz : (x == 0) = false := by simpa using hz
          obtain ⟨L, hL⟩ : ∃ L, L = leaf cs k := ⟨_, rfl⟩
          rw [← hL] at hlt hls hD ⊢
          have uL := (nd_cell hTr hlt).2.1
          have hup0 := tree_ups (cs := cs) (fun n hn => (Hpos.out n hn).1) L hlt
          obtain ⟨D, hDd⟩ : ∃ D, D = upN (tree cs) (tree cs).length (up1 (tree cs) L) := ⟨_, rfl⟩
          rw [← hDd] at hD
          have hDl : D ≤ (tree cs).length := by rw [hDd]; exact upN_le _ _ _
          have H1 : Hid (DU w.heap.size go cs w1 k D (up1 (tree cs) L) 0 wr) := by
            refine Lib.hid ⟨?_, hkp, (tree cs).length, ?_, by rw [hDd]; simp⟩
            · have e : (dRow cs k).set k ((0 : Nat) : Int) = dRow cs k := by
                unfold dRow
                obtain ⟨m, hm⟩ : ∃ m, cs.length - k = m + 1 := ⟨cs.length - k - 1, by omega⟩
                rw [List.set_append_right _ _ (by simp), hm, List.replicate_succ]
                simp
              rw [e]; exact hown
            · rcases hup0 with h | ⟨t, h1, h2, h3⟩
              · exact .inl h
              · exact .inr ⟨t, h1, h3, by omega⟩
          have Hls := Lib.hid hls
          have Hms := Lib.hid hms
          have HD := Lib.hid hD
          have Hset := Lib.hid hdset
          clear hI hown hkp hc hls hD hll hms hdsk hdset hx hx0 hTr hup0 hDd hL
          generalize up1 (tree cs) L = u0 at *
          go_wp2_with fail
          clear uL d0
          go_loopw [10] (fun kv wr => ∃ (kk : Int) (cc : Nat), kv = .int .i64 kk ∧ (kk = -1 ∨ 0 ≤ kk) ∧ cc ≤ D ∧ Hid (DU w.heap.size go cs w1 k D kk cc wr)) (fun kv _ => mUp (tree cs).length (intOf kv))
          case atStart => exact ⟨u0, 0, rfl, by obtain ⟨_, _, f, h, _⟩ := H1.out; rcases h with h | ⟨t, h, _⟩ <;> omega, by omega, H1⟩
          case round =>
            obtain ⟨kk, cc, rfl, hkk, hcc, hU⟩ := hrel
            clear H1
            obtain ⟨hown, hkp, f, hu, hsum⟩ := hU.out
            have hlen : ((dRow cs k).set k (cc : Int)).length = cs.length := by rw [List.length_set]; exact dRow_len (by omega)
            have hci := inI_cell hown (i := k) (by rw [hlen]; exact hkl)
            rw [List.getElem_set_self] at hci
            obtain ⟨c1, z1⟩ := hci
            by_cases hneg : kk = -1
            · subst hneg
              have hDc : cc = D := by
                cases f with
                | zero => simpa [upN] using hsum
                | succ f => simpa [upN] using hsum
              subst hDc
              have hset := inI_set hown hkl (max (cc : Int) 1)
              have hself := inI_cell hset (i := k) (by rw [List.length_set, hlen]; exact hkl)
              rw [List.getElem_set_self] at hself
              obtain ⟨c2, z2⟩ := hself
              have hmx : max (cc : Int) 1 = (dAt cs k : Int) := by rw [HD.out]; omega
              have HF : Hid (DI w.heap.size go cs w1 (k + 1) (wr.setCell ⟨go, k, none⟩ (.int .i64 (max (cc : Int) 1)))) := by
                refine Lib.hid ⟨?_, hkp.setCell (.inl (by simp)) _⟩
                rw [List.set_set, Hset.out _ hmx] at hset
                exact hset
              have Hmm : Hid (max (dMost cs k : Int) (max (cc : Int) 1) = (dMost cs (k + 1) : Int)) := Lib.hid (by rw [hmx, Hms.out]; omega)
              have hwL : IntKind.i64.wrap ((L : Int) + 1) = (L : Int) + 1 := by rw [IntKind.wrap_i64]; omega
              clear hU hown hkp hu hsum hlen hset hmx
              go_wp2
              exact ⟨⟨k + 1, by simp, by omega, by rw [Hls.out]; simp, by rw [Hmm.out], HF⟩, by simp [intOf]; omega⟩
            · rcases hu with hu | ⟨t, rfl, ht1, ht2⟩
              · exact absurd hu hneg
              · have hTr := ownsRow_keep HT1.out hkp Hne.out
                have uT := (nd_cell hTr ht1).2.1
                obtain ⟨f', rfl⟩ : ∃ f', f = f' + 1 := ⟨f - 1, by omega⟩
                rw [upN, if_neg (by omega), Int.toNat_natCast] at hsum
                have hupT := tree_ups (cs := cs) (fun n hn => (Hpos.out n hn).1) t ht1
                have hset := inI_set hown hkl ((cc : Int) + 1)
                have HF : Hid (DU w.heap.size go cs w1 k D (up1 (tree cs) t) (cc + 1) (wr.setCell ⟨go, k, none⟩ (.int .i64 ((cc : Int) + 1)))) := by
                  refine Lib.hid ⟨?_, hkp.setCell (.inl (by simp)) _, f', ?_, by omega⟩
                  · rw [List.set_set] at hset
                    simpa using hset
                  · rcases hupT with h | ⟨t', h1, h2, h3⟩
                    · exact .inl h
                    · exact .inr ⟨t', h1, h3, by omega⟩
                have hmu : Hid (mUp (tree cs).length (up1 (tree cs) t) < mUp (tree cs).length (t : Int)) := Lib.hid (by
                  unfold mUp
                  rcases hupT with h | ⟨t', h1, h2, h3⟩
                  · rw [h, if_pos (by omega), if_neg (by omega)]; simp; omega
                  · rw [h1, if_neg (by omega), if_neg (by omega)]; simp; omega)
                have hk2 : up1 (tree cs) t = -1 ∨ 0 ≤ up1 (tree cs) t := by
                  rcases hupT with h | ⟨t', h1, h2, h3⟩
                  · exact .inl h
                  · right; omega
                have hcD : cc + 1 ≤ D := by omega
                have uT2 : (wr.setCell ⟨go, k, none⟩ (.int .i64 ((cc : Int) + 1))).cell? ⟨gT, t * 2 + 1, none⟩ = some (.int .i64 (up1 (tree cs) t)) := by
                  have hk : Keep [go] wr (wr.setCell ⟨go, k, none⟩ (.int .i64 ((cc : Int) + 1))) := (Keep.refl _ wr).setCell (.inl (by simp)) _
                  exact (nd_cell (ownsRow_keep hTr hk Hne.out) ht1).2.1
                have hwc : IntKind.i64.wrap ((cc : Int) + 1) = (cc : Int) + 1 := by rw [IntKind.wrap_i64]; omega
                clear hU hown hkp hsum hlen hTr hupT hset
                generalize up1 (tree cs) t = u1 at *
                generalize hTl : (tree cs).length = TL at *
                go_wp2
                exact ⟨⟨u1, cc + 1, rfl, hk2, hcD, HF⟩, by simpa [intOf] using hmu.out⟩
    · obtain rfl : k = cs.length := by omega
      have HI := Lib.hid hI.out
      clear hI Hs
      go_wp2
      go_ret2
      obtain ⟨hown, hkp⟩ := HI.out
      refine ⟨go, rfl, by rw [← dRow_all]; exact hown, ?_⟩
      exact Hkw.out.step hkp (by intro i hi; simp at hi; right; omega)
end Go.Proofs.YtdnaahbhfjclpaaGreatDoor

namespace Go.Huf
def badC (n : Int) : Bool := decide (n < 0) || decide (1073741824 < n)
def okC (cs : List Int) : Prop := cs.length ≤ 512 ∧ ∀ n ∈ cs, 0 ≤ n ∧ n ≤ 1073741824
theorem badC_iff {n : Int} : badC n = true ↔ ¬ (0 ≤ n ∧ n ≤ 1073741824) := by
  simp [badC]; omega
def lensF : Nat → List Int → List Nat
  | 0, cs => depths cs
  | f + 1, cs => if dMost cs cs.length ≤ 15 then depths cs else lensF f (cs.map half)
def lens (cs : List Int) : List Nat := lensF cs.sum.toNat cs
def mapK {α : Type} (f : α → α) (k : Nat) (l : List α) : List α := (l.take k).map f ++ l.drop k
section
variable {α : Type} {f : α → α} {k : Nat} {l : List α}
theorem mapK_len : (mapK f k l).length = l.length := by
  simp [mapK]; omega
theorem mapK_zero : mapK f 0 l = l := by simp [mapK]
theorem mapK_all : mapK f l.length l = l.map f := by simp [mapK]
theorem mapK_at (hk : k < l.length) (h : k < (mapK f k l).length) : (mapK f k l)[k] = l[k] := by
  have e : (mapK f k l)[k]? = some l[k] := by
    unfold mapK
    rw [List.getElem?_append_right (by simp; omega)]
    simp [Nat.min_eq_left (Nat.le_of_lt hk), hk]
  exact Option.some.inj ((List.getElem?_eq_getElem h).symm.trans e)
theorem mapK_succ (hk : k < l.length) : mapK f (k + 1) l = (l.take k).map f ++ f l[k] :: l.drop (k + 1) := by
  unfold mapK
  rw [List.take_succ_eq_append_getElem hk, List.map_append]
  simp
theorem mapK_set (hk : k < l.length) : (mapK f k l).set k (f l[k]) = mapK f (k + 1) l := by
  rw [mapK_succ hk]
  unfold mapK
  rw [List.set_append_right _ _ (by simp; omega)]
  simp only [List.length_map, List.length_take, Nat.min_eq_left (Nat.le_of_lt hk), Nat.sub_self]
  rw [List.drop_eq_getElem_cons hk]
  rfl
theorem mapK_skip (hk : k < l.length) (h : f l[k] = l[k]) : mapK f (k + 1) l = mapK f k l := by
  rw [mapK_succ hk, h]
  unfold mapK
  rw [List.drop_eq_getElem_cons hk]
end
end Go.Huf
namespace Go.Proofs.YtdnaahbhfjclpaaGreatDoor
open Go.RowKit Go.Sal Go.Huf
theorem badc_any (n : Int) (w : World) : Calls Tryz.prog 154 #[.int .i64 n] w fun e w' => e = .returned (.bool (badC n)) ∧ w = w' := by
  by_cases h : n < 0
  · have hb : Hid (badC n = true) := Lib.hid (by simp [badC, h])
    go_enter Tryz.func154, Tryz.ntmps154
    go_wp2
    go_ret
    exact ⟨by rw [hb.out]; rfl, rfl⟩
  · by_cases h2 : 1073741824 < n
    · have hb : Hid (badC n = true) := Lib.hid (by simp [badC, h2])
      go_enter Tryz.func154, Tryz.ntmps154
      go_wp2
      go_ret
      exact ⟨by rw [hb.out]; simp [h2], rfl⟩
    · have hb : Hid (badC n = false) := Lib.hid (by simp [badC, h, h2])
      go_enter Tryz.func154, Tryz.ntmps154
      go_wp2
      go_ret
      exact ⟨by rw [hb.out]; simp [h2], rfl⟩
theorem indexf_any (cs : List Int) (A : Option Addr) (c : Nat) (w : World) (hs : ISrc w A cs) (hn : cs.length ≤ 100000000) :
    Calls Tryz.prog 163 #[.slice A cs.length c, .func (.func 154) #[] #[]] w fun e w' => ∃ r : Int, e = .returned (.int .i64 r) ∧ (0 ≤ r ↔ ∃ n ∈ cs, badC n = true) ∧ w = w' := by
  have Hs := Lib.hid hs
  clear hs
  go_enter Tryz.func163, Tryz.ntmps163
  go_wp2
  go_loop [8] (fun i => ∃ k : Nat, i = .int .i64 k ∧ k ≤ cs.length ∧ Hid (∀ j (h : j < cs.length), j < k → badC cs[j] = false)) (fun i => cs.length - (intOf i).toNat)
  case atStart => exact ⟨0, rfl, by omega, Lib.hid (fun j h hj => by omega)⟩
  case round =>
    obtain ⟨k, rfl, hk, hall⟩ := hrel
    rcases Nat.lt_or_ge k cs.length with hkl | hkl
    · obtain ⟨g, o, rfl, hg, hc⟩ := Hs.out k hkl
      have hmem : Hid (cs[k] ∈ cs) := Lib.hid (List.getElem_mem hkl)
      have hstep : Hid (badC cs[k] = false → ∀ j (h : j < cs.length), j < k + 1 → badC cs[j] = false) := Lib.hid (fun hb j h hj => by
        rcases Nat.lt_succ_iff_lt_or_eq.1 hj with h1 | rfl
        · exact hall.out j h h1
        · exact hb)
      generalize cs[k] = x at *
      have hwk : IntKind.i64.wrap ((k : Int) + 1) = (k : Int) + 1 := by rw [IntKind.wrap_i64]; omega
      cases hb : badC x with
      | true =>
        have Hb := Lib.hid hb
        clear hb
        go_wp2_with (go_at_call 154; refine (badc_any _ _).mono ?_; rintro e w' ⟨rfl, rfl⟩; rw [Hb.out])
        go_ret
        exact ⟨k, rfl, ⟨fun _ => ⟨x, hmem.out, Hb.out⟩, fun _ => by omega⟩, rfl⟩
      | false =>
        have Hb := Lib.hid hb
        clear hb
        go_wp2_with (go_at_call 154; refine (badc_any _ _).mono ?_; rintro e w' ⟨rfl, rfl⟩; rw [Hb.out])
        exact ⟨⟨k + 1, by simp, by omega, Lib.hid (hstep.out Hb.out)⟩, by simp [intOf]; omega⟩
    · obtain rfl : k = cs.length := by omega
      go_wp2
      go_ret
      refine ⟨-1, rfl, ⟨fun h => by omega, ?_⟩, rfl⟩
      rintro ⟨n, hn, hb⟩
      obtain ⟨j, hj, rfl⟩ := List.mem_iff_getElem.1 hn
      rw [hall.out j hj hj] at hb
      cases hb
theorem containsf_any (cs : List Int) (A : Option Addr) (c : Nat) (w : World) (hs : ISrc w A cs) (hn : cs.length ≤ 100000000) :
    Calls Tryz.prog 153 #[.slice A cs.length c, .func (.func 154) #[] #[]] w fun e w' => ∃ b : Bool, e = .returned (.bool b) ∧ (b = true ↔ ∃ n ∈ cs, badC n = true) ∧ w = w' := by
  have hi := Lib.hid (indexf_any cs A c w hs hn)
  clear hs
  go_enter Tryz.func153, Tryz.ntmps153
  go_wp2_with (go_at_call 163; refine hi.out.mono ?_; rintro e w' ⟨r, rfl, hr, rfl⟩; have Hr := Lib.hid hr; clear hr)
  go_ret
  exact ⟨decide (0 ≤ r), rfl, by rw [decide_eq_true_eq]; exact Hr.out, rfl⟩
theorem count_ok (cs : List Int) (A : Option Addr) (c : Nat) (w : World) (hs : ISrc w A cs) (h : okC cs) :
    Calls Tryz.prog 141 #[.slice A cs.length c] w fun e w' => e = .returned (.int .i64 0) ∧ w = w' := by
  have hl := h.1
  have hi := Lib.hid (containsf_any cs A c w hs (by omega))
  have H := Lib.hid h.2
  clear hs h
  go_enter Tryz.func141, Tryz.ntmps141
  go_wp2_with (go_at_call 153; refine hi.out.mono ?_; rintro e w' ⟨b, rfl, hb, rfl⟩; obtain rfl : b = false := (by cases b with
    | false => rfl
    | true =>
      obtain ⟨n, hn, hx⟩ := hb.1 rfl
      exact absurd (H.out n hn) (badC_iff.1 hx)); clear hb)
  go_ret
  exact ⟨rfl, rfl⟩
theorem ISrc.src {w : World} {A : Option Addr} {cs : List Int} (h : ISrc w A cs) : Src w 1 A cs.length (inI cs) := by
  refine ⟨by rw [inI_len]; omega, fun h0 => ?_⟩
  obtain ⟨g, o, rfl, _, _⟩ := h 0 h0
  refine ⟨_, rfl, fun j u hu => ?_⟩
  have hj : j < cs.length := by
    rcases Nat.lt_or_ge j cs.length with h1 | h1
    · exact h1
    · rw [List.getElem?_eq_none (by rw [inI_len]; exact h1)] at hu; cases hu
  obtain ⟨g', o', e, _, hc⟩ := h j hj
  injection e with e
  injection e with e1 e2
  subst e1; subst e2
  rw [add_mk, hc, ← hu]
  simp [inI, hj]
theorem ISrc.of_own {w : World} {base n c : Nat} {A : Option Addr} {cs : List Int} (h : w.ownsRow base 3 1 (.slice A n c) n (inI cs)) : ISrc w A cs := fun i hi => by
  have hl : n = cs.length := by have := h.1; rw [inI_len] at this; omega
  obtain ⟨g, rfl, hg, _⟩ := own_some h (by omega)
  exact ⟨g, 0, rfl, hg, by rw [Nat.zero_add]; exact (inI_cell h hi).1⟩
theorem clone_ints (cs : List Int) (A : Option Addr) (c : Nat) (w : World) (hs : ISrc w A cs) (hn : cs.length ≤ 1000000) :
    Calls Tryz.prog 142 #[.slice A cs.length c] w fun e w' => ∃ A' c', e = .returned (.slice A' cs.length c') ∧ w'.ownsRow w.heap.size 3 1 (.slice A' cs.length c') cs.length (inI cs) ∧ Keep [] w w' := by
  cases A with
  | none =>
    have h0 : cs = [] := by
      cases cs with
      | nil => rfl
      | cons x l => obtain ⟨g, o, e, _⟩ := hs 0 (by simp); cases e
    subst h0
    have hq := fun W => Lib.run_eql_slice_nil (P := Tryz.prog) W 140 3 none 0 c 0 0 Tryz.underlying140
    clear hs hn
    go_enter Tryz.func142, Tryz.ntmps142
    go_wp2
    go_ret
    exact ⟨none, 0, rfl, World.ownsRow_nil _ _ _ _, Keep.refl _ _⟩
  | some a =>
    have hq := fun W n => Lib.run_eql_slice_nil (P := Tryz.prog) W 140 3 (some a) n c 0 0 Tryz.underlying140
    have hka : Keep [] w (w.alloc (.cells #[] 3)) := (Keep.refl [] w).alloc _
    have hs' := (ISrc.keep hs hka (fun _ _ => by simp)).src
    obtain ⟨v', w', hrun, hown, hg, hat⟩ := run_append_src (P := Tryz.prog) (w.alloc (.cells #[] 3)) 140 140 3 (.int .i64 0) 1 8 w.heap.size Tryz.underlying140 intinfo rfl (by omega) (.slice (some ⟨w.heap.size, 0, none⟩) 0 0) 0 []
      (World.ownsRow_made w #[] 0 (Nat.le_refl _) (by simp [maxLen]) (by simp)) (some a) cs.length c _ hs' (inI_one cs) (by unfold maxLen; omega) (by omega) (by simp)
    rw [Nat.zero_add] at hown
    obtain ⟨A', c', rfl, _⟩ := own_slice hown
    have Hown := Lib.hid hown
    have Hg := Lib.hid hg
    have hb := run_empty_slice (P := Tryz.prog) 140 3 _ _ _ Tryz.underlying140 intinfo
    clear hs hs' hown hat hg hka
    go_enter Tryz.func142, Tryz.ntmps142
    go_wp2_with (at_builtin; refine wpList_append2 rfl (.tmp 5) (.tmp 6) rfl rfl rfl hrun ?_)
    go_ret
    refine ⟨A', c', rfl, by simpa using Hown.out, ?_⟩
    exact ((Keep.refl [] w).alloc _).grown Hg.out (fun k hk => by simp [Value.ownBlock] at hk; omega)
end Go.Proofs.YtdnaahbhfjclpaaGreatDoor

namespace Go.Huf
def toI (l : List Nat) : List Int := l.map fun (k : Nat) => (k : Int)
theorem okC_half {cs : List Int} (h : okC cs) : okC (cs.map half) := by
  refine ⟨by rw [List.length_map]; exact h.1, fun n hn => ?_⟩
  obtain ⟨m, hm, rfl⟩ := List.mem_map.1 hn
  have := h.2 m hm
  obtain ⟨h1, h2, _⟩ := half_le this.1
  omega
end Go.Huf
namespace Go.Proofs.YtdnaahbhfjclpaaGreatDoor
open Go.RowKit Go.Sal Go.Huf
def LnI (w : World) (cs0 : List Int) (AL : Option Addr) (cL : Nat) (f : Nat) (cs : List Int) (wr : World) : Prop :=
  wr.ownsRow w.heap.size 3 1 (.slice AL cs0.length cL) cs0.length (inI cs) ∧ Keep [] w wr ∧ lensF f cs = lens cs0 ∧ cs.sum.toNat ≤ f ∧ cs.length = cs0.length ∧ okC cs
set_option maxRecDepth 20000 in
set_option maxHeartbeats 4000000 in
theorem lengths_ok (cs : List Int) (A : Option Addr) (c : Nat) (w : World) (hs : ISrc w A cs) (h : okC cs) :
    Calls Tryz.prog 104 #[.slice A cs.length c] w fun e w' => ∃ AO cO, e = .returned (.tuple #[.slice AO cs.length cO, .int .i64 0]) ∧
      w'.ownsRow w.heap.size 3 1 (.slice AO cs.length cO) cs.length (inI (toI (lens cs))) ∧ Keep [] w w' := by
  have hl512 := h.1
  have hct := Lib.hid (count_ok cs A c w hs h)
  have hcl := Lib.hid (clone_ints cs A c w hs (by omega))
  have H := Lib.hid h
  clear hs h
  go_enter Tryz.func104, Tryz.ntmps104
  go_wp2_with (first
    | (go_at_call 141; refine hct.out.mono ?_; rintro e w' ⟨rfl, rfl⟩)
    | (go_at_call 142; refine hcl.out.mono ?_; rintro e w1 ⟨AL, cL, rfl, hown1, hk1⟩))
  have H0 : Hid (LnI w cs AL cL cs.sum.toNat cs w1) := Lib.hid ⟨hown1, hk1, rfl, Nat.le_refl _, rfl, H.out⟩
  clear hown1 hk1 hct hcl
  go_loopg [6] cs.sum.toNat (fun gk a wr => ∃ (f : Nat) (cs' : List Int), f ≤ gk ∧ Hid (LnI w cs AL cL f cs' wr))
  case atStart => exact ⟨_, _, Nat.le_refl _, H0⟩
  case round =>
    obtain ⟨f, cs', hf, hI⟩ := hrel
    clear H0
    obtain ⟨hown, hkp, hfin, hsum, hlen, hok⟩ := hI.out
    have hcw := hkp.size
    have hd := deep_any cs' AL cL wr (ISrc.of_own hown) (by have := hok.1; omega) hok.2
    rw [hlen] at hd
    have Hd := Lib.hid hd
    have HI := Lib.hid hI.out
    have hmost : dMost cs' cs.length ≤ 10000 := by
      refine dMost_le cs' 10000 (fun i hi => ?_) cs.length (by omega)
      have h9 := tree_sz cs'
      have h8 := upN_le (tree cs') (tree cs').length (up1 (tree cs') (leaf cs' i))
      unfold dAt
      split <;> omega
    clear hI hown hkp hd
    go_wp2_with (go_at_call 143; refine Hd.out.mono ?_; rintro e w2 ⟨go, rfl, hown2, hk2⟩; have Hown2 := Lib.hid hown2; have Hk2 := Lib.hid hk2; clear hown2 hk2)
    · -- none is too deep
      rename_i hle
      go_ret2
      obtain ⟨hown, hkp, _⟩ := HI.out
      have hres : lens cs = depths cs' := by
        rw [← hfin]
        cases f with
        | zero => rfl
        | succ f =>
          rw [lensF, if_pos]
          rw [hlen]
          omega
      refine ⟨some ⟨go, 0, none⟩, cs.length, rfl, ?_, hkp.trans Hk2.out⟩
      rw [hres]
      exact own_le Hown2.out hcw
    · rename_i hgt
      have hd15 : 15 < dMost cs' cs'.length := by rw [hlen]; omega
      have hlt := deep_half (fun n hn => (hok.2 n hn).1) hok.1 hd15
      have hs0 := (sum_half cs' (fun n hn => (hok.2 n hn).1)).1
      have hs1 := (sum_half (cs'.map half) (fun n hn => ((okC_half hok).2 n hn).1)).1
      obtain ⟨f', rfl⟩ : ∃ f', f = f' + 1 := ⟨f - 1, by omega⟩
      have hfin' : lensF f' (cs'.map half) = lens cs := by
        rw [← hfin, lensF, if_neg (by omega)]
      have Hfin := Lib.hid hfin'
      have Hsum := Lib.hid (show (cs'.map half).sum.toNat ≤ f' by omega)
      have Hok := Lib.hid hok
      have HM : Hid (w2.ownsRow w.heap.size 3 1 (.slice AL cs.length cL) cs.length (inI (mapK half 0 cs')) ∧ Keep [] w w2) := Lib.hid ⟨by rw [mapK_zero]; exact ownsRow_keep HI.out.1 Hk2.out (by simp), HI.out.2.1.trans Hk2.out⟩
      clear hfin hsum hok hd15 hlt hs0 hs1 hfin' hgt Hd
      go_loopw [27] (fun i wr2 => ∃ k : Nat, i = .int .i64 k ∧ k ≤ cs.length ∧ Hid (wr2.ownsRow w.heap.size 3 1 (.slice AL cs.length cL) cs.length (inI (mapK half k cs')) ∧ Keep [] w wr2)) (fun i _ => cs.length - (intOf i).toNat)
      case atStart => exact ⟨0, rfl, by omega, HM⟩
      case round =>
        obtain ⟨k, rfl, hk, hJ⟩ := hrel
        clear HM
        rcases Nat.lt_or_ge k cs.length with hkl | hkl
        · as_aux_lemma =>
            obtain ⟨hown, hkp⟩ := hJ.out
            obtain ⟨g, rfl, hg1, hg2⟩ := own_some hown (by omega)
            have hkl' : k < cs'.length := by omega
            have hk' : k < (mapK half k cs').length := by rw [mapK_len]; exact hkl'
            have hci := inI_cell hown hk'
            rw [mapK_at hkl' hk'] at hci
            obtain ⟨c1, z1⟩ := hci
            have hx := Hok.out.2 _ (List.getElem_mem hkl')
            have hset := inI_set hown hkl (half cs'[k])
            rw [mapK_set hkl'] at hset
            have hskip := fun h => mapK_skip (f := half) hkl' h
            have hwk : IntKind.i64.wrap ((k : Int) + 1) = (k : Int) + 1 := by rw [IntKind.wrap_i64]; omega
            generalize cs'[k] = x at *
            by_cases hp : 0 < x
            · have hh : half x = x.tdiv 2 + 1 := by unfold half; rw [if_pos hp]
              rw [hh] at hset
              obtain ⟨y, hy⟩ : ∃ y, y = x.tdiv 2 := ⟨_, rfl⟩
              have hyb : 0 ≤ y ∧ y ≤ 1073741824 := by rw [hy, Int.tdiv_eq_ediv_of_nonneg hx.1]; omega
              have hq : x.tdiv 2 = y := hy.symm
              rw [hq] at hset
              have hw1 : IntKind.i64.wrap y = y := by rw [IntKind.wrap_i64]; omega
              have hw2 : IntKind.i64.wrap (y + 1) = y + 1 := by rw [IntKind.wrap_i64]; omega
              have HN : Hid ((wr.setCell ⟨g, k, none⟩ (.int .i64 (y + 1))).ownsRow w.heap.size 3 1 (.slice (some ⟨g, 0, none⟩) cs.length cL) cs.length (inI (mapK half (k + 1) cs')) ∧ Keep [] w (wr.setCell ⟨g, k, none⟩ (.int .i64 (y + 1)))) := Lib.hid ⟨hset, hkp.setCell (.inr hg2) _⟩
              clear hJ hown hkp hset hskip hh hy hyb
              go_wp2
              exact ⟨⟨k + 1, by simp, by omega, HN⟩, by simp [intOf]; omega⟩
            · have hh : half x = x := by unfold half; rw [if_neg hp]
              have HN : Hid (wr.ownsRow w.heap.size 3 1 (.slice (some ⟨g, 0, none⟩) cs.length cL) cs.length (inI (mapK half (k + 1) cs')) ∧ Keep [] w wr) := Lib.hid ⟨by rw [hskip hh]; exact hown, hkp⟩
              clear hJ hown hkp hset hskip hh
              go_wp2
              exact ⟨⟨k + 1, by simp, by omega, HN⟩, by simp [intOf]; omega⟩
        · obtain rfl : k = cs.length := by omega
          obtain ⟨hown, hkp⟩ := hJ.out
          have hma : mapK half cs.length cs' = cs'.map half := by rw [← hlen]; exact mapK_all
          rw [hma] at hown
          have HN : Hid (LnI w cs AL cL f' (cs'.map half) wr) := Lib.hid ⟨hown, hkp, Hfin.out, Hsum.out, by rw [List.length_map]; exact hlen, okC_half Hok.out⟩
          clear hJ hown hkp hma
          go_wp2_with fail
          obtain ⟨gm, rfl⟩ : ∃ gm, gk = gm + 1 := ⟨gk - 1, by omega⟩
          go_roundg gm
          case measure => omega
          case rel => exact ⟨f', _, by omega, HN⟩
end Go.Proofs.YtdnaahbhfjclpaaGreatDoor

namespace Go.Proofs.YtdnaahbhfjclpaaGreatDoor
open Go.RowKit Go.Sal Go.Huf
def rc3 (x : (Int × Int) × Int) : List Value := [.int .i64 x.1.1, .int .i64 x.1.2, .int .i64 x.2]
end Go.Proofs.YtdnaahbhfjclpaaGreatDoor

namespace Go.Proofs.YtdnaahbhfjclpaaGreatDoor
open Go.RowKit Go.Sal Go.Huf
def SaysB (P : Prop) (w : World) (e : Ending) (w' : World) : Prop := ∃ b : Bool, e = .returned (.bool b) ∧ (b = true ↔ P) ∧ w = w'
theorem SaysB.yes {P : Prop} {w : World} (h : P) : SaysB P w (.returned (.bool true)) w := ⟨true, rfl, ⟨fun _ => h, fun _ => rfl⟩, rfl⟩
theorem SaysB.no {P : Prop} {w : World} (h : ¬ P) : SaysB P w (.returned (.bool false)) w := ⟨false, rfl, ⟨fun h2 => (by cases h2), fun h2 => absurd h2 h⟩, rfl⟩
end Go.Proofs.YtdnaahbhfjclpaaGreatDoor

namespace Go.Proofs.YtdnaahbhfjclpaaGreatDoor
open Go.RowKit Go.Sal Go.Huf
structure RT (w : World) (cs : List Int) (A : Option Addr) (c : Nat) (r : List RN3) (m : Nat) (wr : World) : Prop where
  own : wr.ownsRow w.heap.size 229 3 (.slice A r.length c) r.length (r.flatMap rc3)
  kp : Keep [] w wr
  tr : ∃ free h p, TI (r.map Prod.fst) free h p cs.sum ∧ free.length = m ∧ (treeF m (r.map Prod.fst, free)).1 = tree cs
  sy : ∃ q, r.map Prod.snd = (lay cs cs.length).map Prod.snd ++ List.replicate q (-1)
  sz : r.length + m = leaf cs cs.length + leaf cs cs.length
structure RE (w : World) (cs : List Int) (A : Option Addr) (c : Nat) (r : List RN3) (wr : World) : Prop where
  own : wr.ownsRow w.heap.size 229 3 (.slice A r.length c) r.length (r.flatMap rc3)
  kp : Keep [] w wr
  tr : r.map Prod.fst = tree cs
  sy : ∃ q, r.map Prod.snd = (lay cs cs.length).map Prod.snd ++ List.replicate q (-1)
theorem RT.done {w wr : World} {cs : List Int} {A : Option Addr} {c m : Nat} {r : List RN3} (h : RT w cs A c r m wr) (hm : m ≤ 1) : RE w cs A c r wr := by
  refine ⟨h.own, h.kp, ?_, h.sy⟩
  obtain ⟨free, h', p, h1, h2, h3⟩ := h.tr
  rw [← h3]
  cases m with
  | zero => rfl
  | succ f => rw [treeF, if_neg (by show ¬ 1 < free.length; omega)]
end Go.Proofs.YtdnaahbhfjclpaaGreatDoor

namespace Go.Proofs.YtdnaahbhfjclpaaGreatDoor
open Go.RowKit Go.Sal Go.Huf
end Go.Proofs.YtdnaahbhfjclpaaGreatDoor

