/- Whatever the conf and the deeds, ScriptPrints returns true, and its arguments read as they did. -/
import Derived.Test.YtopfbbnpbobhaaaDoorBytes
import Derived.Test.YtopfbbnpbobhaaaDoorU15
import Derived.Deep.Grids
import Derived.Deep.Strs
set_option linter.unusedVariables false
set_option linter.unusedSimpArgs false
namespace Go.Proofs.YtopfbbnpbobhaaaDoor
open Go.ChangeShapes Go.WideShapes Go.ChangeAt Go.RowKit Go.Sal

section
variable {H : Type} {enc : TypeId × Value → H} {w : World} {base : Nat} {held : Bool}
theorem spot_of_cell {a : Addr} {v : Value} (h : w.cell? a = some v) : a.spot = none := by
  unfold World.cell? at h
  split at h
  · split at h
    · cases h
    · rename_i hsp
      simpa using hsp
  · cases h
theorem list_of {α : Type} {p : Nat → α → Prop} : ∀ n, (∀ i, i < n → ∃ x, p i x) → ∃ l : List α, l.length = n ∧ ∀ i (h : i < l.length), p i l[i] := by
  intro n
  induction n with
  | zero => exact fun _ => ⟨[], rfl, fun i h => absurd h (Nat.not_lt_zero i)⟩
  | succ n ih =>
    intro h
    obtain ⟨l, hl, hp⟩ := ih (fun i hi => h i (by omega))
    obtain ⟨x, hx⟩ := h n (by omega)
    refine ⟨l ++ [x], by simp [hl], fun i hi => ?_⟩
    rcases Nat.lt_or_ge i l.length with h1 | h1
    · rw [List.getElem_append_left h1]
      exact hp i h1
    · have : i = n := by simp at hi; omega
      subst this
      rw [List.getElem_append_right h1]
      simpa [hl] using hx
theorem rd_bytes {fuel : Nat} {v : Value} {y : DataW H × List MemPlace} (h : DataW.trod enc Tryd.prog w base (fun _ => true) held fuel 22 [v] = some y) :
    ∃ A b c, v = .slice A (List.length b) c ∧ b.length ≤ c ∧ c ≤ maxLen ∧ RD encB w A b := by
  obtain ⟨b, hb⟩ := reads_of_trod Tryd.underlying22 Tryd.underlying5 (by kernel_rfl) h
  have hb' := hb
  obtain ⟨A, c, rfl, h1, h2, h3⟩ := hb'
  obtain ⟨h4, h5, h6⟩ := RD.of_reads hb
  exact ⟨A, b, c, rfl, h5, h2, h6⟩
theorem rd_bools {fuel : Nat} {v : Value} {y : DataW H × List MemPlace} (h : DataW.trod enc Tryd.prog w base (fun _ => true) held fuel 70 [v] = some y) :
    ∃ A b c, v = .slice A (List.length b) c ∧ b.length ≤ c ∧ c ≤ maxLen ∧ RD encT w A b := by
  rcases Go.Deep.open_bools Tryd.underlying70 Tryd.underlying4 (by kernel_rfl) h with ⟨h0, _⟩ | ⟨a, len, cap, B, h0, _, h1, h2, _, h3⟩
  · injection h0 with h0
    exact ⟨none, [], 0, h0, Nat.le_refl _, Nat.zero_le _, RD.nil _ _ _⟩
  · injection h0 with h0
    refine ⟨some a, (List.range len).map B, cap, by simpa using h0, by simpa using h1, h2, fun hn => ?_⟩
    have hp : 0 < len := by
      rcases Nat.eq_zero_or_pos len with rfl | hp
      · simp at hn
      · exact hp
    have hs := spot_of_cell (h3 0 (by omega))
    have hlt := World.block_lt_of_cell? _ _ (h3 0 (by omega))
    obtain ⟨g, o, sp⟩ := a
    have hsp : sp = none := by simpa [Addr.add] using hs
    subst hsp
    rw [add_mk] at hlt
    refine ⟨g, o, rfl, hlt, fun j hj => ?_⟩
    have := h3 j (by simp at hj; omega)
    rw [add_mk] at this
    rw [this]
    simp [encT]
theorem rng {n : Int} (h : (Lit.int .i64 n).wf = true) : i64R n := by
  simp [Lit.wf, IntKind.min, IntKind.max, IntKind.bits, IntKind.signed] at h
  unfold i64R
  omega
theorem deed_open {a : Addr} {i n : Nat} {fs : Array Field} (hu : Tryd.prog.underlying 72 = some (.struct fs)) (h : ∀ (j : Nat) (f : Field), fs[j]? = some f → ∃ (v : Value) (y : DataW H × List MemPlace), w.cell? (a.add (i * 7 + j)) = some v ∧ DataW.trod enc Tryd.prog w base (fun _ => true) held n f.type [v] = some y) :
    ∃ r : DR, r.ok w ∧ ∀ k, k < 7 → w.cell? (a.add (i * 7 + k)) = r.av[k]? := by
  obtain rfl := TypeDesc.struct.inj (Option.some.inj (Tryd.underlying72.symm.trans hu))
  obtain ⟨v0, y0, c0, t0⟩ := h 0 _ rfl
  obtain ⟨v1, y1, c1, t1⟩ := h 1 _ rfl
  obtain ⟨v2, y2, c2, t2⟩ := h 2 _ rfl
  obtain ⟨v3, y3, c3, t3⟩ := h 3 _ rfl
  obtain ⟨v4, y4, c4, t4⟩ := h 4 _ rfl
  obtain ⟨v5, y5, c5, t5⟩ := h 5 _ rfl
  obtain ⟨v6, y6, c6, t6⟩ := h 6 _ rfl
  obtain ⟨z0, e0, _, b0⟩ := DataW.trod_int Tryd.underlying69 t0
  obtain ⟨z1, e1, _, b1⟩ := DataW.trod_int Tryd.underlying3 t1
  obtain ⟨s2, e2, _, b2⟩ := DataW.trod_string Tryd.underlying9 t2
  obtain ⟨A3, l3, k3, rfl, a3, m3, r3⟩ := rd_bytes t3
  obtain ⟨z4, e4, _, b4⟩ := DataW.trod_int Tryd.underlying3 t4
  obtain ⟨z5, e5, _, b5⟩ := DataW.trod_int Tryd.underlying3 t5
  obtain ⟨A6, l6, k6, rfl, a6, m6, r6⟩ := rd_bools t6
  injection e0 with e0; subst e0
  injection e1 with e1; subst e1
  injection e2 with e2; subst e2
  injection e4 with e4; subst e4
  injection e5 with e5; subst e5
  refine ⟨⟨⟨z0, z1, s2.data.toList, l3, z4, z5, l6⟩, A3, k3, A6, k6⟩, ⟨r3, r6, a3, m3, a6, m6, rng b0, rng b1, rng b4, rng b5, by rw [Array.length_toList]; exact b2⟩, fun k hk => ?_⟩
  match k, hk with
  | 0, _ => exact c0
  | 1, _ => exact c1
  | 2, _ => exact c2
  | 3, _ => exact c3
  | 4, _ => exact c4
  | 5, _ => exact c5
  | 6, _ => exact c6
theorem deeds_open {fuel : Nat} {v : Value} {x : DataW H × List MemPlace} (h : DataW.trod enc Tryd.prog w base (fun _ => true) held fuel 41 [v] = some x) :
    ∃ A rs c, v = .slice A (List.length rs) c ∧ RS w A rs ∧ ∀ r ∈ rs, r.ok w := by
  rcases open_rows Tryd.underlying41 Tryd.underlying72 (by kernel_rfl) (by kernel_rfl) h with h0 | ⟨a, len, cap, h0, hl, hm, hr⟩
  · injection h0 with h0
    exact ⟨none, [], 0, h0, fun hn => absurd rfl hn, fun r hr => by cases hr⟩
  · injection h0 with h0
    obtain ⟨rs, hrl, hp⟩ := list_of (p := fun i r => r.ok w ∧ ∀ k, k < 7 → w.cell? (a.add (i * 7 + k)) = (DR.av r)[k]?) len (fun i hi => by
      obtain ⟨n, hn⟩ := hr i hi
      exact deed_open Tryd.underlying72 hn)
    refine ⟨some a, rs, cap, by rw [hrl]; exact h0, fun hn => ?_, fun r hr => ?_⟩
    · have hpos : 0 < rs.length := List.length_pos_iff.2 hn
      have h00 : w.cell? (a.add (0 * 7 + 0)) = _ := (hp 0 hpos).2 0 (by omega)
      have h01 : w.cell? (a.add (0 * 7 + 0)) = some (.int .i64 (rs[0]).d.kind) := h00
      have hs := spot_of_cell h01
      have hlt := World.block_lt_of_cell? _ _ h01
      obtain ⟨g, o, sp⟩ := a
      have hsp : sp = none := by simpa [Addr.add] using hs
      subst hsp
      rw [add_mk] at hlt
      refine ⟨g, o, rfl, hlt, fun j hj k hk => ?_⟩
      have := (hp j hj).2 k hk
      rw [add_mk] at this
      rw [Nat.add_assoc]
      exact this
    · obtain ⟨j, hj, rfl⟩ := List.getElem_of_mem hr
      exact (hp j hj).1
theorem parts {t : TypeId} {fs : Array Field} {fuel : Nat} {cs : List Value} {x : DataW H × List MemPlace} (ht : Tryd.prog.underlying t = some (.struct fs)) (h : DataW.trod enc Tryd.prog w base (fun _ => true) held fuel t cs = some x) :
    cs.length = Tryd.prog.cellsOf t ∧ ∃ n, ∀ (i : Nat) (f : Field), fs[i]? = some f → ∃ y, DataW.trod enc Tryd.prog w base (fun _ => true) held n f.type ((cs.drop f.offset).take (Tryd.prog.cellsOf f.type)) = some y := by
  obtain ⟨xs, n, _, _, hl, hx, hf⟩ := DataW.trod_struct ht h
  refine ⟨hl, n, fun i f hi => ?_⟩
  have hlt : i < xs.length := by rw [hx]; exact (Array.getElem?_eq_some_iff.1 hi).1
  exact ⟨_, (hf i f hi).trans (List.getElem?_eq_getElem hlt)⟩
theorem c3 : Tryd.prog.cellsOf 3 = 1 := by kernel_rfl
theorem c9 : Tryd.prog.cellsOf 9 = 1 := by kernel_rfl
theorem c40 : Tryd.prog.cellsOf 40 = 9 := by kernel_rfl
theorem c38 : Tryd.prog.cellsOf 38 = 8 := by kernel_rfl
theorem c36 : Tryd.prog.cellsOf 36 = 4 := by kernel_rfl
theorem c34 : Tryd.prog.cellsOf 34 = 3 := by kernel_rfl
theorem int_of {n : Nat} {v : Value} {y : DataW H × List MemPlace} (h : DataW.trod enc Tryd.prog w base (fun _ => true) held n 3 [v] = some y) : ∃ z, v = .int .i64 z ∧ i64R z := by
  obtain ⟨z, e, _, b⟩ := DataW.trod_int Tryd.underlying3 h
  injection e with e
  exact ⟨z, e, rng b⟩
set_option maxRecDepth 100000 in
theorem conf_list {fuel : Nat} {a0 a1 a2 a3 a4 a5 a6 a7 a8 : Value} {x : DataW H × List MemPlace} (h : DataW.trod enc Tryd.prog w base (fun _ => true) held fuel 40 [a0, a1, a2, a3, a4, a5, a6, a7, a8] = some x) :
    ∃ cf, #[a0, a1, a2, a3, a4, a5, a6, a7, a8] = cfA cf ∧ (∀ z ∈ nums cf, i64R z) ∧ cf.key.length ≤ 9223372036854775807 := by
  obtain ⟨_, n1, h1⟩ := parts Tryd.underlying40 h
  obtain ⟨y0, g0⟩ := h1 0 _ rfl
  obtain ⟨y1, g1⟩ := h1 1 _ rfl
  simp only [List.getElem_toArray, List.getElem_cons_zero, List.getElem_cons_succ, c3, c9, c38, c36, c34, List.drop_zero, List.drop_succ_cons, List.take_succ_cons, List.take_zero] at g0 g1
  obtain ⟨_, n2, h2⟩ := parts Tryd.underlying38 g1
  obtain ⟨p0, q0⟩ := h2 0 _ rfl
  obtain ⟨p1, q1⟩ := h2 1 _ rfl
  obtain ⟨p2, q2⟩ := h2 2 _ rfl
  obtain ⟨p3, q3⟩ := h2 3 _ rfl
  obtain ⟨p4, q4⟩ := h2 4 _ rfl
  simp only [List.getElem_toArray, List.getElem_cons_zero, List.getElem_cons_succ, c3, c9, c38, c36, c34, List.drop_zero, List.drop_succ_cons, List.take_succ_cons, List.take_zero] at q0 q1 q2 q3 q4
  obtain ⟨_, n3, h3⟩ := parts Tryd.underlying36 q2
  obtain ⟨r0, s0⟩ := h3 0 _ rfl
  obtain ⟨r1, s1⟩ := h3 1 _ rfl
  simp only [List.getElem_toArray, List.getElem_cons_zero, List.getElem_cons_succ, c3, c9, c38, c36, c34, List.drop_zero, List.drop_succ_cons, List.take_succ_cons, List.take_zero] at s0 s1
  obtain ⟨_, n4, h4⟩ := parts Tryd.underlying34 s1
  obtain ⟨t0, u0⟩ := h4 0 _ rfl
  obtain ⟨t1, u1⟩ := h4 1 _ rfl
  obtain ⟨t2, u2⟩ := h4 2 _ rfl
  simp only [List.getElem_toArray, List.getElem_cons_zero, List.getElem_cons_succ, c3, c9, c38, c36, c34, List.drop_zero, List.drop_succ_cons, List.take_succ_cons, List.take_zero] at u0 u1 u2
  obtain ⟨z0, rfl, b0⟩ := int_of (v := a0) g0
  obtain ⟨z1, rfl, b1⟩ := int_of (v := a1) q0
  obtain ⟨sk, e, _, bk⟩ := DataW.trod_string Tryd.underlying9 q1
  have e' : a2 = .string sk := by injection e
  subst e'
  obtain ⟨z2, rfl, b2⟩ := int_of (v := a3) s0
  obtain ⟨z3, rfl, b3⟩ := int_of (v := a4) u0
  obtain ⟨z4, rfl, b4⟩ := int_of (v := a5) u1
  obtain ⟨z5, rfl, b5⟩ := int_of (v := a6) u2
  obtain ⟨z6, rfl, b6⟩ := int_of (v := a7) q3
  obtain ⟨z7, rfl, b7⟩ := int_of (v := a8) q4
  refine ⟨⟨z0, z1, sk.data.toList, z2, z3, z4, z5, z6, z7⟩, rfl, fun z hz => ?_, by rw [Array.length_toList]; exact bk⟩
  simp only [nums, List.mem_cons, List.not_mem_nil, or_false] at hz
  rcases hz with rfl | rfl | rfl | rfl | rfl | rfl | rfl | rfl <;> assumption
theorem conf_open {fuel : Nat} {cs : Array Value} {x : DataW H × List MemPlace} (h : DataW.trod enc Tryd.prog w base (fun _ => true) held fuel 40 cs.toList = some x) :
    ∃ cf, cs = cfA cf ∧ (∀ z ∈ nums cf, i64R z) ∧ cf.key.length ≤ 9223372036854775807 := by
  have hl := (parts Tryd.underlying40 h).1
  rw [c40] at hl
  obtain ⟨l⟩ := cs
  match l, hl with
  | [a0, a1, a2, a3, a4, a5, a6, a7, a8], _ => exact conf_list h
end
set_option maxRecDepth 100000 in
theorem scriptPrints_lifted (os : Os) (started : os.Started) (H : Type) (enc : TypeId × Value → H) :
    ReturnsInHanded {} Tryd.checked os 4 .any (fun w args => (Rows.scriptPrintsSpec.pre enc Tryd.prog Tryd.f4 [] false w args ∧ laidMetH Tryd.prog laid3 w) ∧ sizedMet enc Tryd.prog Tryd.f4 (OpenSpec.ofChange Rows.scriptPrintsSpec) false w args)
      (Rows.scriptPrintsSpec.post enc Tryd.prog Tryd.f4 false true false false) := by
  refine returnsInHanded_of_change_and (C := Tryd.checked) (X := fun w _ => laidMetH Tryd.prog laid3 w) (fun _ _ _ hh h => h.of_heap hh) own started (by kernel_rfl) Tryd.func4
    (ChangeSpec.witness_shaped (enc := enc) (C := Tryd.checked) (os := os) (X := fun w _ => laidMetH Tryd.prog laid3 w) false (World.doorLaid Tryd.prog 400 os) #[.agg #[.int .i64 0, .int .i64 0, .string ⟨#[]⟩, .int .i64 0, .int .i64 0, .int .i64 0, .int .i64 0, .int .i64 0, .int .i64 0], .slice none 0 0] 8 rfl (World.shaped_of_RefB (by kernel_rfl) (by kernel_rfl)) (by kernel_rfl) (by kernel_rfl) (by kernel_rfl) (door_met os _)) ?_
  intro W base args ds gs before hval0 hW _ _ hL _
  have hval : ∀ (j : Nat) t v, Tryd.f4.params[j]? = some t → args[j]? = some v → Value.okWide Tryd.prog W .any base t v := hval0
  have hW' := hW
  obtain ⟨p, q, hA0, hV, rfl, hfz, hnd⟩ := hW
  have hA : DataW.TrodAll enc Tryd.prog W 0 (fun _ => true) true Tryd.f4.params.toList args.toList ds p := hA0
  rw [Tryd.params4] at hA hval
  obtain ⟨v0, v1, d0, d1, p0, p1, rfl, rfl, rfl, h0, h1⟩ := trodAll_two hA
  obtain ⟨rfl, rfl⟩ := trodVars_none hV
  have k0 := h0
  have k1 := h1
  obtain ⟨cs0, rfl, _⟩ := okWide_struct Tryd.underlying40 (hval 0 40 v0 rfl rfl)
  obtain ⟨f0, t0⟩ := h0
  obtain ⟨f1, t1⟩ := h1
  obtain ⟨cf, rfl, hcx, hck⟩ := conf_open (cs := cs0) t0
  obtain ⟨A1, n1, c1, rfl⟩ := okWide_slice Tryd.underlying41 (hval 1 41 v1 rfl rfl)
  obtain ⟨A0, rs, c0, hsl, hRS, hok⟩ := deeds_open t1
  injection hsl with hs1 hs2 hs3
  subst hs1
  subst hs2
  subst hs3
  have htab := tab_of_laid hL
  simp only [List.append_nil] at hW'
  have hlt0 : ∀ x ∈ p0, x.block < W.heap.size := fun x hx => hW'.lt x (by simp [hx])
  have hlt1 : ∀ x ∈ p1, x.block < W.heap.size := fun x hx => hW'.lt x (by simp [hx])
  have hfin : ∀ e W', e = Ending.returned (.bool true) ∧ Below W.heap.size W W' → ∃ v, e = .returned v ∧ Rows.scriptPrintsSpec.post enc Tryd.prog Tryd.f4 false true false false W #[.agg (cfA cf), .slice A1 rs.length c1] v W' := by
    rintro e W' ⟨rfl, hk⟩
    refine ⟨_, rfl, post_of_below (pa := p0 ++ p1) (pv := []) hW' (fun _ _ _ => trodAll_mk1 (shut_bool Tryd.underlying4 true)) (fun sp hsp => ?_) (fun _ _ => rfl) ?_ hk (ok_one (by kernel_rfl) rfl (okWide_bool_mk Tryd.underlying4 true))⟩
    · exact trodAll_mk2 (WideElems.Trod_stays laidOut (by kernel_rfl) (of_decide_eq_true (by kernel_rfl)) k0 (fun x hx => hk.same (hlt0 x hx)) (fun x hx => hsp x (by simp [hx])))
        (WideElems.Trod_stays laidOut (by kernel_rfl) (of_decide_eq_true (by kernel_rfl)) k1 (fun x hx => hk.same (hlt1 x hx)) (fun x hx => hsp x (by simp [hx])))
    · simp
  exact (law4_any cf rs A1 c1 W hRS hok hcx hck htab).mono hfin
theorem ScriptPrints_plain : Rows.ScriptPrintsSaid :=
  OpenClaim.holds_of_wide 4 Tryd.f4 rfl rfl rfl rfl rfl rfl rfl ⟨rfl, rfl, rfl, rfl, rfl⟩ rfl rfl rfl rfl rfl (by kernel_rfl) Tryd.func4 (by kernel_rfl)
    (of_decide_eq_true (by kernel_rfl)) (by unfold Func.isWrapper; first | (rw [if_pos (by decide +kernel)]; kernel_rfl) | (rw [if_neg (by decide +kernel)]; exact ⟨rfl, rfl⟩))
    (fun os started H enc _ => scriptPrints_lifted os started H enc)
theorem ScriptPrints_holds : Rows.ScriptPrintsCardSaid :=
  Claim7.holds_tied_plain_at .later [] [.data, .data, .data] true (true, "c6e82e7c5b24eadff30efe4a88de3db4db444ce79a3d3d822023ee8b6fc2a579") false
    ScriptPrints_plain (fun _ h => by cases h) (by kernel_rfl) (fun _ h => by cases h) scriptPrints_row_tie rfl ⟨rfl, rfl⟩ (by kernel_rfl) rfl
    (fun f fn hf hfn => by
      obtain rfl : f = 4 := Option.some.inj ((show Tryd.prog.funcNamed "saltern/salternlaw25.ScriptPrints" = some 4 by kernel_rfl).symm.trans hf) |>.symm
      obtain rfl : fn = Tryd.f4 := (Option.some.inj (Tryd.func4.symm.trans hfn)).symm
      exact ⟨by kernel_rfl, fun j t ht => by
        rw [Tryd.params4] at ht
        have hm : t ∈ [40, 41] := by simpa using Array.mem_of_getElem? ht
        have hall : ([40, 41].all fun u => !Tryd.prog.wantsStandIn u) = true := by kernel_rfl
        exact (show Tryd.prog.wantsStandIn t = false by simpa using List.all_eq_true.1 hall t hm)⟩)
    (by kernel_rfl)
end Go.Proofs.YtopfbbnpbobhaaaDoor
