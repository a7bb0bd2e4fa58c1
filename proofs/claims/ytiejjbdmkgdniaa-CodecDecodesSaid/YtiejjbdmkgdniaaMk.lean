/- A map whose keys are compared one by one (arrays, structs): looked up and written, as a function of its keys. -/
import Derived.Test.YtiejjbdmkgdniaaBase
import Derived.Laws.StructEq
import Derived.Test.YtiejjbdmkgdniaaK7
import Derived.Test.YtiejjbdmkgdniaaK1
import Derived.Test.YtiejjbdmkgdniaaL2
import Derived.ChangeKeysEq
set_option linter.unusedVariables false
set_option linter.unusedSimpArgs false
namespace Go.Sal
open Go.RowKit
/-- what is asked of a key type -/
structure KeyLaw (P : Program) (K : TypeId) {κ : Type} [DecidableEq κ] (key : κ → Value) : Prop where
  same : ∀ a, Instr.sameBits 10000 (key a) (key a) = true
  eq : ∀ a b w, (Op.equal K (key a) (key b)).run P w = .ok (decide (a = b)) w
  chk : ∀ e a w, (Instr.checkKey e 10000 K (key a)).run P w = .ok () w
  desc : ∃ d, P.underlying K = some d ∧ ∀ a v, Instr.sameNow d (key a) v = none
section
variable {P : Program} {K t E : TypeId} {κ : Type} [DecidableEq κ] {key : κ → Value}
def klook (l : List (κ × Value)) (a : κ) : Option Value := (l.find? fun p => decide (p.1 = a)).map (·.2)
def kupd (a : κ) (v : Value) : List (κ × Value) → List (κ × Value)
  | [] => [(a, v)]
  | p :: l => if p.1 = a then (a, v) :: l else p :: kupd a v l
theorem klook_upd (a b : κ) (v : Value) : ∀ l, klook (kupd a v l) b = if b = a then some v else klook l b
  | [] => by
    by_cases h : b = a
    · subst h; simp [kupd, klook]
    · have h' : ¬ a = b := fun e => h e.symm
      simp [kupd, klook, h, h']
  | p :: l => by
    have ih := klook_upd a b v l
    unfold klook at ih ⊢
    rw [kupd]
    by_cases h : p.1 = a
    · rw [if_pos h]
      by_cases hb : b = a
      · subst hb; simp
      · rw [if_neg hb, List.find?_cons, List.find?_cons]
        have h' : ¬ a = b := fun e => hb e.symm
        have h2 : ¬ p.1 = b := fun e => h' (h.symm.trans e)
        simp [h', h2]
    · rw [if_neg h, List.find?_cons, List.find?_cons]
      by_cases hb : p.1 = b
      · have : b ≠ a := fun e => h (hb.trans e)
        simp [hb, this]
      · simp [hb]
        exact ih
def kidx (l : List (κ × Value)) (a : κ) : Option Nat := l.findIdx? fun p => decide (p.1 = a)
theorem kidx_look (l : List (κ × Value)) (a : κ) : (kidx l a).isSome = (klook l a).isSome := by
  unfold kidx klook
  induction l with
  | nil => rfl
  | cons p l ih =>
    simp only [List.findIdx?_cons, List.find?_cons]
    by_cases hp : p.1 = a
    · simp [hp]
    · simp only [hp, decide_false, Bool.false_eq_true, if_false, Option.isSome_map]
      rw [ih, Option.isSome_map]
theorem kupd_none {a : κ} {v : Value} : ∀ {l : List (κ × Value)}, kidx l a = none → kupd a v l = l ++ [(a, v)]
  | [], _ => rfl
  | p :: l, h => by
    unfold kidx at h
    rw [List.findIdx?_cons] at h
    by_cases hp : p.1 = a
    · simp [hp] at h
    · simp only [hp, decide_false, Bool.false_eq_true, if_false, Option.map_eq_none_iff] at h
      rw [kupd, if_neg hp, kupd_none h]; rfl
theorem kupd_some {a : κ} {v : Value} : ∀ {l : List (κ × Value)} {j : Nat}, kidx l a = some j → kupd a v l = l.modify j (fun _ => (a, v))
  | [], _, h => by simp [kidx] at h
  | p :: l, j, h => by
    unfold kidx at h
    rw [List.findIdx?_cons] at h
    by_cases hp : p.1 = a
    · simp [hp] at h
      subst h
      rw [kupd, if_pos hp]; rfl
    · simp only [hp, decide_false, Bool.false_eq_true, if_false, Option.map_eq_some_iff] at h
      obtain ⟨j', hj', rfl⟩ := h
      rw [kupd, if_neg hp, kupd_some hj']; rfl
/-- a map in memory, by what each key has -/
def MapF (key : κ → Value) (w : World) (b : Nat) (f : κ → Option Value) : Prop :=
  ∃ (l : List (κ × Value)) (es : Array MapEntry) (cl : Nat), w.heap[b]? = some (.map es cl) ∧ es.toList.map (fun e => (e.key, e.val)) = l.map (fun p => (key p.1, p.2)) ∧ ∀ a, klook l a = f a
theorem MapF.keep {F : List Nat} {w w' : World} {b : Nat} {f : κ → Option Value} (h : MapF key w b f) (k : Keep F w w') (hn : b ∉ F) : MapF key w' b f := by
  obtain ⟨l, es, cl, h1, h2, h3⟩ := h
  exact ⟨l, es, cl, (k.block b (lt_of_some h1) hn).trans h1, h2, h3⟩
theorem MapF.lt {w : World} {b : Nat} {f : κ → Option Value} (h : MapF key w b f) : b < w.heap.size := by
  obtain ⟨l, es, cl, h1, _⟩ := h
  exact lt_of_some h1
theorem MapF.ne_blk {w : World} {b g : Nat} {f : κ → Option Value} {ty : TypeId} {cs : Array Value} (h : MapF key w b f) (hb : Blk w g ty cs) : g ≠ b := by
  rintro rfl
  obtain ⟨l, es, cl, h1, _⟩ := h
  unfold Blk at hb
  rw [hb] at h1
  cases h1
theorem MapF.ne_own {w : World} {b base size n : Nat} {f : κ → Option Value} {e : TypeId} {v : Value} {xs : List Value} (h : MapF key w b f) (ho : w.ownsRow base e size v n xs) : v.ownBlock ≠ some b := by
  obtain ⟨l, es, cl, h1, _⟩ := h
  exact own_ne_map ho h1
theorem kfindAsking (H : KeyLaw P K key) (a : κ) (w : World) : ∀ (es : List MapEntry) (l : List (κ × Value)) (i : Nat), es.map (fun e => (e.key, e.val)) = l.map (fun p => (key p.1, p.2)) →
    (Instr.findAsking K (key a) es i).run P w = .ok ((kidx l a).map fun j => (i + j, (klook l a).getD undef)) w
  | [], [], i, _ => by simp [Instr.findAsking, kidx]
  | [], _ :: _, _, h => by simp at h
  | _ :: _, [], _, h => by simp at h
  | e :: es, p :: l, i, h => by
    simp only [List.map_cons, List.cons.injEq, Prod.mk.injEq] at h
    obtain ⟨⟨hk, hv⟩, ht⟩ := h
    have ih := kfindAsking H a w es l (i + 1) ht
    unfold Instr.findAsking
    rw [hk]
    simp only [Sem.run_bind, H.eq, Result.andThen_ok]
    by_cases hp : a = p.1
    · subst hp
      simp [kidx, klook, List.findIdx?_cons, hv]
    · simp only [hp, decide_false, Bool.false_eq_true, if_false]
      rw [ih]
      have hp' : ¬ p.1 = a := fun e => hp e.symm
      simp only [kidx, klook, List.findIdx?_cons, List.find?_cons, hp', decide_false, Bool.false_eq_true, if_false]
      cases List.findIdx? (fun p => decide (p.1 = a)) l
      · simp
      · simp; omega
theorem kfindKey (H : KeyLaw P K key) (a : κ) (w : World) (es : List MapEntry) (l : List (κ × Value)) (h : es.map (fun e => (e.key, e.val)) = l.map (fun p => (key p.1, p.2))) :
    (Instr.findKey K (key a) es).run P w = .ok ((kidx l a).map fun j => (j, (klook l a).getD undef)) w := by
  obtain ⟨d, hd, hs⟩ := H.desc
  unfold Instr.findKey
  cases es with
  | nil =>
    cases l with
    | nil => simp [run_underlying hd, Instr.findNow, kidx]
    | cons p l => simp at h
  | cons e es =>
    have hn : Instr.findNow d (key a) (e :: es) 0 = none := by unfold Instr.findNow; rw [hs]
    simp only [Sem.run_bind, run_underlying hd, Result.andThen_ok, hn]
    have := kfindAsking H a w (e :: es) l 0 h
    simpa using this
theorem klookup_ok (H : KeyLaw P K key) (ht : P.underlying t = some (.map K E)) {w : World} {b : Nat} {f : κ → Option Value} (z : Value) (hz : (zeroValue E).run P w = .ok z w) (h : MapF key w b f) (a : κ) :
    (Instr.lookup t (.map (some b)) (key a) true).run P w = .ok (.tuple #[(f a).getD z, .bool (f a).isSome]) w := by
  obtain ⟨l, es, cl, hh, hr, hf⟩ := h
  have hfk := kfindKey H a w es.toList l hr
  have hi := kidx_look l a
  rw [hf a] at hfk hi
  unfold Instr.lookup
  cases hl : f a with
  | none =>
    rw [hl] at hi
    have hn : kidx l a = none := by simpa using hi
    rw [hn] at hfk
    simp [run_underlying ht, hh, H.chk, hfk, hz, getObj, Sem.run]
  | some v =>
    rw [hl] at hi
    obtain ⟨j, hj⟩ := Option.isSome_iff_exists.1 hi
    rw [hj, hl] at hfk
    simp [run_underlying ht, hh, H.chk, hfk, getObj, Sem.run]
theorem kmapUpdate (H : KeyLaw P K key) (ht : P.underlying t = some (.map K E)) {w : World} {b : Nat} {f : κ → Option Value} (h : MapF key w b f) (a : κ) (v : Value) :
    ∃ w', (Instr.mapUpdate t (.map (some b)) (key a) v).run P w = .ok () w' ∧ MapF key w' b (fun x => if x = a then some v else f x) ∧ Keep [b] w w' ∧ w'.heap.size = w.heap.size := by
  obtain ⟨l, es, cl, hh, hr, hf⟩ := h
  have hfk := kfindKey H a w es.toList l hr
  have hlt := lt_of_some hh
  have hkeep : ∀ o, Keep [b] w { w with heap := w.heap.setIfInBounds b o } := fun o => ⟨rfl, rfl, rfl, by simp, fun i hi hn => by simp at hn; simp [Ne.symm hn]⟩
  have hlook : ∀ x, klook (kupd a v l) x = if x = a then some v else f x := fun x => by rw [klook_upd, hf]
  cases hk : kidx l a with
  | none =>
    rw [hk] at hfk
    refine ⟨{ w with heap := w.heap.setIfInBounds b (.map (es.push { key := key a, val := v, born := cl }) (cl + 1)) }, ?_, ⟨kupd a v l, es.push { key := key a, val := v, born := cl }, cl + 1, by simp [hlt], ?_, hlook⟩, hkeep _, by simp⟩
    · unfold Instr.mapUpdate
      simp [run_underlying ht, hh, H.chk, hfk, getObj, setObj, Sem.run]
    · rw [kupd_none hk]
      simp [hr]
  | some j =>
    rw [hk] at hfk
    have hjl : j < l.length := by
      unfold kidx at hk
      exact (List.findIdx?_eq_some_iff_getElem.1 hk).1
    have hja : l[j].1 = a := by
      unfold kidx at hk
      have := (List.findIdx?_eq_some_iff_getElem.1 hk).2.1
      simpa using this
    have hjs : j < es.size := by
      have := congrArg List.length hr
      simp at this
      omega
    have hold : es[j].key = key a := by
      have h1 := congrArg (fun x : List (Value × Value) => x[j]?) hr
      simp [hjs, hjl] at h1
      rw [h1.1, hja]
    refine ⟨{ w with heap := w.heap.setIfInBounds b (.map (es.modify j fun e => { e with key := key a, val := v }) cl) }, ?_, ⟨kupd a v l, es.modify j fun e => { e with key := key a, val := v }, cl, by simp [hlt], ?_, hlook⟩, hkeep _, by simp⟩
    · unfold Instr.mapUpdate
      simp [run_underlying ht, hh, H.chk, hfk, getObj, setObj, Sem.run, hjs, hold, Instr.keyThatStays, H.same]
    · rw [kupd_some hk, Array.toList_modify]
      apply List.ext_getElem?
      intro i
      have h1 := congrArg (fun x : List (Value × Value) => x[i]?) hr
      simp only [List.getElem?_map, List.getElem?_modify] at h1 ⊢
      by_cases hij : j = i
      · subst hij
        simp [hjs, hjl]
      · simp only [hij, if_false]
        simpa using h1
end
end Go.Sal
set_option linter.unusedVariables false
set_option linter.unusedSimpArgs false
namespace Go.Proofs.Ytiejjbdmkgdniaa
open Go.RowKit Go.Sal Go.Huf Go.Cod
def qkey (q : Q4) : Value := .agg #[.int .u8 (q.1 : Nat), .int .u8 (q.2.1 : Nat), .int .u8 (q.2.2.1 : Nat), .int .u8 (q.2.2.2 : Nat)]
theorem chk5 (e : Bool) (n : Nat) (x : Int) (w : World) : (Instr.checkKey e (n + 1) 5 (.int .u8 x)).run Try.prog w = .ok () w := by
  simp [Instr.checkKey, run_underlying Try.underlying5]
theorem chk149 (e : Bool) (n : Nat) (a0 a1 a2 a3 : Nat) (w : World) : (Instr.checkKey e (n + 1 + 1) 149 (.agg #[.int .u8 (a0 : Nat), .int .u8 (a1 : Nat), .int .u8 (a2 : Nat), .int .u8 (a3 : Nat)])).run Try.prog w = .ok () w := by
  have u5 := Try.underlying5
  have z5 := Try.isAgg5
  have s5 := Try.sizeOf5
  rw [Instr.checkKey]
  simp only [Sem.run_bind, run_underlying Try.underlying149, Result.andThen_ok]
  simp only [Std.Legacy.Range.forIn_eq_forIn_range', Std.Legacy.Range.size, Nat.sub_zero, Nat.add_sub_cancel, Nat.div_one, List.range'_succ, List.range'_zero, List.forIn_cons, List.forIn_nil]
  go_simp
  simp [chk5]
theorem qlaw : KeyLaw Try.prog 149 qkey where
  same a := by simp [qkey, Instr.sameBits]
  eq a b w := by
    obtain ⟨a0, a1, a2, a3⟩ := a
    obtain ⟨b0, b1, b2, b3⟩ := b
    have u5 := Try.underlying5
    have z5 := Try.isAgg5
    have s5 := Try.sizeOf5
    simp only [qkey]
    show (Op.equalIn 10000 149 _ _).run Try.prog w = _
    rw [show (10000 : Nat) = 9999 + 1 from rfl, Op.equalIn]
    simp only [Sem.run_bind, run_underlying Try.underlying149, Result.andThen_ok]
    simp only [Std.Legacy.Range.forIn_eq_forIn_range', Std.Legacy.Range.size, Nat.sub_zero, Nat.add_sub_cancel, Nat.div_one, List.range'_succ, List.range'_zero, List.forIn_cons, List.forIn_nil]
    go_simp
    by_cases h0 : a0 = b0 <;> by_cases h1 : a1 = b1 <;> by_cases h2 : a2 = b2 <;> by_cases h3 : a3 = b3 <;> simp [h0, h1, h2, h3] <;> omega
  chk e a w := by
    obtain ⟨a0, a1, a2, a3⟩ := a
    exact chk149 e 9998 _ _ _ _ w
  desc := ⟨_, Try.underlying149, fun a v => by cases v <;> rfl⟩
set_option maxRecDepth 20000 in
set_option maxHeartbeats 2000000 in
theorem at_no (bl : List Nat) (AB : Option Addr) (cB gf i : Nat) (V1 V2 V3 : Value) (w : World) (hF : Blk w gf 146 #[.slice AB bl.length cB, V1, V2, V3]) (hl : bl.length ≤ 1000000) (hi : i ≤ 1000000) (h : bl.length < i + 4) :
    Calls Try.prog 93 #[.pointer (some ⟨gf, 0, none⟩), .int .i64 (i : Nat)] w fun e w' => e = .returned (.tuple #[.agg #[.int .u8 0, .int .u8 0, .int .u8 0, .int .u8 0], .bool false]) ∧ Keep [] w w' := by
  have m0 : w.cell? ⟨gf, 0, none⟩ = some (.slice AB bl.length cB) := hF.cell 0
  have hlt := hF.lt
  have hw4 : IntKind.i64.wrap ((i : Int) + 4) = ((i + 4 : Nat) : Int) := by rw [IntKind.wrap_i64]; omega
  obtain ⟨i4, hi4⟩ : ∃ i4, i + 4 = i4 := ⟨_, rfl⟩
  rw [hi4] at hw4 h
  have hgt : (bl.length : Int) < i4 := by omega
  clear hF hi4
  go_enter Try.func93, Try.ntmps93
  go_wp2
  exact bodyPost_ret (v := .tuple #[.agg #[.int .u8 0, .int .u8 0, .int .u8 0, .int .u8 0], .bool false]) (by simp [results, Try.results93, go_sem]) rfl ⟨rfl, (Keep.refl [] _).alloc _⟩
set_option maxRecDepth 20000 in
set_option maxHeartbeats 2000000 in
theorem at_yes (bl : List Nat) (AB : Option Addr) (cB gf i : Nat) (V1 V2 V3 : Value) (w : World) (hF : Blk w gf 146 #[.slice AB bl.length cB, V1, V2, V3]) (hs : BySrc w AB bl) (hc : bl.length ≤ cB) (hl : bl.length ≤ 1000000) (h : i + 4 ≤ bl.length) :
    Calls Try.prog 93 #[.pointer (some ⟨gf, 0, none⟩), .int .i64 (i : Nat)] w fun e w' => e = .returned (.tuple #[qkey (q4 bl i), .bool true]) ∧ Keep [] w w' := by
  have m0 : w.cell? ⟨gf, 0, none⟩ = some (.slice AB bl.length cB) := hF.cell 0
  have hlt := hF.lt
  have hw4 : IntKind.i64.wrap ((i : Int) + 4) = ((i + 4 : Nat) : Int) := by rw [IntKind.wrap_i64]; omega
  obtain ⟨g, o, rfl, hg, d0⟩ := hs.1 i (by omega)
  have hd : ∀ j, j < bl.length → w.cell? ⟨g, o + j, none⟩ = some (.int .u8 (bl.getD j 0 : Nat)) := fun j hj => by
    obtain ⟨g', o', e, _, d⟩ := hs.1 j hj
    injection e with e
    injection e with e1 e2
    subst e1; subst e2
    rw [d]; simp [List.getD, hj]
  have e0 := hd i (by omega)
  have e1 := hd (i + 1) (by omega)
  have e2 := hd (i + 2) (by omega)
  have e3 := hd (i + 3) (by omega)
  rw [← Nat.add_assoc] at e1 e2 e3
  clear hd d0 hs hF
  have hq : qkey (q4 bl i) = .agg #[.int .u8 (bl.getD i 0 : Nat), .int .u8 (bl.getD (i + 1) 0 : Nat), .int .u8 (bl.getD (i + 2) 0 : Nat), .int .u8 (bl.getD (i + 3) 0 : Nat)] := rfl
  rw [hq]
  clear hq
  generalize bl.getD i 0 = a0 at *
  generalize bl.getD (i + 1) 0 = a1 at *
  generalize bl.getD (i + 2) 0 = a2 at *
  generalize bl.getD (i + 3) 0 = a3 at *
  obtain ⟨i4, hi4⟩ : ∃ i4, i + 4 = i4 := ⟨_, rfl⟩
  rw [hi4] at hw4 h
  have hgt : ¬ (bl.length : Int) < i4 := by omega
  have hi4c : (i4 : Int) ≤ cB := by omega
  have hii : (i : Int) ≤ i4 := by omega
  have hsub : i4 - i = 4 := by omega
  have Hi4 := Lib.hid hi4
  clear hi4
  have harr : ∀ (c : Nat) (W : World), (Instr.arrayAt 149 (.slice (some ⟨g, o + i, none⟩) 4 c)).run Try.prog W = .ok (.pointer (some ⟨g, o + i, none⟩)) W := fun c W => by
    simp [Instr.arrayAt, run_underlying Try.underlying149]
  go_enter Try.func93, Try.ntmps93
  go_wp2
  exact bodyPost_ret (v := .tuple #[.agg #[.int .u8 (a0 : Nat), .int .u8 (a1 : Nat), .int .u8 (a2 : Nat), .int .u8 (a3 : Nat)], .bool true]) (by simp [results, Try.results93, go_sem]) rfl ⟨rfl, (Keep.refl [] _).alloc _⟩
end Go.Proofs.Ytiejjbdmkgdniaa
set_option linter.unusedVariables false
set_option linter.unusedSimpArgs false
namespace Go.Proofs.Ytiejjbdmkgdniaa
open Go.RowKit Go.Sal Go.Huf Go.Cod
theorem bsrc_at {w : World} {A : Option Addr} {bl : List Nat} (h : BySrc w A bl) (h0 : 0 < bl.length) : ∃ g o, A = some ⟨g, o, none⟩ ∧ g < w.heap.size ∧ ∀ j, j < bl.length → w.cell? ⟨g, o + j, none⟩ = some (.int .u8 (bl.getD j 0 : Nat)) := by
  obtain ⟨g, o, rfl, hg, _⟩ := h.1 0 h0
  refine ⟨g, o, rfl, hg, fun j hj => ?_⟩
  obtain ⟨g', o', e, _, d⟩ := h.1 j hj
  injection e with e
  injection e with e1 e2
  subst e1; subst e2
  rw [d]; simp [List.getD, hj]
set_option maxRecDepth 40000 in
set_option maxHeartbeats 4000000 in
theorem reach_any (bl : List Nat) (AB : Option Addr) (cB gf p q : Nat) (V1 V2 V3 : Value) (w : World) (hF : Blk w gf 146 #[.slice AB bl.length cB, V1, V2, V3]) (hs : BySrc w AB bl) (hl : bl.length ≤ 1000000) (hp : p < q) (hq : q < bl.length) :
    Calls Try.prog 94 #[.pointer (some ⟨gf, 0, none⟩), .int .i64 (p : Nat), .int .i64 (q : Nat)] w fun e w' => e = .returned (.int .i64 (rch bl p q : Nat)) ∧ ∃ m, w' = w.drewN m := by
  have m0 : w.cell? ⟨gf, 0, none⟩ = some (.slice AB bl.length cB) := hF.cell 0
  obtain ⟨g, o, rfl, hg, hd⟩ := bsrc_at hs (by omega)
  have Hd := Lib.hid hd
  have Hm := Lib.hid m0
  clear hF hs hd m0
  go_enter Try.func94, Try.ntmps94
  go_wp2
  go_loopw [7] (fun vn wx => ∃ n k : Nat, vn = .int .i64 n ∧ n ≤ 258 ∧ wx = w.drewN k ∧ Hid (rch bl p q = n + rchF bl (258 - n) (p + n) (q + n))) (fun vn _ => 258 - (intOf vn).toNat)
  case atStart => exact ⟨0, 0, rfl, by omega, rfl, Lib.hid (by simp [rch])⟩
  case round =>
    obtain ⟨n, k, rfl, hn, rfl, hI⟩ := hrel
    have m0 : w.cell? ⟨gf, 0, none⟩ = some (.slice (some ⟨g, o, none⟩) bl.length cB) := Hm.out
    have hwn : IntKind.i64.wrap ((n : Int) + 1) = (n : Int) + 1 := by rw [IntKind.wrap_i64]; omega
    rcases Nat.lt_or_ge n 258 with h1 | h1
    · have h1a : (n : Int) < 258 := by omega
      have h1b : decide ((n : Int) < 258) = true := decide_eq_true h1a
      have h1c : decide (n < 258) = true := decide_eq_true h1
      obtain ⟨pn, hpn⟩ : ∃ pn, p + n = pn := ⟨_, rfl⟩
      obtain ⟨qn, hqn⟩ : ∃ qn, q + n = qn := ⟨_, rfl⟩
      have hwp : IntKind.i64.wrap ((p : Int) + (n : Int)) = (pn : Int) := by rw [IntKind.wrap_i64]; omega
      have hwq : IntKind.i64.wrap ((q : Int) + (n : Int)) = (qn : Int) := by rw [IntKind.wrap_i64]; omega
      have hpq : pn < qn := by omega
      have hI2 := hI.out
      rw [hpn, hqn, show 258 - n = (257 - n) + 1 by omega, rchF] at hI2
      rcases Nat.lt_or_ge qn bl.length with h2 | h2
      · have h2a : (qn : Int) < bl.length := by omega
        have h2b : decide ((qn : Int) < (bl.length : Int)) = true := decide_eq_true h2a
        have h2c : decide (qn < bl.length) = true := decide_eq_true h2
        have h3a : (pn : Int) < bl.length := by omega
        have d1 : w.cell? ⟨g, o + pn, none⟩ = some (.int .u8 (bl.getD pn 0 : Nat)) := Hd.out pn (by omega)
        have d2 : w.cell? ⟨g, o + qn, none⟩ = some (.int .u8 (bl.getD qn 0 : Nat)) := Hd.out qn h2
        by_cases h4 : bl.getD pn 0 = bl.getD qn 0
        · have HN : Hid (rch bl p q = n + 1 + rchF bl (258 - (n + 1)) (p + (n + 1)) (q + (n + 1))) := Lib.hid (by
            rw [if_pos ⟨h2, h4⟩] at hI2
            rw [hI2, show 258 - (n + 1) = 257 - n by omega, show p + (n + 1) = pn + 1 by omega, show q + (n + 1) = qn + 1 by omega]
            omega)
          rw [h4] at d1
          generalize bl.getD qn 0 = y at *
          clear hI hI2 h4 hpn hqn
          go_wp2
          go_quiet (fail)
          go_wp2
          go_roundw
          case rel => exact ⟨n + 1, _, by simp, by omega, rfl, HN⟩
          case measure => simp [intOf]; omega
        · have HE : Hid (rch bl p q = n) := Lib.hid (by
            rw [if_neg (fun h => h4 h.2)] at hI2
            omega)
          have hne : ((bl.getD pn 0 : Int) == (bl.getD qn 0 : Int)) = false := by simpa using (by omega : ((bl.getD pn 0 : Nat) : Int) ≠ (bl.getD qn 0 : Nat))
          have hne2 : (bl.getD pn 0 == bl.getD qn 0) = false := by simpa using h4
          generalize bl.getD pn 0 = x at *
          generalize bl.getD qn 0 = y at *
          clear hI hI2 h4 hpn hqn
          go_wp2
          go_quiet (fail)
          go_wp2
          go_ret
          exact ⟨by rw [HE.out]; rfl, _, drewN2 _ _ _⟩
      · have h2a : ¬ (qn : Int) < bl.length := by omega
        have h2b : decide ((qn : Int) < (bl.length : Int)) = false := decide_eq_false h2a
        have h2c : decide (qn < bl.length) = false := decide_eq_false (by omega)
        have HE : Hid (rch bl p q = n) := Lib.hid (by
          rw [if_neg (fun h => by omega)] at hI2
          omega)
        clear hI hI2 hpn hqn
        go_wp2
        go_quiet (fail)
        go_wp2
        go_ret
        exact ⟨by rw [HE.out]; rfl, _, drewN2 _ _ _⟩
    · obtain rfl : n = 258 := by omega
      have HE : Hid (rch bl p q = 258) := Lib.hid (by
        have := hI.out
        rw [show 258 - 258 = 0 by rfl, rchF] at this
        omega)
      clear hI hwn
      go_wp2
      go_quiet (fail)
      go_wp2
      go_ret
      exact ⟨by rw [HE.out]; rfl, _, drewN2 _ _ _⟩
set_option maxRecDepth 40000 in
set_option maxHeartbeats 4000000 in
theorem rreach_any (bl : List Nat) (AB : Option Addr) (cB p q d : Nat) (w : World) (hs : BySrc w AB bl) (hl : bl.length ≤ 1000000) (hd1 : 1 ≤ d) (hp : p + d = q) (hq : q < bl.length) :
    Calls Try.prog 95 #[.slice AB bl.length cB, .int .i64 (q : Nat), .int .i64 (d : Nat)] w fun e w' => e = .returned (.int .i64 (rch bl p q : Nat)) ∧ ∃ m, w' = w.drewN m := by
  obtain ⟨g, o, rfl, hg, hd⟩ := bsrc_at hs (by omega)
  have Hd := Lib.hid hd
  have Hpd := Lib.hid hp
  clear hs hd hp
  go_enter Try.func95, Try.ntmps95
  go_wp2
  go_loopw [7] (fun vn wx => ∃ n k : Nat, vn = .int .i64 n ∧ n ≤ 258 ∧ wx = w.drewN k ∧ Hid (rch bl p q = n + rchF bl (258 - n) (p + n) (q + n))) (fun vn _ => 258 - (intOf vn).toNat)
  case atStart => exact ⟨0, 0, rfl, by omega, rfl, Lib.hid (by simp [rch])⟩
  case round =>
    obtain ⟨n, k, rfl, hn, rfl, hI⟩ := hrel
    have hwn : IntKind.i64.wrap ((n : Int) + 1) = (n : Int) + 1 := by rw [IntKind.wrap_i64]; omega
    rcases Nat.lt_or_ge n 258 with h1 | h1
    · have h1a : (n : Int) < 258 := by omega
      have h1b : decide ((n : Int) < 258) = true := decide_eq_true h1a
      have h1c : decide (n < 258) = true := decide_eq_true h1
      obtain ⟨pn, hpn⟩ : ∃ pn, p + n = pn := ⟨_, rfl⟩
      obtain ⟨qn, hqn⟩ : ∃ qn, q + n = qn := ⟨_, rfl⟩
      have hpd := Hpd.out
      have hwp : IntKind.i64.wrap ((qn : Int) - (d : Int)) = (pn : Int) := by rw [IntKind.wrap_i64]; omega
      have hwq : IntKind.i64.wrap ((q : Int) + (n : Int)) = (qn : Int) := by rw [IntKind.wrap_i64]; omega
      have hpq : pn < qn := by omega
      have hI2 := hI.out
      rw [hpn, hqn, show 258 - n = (257 - n) + 1 by omega, rchF] at hI2
      rcases Nat.lt_or_ge qn bl.length with h2 | h2
      · have h2a : (qn : Int) < bl.length := by omega
        have h2b : decide ((qn : Int) < (bl.length : Int)) = true := decide_eq_true h2a
        have h2c : decide (qn < bl.length) = true := decide_eq_true h2
        have h3a : (pn : Int) < bl.length := by omega
        have d1 : w.cell? ⟨g, o + pn, none⟩ = some (.int .u8 (bl.getD pn 0 : Nat)) := Hd.out pn (by omega)
        have d2 : w.cell? ⟨g, o + qn, none⟩ = some (.int .u8 (bl.getD qn 0 : Nat)) := Hd.out qn h2
        by_cases h4 : bl.getD pn 0 = bl.getD qn 0
        · have HN : Hid (rch bl p q = n + 1 + rchF bl (258 - (n + 1)) (p + (n + 1)) (q + (n + 1))) := Lib.hid (by
            rw [if_pos ⟨h2, h4⟩] at hI2
            rw [hI2, show 258 - (n + 1) = 257 - n by omega, show p + (n + 1) = pn + 1 by omega, show q + (n + 1) = qn + 1 by omega]
            omega)
          rw [h4] at d1
          generalize bl.getD qn 0 = y at *
          clear hI hI2 h4 hpn hqn hpd
          go_wp2
          go_quiet (fail)
          go_wp2
          go_roundw
          case rel => exact ⟨n + 1, _, by simp, by omega, rfl, HN⟩
          case measure => simp [intOf]; omega
        · have HE : Hid (rch bl p q = n) := Lib.hid (by
            rw [if_neg (fun h => h4 h.2)] at hI2
            omega)
          have hne : ((bl.getD pn 0 : Int) == (bl.getD qn 0 : Int)) = false := by simpa using (by omega : ((bl.getD pn 0 : Nat) : Int) ≠ (bl.getD qn 0 : Nat))
          have hne2 : (bl.getD pn 0 == bl.getD qn 0) = false := by simpa using h4
          generalize bl.getD pn 0 = x at *
          generalize bl.getD qn 0 = y at *
          clear hI hI2 h4 hpn hqn hpd
          go_wp2
          go_quiet (fail)
          go_wp2
          go_ret
          exact ⟨by rw [HE.out]; rfl, _, drewN2 _ _ _⟩
      · have h2a : ¬ (qn : Int) < bl.length := by omega
        have h2b : decide ((qn : Int) < (bl.length : Int)) = false := decide_eq_false h2a
        have h2c : decide (qn < bl.length) = false := decide_eq_false (by omega)
        have HE : Hid (rch bl p q = n) := Lib.hid (by
          rw [if_neg (fun h => by omega)] at hI2
          omega)
        clear hI hI2 hpn hqn hpd
        go_wp2
        go_quiet (fail)
        go_wp2
        go_ret
        exact ⟨by rw [HE.out]; rfl, _, drewN2 _ _ _⟩
    · obtain rfl : n = 258 := by omega
      have HE : Hid (rch bl p q = 258) := Lib.hid (by
        have := hI.out
        rw [show 258 - 258 = 0 by rfl, rchF] at this
        omega)
      clear hI hwn
      go_wp2
      go_quiet (fail)
      go_wp2
      go_ret
      exact ⟨by rw [HE.out]; rfl, _, drewN2 _ _ _⟩
end Go.Proofs.Ytiejjbdmkgdniaa
set_option linter.unusedVariables false
set_option linter.unusedSimpArgs false
namespace Go.Proofs.Ytiejjbdmkgdniaa
open Go.RowKit Go.Sal Go.Huf Go.Cod
/-- the result's block and the token's -/
def LSt (w : World) (rb tb : Nat) (a b : Int) (x : Nat) (wr : World) : Prop :=
  Blk wr rb 64 #[.int .i64 0, .int .i64 0, .int .u8 0] ∧ Blk wr tb 64 #[.int .i64 a, .int .i64 b, .int .u8 (x : Nat)] ∧ Keep [] w wr
theorem agg82 {T : Array Value} {W : World} {rb : Nat} {a b : Int} {x : Nat} {Q : Ending → World → Prop} (h4 : T[4]? = some (.pointer (some ⟨rb, 0, none⟩))) (hB : Blk W rb 64 #[.int .i64 a, .int .i64 b, .int .u8 (x : Nat)])
    (hQ : Q (.returned (.agg #[.int .i64 a, .int .i64 b, .int .u8 (x : Nat)])) W) : bodyPost Try.prog Try.f82 Q Exit.ret { tmps := T, defers := [] } W := by
  have c0 : W.cell? ⟨rb, 0, none⟩ = some (.int .i64 a) := hB.cell 0
  have c1 : W.cell? ⟨rb, 1, none⟩ = some (.int .i64 b) := hB.cell 1
  have c2 : W.cell? ⟨rb, 2, none⟩ = some (.int .u8 (x : Nat)) := hB.cell 2
  exact bodyPost_ret (v := .agg #[.int .i64 a, .int .i64 b, .int .u8 (x : Nat)]) (by simp [results, Try.results82, go_sem, h4, c0, c1, c2]) rfl hQ
set_option maxRecDepth 20000 in
set_option maxHeartbeats 4000000 in
theorem rlongest_any (bl : List Nat) (AB : Option Addr) (cB at_ : Nat) (w : World) (hs : BySrc w AB bl) (hl : bl.length ≤ 100000) (ha : at_ < bl.length) :
    Calls Try.prog 82 #[.slice AB bl.length cB, .int .i64 (at_ : Nat)] w fun e w' => ∃ d n : Int, ∃ x : Nat, e = .returned (.agg #[.int .i64 d, .int .i64 n, .int .u8 (x : Nat)]) ∧ longP bl at_ = (d, n, x) ∧ Keep [] w w' := by
  have Hs := Lib.hid hs
  obtain ⟨g, o, rfl, hg, hd⟩ := bsrc_at hs (by omega)
  have d0 := hd at_ ha
  obtain ⟨x0, hx0⟩ : ∃ x0, bl.getD at_ 0 = x0 := ⟨_, rfl⟩
  rw [hx0] at d0
  have Hx0 := Lib.hid hx0
  clear hx0
  have hai : (at_ : Int) < bl.length := by omega
  clear hs hd
  go_enter Try.func82, Try.ntmps82
  go_wp2
  have hz : w.heap.size + 1 < ((w.alloc (.cells #[.int .i64 0, .int .i64 0, .int .u8 0] 64)).alloc (.cells #[.int .i64 0, .int .i64 1, .int .u8 (x0 : Nat)] 64)).heap.size := by simp
  have H0 : Hid (Blk ((w.alloc (.cells #[.int .i64 0, .int .i64 0, .int .u8 0] 64)).alloc (.cells #[.int .i64 0, .int .i64 1, .int .u8 (x0 : Nat)] 64)) w.heap.size 64 #[.int .i64 0, .int .i64 0, .int .u8 0] ∧
      Blk ((w.alloc (.cells #[.int .i64 0, .int .i64 0, .int .u8 0] 64)).alloc (.cells #[.int .i64 0, .int .i64 1, .int .u8 (x0 : Nat)] 64)) (w.heap.size + 1) 64 #[.int .i64 0, .int .i64 1, .int .u8 (x0 : Nat)] ∧
      Keep [] w ((w.alloc (.cells #[.int .i64 0, .int .i64 0, .int .u8 0] 64)).alloc (.cells #[.int .i64 0, .int .i64 1, .int .u8 (x0 : Nat)] 64))) := by
    refine Lib.hid ⟨(Blk.new w 64 _).alloc _, ?_, ((Keep.refl [] w).alloc _).alloc _⟩
    have := Blk.new (w.alloc (.cells #[.int .i64 0, .int .i64 0, .int .u8 0] 64)) 64 #[.int .i64 0, .int .i64 1, .int .u8 (x0 : Nat)]
    simpa using this
  obtain ⟨rb, hrb⟩ : ∃ rb, w.heap.size = rb := ⟨_, rfl⟩
  obtain ⟨tb, htb⟩ : ∃ tb, rb + 1 = tb := ⟨_, rfl⟩
  have Hrb := Lib.hid (And.intro hrb htb)
  rw [hrb, htb] at H0
  rw [hrb, htb]
  clear hz hrb htb d0
  go_loopw [6] (fun vd wr => ∃ dd : Nat, vd = .int .i64 dd ∧ 1 ≤ dd ∧ dd ≤ min at_ 4096 + 1 ∧ Hid (∃ a b x, bestT bl at_ (dd - 1) = (a, b, x) ∧ LSt w rb tb a b x wr)) (fun vd _ => 4098 - (intOf vd).toNat)
  case atStart => exact ⟨1, rfl, by omega, by omega, Lib.hid ⟨0, 1, x0, by rw [← Hx0.out]; rfl, H0.out⟩⟩
  case round =>
    obtain ⟨dd, rfl, hd1, hd2, hI⟩ := hrel
    clear H0
    obtain ⟨a, b, x, hbe, hL⟩ := hI.out
    have hbl := best_len (b := bl) ha (d := dd - 1) (by omega)
    rw [hbe] at hbl
    dsimp only at hbl
    obtain ⟨r0, r1, r2⟩ : wr.cell? ⟨tb, 0, none⟩ = some (.int .i64 a) ∧ wr.cell? ⟨tb, 1, none⟩ = some (.int .i64 b) ∧ wr.cell? ⟨tb, 2, none⟩ = some (.int .u8 (x : Nat)) := ⟨hL.2.1.cell 0, hL.2.1.cell 1, hL.2.1.cell 2⟩
    obtain ⟨q0, q1, q2⟩ : wr.cell? ⟨rb, 0, none⟩ = some (.int .i64 0) ∧ wr.cell? ⟨rb, 1, none⟩ = some (.int .i64 0) ∧ wr.cell? ⟨rb, 2, none⟩ = some (.int .u8 0) := ⟨hL.1.cell 0, hL.1.cell 1, hL.1.cell 2⟩
    have hfr : (∀ i, wr.frozen? ⟨tb, i, none⟩ = false) ∧ ∀ i, wr.frozen? ⟨rb, i, none⟩ = false := ⟨fun i => hL.2.1.free i, fun i => hL.1.free i⟩
    have f0 := hfr.1 0
    have f1 := hfr.1 1
    have f2 := hfr.1 2
    have g0 := hfr.2 0
    have g1 := hfr.2 1
    have g2 := hfr.2 2
    clear hfr
    have Hle : Hid (w.heap.size ≤ rb ∧ w.heap.size ≤ tb) := Lib.hid (by have := Hrb.out; omega)
    have hne : rb < tb := by have := Hrb.out; omega
    have hwd : IntKind.i64.wrap ((dd : Int) + 1) = (dd : Int) + 1 := by rw [IntKind.wrap_i64]; omega
    by_cases hgo : dd ≤ at_ ∧ dd ≤ 4096
    · as_aux_lemma =>
        have hg1 : (dd : Int) ≤ at_ := by omega
        have hg2 : (dd : Int) ≤ 4096 := by omega
        have HRch := Lib.hid (rreach_any bl (some ⟨g, o, none⟩) cB (at_ - dd) at_ dd wr (Hs.out.keep hL.2.2 (by simp)) (by omega) (by omega) (by omega) ha)
        have hrl := (rch_le bl (at_ - dd) at_).1
        have HL := Lib.hid hL
        have Hup : Hid (4 ≤ rch bl (at_ - dd) at_ → b < rch bl (at_ - dd) at_ → bestT bl at_ dd = ((dd : Int), ((rch bl (at_ - dd) at_ : Nat) : Int), 0)) := Lib.hid (fun h4 hb => by
          obtain ⟨e, rfl⟩ : ∃ e, dd = e + 1 := ⟨dd - 1, by omega⟩
          rw [Nat.add_sub_cancel] at hbe
          rw [bestT, hbe, if_pos ⟨h4, hb⟩]; simp)
        have Hst : Hid (¬ (4 ≤ rch bl (at_ - dd) at_ ∧ b < rch bl (at_ - dd) at_) → bestT bl at_ dd = (a, b, x)) := Lib.hid (fun h => by
          obtain ⟨e, rfl⟩ : ∃ e, dd = e + 1 := ⟨dd - 1, by omega⟩
          rw [Nat.add_sub_cancel] at hbe
          rw [bestT, hbe, if_neg h])
        have Hfin : Hid (258 ≤ (bestT bl at_ dd).2.1 → longP bl at_ = bestT bl at_ dd) := Lib.hid (fun h => best_stop (by omega) h)
        generalize rch bl (at_ - dd) at_ = r at *
        clear hI hbe hL hgo
        have hnx : dd + 1 ≤ min at_ 4096 + 1 := by omega
        by_cases h4 : 4 ≤ r
        · have h4i : (4 : Int) ≤ r := by omega
          by_cases hb : b < r
          · have HB := Lib.hid (Hup.out h4 hb)
            clear Hup Hst
            by_cases h8 : r = 258
            · subst h8
              have HE : Hid (longP bl at_ = ((dd : Int), ((258 : Nat) : Int), 0)) := Lib.hid (by rw [← HB.out]; exact Hfin.out (by rw [HB.out]; simp))
              go_wp2_with (go_at_call 95; refine HRch.out.mono ?_; rintro e w2 ⟨rfl, m, rfl⟩)
              exact agg82 rfl (((((((HL.out.1.drewN m).far (p := ⟨tb, 0, none⟩) (Nat.ne_of_lt hne) _).far (p := ⟨tb, 1, none⟩) (Nat.ne_of_lt hne) _).far (p := ⟨tb, 2, none⟩) (Nat.ne_of_lt hne) _).set_ 0 _).set_ 1 _).set_ 2 _) ⟨_, _, 0, rfl, HE.out, ((((((HL.out.2.2.drewN m).setCell (.inr Hle.out.2) _).setCell (.inr Hle.out.2) _).setCell (.inr Hle.out.2) _).setCell (.inr Hle.out.1) _).setCell (.inr Hle.out.1) _).setCell (.inr Hle.out.1) _⟩
            · have h8f : ((r : Int) == 258) = false := by simp; omega
              go_wp2_with (go_at_call 95; refine HRch.out.mono ?_; rintro e w2 ⟨rfl, m, rfl⟩)
              go_roundw
              case rel => exact ⟨dd + 1, by simp, by omega, hnx, Lib.hid ⟨dd, r, 0, by rw [Nat.add_sub_cancel]; exact HB.out, (((HL.out.1.drewN m).far (p := ⟨tb, 0, none⟩) (Nat.ne_of_lt hne) _).far (p := ⟨tb, 1, none⟩) (Nat.ne_of_lt hne) _).far (p := ⟨tb, 2, none⟩) (Nat.ne_of_lt hne) _, (((HL.out.2.1.drewN m).set_ 0 _).set_ 1 _).set_ 2 _, (((HL.out.2.2.drewN m).setCell (.inr Hle.out.2) _).setCell (.inr Hle.out.2) _).setCell (.inr Hle.out.2) _⟩⟩
              case measure => simp [intOf]; omega
          · have HB := Lib.hid (Hst.out (fun h => hb h.2))
            clear Hup Hst
            by_cases h8 : r = 258
            · subst h8
              have HE : Hid (longP bl at_ = (a, b, x)) := Lib.hid (by rw [← HB.out]; exact Hfin.out (by rw [HB.out]; simp only; omega))
              have hb2 : ¬ b < 258 := by omega
              go_wp2_with (go_at_call 95; refine HRch.out.mono ?_; rintro e w2 ⟨rfl, m, rfl⟩)
              exact agg82 rfl ((((HL.out.1.drewN m).set_ 0 _).set_ 1 _).set_ 2 _) ⟨a, b, x, rfl, HE.out, (((HL.out.2.2.drewN m).setCell (.inr Hle.out.1) _).setCell (.inr Hle.out.1) _).setCell (.inr Hle.out.1) _⟩
            · have h8f : ((r : Int) == 258) = false := by simp; omega
              go_wp2_with (go_at_call 95; refine HRch.out.mono ?_; rintro e w2 ⟨rfl, m, rfl⟩)
              go_roundw
              case rel => exact ⟨dd + 1, by simp, by omega, hnx, Lib.hid ⟨a, b, x, by rw [Nat.add_sub_cancel]; exact HB.out, HL.out.1.drewN m, HL.out.2.1.drewN m, HL.out.2.2.drewN m⟩⟩
              case measure => simp [intOf]; omega
        · have h4i : ¬ (4 : Int) ≤ r := by omega
          have h8f : ((r : Int) == 258) = false := by simp; omega
          have HB := Lib.hid (Hst.out (fun h => h4 h.1))
          clear Hup Hst
          go_wp2_with (go_at_call 95; refine HRch.out.mono ?_; rintro e w2 ⟨rfl, m, rfl⟩)
          go_roundw
          case rel => exact ⟨dd + 1, by simp, by omega, hnx, Lib.hid ⟨a, b, x, by rw [Nat.add_sub_cancel]; exact HB.out, HL.out.1.drewN m, HL.out.2.1.drewN m, HL.out.2.2.drewN m⟩⟩
          case measure => simp [intOf]; omega
    · have HE : Hid (longP bl at_ = (a, b, x)) := by
        have : dd - 1 = min at_ 4096 := by omega
        rw [this] at hbe
        exact Lib.hid hbe
      have HL := Lib.hid hL
      by_cases hg1 : dd ≤ at_
      · have hg1i : (dd : Int) ≤ at_ := by omega
        have hg2i : ¬ (dd : Int) ≤ 4096 := by omega
        clear hI hbe hL hgo
        go_wp2
        exact agg82 rfl (((HL.out.1.set_ 0 _).set_ 1 _).set_ 2 _) ⟨a, b, x, rfl, HE.out, ((HL.out.2.2.setCell (.inr Hle.out.1) _).setCell (.inr Hle.out.1) _).setCell (.inr Hle.out.1) _⟩
      · have hg1i : ¬ (dd : Int) ≤ at_ := by omega
        clear hI hbe hL hgo
        go_wp2
        exact agg82 rfl (((HL.out.1.set_ 0 _).set_ 1 _).set_ 2 _) ⟨a, b, x, rfl, HE.out, ((HL.out.2.2.setCell (.inr Hle.out.1) _).setCell (.inr Hle.out.1) _).setCell (.inr Hle.out.1) _⟩
end Go.Proofs.Ytiejjbdmkgdniaa
