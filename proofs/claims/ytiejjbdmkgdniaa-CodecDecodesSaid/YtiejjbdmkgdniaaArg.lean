/- Arguments opened: a slice of bytes; a slice of structs; the row's last step where nothing old has turned. -/
import Derived.Test.YtiejjbdmkgdniaaBase
import Derived.ProofKit
import Derived.SizedLaws
import Derived.Deep.Slices
import Derived.Deep.Fields
import Derived.Lib.SmallJoins
import Derived.Test.YtiejjbdmkgdniaaK1
import Derived.Test.YtiejjbdmkgdniaaC2
set_option linter.unusedVariables false
set_option linter.unusedSimpArgs false
namespace Go.Sal
open Go.ChangeShapes Go.WideShapes Go.ChangeAt Go.RowKit Go.Deep
section
variable {H : Type} {enc : TypeId × Value → H} {P : Program} {w : World} {base : Nat} {spare : Nat → Bool} {held : Bool}

theorem u8_back {n : Int} (h : (Lit.int .u8 n).wf = true) : n = ((UInt8.ofNat n.toNat).toNat : Int) := by
  simp [Lit.wf, IntKind.min, IntKind.max, IntKind.bits, IntKind.signed] at h
  simp
  omega

/-- a slice of bytes that can be read reads as bytes -/
theorem reads_of_trod {t e : TypeId} {fuel : Nat} {v : Value} {y : DataW H × List MemPlace} (ht : P.underlying t = some (.slice e)) (he : P.underlying e = some (.int .u8)) (hC : P.cellsOf e = 1)
    (h : DataW.trod enc P w base spare held fuel t [v] = some y) : ∃ b, Reads w.heap.size e w v b := by
  rcases open_ints ht he hC h with ⟨hcs, _⟩ | ⟨a, len, cap, zs, hcs, _, hl, hm, hz, _, hcell, hwz⟩
  · injection hcs with hcs
    subst hcs
    exact ⟨[], Reads.nil _ _ _⟩
  · injection hcs with hcs
    subst hcs
    have hlz : len ≤ zs.length := by
      rw [hz]
      split <;> omega
    refine ⟨(zs.take len).map fun n => UInt8.ofNat n.toNat, some a, cap, ?_, ?_, hm, fun hne => ⟨a, rfl, ?_, fun i hi => ?_⟩⟩
    · simp
      omega
    · simp
      omega
    · have h0 : 0 < zs.length := by
        rcases Nat.eq_zero_or_pos zs.length with h0 | h0
        · have := List.eq_nil_of_length_eq_zero h0
          subst this
          simp at hne
        · exact h0
      have := World.block_lt_of_cell? _ _ (hcell 0 h0)
      rw [add_block] at this
      exact ⟨this, .inl this⟩
    · have hi' : i < len ∧ i < zs.length := by simp at hi; omega
      rw [hcell i hi'.2]
      simp only [List.getElem_map, List.getElem_take]
      have hg : zs.getD i 0 = zs[i] := by simp [List.getD, hi'.2]
      rw [hg, ← u8_back (hwz _ (List.getElem_mem hi'.2))]

/-- a slice of structs of one-cell fields -/
theorem open_rows {t e : TypeId} {fs : Array Field} {fuel : Nat} {cs : List Value} {x : DataW H × List MemPlace} (ht : P.underlying t = some (.slice e)) (he : P.underlying e = some (.struct fs))
    (hone : oneCellFields P fs = true) (hC : P.cellsOf e = fs.size) (h : DataW.trod enc P w base spare held fuel t cs = some x) :
    cs = [.slice none 0 0] ∨
    ∃ (a : Addr) (len cap : Nat), cs = [.slice (some a) len cap] ∧ len ≤ cap ∧ cap ≤ maxLen ∧
      ∀ i, i < len → ∃ n, ∀ (j : Nat) (f : Field), fs[j]? = some f → ∃ (v : Value) (y : DataW H × List MemPlace), w.cell? (a.add (i * fs.size + j)) = some v ∧ DataW.trod enc P w base spare held n f.type [v] = some y := by
  rcases open_slice ht h with ⟨h0, _⟩ | ⟨a, len, cap, m, n, D, Pl, hcs, _, hl, hm, hmm, _, hi⟩
  · exact .inl h0
  · refine .inr ⟨a, len, cap, hcs, hl, hm, fun i hil => ?_⟩
    have him : i < m := by
      rw [hmm]
      split <;> omega
    obtain ⟨cs', hc, ht'⟩ := hi i him
    rw [hC] at hc
    obtain ⟨ys, n', _, _, hlen, hyl, hf⟩ := DataW.trod_struct he ht'
    obtain ⟨_, hcl, hat⟩ := World.cells?_some hc
    refine ⟨n', fun j f hj => ?_⟩
    obtain ⟨ho, hk⟩ := hone_of hone j f hj
    have hjl : j < fs.size := (Array.getElem?_eq_some_iff.1 hj).1
    have hcell := hat j hjl
    have h1 := hf j f hj
    rw [ho, hk] at h1
    have hone' : (cs'.drop j).take 1 = [cs'[j]'(by omega)] := by
      rw [List.drop_eq_getElem_cons (by omega)]
      rfl
    rw [hone'] at h1
    have hys : ys[j]? = some (ys[j]'(by omega)) := List.getElem?_eq_getElem (by omega)
    refine ⟨_, _, ?_, h1.trans hys⟩
    rw [← Go.Deep.add_add, hcell, List.getElem?_eq_getElem (by omega)]

/-- a struct of one-cell fields by value -/
theorem open_agg {r : Reach} {b0 : Nat} {t : TypeId} {fs : Array Field} {v : Value} {d : DataW H} {p : List MemPlace} (hs : P.underlying t = some (.struct fs)) (hone : oneCellFields P fs = true) (hC : P.cellsOf t = fs.size)
    (hv : Value.okWide P w r b0 t v) (h : DataW.Trod enc P w base spare held t v d p) :
    ∃ cs : Array Value, v = .agg cs ∧ cs.size = fs.size ∧ ∃ n, ∀ (j : Nat) (f : Field), fs[j]? = some f → ∃ (u : Value) (y : DataW H × List MemPlace), cs[j]? = some u ∧ DataW.trod enc P w base spare held n f.type [u] = some y := by
  obtain ⟨cs, rfl, hsz⟩ := okWide_struct hs hv
  obtain ⟨fuel, hf⟩ := h
  obtain ⟨xs, n, _, _, _, hlen, hg⟩ := DataW.trod_struct hs hf
  rw [hC] at hsz
  refine ⟨cs, rfl, hsz, n, fun j f hj => ?_⟩
  obtain ⟨o0, k0⟩ := hone_of hone j f hj
  have hjl : j < fs.size := (Array.getElem?_eq_some_iff.1 hj).1
  have h1 := hg j f hj
  rw [o0, k0] at h1
  have hone' : ((Value.agg cs).cells.toList.drop j).take 1 = [cs[j]'(by omega)] := by
    show (cs.toList.drop j).take 1 = _
    rw [List.drop_eq_getElem_cons (by simp; omega)]
    simp
  rw [hone'] at h1
  have hxs : xs[j]? = some (xs[j]'(by omega)) := List.getElem?_eq_getElem (by omega)
  exact ⟨_, _, by simp [Array.getElem?_eq_getElem (show j < cs.size by omega)], h1.trans hxs⟩

/-- the row's last step where nothing that was there has turned -/
theorem post_of_below {f : Func} {s : ChangeSpec} {apart fresh handsOn again : Bool} {W W' : World} {args : Array Value} {v : Value} {ds gs : List (DataW H)} {before pa pv : List MemPlace}
    (hW : DataW.Whole enc P f.params.toList s.vars apart W args.toList ds gs before)
    (hres : ∀ (b : Nat) (sp : Nat → Bool) (hd : Bool), DataW.TrodAll enc P W' b sp hd f.resultTypes.toList (v.resultList f.resultTypes.size) (s.fn H (ds ++ gs)).results [])
    (hargs : ∀ sp : Nat → Bool, (∀ p ∈ before, sp p.block = true) → DataW.TrodAll enc P W' 0 sp true f.params.toList args.toList (s.fn H (ds ++ gs)).args pa)
    (hvars : ∀ sp : Nat → Bool, (∀ p ∈ before, sp p.block = true) → DataW.TrodVars enc P W' sp s.vars (s.fn H (ds ++ gs)).vars pv)
    (hps : before = pa ++ pv) (hb : Below W.heap.size W W')
    (hok : ∀ (j : Nat) (t : TypeId) (r : Value), f.resultTypes[j]? = some t → (v.resultList f.resultTypes.size)[j]? = some r → Value.okWide P W' .any 0 t r) :
    s.post enc P f apart fresh handsOn again W args v W' := by
  have hlt : ∀ p ∈ before, p.block < W.heap.size := fun p hp => hW.lt p hp
  have hold : ∀ p ∈ before, (fun b => decide (b < W.heap.size)) p.block = true := fun p hp => by simpa using hlt p hp
  refine ⟨ds, gs, before, [], pa, pv, hW, hres _ _ _, hargs _ hold, hvars _ hold, World.keptBut_mono (fun p hp => ⟨hp, ?_⟩) (hb.frame (· ∈ before)), fun _ => ?_⟩
  · rw [hps, List.mem_append] at hp
    exact Or.inr hp
  · obtain ⟨_, _, _, _, _, hz, hn⟩ := hW
    refine ⟨hok, _, _, ([] ++ pa) ++ pv, ⟨[] ++ pa, pv, trodAll_append (hargs _ (fun _ _ => rfl)) (hres _ _ _), hvars _ (fun _ _ => rfl), rfl, ?_, ?_⟩, ?_⟩
    · intro b off hp
      have hin : MemPlace.cell b off ∈ before := by rw [hps]; simpa using hp
      rw [hb.frozen (hlt _ hin)]
      exact hz b off hin
    · intro ha
      have := hn ha
      rw [hps] at this
      simpa using this
    · intro p hp _
      rw [hps]
      simpa using hp
end
end Go.Sal
set_option linter.unusedVariables false
set_option linter.unusedSimpArgs false
namespace Go.Sal
theorem spot_of_cell {w : World} {a : Addr} {v : Value} (h : w.cell? a = some v) : a.spot = none := by
  unfold World.cell? at h
  split at h
  · split at h
    · cases h
    · rename_i h1
      simpa using h1
  · cases h
theorem okWide_block {P : Program} {w : World} {r : Reach} {base : Nat} {t e : TypeId} {a : Addr} {n c : Nat} (ht : P.underlying t = some (.slice e)) (h : Value.okWide P w r base t (.slice (some a) n c)) : a.block < w.heap.size := by
  simp only [Value.okWide, ht, Cell.okWide, Cell.ok] at h
  obtain ⟨_, _, _, _, row, cells, hs, _⟩ := h
  rcases Nat.lt_or_ge a.block w.heap.size with h1 | h1
  · exact h1
  · rw [World.shape?, Array.getElem?_eq_none h1] at hs
    cases hs
end Go.Sal
namespace Go.Proofs.Ytiejjbdmkgdniaa
open Go.ChangeShapes Go.WideShapes Go.ChangeAt Go.RowKit Go.Sal Go.Huf Go.Cod
theorem Try.own : ownKnob Try.prog.godebug = none := by kernel_rfl
theorem Try.laidOut : laidOutB Try.prog = true := by kernel_rfl
/-- an argument that is a slice of bytes -/
def BytArg (w : World) (v : Value) (l : List Nat) : Prop :=
  ∃ A c, v = .slice A l.length c ∧ l.length ≤ c ∧ c ≤ maxLen ∧ BySrc w A l ∧ ∀ a, A = some a → a.block < w.heap.size
set_option maxRecDepth 100000 in
theorem bytArg_of {H : Type} {enc : TypeId × Value → H} {w : World} {base b0 : Nat} {r : Reach} {spare : Nat → Bool} {held : Bool} {fuel : Nat} {v : Value} {y : DataW H × List MemPlace}
    (ho : Value.okWide Try.prog w r b0 24 v) (h : DataW.trod enc Try.prog w base spare held fuel 24 [v] = some y) : ∃ l, BytArg w v l := by
  obtain ⟨b, A, c, rfl, h1, h2, h3⟩ := reads_of_trod Try.underlying24 Try.underlying5 (by kernel_rfl) h
  have hA : ∀ a, A = some a → a.block < w.heap.size := fun a ha => by
    subst ha
    exact okWide_block Try.underlying24 ho
  refine ⟨b.map fun x => x.toNat, A, c, by simp, by simpa using h1, h2, ⟨fun i hi => ?_, fun x hx => ?_⟩, hA⟩
  · simp at hi
    obtain ⟨a, rfl, _, hc⟩ := h3 (fun e => by subst e; simp at hi)
    have hc0 := hc i hi
    have hsp : a.spot = none := by
      have := spot_of_cell (hc 0 (by omega))
      simpa [Addr.add] using this
    obtain ⟨g, o, rfl⟩ : ∃ g o, a = ⟨g, o, none⟩ := ⟨a.block, a.off, by cases a; simp_all⟩
    rw [add_mk] at hc0
    exact ⟨g, o, rfl, hA _ rfl, by rw [hc0]; simp⟩
  · simp at hx
    obtain ⟨z, _, rfl⟩ := hx
    exact z.toNat_lt
/-- an argument that is a slice of tokens -/
def TokArg (w : World) (v : Value) (l : List Tk) : Prop := ∃ A c, v = .slice A l.length c ∧ l.length ≤ c ∧ c ≤ maxLen ∧ TSrc w A l
set_option maxRecDepth 100000 in
theorem tokArg_of {H : Type} {enc : TypeId × Value → H} {w : World} {base b0 : Nat} {r : Reach} {spare : Nat → Bool} {held : Bool} {fuel : Nat} {v : Value} {y : DataW H × List MemPlace}
    (ho : Value.okWide Try.prog w r b0 22 v) (h : DataW.trod enc Try.prog w base spare held fuel 22 [v] = some y) : ∃ l, TokArg w v l := by
  rcases open_rows Try.underlying22 Try.underlying64 (by kernel_rfl) (by kernel_rfl) h with hcs | ⟨a, len, cap, hcs, hl, hm, hi⟩
  · injection hcs with hcs
    subst hcs
    exact ⟨[], none, 0, rfl, by simp, by simp [maxLen], fun i hi => by simp at hi, by simp⟩
  · injection hcs with hcs
    subst hcs
    have hA : a.block < w.heap.size := okWide_block Try.underlying22 ho
    have key : ∀ k, k < len → ∃ g o, a = ⟨g, o, none⟩ ∧ ∃ t : Tk, (w.cell? ⟨g, o + k * 3, none⟩ = some (.int .i64 t.1) ∧ w.cell? ⟨g, o + k * 3 + 1, none⟩ = some (.int .i64 t.2.1) ∧ w.cell? ⟨g, o + k * 3 + 2, none⟩ = some (.int .u8 (t.2.2 : Nat))) ∧
        (-9223372036854775808 ≤ t.1 ∧ t.1 ≤ 9223372036854775807) ∧ (-9223372036854775808 ≤ t.2.1 ∧ t.2.1 ≤ 9223372036854775807) ∧ t.2.2 < 256 := fun k hk => by
      obtain ⟨m, hj⟩ := hi k hk
      obtain ⟨u0, y0, hc0, ht0⟩ := hj 0 _ rfl
      obtain ⟨u1, y1, hc1, ht1⟩ := hj 1 _ rfl
      obtain ⟨u2, y2, hc2, ht2⟩ := hj 2 _ rfl
      have hsp : a.spot = none := by
        obtain ⟨m0, hj0⟩ := hi 0 (by omega)
        obtain ⟨u, _, hcu, _⟩ := hj0 0 _ rfl
        exact spot_of_cell (by simpa [Addr.add] using hcu)
      obtain ⟨g, o, rfl⟩ : ∃ g o, a = ⟨g, o, none⟩ := ⟨a.block, a.off, by cases a; simp_all⟩
      obtain ⟨N, hN, _, hwN⟩ := DataW.trod_int Try.underlying3 ht0
      injection hN with hN
      subst hN
      obtain ⟨M, hM, _, hwM⟩ := DataW.trod_int Try.underlying3 ht1
      injection hM with hM
      subst hM
      obtain ⟨X, hX, _, hwX⟩ := DataW.trod_int Try.underlying5 ht2
      injection hX with hX
      subst hX
      rw [add_mk] at hc0 hc1 hc2
      simp [Lit.wf, IntKind.min, IntKind.max, IntKind.bits, IntKind.signed] at hwN hwM hwX
      have e2 : ((X.toNat : Nat) : Int) = X := by omega
      exact ⟨g, o, rfl, (N, M, X.toNat), ⟨by simpa using hc0, by simpa [Nat.add_assoc] using hc1, by rw [e2]; simpa [Nat.add_assoc] using hc2⟩, by simpa using hwN, by simpa using hwM, by simp; omega⟩
    have hall : ∃ l : List Tk, l.length = len ∧ ∀ i (h : i < l.length), ∃ g o, a = ⟨g, o, none⟩ ∧ (w.cell? ⟨g, o + i * 3, none⟩ = some (.int .i64 l[i].1) ∧ w.cell? ⟨g, o + i * 3 + 1, none⟩ = some (.int .i64 l[i].2.1) ∧ w.cell? ⟨g, o + i * 3 + 2, none⟩ = some (.int .u8 (l[i].2.2 : Nat))) ∧
        (-9223372036854775808 ≤ l[i].1 ∧ l[i].1 ≤ 9223372036854775807) ∧ (-9223372036854775808 ≤ l[i].2.1 ∧ l[i].2.1 ≤ 9223372036854775807) ∧ l[i].2.2 < 256 := by
      clear h hi hl hm ho
      induction len with
      | zero => exact ⟨[], rfl, fun i hi => by simp at hi⟩
      | succ n ih =>
        obtain ⟨l, h1, h2⟩ := ih (fun k hk => key k (by omega))
        obtain ⟨g, o, hg, t, ht⟩ := key n (by omega)
        refine ⟨l ++ [t], by simp [h1], fun i hi => ?_⟩
        rcases Nat.lt_or_ge i l.length with hil | hil
        · rw [List.getElem_append_left hil]
          exact h2 i hil
        · have hin : i = n := by simp at hi; omega
          subst hin
          have e : (l ++ [t])[i] = t := by simp [h1]
          rw [e]
          exact ⟨g, o, hg, ht⟩
    obtain ⟨l, h1, h2⟩ := hall
    subst h1
    refine ⟨l, some a, cap, rfl, hl, hm, fun i hi => ?_, fun t ht => ?_⟩
    · obtain ⟨g, o, rfl, hc, _⟩ := h2 i hi
      exact ⟨g, o, rfl, hA, hc⟩
    · obtain ⟨i, hi, rfl⟩ := List.getElem_of_mem ht
      obtain ⟨g, o, _, _, hb⟩ := h2 i hi
      exact hb
theorem BySrc.take {w : World} {A : Option Addr} {l : List Nat} (h : BySrc w A l) (k : Nat) : BySrc w A (l.take k) := ⟨fun i hi => by
  rw [List.length_take] at hi
  obtain ⟨g, o, e, h1, h2⟩ := h.1 i (by omega)
  exact ⟨g, o, e, h1, by rw [h2, List.getElem_take]⟩, fun x hx => h.2 x (List.mem_of_mem_take hx)⟩
theorem TSrc.take {w : World} {A : Option Addr} {l : List Tk} (h : TSrc w A l) (k : Nat) : TSrc w A (l.take k) := ⟨fun i hi => by
  rw [List.length_take] at hi
  obtain ⟨g, o, e, h1, h2⟩ := h.1 i (by omega)
  exact ⟨g, o, e, h1, by rw [List.getElem_take]; exact h2⟩, fun x hx => h.2 x (List.mem_of_mem_take hx)⟩
/-- cut: at most 700 bytes -/
theorem cut_arg {w : World} {v : Value} {l : List Nat} (h : BytArg w v l) :
    Calls Try.prog 14 #[v] w fun e w' => ∃ A c, e = .returned (.slice A (l.take 700).length c) ∧ (l.take 700).length ≤ c ∧ BySrc w A (l.take 700) ∧ (∀ a, A = some a → a.block < w.heap.size) ∧ w = w' := by
  obtain ⟨A, c, rfl, h1, h2, h3, h4⟩ := h
  refine (cut_any A l.length c w h1 h2).mono ?_
  rintro e w' ⟨rfl, rfl⟩
  have hl : (l.take 700).length = min l.length 700 := by rw [List.length_take, Nat.min_comm]
  exact ⟨A, c, by rw [hl], by omega, h3.take 700, h4, rfl⟩
/-- few: at most 80 tokens -/
theorem few_arg {w : World} {v : Value} {l : List Tk} (h : TokArg w v l) :
    Calls Try.prog 10 #[v] w fun e w' => ∃ A c, e = .returned (.slice A (l.take 80).length c) ∧ (l.take 80).length ≤ c ∧ TSrc w A (l.take 80) ∧ w = w' := by
  obtain ⟨A, c, rfl, h1, h2, h3⟩ := h
  refine (few_any A l.length c w h1 h2).mono ?_
  rintro e w' ⟨rfl, rfl⟩
  have hl : (l.take 80).length = min l.length 80 := by rw [List.length_take, Nat.min_comm]
  exact ⟨A, c, by rw [hl], by omega, h3.take 80, rfl⟩
end Go.Proofs.Ytiejjbdmkgdniaa
