/- Unpack's round, in memory. -/
import Derived.Test.YtiejjbdmkgdniaaU6
import Derived.Test.YtiejjbdmkgdniaaK12
import Derived.Test.YtiejjbdmkgdniaaK1
import Derived.Test.YtiejjbdmkgdniaaShelf
set_option linter.unusedVariables false
set_option linter.unusedSimpArgs false
namespace Go.Proofs.Ytiejjbdmkgdniaa
open Go.RowKit Go.Sal Go.Huf Go.Cod
theorem LF.keep_blk {T gl bit g ty n c : Nat} {A : Option Addr} {bl : List Nat} {w w' : World} (h : LF T gl bl bit w) (hB : Blk w g ty #[.slice A n c]) (k : Keep [g] w w') (hne : gl ≠ g) : LF T gl bl bit w' := by
  obtain ⟨A0, c0, h1, h2, h3, h4⟩ := h
  refine ⟨A0, c0, h1.keep k (by simpa using hne), ⟨fun i hi => ?_, h2.2⟩, h3, h4⟩
  obtain ⟨b, o, rfl, hb, hc⟩ := h2.1 i hi
  refine ⟨b, o, rfl, Nat.lt_of_lt_of_le hb k.size, ?_⟩
  rw [k.cell (p := ⟨b, o + i, none⟩) hb ?_]
  · exact hc
  · intro hm
    simp at hm
    subst hm
    rw [hB.cell] at hc
    cases ho : o + i with
    | zero => rw [ho] at hc; simp at hc
    | succ j => rw [ho] at hc; simp at hc
structure UpS (w : World) (bl : List Nat) (bit : Nat) (tl : List Tk) (A : Option Addr) (n c : Nat) (W : World) : Prop where
  res : Blk W w.heap.size 22 #[.slice A n c]
  err : Blk W (w.heap.size + 1) 25 #[.int .i64 0]
  own : W.ownsRow w.heap.size 64 3 (.slice A n c) n (tksC tl)
  left : LF 83 (w.heap.size + 2) bl bit W
  kp : Keep [] w W
theorem UpS.next {w W W' : World} {bl bl' : List Nat} {bit bit' : Nat} {tl : List Tk} {A : Option Addr} {n c : Nat} (h : UpS w bl bit tl A n c W) (hl : LF 83 (w.heap.size + 2) bl' bit' W') (hk : Keep [w.heap.size + 2] W W') : UpS w bl' bit' tl A n c W' := by
  obtain ⟨A0, c0, hb, _⟩ := h.left
  refine ⟨h.res.keep hk (by simp), h.err.keep hk (by simp), ownsRow_keep h.own hk (fun g hg hm => ?_), hl, h.kp.step hk (fun i hi => .inr (by simp at hi; omega))⟩
  simp at hm
  subst hm
  exact own_ne_blk h.own hb (by decide) hg
/-- the way out by the panic -/
theorem UpS.dies {w W W' : World} {bl bl0 : List Nat} {bit : Nat} {tl : List Tk} {A : Option Addr} {n c : Nat} (h : UpS w bl bit tl A n c W) (hk : Keep [w.heap.size + 2] W W') {T : Array Value} (h2 : T[2]? = some (.pointer (some ⟨w.heap.size, 0, none⟩))) (h3 : T[3]? = some (.pointer (some ⟨w.heap.size + 1, 0, none⟩))) (hT : unpT bl0 = []) (hE : unpE bl0 = 70) :
    bodyPostD Try.prog Try.f15 (fun e w' => RowT w (unpT bl0) (unpE bl0) e w') (.panic PN) { tmps := T, defers := [{ target := .fn (.func 43) #[.pointer (some ⟨w.heap.size, 0, none⟩), .pointer (some ⟨w.heap.size + 1, 0, none⟩)], args := #[] }] } W' := by
  have r1 := h.res.keep hk (by simp)
  have r2 := h.err.keep hk (by simp)
  have kp := h.kp.step hk (fun i hi => .inr (by simp at hi; omega))
  refine leaves_cons (f := 43) (args := #[.pointer (some ⟨w.heap.size, 0, none⟩), .pointer (some ⟨w.heap.size + 1, 0, none⟩)]) (by simp) (by simp [go_sem]) ?_
  refine (catch_panicking _ _ _ _ _ r1 r2 (by omega)).mono ?_
  rintro e u' w'' ⟨rfl, rfl, w1, k1, rfl⟩
  have b1 := (r1.keep k1 (by simp)).set_ 0 (.slice none 0 0)
  have b2 : Blk ((w1.setCell ⟨w.heap.size, 0, none⟩ (.slice none 0 0)).setCell ⟨w.heap.size + 1, 0, none⟩ (.int .i64 70)) (w.heap.size + 1) 25 _ := ((r2.keep k1 (by simp)).keep ((Keep.refl [w.heap.size] w1).setCell (.inl (by simp)) _) (by simp)).set_ 0 (.int .i64 70)
  have b3 : Blk ((w1.setCell ⟨w.heap.size, 0, none⟩ (.slice none 0 0)).setCell ⟨w.heap.size + 1, 0, none⟩ (.int .i64 70)) w.heap.size 22 _ := b1.keep ((Keep.refl [w.heap.size + 1] _).setCell (.inl (by simp)) _) (by simp)
  have c1 := b3.cell 0
  have c2 := b2.cell 0
  have kk : Keep [] w ((w1.setCell ⟨w.heap.size, 0, none⟩ (.slice none 0 0)).setCell ⟨w.heap.size + 1, 0, none⟩ (.int .i64 70)) := ((kp.trans k1).setCell (.inr (Nat.le_refl _)) _).setCell (.inr (by simp)) _
  simp at c1 c2
  generalize ((w1.setCell ⟨w.heap.size, 0, none⟩ (.slice none 0 0)).setCell ⟨w.heap.size + 1, 0, none⟩ (.int .i64 70)) = W2 at *
  rw [hT, hE]
  simp [Leaves, settle, results, Try.results15, go_sem, h2, h3, c1, c2]
  exact ⟨none, 0, rfl, World.ownsRow_nil _ _ _ _, kk⟩
theorem unp_none {bl : List Nat} (hl : bl.length ≤ 2000) (h : readP bl = none) : unpT bl = [] ∧ unpE bl = 70 := by
  unfold unpT unpE
  rw [h, if_neg (by omega)]
  exact ⟨rfl, rfl⟩
/-- behind the books -/
structure UpB (w : World) (bl : List Nat) (bit : Nat) (tl : List Tk) (A : Option Addr) (n c : Nat) (g1 g2 : Nat) (la lb : List Int) (W : World) : Prop where
  up : UpS w bl bit tl A n c W
  m1 : BkM W g1 la
  m2 : BkM W g2 lb
  f1 : w.heap.size + 2 < g1
  f2 : w.heap.size + 2 < g2
theorem UpB.next {w W W' : World} {bl bl' : List Nat} {bit bit' : Nat} {tl : List Tk} {A : Option Addr} {n c g1 g2 : Nat} {la lb : List Int} (h : UpB w bl bit tl A n c g1 g2 la lb W) (hl : LF 83 (w.heap.size + 2) bl' bit' W') (hk : Keep [w.heap.size + 2] W W') : UpB w bl' bit' tl A n c g1 g2 la lb W' :=
  ⟨h.up.next hl hk, h.m1.keep hk (by have := h.f1; simp; omega), h.m2.keep hk (by have := h.f2; simp; omega), h.f1, h.f2⟩
theorem UpB.step {w wr w3 : World} {bl : List Nat} {a a2 n c g1 g2 : Nat} {tl : List Tk} {A : Option Addr} {la lb : List Int} (h : UpB w bl a tl A n c g1 g2 la lb wr) (hn : n ≤ 100000) (hl : LF 83 (w.heap.size + 2) bl a2 w3) (hk : Keep [w.heap.size + 2] wr w3) (d m : Int) (x : Nat) :
    ∃ A' c' w4, (Builtin.append_ #[22, 22] 22 #[.slice A n c, .slice (some ⟨w3.heap.size, 0, none⟩) 1 1]).run Try.prog (w3.alloc (.cells #[.int .i64 d, .int .i64 m, .int .u8 (x : Nat)] 64)) = .ok (.slice A' (n + 1) c') w4 ∧
      w3.cell? ⟨w.heap.size, 0, none⟩ = some (.slice A n c) ∧ (w3.alloc (.cells #[.int .i64 d, .int .i64 m, .int .u8 (x : Nat)] 64)).cell? ⟨w.heap.size, 0, none⟩ = some (.slice A n c) ∧ w4.cell? ⟨w.heap.size, 0, none⟩ = some (.slice A n c) ∧ w4.frozen? ⟨w.heap.size, 0, none⟩ = false ∧
      UpB w bl a2 (tl ++ [(d, m, x)]) A' (n + 1) c' g1 g2 la lb (w4.setCell ⟨w.heap.size, 0, none⟩ (.slice A' (n + 1) c')) := by
  have hU := h.up.next hl hk
  have f1 := h.f1
  have f2 := h.f2
  have hm1 := h.m1.keep hk (by simp; omega)
  have hm2 := h.m2.keep hk (by simp; omega)
  obtain ⟨A', c', w4, hrun, hown, hk4⟩ := tok_append hU.own d m x (by omega) hU.kp.size
  obtain ⟨AL, cL, hbl, _⟩ := hU.left
  have hno : ∀ i, i ∈ (Value.slice A n c).ownBlock.toList → w.heap.size + 2 < i ∧ i ≠ g1 ∧ i ≠ g2 := fun i hi => by
    have e : (Value.slice A n c).ownBlock = some i := by simpa using hi
    have z := own_far hU.own i hi
    have z0 : i ≠ w.heap.size := fun q => own_ne_blk hU.own hU.res (by decide) (by rw [e, q])
    have z1 : i ≠ w.heap.size + 1 := fun q => own_ne_blk hU.own hU.err (by decide) (by rw [e, q])
    have z2 : i ≠ w.heap.size + 2 := fun q => own_ne_blk hU.own hbl (by decide) (by rw [e, q])
    refine ⟨by omega, fun q => ?_, fun q => ?_⟩
    · obtain ⟨f, hf, _⟩ := hm1
      exact hf.ne_own hU.own (by rw [e, q])
    · obtain ⟨f, hf, _⟩ := hm2
      exact hf.ne_own hU.own (by rw [e, q])
  have hr4 := hU.res.keep hk4 (fun q => by have := (hno _ q).1; omega)
  have he4 := hU.err.keep hk4 (fun q => by have := (hno _ q).1; omega)
  have hl4 := hU.left.keep hk4 (fun i hi => (hno i hi).1)
  have hm1' := hm1.keep hk4 (fun q => (hno _ q).2.1 rfl)
  have hm2' := hm2.keep hk4 (fun q => (hno _ q).2.2 rfl)
  have hkp4 := hU.kp.step hk4 (fun i hi => .inr (by have := (hno i hi).1; omega))
  have ks : Keep [w.heap.size] w4 (w4.setCell ⟨w.heap.size, 0, none⟩ (.slice A' (n + 1) c')) := (Keep.refl _ _).setCell (.inl (by simp)) _
  refine ⟨A', c', w4, hrun, hU.res.cell 0, (hU.res.alloc _).cell 0, hr4.cell 0, hr4.free 0, ⟨⟨?_, he4.keep ks (by simp), ownsRow_keep hown ks (fun g hg hm => ?_), hl4.keep_blk hr4 ks (by simp), hkp4.step ks (fun i hi => .inr (by simp at hi; omega))⟩, hm1'.keep ks (by simp; omega), hm2'.keep ks (by simp; omega), f1, f2⟩⟩
  · have := hr4.set_ 0 (.slice A' (n + 1) c')
    simpa using this
  · simp at hm
    subst hm
    exact own_ne_blk hown hr4 (by decide) hg
/-- a post whose panic asks of the frame only what no later slot turns -/
def UpQ (Q : Exit → Act → World → Prop) (R : World → Prop) (d0 : List Deferred) (t2 t3 : Value) : Exit → Act → World → Prop
  | .panic c, a, w => c = PN ∧ R w ∧ a.defers = d0 ∧ a.tmps[2]? = some t2 ∧ a.tmps[3]? = some t3
  | e, a, w => Q e a w
theorem UpQ.put {Q : Exit → Act → World → Prop} {R : World → Prop} {d0 : List Deferred} {t2 t3 v : Value} {c : List PanicEntry} {a : Act} {d : Tmp} {w : World} (hd : 3 < d) (h : UpQ Q R d0 t2 t3 (.panic c) (a.put (some d) v) w) : UpQ Q R d0 t2 t3 (.panic c) a w := by
  obtain ⟨h1, h2, h3, h4, h5⟩ := h
  have e2 : d ≠ 2 := fun e => by subst e; exact absurd hd (by decide)
  have e3 : d ≠ 3 := fun e => by subst e; exact absurd hd (by decide)
  refine ⟨h1, h2, h3, ?_, ?_⟩
  · rw [← h4]
    simp [Act.put, Array.getElem?_setIfInBounds, e2]
  · rw [← h5]
    simp [Act.put, Array.getElem?_setIfInBounds, e3]
theorem wp_upq {P : Program} {id : Nat} {ops : Array Oper} {b : Bool} {Q : Exit → Act → World → Prop} {a : Act} {w : World} {R : World → Prop} {d0 : List Deferred} {t2 t3 : Value}
    (h1 : ∀ a w, R w → a.defers = d0 → a.tmps[2]? = some t2 → a.tmps[3]? = some t3 → Q (.panic PN) a w) (h : (Code.region id ops b).wp P (UpQ Q R d0 t2 t3) a w) : (Code.region id ops b).wp P Q a w := by
  refine Code.wp_mono (fun e a w h => ?_) h
  cases e with
  | panic c =>
    obtain ⟨rfl, h2, h3, h4, h5⟩ := h
    exact h1 a w h2 h3 h4 h5
  | _ => exact h
end Go.Proofs.Ytiejjbdmkgdniaa
set_option linter.unusedVariables false
set_option linter.unusedSimpArgs false
namespace Go.Proofs.Ytiejjbdmkgdniaa
open Go.RowKit Go.Sal Go.Huf Go.Cod
def bdT (t : Tk) : Prop := (-9223372036854775808 ≤ t.1 ∧ t.1 ≤ 9223372036854775807) ∧ (-9223372036854775808 ≤ t.2.1 ∧ t.2.1 ≤ 9223372036854775807) ∧ t.2.2 < 256
theorem tokR_bd {la lb : List Int} {b : List Nat} {at_ a2 : Nat} {t : Tk} (h : tokR la lb b at_ = some (t, a2)) (hla : la.length ≤ 512) (hlb : lb.length ≤ 32) : bdT t := by
  unfold tokR at h
  cases h1 : one la b at_ with
  | none => rw [h1] at h; simp at h
  | some p =>
    obtain ⟨s, k⟩ := p
    have q1 := one_spec h1
    rw [h1] at h
    simp only at h
    split at h
    · simp only [Option.some.injEq, Prod.mk.injEq] at h
      obtain ⟨rfl, rfl⟩ := h
      refine ⟨by simp, by simp, by assumption⟩
    · cases h2 : one lb b (at_ + k) with
      | none => rw [h2] at h; simp at h
      | some p2 =>
        obtain ⟨x, k2⟩ := p2
        have q2 := one_spec h2
        rw [h2] at h
        simp only at h
        split at h
        · simp at h
        · simp only [Option.some.injEq, Prod.mk.injEq] at h
          obtain ⟨rfl, rfl⟩ := h
          have h3 := vAt_lt b (at_ + k + k2) x
          have h4 : 2 ^ (x + 1) ≤ 2 ^ 33 := Nat.pow_le_pow_right (by omega) (by omega)
          refine ⟨⟨by simp only; omega, by simp only; omega⟩, ⟨by simp only; omega, by simp only; omega⟩, by simp⟩
theorem tsrc_own {w : World} {base n c : Nat} {A : Option Addr} {l : List Tk} (h : w.ownsRow base 64 3 (.slice A n c) n (tksC l)) (hn : l.length = n) (hb : ∀ t ∈ l, bdT t) : TSrc w A l := by
  refine ⟨fun i hi => ?_, hb⟩
  obtain ⟨g, rfl, hg, _⟩ := own_some h (by omega)
  have hc : ∀ j, j < 3 → ∀ u, (tcells l[i])[j]? = some u → w.cell? ⟨g, i * 3 + j, none⟩ = some u := fun j hj u hu => (ownsRow_cell h (j := i * 3 + j) (by
    unfold tksC
    rw [rf_get (f := tcells) (size := 3) (fun x => rfl) l i j hi hj]
    exact hu)).1
  refine ⟨g, 0, rfl, hg, ?_, ?_, ?_⟩
  · have := hc 0 (by omega) _ rfl
    simpa using this
  · have := hc 1 (by omega) _ rfl
    simpa using this
  · have := hc 2 (by omega) _ rfl
    simpa using this
end Go.Proofs.Ytiejjbdmkgdniaa
set_option linter.unusedVariables false
set_option linter.unusedSimpArgs false
namespace Go.Cod
open Go.Huf
theorem varF_lt : ∀ (f x : Nat), x < 128 ^ (f + 1) → ∀ y ∈ varF f x, y < 256
  | 0, x, h, y, hy => by
    simp [varF] at hy
    simp at h
    omega
  | f + 1, x, h, y, hy => by
    rw [varF] at hy
    split at hy
    · simp at hy; omega
    · rcases List.mem_cons.1 hy with rfl | hy
      · omega
      · exact varF_lt f (x / 128) (by rw [Nat.div_lt_iff_lt_mul (by omega)]; rw [Nat.pow_succ] at h; exact h) y hy
theorem varP_lt {x : Nat} (h : x < 128 ^ 10) : ∀ y ∈ varP x, y < 256 := varF_lt 9 x h
theorem runF_lt : ∀ (f : Nat) (l : List Int), l.length ≤ 1000 → (∀ x ∈ l, 0 ≤ x ∧ x ≤ 255) → ∀ y ∈ runF f l, y < 256
  | 0, l, _, _, y, hy => by simp [runF] at hy
  | f + 1, [], _, _, y, hy => by simp [runF] at hy
  | f + 1, x :: l, hl, hg, y, hy => by
    rw [runF] at hy
    have hr := runK_le x l
    simp at hl
    rcases List.mem_cons.1 hy with rfl | hy
    · have := hg x (by simp); omega
    · rcases List.mem_append.1 hy with hy | hy
      · exact varP_lt (by omega) y hy
      · exact runF_lt f _ (by rw [List.length_drop]; omega) (fun z hz => hg z (List.mem_cons_of_mem _ (List.mem_of_mem_drop hz))) y hy
theorem runsP_lt {l : List Int} (hl : l.length ≤ 1000) (hg : ∀ x ∈ l, 0 ≤ x ∧ x ≤ 255) : ∀ y ∈ runsP l, y < 256 := runF_lt _ _ hl hg
end Go.Cod
namespace Go.Proofs.Ytiejjbdmkgdniaa
open Go.RowKit Go.Sal Go.Huf Go.Cod
theorem bytesIn_of {w : World} {A : Option Addr} {l : List Nat} (h : BySrc w A l) : Lib.BytesIn w A l.length (l.map fun (x : Nat) => (x : Int)) := by
  cases l with
  | nil => exact Lib.BytesIn.nil _ _ _
  | cons x l =>
    obtain ⟨g, o, rfl, _, _⟩ := h.1 0 (by simp)
    refine Lib.BytesIn.of_cells (fun i hi => ?_)
    obtain ⟨g', o', e, _, hc⟩ := h.1 i hi
    injection e with e
    injection e with e1 e2
    subst e1; subst e2
    rw [add_mk, hc, List.getD_eq_getElem?_getD, List.getElem?_map, List.getElem?_eq_getElem hi]
    rfl
theorem bytesOf_back {l : List Nat} (h : ∀ x ∈ l, x < 256) : (Lib.bytesOf (l.map fun (x : Nat) => (x : Int))).map (fun b => b.toNat) = l := by
  unfold Lib.bytesOf
  rw [List.map_map, List.map_map]
  conv => rhs; rw [← List.map_id l]
  apply List.map_congr_left
  intro x hx
  have := h x hx
  simp
  omega
theorem equal_any (l1 l2 : List Nat) (A1 A2 : Option Addr) (c1 c2 : Nat) (w : World) (h1 : BySrc w A1 l1) (h2 : BySrc w A2 l2) :
    Calls Try.prog 50 #[.slice A1 l1.length c1, .slice A2 l2.length c2] w fun e w' => e = .returned (.bool (decide (l1 = l2))) ∧ w' = w := by
  refine (Try.bytes_Equal_all A1 A2 l1.length c1 l2.length c2 _ _ w (by simp) (by simp) (bytesIn_of h1) (bytesIn_of h2)).mono ?_
  rintro e w' ⟨rfl, rfl⟩
  refine ⟨?_, rfl⟩
  congr 2
  by_cases he : l1 = l2
  · subst he; simp
  · have : ¬ Lib.bytesOf (l1.map fun (x : Nat) => (x : Int)) = Lib.bytesOf (l2.map fun (x : Nat) => (x : Int)) := fun q => he (by
      rw [← bytesOf_back h1.2, ← bytesOf_back h2.2, q])
    simp [he, this]
theorem packR_lt {l : List Tk} (hl : l.length ≤ 20000) : ∀ y ∈ packR l, y < 256 := by
  intro y hy
  unfold packR at hy
  split at hy
  · unfold packP hdP at hy
    have ha := lenA_ok (l := l) (by omega)
    have hd := lenD_ok (l := l) (by omega)
    rcases List.mem_append.1 hy with hy | hy
    · rcases List.mem_append.1 hy with hy | hy
      · rcases List.mem_append.1 hy with hy | hy
        · exact runsP_lt (by omega) (good_255 ha.1) y hy
        · exact runsP_lt (by omega) (good_255 hd.1) y hy
      · exact varP_lt (by omega) y hy
    · exact pack_lt y hy
  · simp at hy
/-- the way out without a panic -/
theorem UpS.done {w w1 : World} {bl bl0 : List Nat} {bit : Nat} {tl : List Tk} {A : Option Addr} {n c : Nat} (h : UpS w bl bit tl A n c w1) {T : Array Value} (h2 : T[2]? = some (.pointer (some ⟨w.heap.size, 0, none⟩))) (h3 : T[3]? = some (.pointer (some ⟨w.heap.size + 1, 0, none⟩))) (hn : tl.length = n) (hT : unpT bl0 = tl) (hE : unpE bl0 = 0) :
    bodyPostD Try.prog Try.f15 (fun e w' => RowT w (unpT bl0) (unpE bl0) e w') .ret { tmps := T, defers := [{ target := .fn (.func 43) #[.pointer (some ⟨w.heap.size, 0, none⟩), .pointer (some ⟨w.heap.size + 1, 0, none⟩)], args := #[] }] } ((w1.setCell ⟨w.heap.size, 0, none⟩ (.slice A n c)).setCell ⟨w.heap.size + 1, 0, none⟩ (.int .i64 0)) := by
  refine leaves_cons (f := 43) (args := #[.pointer (some ⟨w.heap.size, 0, none⟩), .pointer (some ⟨w.heap.size + 1, 0, none⟩)]) (by simp) (by simp [go_sem]) ?_
  refine (catch_idle _ _ _).mono ?_
  rintro e u' w'' ⟨rfl, rfl, rfl⟩
  have k1 : Keep [w.heap.size] w1 (w1.setCell ⟨w.heap.size, 0, none⟩ (.slice A n c)) := (Keep.refl _ _).setCell (.inl (by simp)) _
  have k2 : Keep [w.heap.size + 1] (w1.setCell ⟨w.heap.size, 0, none⟩ (.slice A n c)) ((w1.setCell ⟨w.heap.size, 0, none⟩ (.slice A n c)).setCell ⟨w.heap.size + 1, 0, none⟩ (.int .i64 0)) := (Keep.refl _ _).setCell (.inl (by simp)) _
  have b1 := (h.res.set_ 0 (.slice A n c)).keep k2 (by simp)
  have b2 := (h.err.keep k1 (by simp)).set_ 0 (.int .i64 0)
  have hown := ownsRow_keep (ownsRow_keep h.own k1 (fun g hg hm => by
    simp at hm
    subst hm
    exact own_ne_blk h.own h.res (by decide) hg)) k2 (fun g hg hm => by
    simp at hm
    subst hm
    exact own_ne_blk h.own h.err (by decide) hg)
  have kk := (h.kp.step k1 (fun i hi => .inr (by simp at hi; omega))).step k2 (fun i hi => .inr (by simp at hi; omega))
  have c1 := b1.cell 0
  have c2 := b2.cell 0
  simp at c1 c2
  generalize ((w1.setCell ⟨w.heap.size, 0, none⟩ (.slice A n c)).setCell ⟨w.heap.size + 1, 0, none⟩ (.int .i64 0)) = W2 at *
  rw [hT, hE]
  simp [Leaves, settle, results, Try.results15, go_sem, h2, h3, c1, c2]
  rw [← hn] at hown
  exact ⟨A, c, by rw [hn], hown, kk⟩
end Go.Proofs.Ytiejjbdmkgdniaa
set_option linter.unusedVariables false
set_option linter.unusedSimpArgs false
namespace Go.Proofs.Ytiejjbdmkgdniaa
open Go.RowKit Go.Sal Go.Huf Go.Cod
set_option maxRecDepth 20000 in
set_option maxHeartbeats 1000000 in
theorem unpack_long (n : Nat) (AB : Option Addr) (cB : Nat) (w : World) (hl : 262144 < n) :
    Calls Try.prog 15 #[.slice AB n cB] w fun e w' => RowT w [] 2 e w' := by
  have hle : (262144 : Int) < n := by omega
  have hgt : (n : Int) > 262144 := by omega
  have hleb : decide ((n : Int) > 262144) = true := decide_eq_true hgt
  go_enter_defers Try.func15, Try.ntmps15
  go_wp2
  simp [bodyPostD, Leaves, results, Try.results15, go_sem]
  exact ⟨none, 0, rfl, World.ownsRow_nil _ _ _ _, ((Keep.refl [] w).alloc _).alloc _⟩
end Go.Proofs.Ytiejjbdmkgdniaa
set_option linter.unusedVariables false
set_option linter.unusedSimpArgs false
namespace Go.Proofs.Ytiejjbdmkgdniaa
open Go.RowKit Go.Sal Go.Huf Go.Cod
set_option maxRecDepth 20000 in
set_option maxHeartbeats 1000000 in
theorem unpack_any (bl : List Nat) (AB : Option Addr) (cB : Nat) (w : World) (hs : BySrc w AB bl) (hc : bl.length ≤ cB) (hA : ∀ a, AB = some a → a.block < w.heap.size) (hl : bl.length ≤ 2000) :
    Calls Try.prog 15 #[.slice AB bl.length cB] w fun e w' => RowT w (unpT bl) (unpE bl) e w' := by
  have hmf : ∀ (fn : Fn) (first cap : Array Value) (w : World), (Instr.makeFunc fn first cap).run Try.prog w = .ok (.func fn first cap) w := fun _ _ _ _ => rfl
  have hle : ¬ (bl.length : Int) > 262144 := by omega
  have hleb : decide ((bl.length : Int) > 262144) = false := decide_eq_false hle
  have hlen : ¬ 262144 < bl.length := by omega
  have H4 : Hid (UpS w bl 0 [] none 0 0 (((w.alloc (.cells #[.slice none 0 0] 22)).alloc (.cells #[.int .i64 0] 25)).alloc (.cells #[.slice AB bl.length cB, .int .i64 0] 83))) := by
    have k1 : Keep [] w (w.alloc (.cells #[.slice none 0 0] 22)) := (Keep.refl [] w).alloc _
    have k2 : Keep [] w ((w.alloc (.cells #[.slice none 0 0] 22)).alloc (.cells #[.int .i64 0] 25)) := k1.alloc _
    have k3 : Keep [] w (((w.alloc (.cells #[.slice none 0 0] 22)).alloc (.cells #[.int .i64 0] 25)).alloc (.cells #[.slice AB bl.length cB, .int .i64 0] 83)) := k2.alloc _
    have b1 := ((Blk.new w 22 #[.slice none 0 0]).alloc (.cells #[.int .i64 0] 25)).alloc (.cells #[.slice AB bl.length cB, .int .i64 0] 83)
    have b2 := (Blk.new (w.alloc (.cells #[.slice none 0 0] 22)) 25 #[.int .i64 0]).alloc (.cells #[.slice AB bl.length cB, .int .i64 0] 83)
    have b3 := Blk.new ((w.alloc (.cells #[.slice none 0 0] 22)).alloc (.cells #[.int .i64 0] 25)) 83 #[.slice AB bl.length cB, .int .i64 0]
    simp at b2 b3
    exact Lib.hid ⟨b1, b2, World.ownsRow_nil _ _ _ _, ⟨AB, cB, b3, hs.keep k3 (by simp), hc, fun a ha => by have := hA a ha; omega⟩, k3⟩
  have Hs := Lib.hid hs
  clear hs hA hc
  go_enter_defers Try.func15, Try.ntmps15
  go_upto_region 5 with fail
  generalize (((w.alloc (.cells #[.slice none 0 0] 22)).alloc (.cells #[.int .i64 0] 25)).alloc (.cells #[.slice AB bl.length cB, .int .i64 0] 83)) = W4 at *
  have HL := Lib.hid (lengths_left 83 (w.heap.size + 2) 511 bl 0 W4 H4.out.left (by decide) (by omega) (by omega))
  cases hla : lenP 511 bl with
  | none =>
    rw [hla] at HL
    have HR := Lib.hid (unp_none hl (by unfold readP; rw [hla]))
    clear hla
    go_wp2_with (go_at_call 46; refine HL.out.mono ?_; rintro e w' ⟨rfl, hk⟩; have Hk := Lib.hid hk; clear hk)
    refine UpS.dies H4.out Hk.out ?_ ?_ HR.out.1 HR.out.2 <;> rfl
  | some p1 =>
    obtain ⟨la, b1⟩ := p1
    rw [hla] at HL
    obtain ⟨hoa, hla5, hb1, hm1⟩ := lenP_ok hla
    have HBk := Lib.hid (fun (A : Option Addr) (c : Nat) (w : World) (hs : ISrc w A la) => book_any la A c w hs hoa)
    have HP1 := Lib.hid (And.intro hla (And.intro hla5 hm1))
    clear hla hla5 hm1 hoa
    go_upto_region 6 with (first
      | (go_at_call 46; refine HL.out.mono ?_; rintro e w5 ⟨A5, c5, rfl, hown5, hlf5, hk5⟩; have H5 := Lib.hid (And.intro (H4.out.next hlf5 hk5) hk5.size); have Ho5 := Lib.hid (ISrc.of_own hown5); clear hown5 hlf5 hk5)
      | (go_at_call 45; refine (HBk.out _ _ _ Ho5.out).mono ?_; rintro e w6 ⟨g1, rfl, hg1, hbk1, hk6⟩; have H6 := Lib.hid (And.intro (H5.out.1.next (H5.out.1.left.keep0 hk6) (hk6.mono (by simp))) (And.intro hbk1 hg1)); clear hbk1 hg1 hk6))
    clear HL HBk
    have HL := Lib.hid (lengths_left 83 (w.heap.size + 2) 13 b1 0 w6 H6.out.1.left (by decide) (by omega) (by omega))
    cases hlb : lenP 13 b1 with
    | none =>
      rw [hlb] at HL
      have HR := Lib.hid (unp_none hl (by unfold readP; rw [HP1.out.1]; simp only; rw [hlb]))
      clear hlb
      go_wp2_with (go_at_call 46; refine HL.out.mono ?_; rintro e w' ⟨rfl, hk⟩; have Hk := Lib.hid hk; clear hk)
      refine UpS.dies H6.out.1 Hk.out ?_ ?_ HR.out.1 HR.out.2 <;> rfl
    | some p2 =>
      obtain ⟨lb, b2⟩ := p2
      rw [hlb] at HL
      obtain ⟨hob, hlb5, hb2, hm2⟩ := lenP_ok hlb
      have HBk := Lib.hid (fun (A : Option Addr) (c : Nat) (w : World) (hs : ISrc w A lb) => book_any lb A c w hs hob)
      have HP2 := Lib.hid (And.intro hlb (And.intro hlb5 hm2))
      clear hlb hlb5 hm2 hob
      have Hg1 : Hid (w.heap.size + 2 < g1) := Lib.hid (by
        have h1 := H6.out.2.2
        have h2 := H5.out.1.left.lt
        omega)
      go_upto_region 7 with (first
        | (go_at_call 46; refine HL.out.mono ?_; rintro e w7 ⟨A7, c7, rfl, hown7, hlf7, hk7⟩; have H7 := Lib.hid (And.intro (H6.out.1.next hlf7 hk7) (And.intro (H6.out.2.1.keep hk7 (by have := Hg1.out; simp; omega)) hk7.size)); have Ho7 := Lib.hid (ISrc.of_own hown7); clear hown7 hlf7 hk7)
        | (go_at_call 45; refine (HBk.out _ _ _ Ho7.out).mono ?_; rintro e w8 ⟨g2, rfl, hg2, hbk2, hk8⟩; have H8 : Hid (UpB w b2 0 [] none 0 0 g1 g2 la lb w8) := Lib.hid ⟨H7.out.1.next (H7.out.1.left.keep0 hk8) (hk8.mono (by simp)), H7.out.2.1.keep hk8 (by simp), hbk2, Hg1.out, by have h2 := H7.out.1.left.lt; omega⟩; clear hbk2 hg2 hk8))
      clear HL HBk H4 H5 H6 H7 Ho5 Ho7 Hg1
      by_cases hv : ∃ x u, rdV 0 b2 = some (x, u) ∧ x ≤ 65536
      · obtain ⟨x, u, hr, hx⟩ := hv
        have HV := Lib.hid (varint_ok 83 (w.heap.size + 2) b2 0 65536 x u w8 H8.out.up.left (by omega) (by omega) hr hx)
        have HP : Hid (readP bl = toksF la lb (b2.drop u) x 0) := Lib.hid (by
          unfold readP
          rw [HP1.out.1]
          simp only
          rw [HP2.out.1]
          simp only
          rw [hr]
          simp only
          rw [if_neg (by omega)])
        have hb3 : (b2.drop u).length ≤ 2000 := by rw [List.length_drop]; omega
        obtain ⟨b3, hb3e⟩ : ∃ b3, b2.drop u = b3 := ⟨_, rfl⟩
        rw [hb3e] at HV HP hb3
        clear hr hb3e
        go_wp2_with (go_at_call 47; refine HV.out.mono ?_; rintro e w9 ⟨rfl, hlf, hk⟩; have H9 := Lib.hid (H8.out.next hlf hk); clear hlf hk)
        clear HV H8
        go_loopw [31] (fun v31 wr => ∃ i : Nat, v31 = .int .i64 i ∧ i ≤ x ∧ Hid (∃ tl A n c a, UpB w b3 a tl A n c g1 g2 la lb wr ∧ tl.length = i ∧ n = i ∧ readP bl = (toksF la lb b3 (x - i) a).map (tl ++ ·) ∧ a ≤ 8 * b3.length ∧ i ≤ a ∧ ∀ t ∈ tl, bdT t)) (fun v31 _ => x - (intOf v31).toNat)
        case atStart => exact ⟨0, rfl, by omega, Lib.hid ⟨[], none, 0, 0, 0, H9.out, rfl, rfl, by rw [HP.out]; simp, by omega, by omega, by simp⟩⟩
        case round =>
          obtain ⟨i, rfl, hi, hI⟩ := hrel
          clear H9
          obtain ⟨tl, A, n, c, a, hU, hln, rfl, hR, ha8, hia, hlit⟩ := hI.out
          clear hI
          rcases Nat.lt_or_ge n x with hix | hix
          · have hixi : (n : Int) < x := by omega
            have hwn : IntKind.i64.wrap ((n : Int) + 1) = (n : Int) + 1 := by rw [IntKind.wrap_i64]; omega
            have hf1 := hU.f1
            have hf2 := hU.f2
            have HT := Lib.hid (token_left 83 (w.heap.size + 2) g1 g2 la lb b3 a wr.drew (hU.up.left.keep0 (Keep.refl [] _).drew) (hU.m1.keep (Keep.refl [] _).drew (by simp)) (hU.m2.keep (Keep.refl [] _).drew (by simp)) (by omega) (by omega) (by omega) ha8 (by have := HP1.out.2.1; omega) (by have := HP2.out.2.1; omega))
            have hS0 : wr.drew.cell? ⟨w.heap.size, 0, none⟩ = some (.slice A n c) := hU.up.res.cell 0
            obtain ⟨k, hk⟩ : ∃ k, x - n = k + 1 := ⟨x - n - 1, by omega⟩
            cases ht : tokR la lb b3 a with
            | none =>
              rw [ht] at HT
              have HN := Lib.hid (unp_none hl (by rw [hR, hk, toksF_none ht]; rfl))
              have HU := Lib.hid hU
              clear hU hln hR ha8 hia hlit hf1 hf2 hk ht hi hix
              go_upto_region 9 with (fail)
              refine wp_upq (R := fun W => Keep [w.heap.size + 2] wr W) (d0 := [{ target := .fn (.func 43) #[.pointer (some ⟨w.heap.size, 0, none⟩), .pointer (some ⟨w.heap.size + 1, 0, none⟩)], args := #[] }]) (t2 := .pointer (some ⟨w.heap.size, 0, none⟩)) (t3 := .pointer (some ⟨w.heap.size + 1, 0, none⟩)) (fun a W hR hd h2 h3 => ?_) ?_
              · obtain ⟨T, ds⟩ := a
                subst hd
                exact UpS.dies HU.out.up hR h2 h3 HN.out.1 HN.out.2
              refine wp_region_G (fun W => W.cell? ⟨w.heap.size, 0, none⟩ = some (.slice A n c)) [7] #[false, false, false, false, false, false, false, false] 8 (by kernel_rfl) (by kernel_rfl) (by kernel_rfl) ?_
              refine wpAnyG_take (i := 0) (oi := { dst := some 33, op := Go.Op.load 22 (Go.Operand.tmp 2), type := 22, pos := "codec.go:219", after := #[], guard := none }) (v := ?vg2_0) [0, 6, 7] rfl (by kernel_rfl) (by kernel_rfl) (by kernel_rfl) (by kernel_rfl) (by kernel_rfl) (fun _ _ _ h => UpQ.put (by decide) h) (fun _ => hS0) (Or.inl ⟨by rfl, ?hg2_0⟩) ?_
              case hg2_0 => intro w hSw; (try dsimp only at hSw); go_simp; (try with_reducible rfl)
              try simp only [Act.put, List.setIfInBounds_toArray, List.set_cons_zero, List.set_cons_succ]
              refine wpAnyG_take0 (i := 1) (oi := { dst := some 34, op := Go.Op.move (Go.Operand.tmp 4), type := 79, pos := "codec.go:219", after := #[], guard := none }) (v := ?vg2_1) rfl (by kernel_rfl) (by kernel_rfl) (by kernel_rfl) (by kernel_rfl) (fun _ _ _ h => UpQ.put (by decide) h) (fun _ => hS0) (Or.inl ⟨by rfl, ?hg2_1⟩) ?_
              case hg2_1 => intro w _; go_simp; (try with_reducible rfl)
              try simp only [Act.put, List.setIfInBounds_toArray, List.set_cons_zero, List.set_cons_succ]
              refine wpAnyG_take0 (i := 2) (oi := { dst := some 35, op := Go.Op.move (Go.Operand.tmp 5), type := 84, pos := "codec.go:219", after := #[], guard := none }) (v := ?vg2_2) rfl (by kernel_rfl) (by kernel_rfl) (by kernel_rfl) (by kernel_rfl) (fun _ _ _ h => UpQ.put (by decide) h) (fun _ => hS0) (Or.inl ⟨by rfl, ?hg2_2⟩) ?_
              case hg2_2 => intro w _; go_simp; (try with_reducible rfl)
              try simp only [Act.put, List.setIfInBounds_toArray, List.set_cons_zero, List.set_cons_succ]
              refine wpAnyG_take0 (i := 3) (oi := { dst := some 36, op := Go.Op.move (Go.Operand.tmp 6), type := 84, pos := "codec.go:219", after := #[], guard := none }) (v := ?vg2_3) rfl (by kernel_rfl) (by kernel_rfl) (by kernel_rfl) (by kernel_rfl) (fun _ _ _ h => UpQ.put (by decide) h) (fun _ => hS0) (Or.inl ⟨by rfl, ?hg2_3⟩) ?_
              case hg2_3 => intro w _; go_simp; (try with_reducible rfl)
              try simp only [Act.put, List.setIfInBounds_toArray, List.set_cons_zero, List.set_cons_succ]
              refine wpAnyG_step (i := 4) (oi := { dst := some 37, op := Go.Op.call { callee := Go.Callee.value (Go.Operand.func 48), args := #[Go.Operand.tmp 34, Go.Operand.tmp 35, Go.Operand.tmp 36], argTypes := #[79, 84, 84] }, type := 64, pos := "codec.go:219", after := #[{ on := 1, ground := Go.Ground.data }, { on := 2, ground := Go.Ground.data }, { on := 3, ground := Go.Ground.data }], guard := none }) rfl (by kernel_rfl) (by rfl) (fun K hK => ?_)
              go_simp
              go_at_call 48
              refine HT.out.mono ?_
              rintro e w' ⟨rfl, hk⟩
              exact ⟨rfl, hk.of_drew, rfl, rfl, rfl⟩
            | some p =>
              obtain ⟨⟨d, m, lt⟩, a2⟩ := p
              rw [ht] at HT
              have hok := tokR_ok ht
              have hbd := tokR_bd ht (by have := HP1.out.2.1; omega) (by have := HP2.out.2.1; omega)
              have HR : Hid (readP bl = (toksF la lb b3 (x - (n + 1)) a2).map ((tl ++ [(d, m, lt)]) ++ ·) ∧ a2 ≤ 8 * b3.length ∧ n + 1 ≤ a2 ∧ (∀ t ∈ tl ++ [(d, m, lt)], bdT t) ∧ (tl ++ [(d, m, lt)]).length = n + 1) := by
                refine Lib.hid ⟨?_, hok.2.1, by omega, fun t ht => ?_, by simp [hln]⟩
                · rw [hR, hk, toksF_some ht, show x - (n + 1) = k by omega, Option.map_map]
                  congr 1
                  funext l
                  simp
                · rcases List.mem_append.1 ht with h | h
                  · exact hlit t h
                  · simp at h
                    subst h
                    exact hbd
              have HX := Lib.hid (fun (w3 : World) (hl : LF 83 (w.heap.size + 2) b3 a2 w3) (hk : Keep [w.heap.size + 2] wr.drew w3) => hU.step (by omega) hl hk.of_drew d m lt)
              have hix2 : n + 1 ≤ x := hix
              clear hU hln hR ha8 hia hlit hf1 hf2 hk ht hi hok hbd
              go_upto_region 9 with (fail)
              refine wp_region_noPanic ?_
              refine wp_region_G (fun W => W.cell? ⟨w.heap.size, 0, none⟩ = some (.slice A n c)) [7] #[false, false, false, false, false, false, false, false] 8 (by kernel_rfl) (by kernel_rfl) (by kernel_rfl) ?_
              refine wpAnyG_take (i := 0) (oi := { dst := some 33, op := Go.Op.load 22 (Go.Operand.tmp 2), type := 22, pos := "codec.go:219", after := #[], guard := none }) (v := ?vg1_0) [0, 6, 7] rfl (by kernel_rfl) (by kernel_rfl) (by kernel_rfl) (by kernel_rfl) (by kernel_rfl) (fun _ _ _ h => h) (fun _ => hS0) (Or.inl ⟨by rfl, ?hg1_0⟩) ?_
              case hg1_0 => intro w hSw; (try dsimp only at hSw); go_simp; (try with_reducible rfl)
              try simp only [Act.put, List.setIfInBounds_toArray, List.set_cons_zero, List.set_cons_succ]
              refine wpAnyG_take0 (i := 1) (oi := { dst := some 34, op := Go.Op.move (Go.Operand.tmp 4), type := 79, pos := "codec.go:219", after := #[], guard := none }) (v := ?vg1_1) rfl (by kernel_rfl) (by kernel_rfl) (by kernel_rfl) (by kernel_rfl) (fun _ _ _ h => h) (fun _ => hS0) (Or.inl ⟨by rfl, ?hg1_1⟩) ?_
              case hg1_1 => intro w _; go_simp; (try with_reducible rfl)
              try simp only [Act.put, List.setIfInBounds_toArray, List.set_cons_zero, List.set_cons_succ]
              refine wpAnyG_take0 (i := 2) (oi := { dst := some 35, op := Go.Op.move (Go.Operand.tmp 5), type := 84, pos := "codec.go:219", after := #[], guard := none }) (v := ?vg1_2) rfl (by kernel_rfl) (by kernel_rfl) (by kernel_rfl) (by kernel_rfl) (fun _ _ _ h => h) (fun _ => hS0) (Or.inl ⟨by rfl, ?hg1_2⟩) ?_
              case hg1_2 => intro w _; go_simp; (try with_reducible rfl)
              try simp only [Act.put, List.setIfInBounds_toArray, List.set_cons_zero, List.set_cons_succ]
              refine wpAnyG_take0 (i := 3) (oi := { dst := some 36, op := Go.Op.move (Go.Operand.tmp 6), type := 84, pos := "codec.go:219", after := #[], guard := none }) (v := ?vg1_3) rfl (by kernel_rfl) (by kernel_rfl) (by kernel_rfl) (by kernel_rfl) (fun _ _ _ h => h) (fun _ => hS0) (Or.inl ⟨by rfl, ?hg1_3⟩) ?_
              case hg1_3 => intro w _; go_simp; (try with_reducible rfl)
              try simp only [Act.put, List.setIfInBounds_toArray, List.set_cons_zero, List.set_cons_succ]
              refine wpAnyG_step (i := 4) (oi := { dst := some 37, op := Go.Op.call { callee := Go.Callee.value (Go.Operand.func 48), args := #[Go.Operand.tmp 34, Go.Operand.tmp 35, Go.Operand.tmp 36], argTypes := #[79, 84, 84] }, type := 64, pos := "codec.go:219", after := #[{ on := 1, ground := Go.Ground.data }, { on := 2, ground := Go.Ground.data }, { on := 3, ground := Go.Ground.data }], guard := none }) rfl (by kernel_rfl) (by rfl) (fun K hK => ?_)
              go_simp
              go_at_call 48
              refine HT.out.mono ?_
              rintro e w3 ⟨rfl, hlf3, hk3⟩
              obtain ⟨A', c', w4, hap, x0, x1, x2, x3, hN⟩ := HX.out w3 hlf3 hk3
              have HN := Lib.hid hN
              clear hN hlf3 hk3
              refine hK _ _ ?_ (fun hSg1_4 => ?_)
              · intro _; exact x0
              replace hSg1_4 := hSg1_4 (by kernel_rfl)
              clear hK
              try simp only [Act.put, List.setIfInBounds_toArray, List.set_cons_zero, List.set_cons_succ]
              refine wpAnyG_step (i := 5) (oi := { dst := some 38, op := Go.Op.buildSlice 22 1 #[(0, Go.Operand.tmp 37)], type := 22, pos := "codec.go:219", after := #[{ on := 4, ground := Go.Ground.data }], guard := none }) rfl (by kernel_rfl) (by rfl) (fun K hK => ?_)
              go_simp
              refine hK _ _ ?_ (fun hSg1_5 => ?_)
              · intro _; exact x1
              replace hSg1_5 := hSg1_5 (by kernel_rfl)
              clear hK
              try simp only [Act.put, List.setIfInBounds_toArray, List.set_cons_zero, List.set_cons_succ]
              refine wpAnyG_step (i := 6) (oi := { dst := some 39, op := Go.Op.call { callee := Go.Callee.builtin Go.Builtin.append, args := #[Go.Operand.tmp 33, Go.Operand.tmp 38], argTypes := #[22, 22] }, type := 22, pos := "codec.go:219", after := #[{ on := 0, ground := Go.Ground.data }, { on := 5, ground := Go.Ground.data }, { on := 4, ground := Go.Ground.chain }], guard := none }) rfl (by kernel_rfl) (by rfl) (fun K hK => ?_)
              refine wp_append2 (v1 := .slice A n c) (v2 := .slice (some ⟨w3.heap.size, 0, none⟩) 1 1) (.tmp 33) (.tmp 38) rfl rfl rfl hap ?_
              refine hK _ _ ?_ (fun hSg1_6 => ?_)
              · intro _; exact x2
              replace hSg1_6 := hSg1_6 (by kernel_rfl)
              clear hK
              try simp only [Act.put, List.setIfInBounds_toArray, List.set_cons_zero, List.set_cons_succ]
              refine wpAnyG_step (i := 7) (oi := { dst := none, op := Go.Op.store 22 (Go.Operand.tmp 2) (Go.Operand.tmp 39), type := 0, pos := "codec.go:219", after := #[{ on := 6, ground := Go.Ground.data }, { on := 6, ground := Go.Ground.chain }, { on := 0, ground := Go.Ground.phase }, { on := 1, ground := Go.Ground.phase }, { on := 2, ground := Go.Ground.phase }, { on := 3, ground := Go.Ground.phase }, { on := 4, ground := Go.Ground.phase }, { on := 5, ground := Go.Ground.phase }, { on := 6, ground := Go.Ground.phase }], guard := none }) rfl (by kernel_rfl) (by rfl) (fun K hK => ?_)
              go_simp
              refine hK _ _ (fun h => absurd h (Bool.eq_false_iff.1 (by kernel_rfl))) (fun _ => ?_)
              clear hK
              try simp only [Act.put, List.setIfInBounds_toArray, List.set_cons_zero, List.set_cons_succ]
              refine wpAnyG_done (by kernel_rfl) ?_ _
              refine NoPanic.normal ?_
              go_wp2_with fail
              go_roundw
              case rel => exact ⟨n + 1, by simp, hix2, Lib.hid ⟨_, A', n + 1, c', a2, HN.out, HR.out.2.2.2.2, rfl, HR.out.1, HR.out.2.1, HR.out.2.2.1, HR.out.2.2.2.1⟩⟩
              case measure => simp [intOf]; omega
          · obtain rfl : n = x := by omega
            have hni : ¬ (n : Int) < n := by omega
            have hR2 : readP bl = some tl := by rw [hR, Nat.sub_self]; simp [toksF]
            have HPk := Lib.hid (packR_any tl A c wr (tsrc_own hU.up.own hln hlit) (by omega))
            rw [hln] at HPk
            have d0 : wr.cell? ⟨w.heap.size, 0, none⟩ = some (.slice A n c) := hU.up.res.cell 0
            have HU := Lib.hid hU.up
            have Hln := Lib.hid hln
            have HLt := Lib.hid (packR_lt (l := tl) (by omega))
            have HEq := Lib.hid (fun (w1 : World) (AO : Option Addr) (cO : Nat) (hown : w1.ownsRow wr.heap.size 5 1 (.slice AO (packR tl).length cO) (packR tl).length (inB (packR tl))) (hk : Keep [] wr w1) => equal_any (packR tl) bl AO AB cO cB w1 (bsrc_own hown HLt.out) (Hs.out.keep (HU.out.kp.trans hk) (by simp)))
            have HK := Lib.hid (fun (w1 : World) (hk : Keep [] wr w1) => HU.out.next (HU.out.left.keep0 hk) (hk.mono (by simp)))
            by_cases hok : sizeE tl = 0 ∧ packR tl = bl
            · have HV : Hid (unpT bl = tl ∧ unpE bl = 0) := by
                have hpp : packP tl = bl := by
                  have := hok.2
                  unfold packR at this
                  rw [if_pos hok.1] at this
                  exact this
                refine Lib.hid ⟨?_, ?_⟩
                · unfold unpT
                  rw [hR2]
                  simp only
                  rw [if_pos ⟨by omega, hok.1, hpp⟩]
                · unfold unpE
                  rw [hR2, if_neg (by omega)]
                  simp only
                  rw [if_pos ⟨hok.1, hpp⟩]
              have hsz : (sizeE tl == 0) = true := by simp [hok.1]
              have hdb : decide (packR tl = bl) = true := decide_eq_true hok.2
              generalize sizeE tl = E at *
              clear hU hln hR hR2 ha8 hia hlit hok hi hix
              go_wp2_with (first
                | (go_at_call 11; refine HPk.out.mono ?_; rintro e w1 ⟨AO, cO, rfl, hown, hk⟩; have H1 := Lib.hid (HK.out w1 hk); have HQ := Lib.hid (HEq.out w1 AO cO hown hk); have b1 := H1.out.res; have b2 := H1.out.err; have c1 : w1.cell? ⟨w.heap.size, 0, none⟩ = some (.slice A n c) := b1.cell 0; have c2 : w1.cell? ⟨w.heap.size + 1, 0, none⟩ = some (.int .i64 0) := b2.cell 0; have f1 := b1.free 0; have f2 := b2.free 0; clear hown hk b1 b2)
                | (go_at_call 50; refine HQ.out.mono ?_; rintro e w2 ⟨rfl, rfl⟩)
                | (go_at_call 49; refine (must_yes _).mono ?_; rintro e w' ⟨rfl, rfl⟩))
              refine UpS.done H1.out ?_ ?_ Hln.out HV.out.1 HV.out.2 <;> rfl
            · have HV : Hid (unpT bl = [] ∧ unpE bl = 70) := by
                have hpp : ¬ (sizeE tl = 0 ∧ packP tl = bl) := fun h => hok ⟨h.1, by unfold packR; rw [if_pos h.1]; exact h.2⟩
                refine Lib.hid ⟨?_, ?_⟩
                · unfold unpT
                  rw [hR2]
                  simp only
                  rw [if_neg (fun h => hpp h.2)]
                · unfold unpE
                  rw [hR2, if_neg (by omega)]
                  simp only
                  rw [if_neg hpp]
              by_cases hs0 : sizeE tl = 0
              · have hsz : (sizeE tl == 0) = true := by simp [hs0]
                have hdb : decide (packR tl = bl) = false := decide_eq_false (fun h => hok ⟨hs0, h⟩)
                generalize sizeE tl = E at *
                clear hU hln hR hR2 ha8 hia hlit hok hi hix hs0
                go_wp2_with (first
                  | (go_at_call 11; refine HPk.out.mono ?_; rintro e w1 ⟨AO, cO, rfl, hown, hk⟩; have H1 := Lib.hid (HK.out w1 hk); have HQ := Lib.hid (HEq.out w1 AO cO hown hk); clear hown hk)
                  | (go_at_call 50; refine HQ.out.mono ?_; rintro e w2 ⟨rfl, rfl⟩)
                  | (go_at_call 49; refine (must_no _).mono ?_; rintro e w' ⟨rfl, hk⟩; have Hk := Lib.hid hk; clear hk))
                refine UpS.dies H1.out (Hk.out.mono (by simp)) ?_ ?_ HV.out.1 HV.out.2 <;> rfl
              · have hsz : (sizeE tl == 0) = false := by simpa using hs0
                generalize sizeE tl = E at *
                clear hU hln hR hR2 ha8 hia hlit hok hi hix hs0
                go_wp2_with (first
                  | (go_at_call 11; refine HPk.out.mono ?_; rintro e w1 ⟨AO, cO, rfl, hown, hk⟩; have H1 := Lib.hid (HK.out w1 hk); clear hown hk)
                  | (go_at_call 49; refine (must_no _).mono ?_; rintro e w' ⟨rfl, hk⟩; have Hk := Lib.hid hk; clear hk))
                refine UpS.dies H1.out (Hk.out.mono (by simp)) ?_ ?_ HV.out.1 HV.out.2 <;> rfl
      · have HV := Lib.hid (varint_no 83 (w.heap.size + 2) b2 0 65536 w8 H8.out.up.left (by omega) (by omega) (fun x n h => by
          rcases Nat.lt_or_ge 65536 x with h1 | h1
          · exact h1
          · exact absurd ⟨x, n, h, h1⟩ hv))
        have HR := Lib.hid (unp_none hl (by
          unfold readP
          rw [HP1.out.1]
          simp only
          rw [HP2.out.1]
          simp only
          cases hr : rdV 0 b2 with
          | none => rfl
          | some p =>
            obtain ⟨x, u⟩ := p
            simp only
            rw [if_pos]
            rcases Nat.lt_or_ge 65536 x with h1 | h1
            · exact h1
            · exact absurd ⟨x, u, hr, h1⟩ hv))
        clear hv
        go_wp2_with (go_at_call 47; refine HV.out.mono ?_; rintro e w' ⟨rfl, hk⟩; have Hk := Lib.hid hk; clear hk)
        refine UpS.dies H8.out.up (Hk.out.mono (by simp)) ?_ ?_ HR.out.1 HR.out.2 <;> rfl
end Go.Proofs.Ytiejjbdmkgdniaa
