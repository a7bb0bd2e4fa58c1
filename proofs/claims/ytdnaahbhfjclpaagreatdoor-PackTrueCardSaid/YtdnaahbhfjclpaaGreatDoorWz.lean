/- Strings of bytes; new rows of bytes. -/
import Derived.Test.YtdnaahbhfjclpaaGreatDoorK3
import Derived.Test.YtdnaahbhfjclpaaGreatDoorShelf
import Derived.Test.YtdnaahbhfjclpaaGreatDoorHfH
import Derived.Test.YtdnaahbhfjclpaaGreatDoorK12
import Derived.Test.YtdnaahbhfjclpaaGreatDoorCp3
import Derived.Test.YtdnaahbhfjclpaaGreatDoorCp1
import Derived.Test.YtdnaahbhfjclpaaGreatDoorK10
import Derived.Laws.BytesArg
import Derived.Lib.SlBytesConst
set_option linter.unusedVariables false
set_option linter.unusedSimpArgs false
namespace Go.Cod
open Go.Huf
theorem lenF_ok : ∀ (f n : Nat) (out : List Int) (b : List Nat) (ls : List Int) (r : List Nat), lenF f n out b = some (ls, r) → out.length ≤ n → okL ls ∧ ls.length = n ∧ r.length ≤ b.length ∧ ∀ x ∈ r, x ∈ b
  | 0, _, _, _, _, _, h, _ => by simp [lenF] at h
  | f + 1, n, out, b, ls, r, h, h0 => by
    unfold lenF at h
    split at h
    · rename_i hlt
      cases b with
      | nil => simp at h
      | cons x b1 =>
        simp only at h
        cases hr : rdV 0 b1 with
        | none => rw [hr] at h; simp at h
        | some p =>
          obtain ⟨k, u⟩ := p
          rw [hr] at h
          simp only at h
          split at h
          · simp at h
          · have ih := lenF_ok f n _ _ ls r h (by simp; omega)
            refine ⟨ih.1, ih.2.1, ?_, fun y hy => List.mem_cons_of_mem _ (List.mem_of_mem_drop (ih.2.2.2 y hy))⟩
            have := ih.2.2.1
            rw [List.length_drop] at this
            simp
            omega
    · split at h
      · rename_i hok
        simp only [Option.some.injEq, Prod.mk.injEq] at h
        obtain ⟨rfl, rfl⟩ := h
        exact ⟨hok, by omega, Nat.le_refl _, fun _ h => h⟩
      · simp at h
theorem lenP_ok {n : Nat} {b : List Nat} {ls : List Int} {r : List Nat} (h : lenP n b = some (ls, r)) : okL ls ∧ ls.length = n ∧ r.length ≤ b.length ∧ ∀ x ∈ r, x ∈ b := lenF_ok _ _ _ _ _ _ h (by simp)
theorem tokR_ok {la lb : List Int} {b : List Nat} {at_ a2 : Nat} {t : Tk} (h : tokR la lb b at_ = some (t, a2)) : at_ + 1 ≤ a2 ∧ a2 ≤ 8 * b.length ∧ t.2.2 < 256 := by
  unfold tokR at h
  cases h1 : one la b at_ with
  | none => rw [h1] at h; simp at h
  | some p =>
    obtain ⟨s, k⟩ := p
    have q1 := one_spec h1
    rw [h1] at h
    simp only at h
    split at h
    · simp only [Option.some.injEq, Prod.mk.injEq] at h
      obtain ⟨rfl, rfl⟩ := h
      exact ⟨by omega, by omega, by assumption⟩
    · cases h2 : one lb b (at_ + k) with
      | none => rw [h2] at h; simp at h
      | some p2 =>
        obtain ⟨x, k2⟩ := p2
        have q2 := one_spec h2
        rw [h2] at h
        simp only at h
        split at h
        · simp at h
        · simp only [Option.some.injEq, Prod.mk.injEq] at h
          obtain ⟨rfl, rfl⟩ := h
          exact ⟨by omega, by omega, by simp⟩
theorem toksF_none {la lb : List Int} {b : List Nat} {n at_ : Nat} (h : tokR la lb b at_ = none) : toksF la lb b (n + 1) at_ = none := by
  rw [toksF, h]
theorem toksF_some {la lb : List Int} {b : List Nat} {n at_ a2 : Nat} {t : Tk} (h : tokR la lb b at_ = some (t, a2)) : toksF la lb b (n + 1) at_ = (toksF la lb b n a2).map (t :: ·) := by
  rw [toksF, h]
end Go.Cod

namespace Go.Proofs.YtdnaahbhfjclpaaGreatDoor
open Go.RowKit Go.Sal Go.Huf Go.Cod
theorem LF.keep_blk {T gl bit g ty n c : Nat} {A : Option Addr} {bl : List Nat} {w w' : World} (h : LF T gl bl bit w) (hB : Blk w g ty #[.slice A n c]) (k : Keep [g] w w') (hne : gl ≠ g) : LF T gl bl bit w' := by
  obtain ⟨A0, c0, h1, h2, h3, h4⟩ := h
  refine ⟨A0, c0, h1.keep k (by simpa using hne), ⟨fun i hi => ?_, h2.2⟩, h3, h4⟩
  obtain ⟨b, o, rfl, hb, hc⟩ := h2.1 i hi
  refine ⟨b, o, rfl, Nat.lt_of_lt_of_le hb k.size, ?_⟩
  rw [k.cell (p := ⟨b, o + i, none⟩) hb ?_]
  · exact hc
  · intro hm
    simp at hm
    subst hm
    rw [hB.cell] at hc
    cases ho : o + i with
    | zero => rw [ho] at hc; simp at hc
    | succ j => rw [ho] at hc; simp at hc
structure UpS (w : World) (bl : List Nat) (bit : Nat) (tl : List Tk) (A : Option Addr) (n c : Nat) (W : World) : Prop where
  res : Blk W w.heap.size 96 #[.slice A n c]
  err : Blk W (w.heap.size + 1) 24 #[.int .i64 0]
  own : W.ownsRow w.heap.size 143 3 (.slice A n c) n (tksC tl)
  left : LF 137 (w.heap.size + 2) bl bit W
  kp : Keep [] w W
theorem UpS.next {w W W' : World} {bl bl' : List Nat} {bit bit' : Nat} {tl : List Tk} {A : Option Addr} {n c : Nat} (h : UpS w bl bit tl A n c W) (hl : LF 137 (w.heap.size + 2) bl' bit' W') (hk : Keep [w.heap.size + 2] W W') : UpS w bl' bit' tl A n c W' := by
  obtain ⟨A0, c0, hb, _⟩ := h.left
  refine ⟨h.res.keep hk (by simp), h.err.keep hk (by simp), ownsRow_keep h.own hk (fun g hg hm => ?_), hl, h.kp.step hk (fun i hi => .inr (by simp at hi; omega))⟩
  simp at hm
  subst hm
  exact own_ne_blk h.own hb (by decide) hg
theorem UpS.dies {w W W' : World} {bl bl0 : List Nat} {bit : Nat} {tl : List Tk} {A : Option Addr} {n c : Nat} (h : UpS w bl bit tl A n c W) (hk : Keep [w.heap.size + 2] W W') {T : Array Value} (h2 : T[2]? = some (.pointer (some ⟨w.heap.size, 0, none⟩))) (h3 : T[3]? = some (.pointer (some ⟨w.heap.size + 1, 0, none⟩))) (hT : unpT bl0 = []) (hE : unpE bl0 = 70) :
    bodyPostD Tryz.prog Tryz.f57 (fun e w' => RowT w (unpT bl0) (unpE bl0) e w') (.panic PN) { tmps := T, defers := [{ target := .fn (.func 89) #[.pointer (some ⟨w.heap.size, 0, none⟩), .pointer (some ⟨w.heap.size + 1, 0, none⟩)], args := #[] }] } W' := by
  have r1 := h.res.keep hk (by simp)
  have r2 := h.err.keep hk (by simp)
  have kp := h.kp.step hk (fun i hi => .inr (by simp at hi; omega))
  refine leaves_cons (f := 89) (args := #[.pointer (some ⟨w.heap.size, 0, none⟩), .pointer (some ⟨w.heap.size + 1, 0, none⟩)]) (by simp) (by simp [go_sem]) ?_
  refine (catch_panicking _ _ _ _ _ r1 r2 (by omega)).mono ?_
  rintro e u' w'' ⟨rfl, rfl, w1, k1, rfl⟩
  have b1 := (r1.keep k1 (by simp)).set_ 0 (.slice none 0 0)
  have b2 : Blk ((w1.setCell ⟨w.heap.size, 0, none⟩ (.slice none 0 0)).setCell ⟨w.heap.size + 1, 0, none⟩ (.int .i64 70)) (w.heap.size + 1) 24 _ := ((r2.keep k1 (by simp)).keep ((Keep.refl [w.heap.size] w1).setCell (.inl (by simp)) _) (by simp)).set_ 0 (.int .i64 70)
  have b3 : Blk ((w1.setCell ⟨w.heap.size, 0, none⟩ (.slice none 0 0)).setCell ⟨w.heap.size + 1, 0, none⟩ (.int .i64 70)) w.heap.size 96 _ := b1.keep ((Keep.refl [w.heap.size + 1] _).setCell (.inl (by simp)) _) (by simp)
  have c1 := b3.cell 0
  have c2 := b2.cell 0
  have kk : Keep [] w ((w1.setCell ⟨w.heap.size, 0, none⟩ (.slice none 0 0)).setCell ⟨w.heap.size + 1, 0, none⟩ (.int .i64 70)) := ((kp.trans k1).setCell (.inr (Nat.le_refl _)) _).setCell (.inr (by simp)) _
  simp at c1 c2
  generalize ((w1.setCell ⟨w.heap.size, 0, none⟩ (.slice none 0 0)).setCell ⟨w.heap.size + 1, 0, none⟩ (.int .i64 70)) = W2 at *
  rw [hT, hE]
  simp [Leaves, settle, results, Tryz.results57, go_sem, h2, h3, c1, c2]
  exact ⟨none, 0, rfl, World.ownsRow_nil _ _ _ _, kk⟩
theorem unp_none {bl : List Nat} (hl : bl.length ≤ 2400) (h : readP bl = none) : unpT bl = [] ∧ unpE bl = 70 := by
  unfold unpT unpE
  rw [h, if_neg (by omega)]
  exact ⟨rfl, rfl⟩
structure UpB (w : World) (bl : List Nat) (bit : Nat) (tl : List Tk) (A : Option Addr) (n c : Nat) (g1 g2 : Nat) (la lb : List Int) (W : World) : Prop where
  up : UpS w bl bit tl A n c W
  m1 : BkM W g1 la
  m2 : BkM W g2 lb
  f1 : w.heap.size + 2 < g1
  f2 : w.heap.size + 2 < g2
theorem UpB.next {w W W' : World} {bl bl' : List Nat} {bit bit' : Nat} {tl : List Tk} {A : Option Addr} {n c g1 g2 : Nat} {la lb : List Int} (h : UpB w bl bit tl A n c g1 g2 la lb W) (hl : LF 137 (w.heap.size + 2) bl' bit' W') (hk : Keep [w.heap.size + 2] W W') : UpB w bl' bit' tl A n c g1 g2 la lb W' :=
  ⟨h.up.next hl hk, h.m1.keep hk (by have := h.f1; simp; omega), h.m2.keep hk (by have := h.f2; simp; omega), h.f1, h.f2⟩
theorem UpB.step {w wr w3 : World} {bl : List Nat} {a a2 n c g1 g2 : Nat} {tl : List Tk} {A : Option Addr} {la lb : List Int} (h : UpB w bl a tl A n c g1 g2 la lb wr) (hn : n ≤ 100000) (hl : LF 137 (w.heap.size + 2) bl a2 w3) (hk : Keep [w.heap.size + 2] wr w3) (d m : Int) (x : Nat) :
    ∃ A' c' w4, (Builtin.append_ #[96, 96] 96 #[.slice A n c, .slice (some ⟨w3.heap.size, 0, none⟩) 1 1]).run Tryz.prog (w3.alloc (.cells #[.int .i64 d, .int .i64 m, .int .u8 (x : Nat)] 143)) = .ok (.slice A' (n + 1) c') w4 ∧
      w3.cell? ⟨w.heap.size, 0, none⟩ = some (.slice A n c) ∧ (w3.alloc (.cells #[.int .i64 d, .int .i64 m, .int .u8 (x : Nat)] 143)).cell? ⟨w.heap.size, 0, none⟩ = some (.slice A n c) ∧ w4.cell? ⟨w.heap.size, 0, none⟩ = some (.slice A n c) ∧ w4.frozen? ⟨w.heap.size, 0, none⟩ = false ∧
      UpB w bl a2 (tl ++ [(d, m, x)]) A' (n + 1) c' g1 g2 la lb (w4.setCell ⟨w.heap.size, 0, none⟩ (.slice A' (n + 1) c')) := by
  have hU := h.up.next hl hk
  have f1 := h.f1
  have f2 := h.f2
  have hm1 := h.m1.keep hk (by simp; omega)
  have hm2 := h.m2.keep hk (by simp; omega)
  obtain ⟨A', c', w4, hrun, hown, hk4⟩ := tok_append hU.own d m x (by omega) hU.kp.size
  obtain ⟨AL, cL, hbl, _⟩ := hU.left
  have hno : ∀ i, i ∈ (Value.slice A n c).ownBlock.toList → w.heap.size + 2 < i ∧ i ≠ g1 ∧ i ≠ g2 := fun i hi => by
    have e : (Value.slice A n c).ownBlock = some i := by simpa using hi
    have z := own_far hU.own i hi
    have z0 : i ≠ w.heap.size := fun q => own_ne_blk hU.own hU.res (by decide) (by rw [e, q])
    have z1 : i ≠ w.heap.size + 1 := fun q => own_ne_blk hU.own hU.err (by decide) (by rw [e, q])
    have z2 : i ≠ w.heap.size + 2 := fun q => own_ne_blk hU.own hbl (by decide) (by rw [e, q])
    refine ⟨by omega, fun q => ?_, fun q => ?_⟩
    · obtain ⟨f, hf, _⟩ := hm1
      exact hf.ne_own hU.own (by rw [e, q])
    · obtain ⟨f, hf, _⟩ := hm2
      exact hf.ne_own hU.own (by rw [e, q])
  have hr4 := hU.res.keep hk4 (fun q => by have := (hno _ q).1; omega)
  have he4 := hU.err.keep hk4 (fun q => by have := (hno _ q).1; omega)
  have hl4 := hU.left.keep hk4 (fun i hi => (hno i hi).1)
  have hm1' := hm1.keep hk4 (fun q => (hno _ q).2.1 rfl)
  have hm2' := hm2.keep hk4 (fun q => (hno _ q).2.2 rfl)
  have hkp4 := hU.kp.step hk4 (fun i hi => .inr (by have := (hno i hi).1; omega))
  have ks : Keep [w.heap.size] w4 (w4.setCell ⟨w.heap.size, 0, none⟩ (.slice A' (n + 1) c')) := (Keep.refl _ _).setCell (.inl (by simp)) _
  refine ⟨A', c', w4, hrun, hU.res.cell 0, (hU.res.alloc _).cell 0, hr4.cell 0, hr4.free 0, ⟨⟨?_, he4.keep ks (by simp), ownsRow_keep hown ks (fun g hg hm => ?_), hl4.keep_blk hr4 ks (by simp), hkp4.step ks (fun i hi => .inr (by simp at hi; omega))⟩, hm1'.keep ks (by simp; omega), hm2'.keep ks (by simp; omega), f1, f2⟩⟩
  · have := hr4.set_ 0 (.slice A' (n + 1) c')
    simpa using this
  · simp at hm
    subst hm
    exact own_ne_blk hown hr4 (by decide) hg
def UpQ (Q : Exit → Act → World → Prop) (R : World → Prop) (d0 : List Deferred) (t2 t3 : Value) : Exit → Act → World → Prop
  | .panic c, a, w => c = PN ∧ R w ∧ a.defers = d0 ∧ a.tmps[2]? = some t2 ∧ a.tmps[3]? = some t3
  | e, a, w => Q e a w
theorem UpQ.put {Q : Exit → Act → World → Prop} {R : World → Prop} {d0 : List Deferred} {t2 t3 v : Value} {c : List PanicEntry} {a : Act} {d : Tmp} {w : World} (hd : 3 < d) (h : UpQ Q R d0 t2 t3 (.panic c) (a.put (some d) v) w) : UpQ Q R d0 t2 t3 (.panic c) a w := by
  obtain ⟨h1, h2, h3, h4, h5⟩ := h
  have e2 : d ≠ 2 := fun e => by subst e; exact absurd hd (by decide)
  have e3 : d ≠ 3 := fun e => by subst e; exact absurd hd (by decide)
  refine ⟨h1, h2, h3, ?_, ?_⟩
  · rw [← h4]
    simp [Act.put, Array.getElem?_setIfInBounds, e2]
  · rw [← h5]
    simp [Act.put, Array.getElem?_setIfInBounds, e3]
theorem wp_upq {P : Program} {id : Nat} {ops : Array Oper} {b : Bool} {Q : Exit → Act → World → Prop} {a : Act} {w : World} {R : World → Prop} {d0 : List Deferred} {t2 t3 : Value}
    (h1 : ∀ a w, R w → a.defers = d0 → a.tmps[2]? = some t2 → a.tmps[3]? = some t3 → Q (.panic PN) a w) (h : (Code.region id ops b).wp P (UpQ Q R d0 t2 t3) a w) : (Code.region id ops b).wp P Q a w := by
  refine Code.wp_mono (fun e a w h => ?_) h
  cases e with
  | panic c =>
    obtain ⟨rfl, h2, h3, h4, h5⟩ := h
    exact h1 a w h2 h3 h4 h5
  | _ => exact h
end Go.Proofs.YtdnaahbhfjclpaaGreatDoor

namespace Go.Proofs.YtdnaahbhfjclpaaGreatDoor
open Go.RowKit Go.Sal Go.Huf Go.Cod
def bdT (t : Tk) : Prop := (-9223372036854775808 ≤ t.1 ∧ t.1 ≤ 9223372036854775807) ∧ (-9223372036854775808 ≤ t.2.1 ∧ t.2.1 ≤ 9223372036854775807) ∧ t.2.2 < 256
theorem tokR_bd {la lb : List Int} {b : List Nat} {at_ a2 : Nat} {t : Tk} (h : tokR la lb b at_ = some (t, a2)) (hla : la.length ≤ 512) (hlb : lb.length ≤ 32) : bdT t := by
  unfold tokR at h
  cases h1 : one la b at_ with
  | none => rw [h1] at h; simp at h
  | some p =>
    obtain ⟨s, k⟩ := p
    have q1 := one_spec h1
    rw [h1] at h
    simp only at h
    split at h
    · simp only [Option.some.injEq, Prod.mk.injEq] at h
      obtain ⟨rfl, rfl⟩ := h
      refine ⟨by simp, by simp, by assumption⟩
    · cases h2 : one lb b (at_ + k) with
      | none => rw [h2] at h; simp at h
      | some p2 =>
        obtain ⟨x, k2⟩ := p2
        have q2 := one_spec h2
        rw [h2] at h
        simp only at h
        split at h
        · simp at h
        · simp only [Option.some.injEq, Prod.mk.injEq] at h
          obtain ⟨rfl, rfl⟩ := h
          have h3 := vAt_lt b (at_ + k + k2) x
          have h4 : 2 ^ (x + 1) ≤ 2 ^ 33 := Nat.pow_le_pow_right (by omega) (by omega)
          refine ⟨⟨by simp only; omega, by simp only; omega⟩, ⟨by simp only; omega, by simp only; omega⟩, by simp⟩
theorem tsrc_own {w : World} {base n c : Nat} {A : Option Addr} {l : List Tk} (h : w.ownsRow base 143 3 (.slice A n c) n (tksC l)) (hn : l.length = n) (hb : ∀ t ∈ l, bdT t) : TSrc w A l := by
  refine ⟨fun i hi => ?_, hb⟩
  obtain ⟨g, rfl, hg, _⟩ := own_some h (by omega)
  have hc : ∀ j, j < 3 → ∀ u, (tcells l[i])[j]? = some u → w.cell? ⟨g, i * 3 + j, none⟩ = some u := fun j hj u hu => (ownsRow_cell h (j := i * 3 + j) (by
    unfold tksC
    rw [rf_get (f := tcells) (size := 3) (fun x => rfl) l i j hi hj]
    exact hu)).1
  refine ⟨g, 0, rfl, hg, ?_, ?_, ?_⟩
  · have := hc 0 (by omega) _ rfl
    simpa using this
  · have := hc 1 (by omega) _ rfl
    simpa using this
  · have := hc 2 (by omega) _ rfl
    simpa using this
end Go.Proofs.YtdnaahbhfjclpaaGreatDoor

namespace Go.Cod
open Go.Huf
theorem varF_lt : ∀ (f x : Nat), x < 128 ^ (f + 1) → ∀ y ∈ varF f x, y < 256
  | 0, x, h, y, hy => by
    simp [varF] at hy
    simp at h
    omega
  | f + 1, x, h, y, hy => by
    rw [varF] at hy
    split at hy
    · simp at hy; omega
    · rcases List.mem_cons.1 hy with rfl | hy
      · omega
      · exact varF_lt f (x / 128) (by rw [Nat.div_lt_iff_lt_mul (by omega)]; rw [Nat.pow_succ] at h; exact h) y hy
theorem varP_lt {x : Nat} (h : x < 128 ^ 10) : ∀ y ∈ varP x, y < 256 := varF_lt 9 x h
theorem runF_lt : ∀ (f : Nat) (l : List Int), l.length ≤ 1000 → (∀ x ∈ l, 0 ≤ x ∧ x ≤ 255) → ∀ y ∈ runF f l, y < 256
  | 0, l, _, _, y, hy => by simp [runF] at hy
  | f + 1, [], _, _, y, hy => by simp [runF] at hy
  | f + 1, x :: l, hl, hg, y, hy => by
    rw [runF] at hy
    have hr := runK_le x l
    simp at hl
    rcases List.mem_cons.1 hy with rfl | hy
    · have := hg x (by simp); omega
    · rcases List.mem_append.1 hy with hy | hy
      · exact varP_lt (by omega) y hy
      · exact runF_lt f _ (by rw [List.length_drop]; omega) (fun z hz => hg z (List.mem_cons_of_mem _ (List.mem_of_mem_drop hz))) y hy
theorem runsP_lt {l : List Int} (hl : l.length ≤ 1000) (hg : ∀ x ∈ l, 0 ≤ x ∧ x ≤ 255) : ∀ y ∈ runsP l, y < 256 := runF_lt _ _ hl hg
end Go.Cod
namespace Go.Proofs.YtdnaahbhfjclpaaGreatDoor
open Go.RowKit Go.Sal Go.Huf Go.Cod
theorem bytesIn_of {w : World} {A : Option Addr} {l : List Nat} (h : BySrc w A l) : Lib.BytesIn w A l.length (l.map fun (x : Nat) => (x : Int)) := by
  cases l with
  | nil => exact Lib.BytesIn.nil _ _ _
  | cons x l =>
    obtain ⟨g, o, rfl, _, _⟩ := h.1 0 (by simp)
    refine Lib.BytesIn.of_cells (fun i hi => ?_)
    obtain ⟨g', o', e, _, hc⟩ := h.1 i hi
    injection e with e
    injection e with e1 e2
    subst e1; subst e2
    rw [add_mk, hc, List.getD_eq_getElem?_getD, List.getElem?_map, List.getElem?_eq_getElem hi]
    rfl
theorem bytesOf_back {l : List Nat} (h : ∀ x ∈ l, x < 256) : (Lib.bytesOf (l.map fun (x : Nat) => (x : Int))).map (fun b => b.toNat) = l := by
  unfold Lib.bytesOf
  rw [List.map_map, List.map_map]
  conv => rhs; rw [← List.map_id l]
  apply List.map_congr_left
  intro x hx
  have := h x hx
  simp
  omega
theorem equal_any (l1 l2 : List Nat) (A1 A2 : Option Addr) (c1 c2 : Nat) (w : World) (h1 : BySrc w A1 l1) (h2 : BySrc w A2 l2) :
    Calls Tryz.prog 93 #[.slice A1 l1.length c1, .slice A2 l2.length c2] w fun e w' => e = .returned (.bool (decide (l1 = l2))) ∧ w' = w := by
  refine (Tryz.bytes_Equal_all A1 A2 l1.length c1 l2.length c2 _ _ w (by simp) (by simp) (bytesIn_of h1) (bytesIn_of h2)).mono ?_
  rintro e w' ⟨rfl, rfl⟩
  refine ⟨?_, rfl⟩
  congr 2
  by_cases he : l1 = l2
  · subst he; simp
  · have : ¬ Lib.bytesOf (l1.map fun (x : Nat) => (x : Int)) = Lib.bytesOf (l2.map fun (x : Nat) => (x : Int)) := fun q => he (by
      rw [← bytesOf_back h1.2, ← bytesOf_back h2.2, q])
    simp [he, this]
theorem packR_lt {l : List Tk} (hl : l.length ≤ 20000) : ∀ y ∈ packR l, y < 256 := by
  intro y hy
  unfold packR at hy
  split at hy
  · unfold packP hdP at hy
    have ha := lenA_ok (l := l) (by omega)
    have hd := lenD_ok (l := l) (by omega)
    rcases List.mem_append.1 hy with hy | hy
    · rcases List.mem_append.1 hy with hy | hy
      · rcases List.mem_append.1 hy with hy | hy
        · exact runsP_lt (by omega) (good_255 ha.1) y hy
        · exact runsP_lt (by omega) (good_255 hd.1) y hy
      · exact varP_lt (by omega) y hy
    · exact pack_lt y hy
  · simp at hy
theorem UpS.done {w w1 : World} {bl bl0 : List Nat} {bit : Nat} {tl : List Tk} {A : Option Addr} {n c : Nat} (h : UpS w bl bit tl A n c w1) {T : Array Value} (h2 : T[2]? = some (.pointer (some ⟨w.heap.size, 0, none⟩))) (h3 : T[3]? = some (.pointer (some ⟨w.heap.size + 1, 0, none⟩))) (hn : tl.length = n) (hT : unpT bl0 = tl) (hE : unpE bl0 = 0) :
    bodyPostD Tryz.prog Tryz.f57 (fun e w' => RowT w (unpT bl0) (unpE bl0) e w') .ret { tmps := T, defers := [{ target := .fn (.func 89) #[.pointer (some ⟨w.heap.size, 0, none⟩), .pointer (some ⟨w.heap.size + 1, 0, none⟩)], args := #[] }] } ((w1.setCell ⟨w.heap.size, 0, none⟩ (.slice A n c)).setCell ⟨w.heap.size + 1, 0, none⟩ (.int .i64 0)) := by
  refine leaves_cons (f := 89) (args := #[.pointer (some ⟨w.heap.size, 0, none⟩), .pointer (some ⟨w.heap.size + 1, 0, none⟩)]) (by simp) (by simp [go_sem]) ?_
  refine (catch_idle _ _ _).mono ?_
  rintro e u' w'' ⟨rfl, rfl, rfl⟩
  have k1 : Keep [w.heap.size] w1 (w1.setCell ⟨w.heap.size, 0, none⟩ (.slice A n c)) := (Keep.refl _ _).setCell (.inl (by simp)) _
  have k2 : Keep [w.heap.size + 1] (w1.setCell ⟨w.heap.size, 0, none⟩ (.slice A n c)) ((w1.setCell ⟨w.heap.size, 0, none⟩ (.slice A n c)).setCell ⟨w.heap.size + 1, 0, none⟩ (.int .i64 0)) := (Keep.refl _ _).setCell (.inl (by simp)) _
  have b1 := (h.res.set_ 0 (.slice A n c)).keep k2 (by simp)
  have b2 := (h.err.keep k1 (by simp)).set_ 0 (.int .i64 0)
  have hown := ownsRow_keep (ownsRow_keep h.own k1 (fun g hg hm => by
    simp at hm
    subst hm
    exact own_ne_blk h.own h.res (by decide) hg)) k2 (fun g hg hm => by
    simp at hm
    subst hm
    exact own_ne_blk h.own h.err (by decide) hg)
  have kk := (h.kp.step k1 (fun i hi => .inr (by simp at hi; omega))).step k2 (fun i hi => .inr (by simp at hi; omega))
  have c1 := b1.cell 0
  have c2 := b2.cell 0
  simp at c1 c2
  generalize ((w1.setCell ⟨w.heap.size, 0, none⟩ (.slice A n c)).setCell ⟨w.heap.size + 1, 0, none⟩ (.int .i64 0)) = W2 at *
  rw [hT, hE]
  simp [Leaves, settle, results, Tryz.results57, go_sem, h2, h3, c1, c2]
  rw [← hn] at hown
  exact ⟨A, c, by rw [hn], hown, kk⟩
end Go.Proofs.YtdnaahbhfjclpaaGreatDoor

namespace Go.Cod
open Go.Huf
def encP (b : List Nat) : List Nat := if (packR (tokP b)).length < b.length then 1 :: (varP b.length ++ packR (tokP b)) else 0 :: (varP b.length ++ b)
def headP : List Nat → Option (Nat × Bool × List Nat)
  | [] => none
  | x :: b1 => if x ≤ 1 then (match rdV 0 b1 with
    | none => none
    | some (n, u) => if n ≤ 65536 then some (n, decide (x = 1), b1.drop u) else none) else none
def decP (b : List Nat) : Option (List Nat) := match headP b with
  | none => none
  | some (n, p, r) => if p then (if unpE r = 0 then (match bytP (unpT r) with
    | none => none
    | some q => if q.length = n then some q else none) else none) else if r.length = n then some r else none
theorem varP_len3 {x : Nat} (h : x < 2097152) : (varP x).length ≤ 3 := by
  unfold varP
  rw [varF]
  split
  · simp
  · rw [varF]
    split
    · simp
    · rw [varF, if_pos (by omega)]
      simp
theorem enc_len {b : List Nat} (h : b.length ≤ 65536) : (encP b).length ≤ b.length + 4 := by
  have := varP_len3 (x := b.length) (by omega)
  unfold encP
  split
  · simp; omega
  · simp; omega
theorem rd_varF : ∀ (f i x : Nat) (r : List Nat), i + f = 9 → x < 128 ^ f → (0 < i → 0 < x) → rdV i (varF f x ++ r) = some (x, (varF f x).length)
  | 0, i, x, r, hi, hx, h0 => by
    simp at hx
    have := h0 (by omega)
    omega
  | f + 1, i, x, r, hi, hx, h0 => by
    rw [varF]
    by_cases h : x < 128
    · rw [if_pos h, List.cons_append, List.nil_append, rdV, if_neg (by omega), if_pos h]
      rfl
    · rw [if_neg h, List.cons_append, rdV, if_neg (by omega), if_neg (by omega), rd_varF f (i + 1) (x / 128) r (by omega) (by rw [Nat.div_lt_iff_lt_mul (by omega)]; rw [Nat.pow_succ] at hx; exact hx) (fun _ => by omega)]
      simp
      omega
theorem rd_var {x : Nat} (h : x < 128 ^ 9) (r : List Nat) : rdV 0 (varP x ++ r) = some (x, (varP x).length) := rd_varF 9 0 x r rfl h (by omega)
end Go.Cod

namespace Go.Cod
open Go.Huf
theorem runK_rep (x : Int) : ∀ l : List Int, l = List.replicate (runK x l) x ++ l.drop (runK x l)
  | [] => by simp [runK]
  | a :: l => by
    have ih := runK_rep x l
    by_cases h : a = x
    · subst h
      have e : runK a (a :: l) = runK a l + 1 := by simp [runK, List.takeWhile_cons]
      rw [e, List.replicate_succ, List.drop_succ_cons, List.cons_append, ← ih]
    · have e : runK x (a :: l) = 0 := by simp [runK, List.takeWhile_cons, h]
      rw [e]; simp
theorem lenF_runs : ∀ (m f n : Nat) (out l : List Int) (r : List Nat), l.length ≤ m → l.length < f → out.length + l.length = n → n ≤ 1000 → (∀ x ∈ l, 0 ≤ x ∧ x ≤ 255) → okL (out ++ l) → lenF f n out (runsP l ++ r) = some (out ++ l, r)
  | m, 0, n, out, l, r, _, hf, _, _, _, _ => by omega
  | m, f + 1, n, out, [], r, _, _, hn, _, _, hok => by
    unfold lenF
    simp at hn hok
    rw [if_neg (by omega), if_pos hok]
    simp [runsP, runF]
  | 0, f + 1, n, out, x :: l, r, hm, _, _, _, _, _ => by simp at hm
  | m + 1, f + 1, n, out, x :: l, r, hm, hf, hn, h1, hg, hok => by
    have hr := runK_le x l
    have hx := hg x (by simp)
    simp at hm hf hn
    rw [runs_cons]
    unfold lenF
    rw [if_pos (by omega)]
    simp only [List.cons_append, List.append_assoc]
    rw [rd_var (by omega)]
    simp only
    rw [if_neg (by omega), List.drop_left]
    have e : out ++ List.replicate (runK x l + 1) ((x.toNat : Nat) : Int) ++ l.drop (runK x l) = out ++ x :: l := by
      have hxt : ((x.toNat : Nat) : Int) = x := by omega
      rw [hxt, List.append_assoc, List.replicate_succ, List.cons_append, ← runK_rep x l]
    rw [← e]
    refine lenF_runs m f n _ _ r (by rw [List.length_drop]; omega) (by rw [List.length_drop]; omega) (by rw [List.length_append, List.length_replicate, List.length_drop]; omega) h1 (fun y hy => hg y (List.mem_cons_of_mem _ (List.mem_of_mem_drop hy))) (by rw [e]; exact hok)
theorem lenP_runs {n : Nat} {l : List Int} (hl : l.length = n) (hn : n ≤ 1000) (hok : okL l) (hg : ∀ x ∈ l, 0 ≤ x ∧ x ≤ 255) (r : List Nat) : lenP n (runsP l ++ r) = some (l, r) := by
  unfold lenP
  have := lenF_runs l.length (n + 1) n [] l r (Nat.le_refl _) (by omega) (by simpa using hl) hn hg (by simpa using hok)
  simpa using this
end Go.Cod

namespace Go.Cod
open Go.Huf
theorem one_at {ls : List Int} (hok : okL ls) {s : Nat} (hs : s < ls.length) (hp : 0 < ln ls s) (pre post : List Bool) :
    one ls (pack (pre ++ (symBits ls (s : Int) ++ post))) pre.length = some (s, (symBits ls (s : Int)).length) := by
  have hg := ln_good hok.2.1 s
  obtain ⟨m, hm⟩ : ∃ m : Nat, ln ls s = m := ⟨(ln ls s).toNat, by omega⟩
  have hsl : symBits ls (s : Int) = bitsK (codeV ls s) m := by
    unfold symBits
    rw [Int.toNat_natCast, hm, Int.toNat_natCast]
  have hlen : (pre ++ (bitsK (codeV ls s) m ++ post)).length = pre.length + m + post.length := by
    rw [List.length_append, List.length_append, bitsK_len]; omega
  rw [hsl, bitsK_len]
  refine oneF_run hok hs hm (by omega) ?_ (fun j hj => ?_) 15 1 (by omega) (by omega) (by omega)
  · rw [pack_len, hlen]; omega
  · have := bit_pack (pre ++ (bitsK (codeV ls s) m ++ post)) [] (i := pre.length + j) (by omega)
    rw [List.append_nil] at this
    rw [this]
    congr 1
    rw [List.getD_eq_getElem?_getD, List.getElem?_append_right (by omega), Nat.add_sub_cancel_left, List.getElem?_append_left (by rw [bitsK_len]; exact hj)]
    simp [bitsK, hj]
theorem vAt_code {b : List Nat} {c x at_ : Nat} (hc : c / 2 ^ x = 1) (h : ∀ j, j < x → bitB b (at_ + j) = b2n (bitAt c x j)) : ∀ n, n ≤ x → vAt b at_ n = c / 2 ^ (x - n)
  | 0, _ => by rw [vAt, Nat.sub_zero, hc]
  | n + 1, hn => by
    rw [vAt, vAt_code hc h n (by omega), h n (by omega), b2n_bit]
    obtain ⟨d, hd⟩ : ∃ d, x - n = d + 1 := ⟨x - n - 1, by omega⟩
    rw [hd, show x - (n + 1) = d by omega, show x - 1 - n = d by omega, Nat.pow_succ, ← Nat.div_div_eq_div_mul]
    omega
theorem vAt_at {c x : Nat} (hc : c / 2 ^ x = 1) (pre post : List Bool) : vAt (pack (pre ++ (bitsK c x ++ post))) pre.length x = c := by
  have hlen : (pre ++ (bitsK c x ++ post)).length = pre.length + x + post.length := by
    rw [List.length_append, List.length_append, bitsK_len]; omega
  rw [vAt_code hc (fun j hj => ?_) x (Nat.le_refl _), Nat.sub_self, Nat.pow_zero, Nat.div_one]
  have := bit_pack (pre ++ (bitsK c x ++ post)) [] (i := pre.length + j) (by omega)
  rw [List.append_nil] at this
  rw [this]
  congr 1
  rw [List.getD_eq_getElem?_getD, List.getElem?_append_right (by omega), Nat.add_sub_cancel_left, List.getElem?_append_left (by rw [bitsK_len]; exact hj)]
  simp [bitsK, hj]
end Go.Cod

namespace Go.Cod
open Go.Huf
theorem log2_one {c : Nat} (h : c ≠ 0) : c / 2 ^ c.log2 = 1 := by
  have h1 := Nat.log2_self_le h
  have h2 := Nat.lt_log2_self (n := c)
  rw [Nat.pow_succ] at h2
  have hp : 0 < 2 ^ c.log2 := Nat.pos_of_ne_zero (by simp)
  apply Nat.le_antisymm
  · exact Nat.le_of_lt_succ ((Nat.div_lt_iff_lt_mul hp).2 (by omega))
  · exact (Nat.le_div_iff_mul_le hp).2 (by omega)
theorem tokR_at {la lb : List Int} (ha : okL la) (hb : okL lb) {t : Tk} (ht : okT t = true) (hl : t.2.2 < 256) (h1 : symT t < la.length) (h2 : 0 < ln la (symT t)) (h3 : 0 < t.1 → dsT t < lb.length ∧ 0 < ln lb (dsT t)) (pre post : List Bool) :
    tokR la lb (pack (pre ++ (tokBits la lb t ++ post))) pre.length = some (t, pre.length + (tokBits la lb t).length) := by
  by_cases hd : 0 < t.1
  · obtain ⟨d1, d2⟩ := h3 hd
    have hk := okT_cases ht
    have e0 : tokBits la lb t = symBits la (symT t) ++ (symBits lb (dsT t) ++ bitsK t.1.toNat (dsT t)) := by unfold tokBits; rw [if_pos hd]
    have o1 := one_at ha h1 h2 pre (symBits lb (dsT t) ++ (bitsK t.1.toNat (dsT t) ++ post))
    have o2 := one_at hb d1 d2 (pre ++ symBits la (symT t)) (bitsK t.1.toNat (dsT t) ++ post)
    have o3 := vAt_at (c := t.1.toNat) (x := dsT t) (log2_one (by omega)) (pre ++ symBits la (symT t) ++ symBits lb (dsT t)) post
    have hs : symT t = (252 + t.2.1).toNat := by unfold symT; rw [if_neg (by omega)]
    rw [e0]
    simp only [List.append_assoc] at o1 o2 o3 ⊢
    simp only [List.length_append] at o1 o2 o3 ⊢
    unfold tokR
    rw [o1]
    simp only
    rw [if_neg (by omega), o2]
    simp only
    rw [if_neg ?_]
    · rw [← Nat.add_assoc] at o3
      rw [o3, bitsK_len]
      congr 1
      refine Prod.ext (Prod.ext ?_ (Prod.ext ?_ ?_)) ?_
      · simp only; omega
      · simp only; rw [hs]; omega
      · simp only; omega
      · simp only; omega
    · rw [pack_len]
      simp only [List.length_append, bitsK_len]
      omega
  · have hk := okT_cases ht
    have e0 : tokBits la lb t = symBits la (symT t) := by unfold tokBits; rw [if_neg hd, List.append_nil]
    have hs : symT t = t.2.2 := by unfold symT; rw [if_pos (by omega)]
    rw [e0]
    unfold tokR
    rw [one_at ha h1 h2 pre post]
    simp only
    rw [if_pos (by omega)]
    congr 1
    refine Prod.ext (Prod.ext ?_ (Prod.ext ?_ ?_)) rfl
    · simp only; omega
    · simp only; omega
    · simp only; omega
theorem toksF_at {la lb : List Int} (ha : okL la) (hb : okL lb) : ∀ (l : List Tk) (pre post : List Bool), (∀ t ∈ l, okT t = true ∧ t.2.2 < 256 ∧ symT t < la.length ∧ 0 < ln la (symT t) ∧ (0 < t.1 → dsT t < lb.length ∧ 0 < ln lb (dsT t))) →
    toksF la lb (pack (pre ++ (tokB la lb l ++ post))) l.length pre.length = some l
  | [], pre, post, _ => rfl
  | t :: l, pre, post, h => by
    obtain ⟨q1, q2, q3, q4, q5⟩ := h t (by simp)
    have e : tokB la lb (t :: l) = tokBits la lb t ++ tokB la lb l := by simp [tokB]
    have o1 := tokR_at ha hb q1 q2 q3 q4 q5 pre (tokB la lb l ++ post)
    have o2 := toksF_at ha hb l (pre ++ tokBits la lb t) post (fun u hu => h u (List.mem_cons_of_mem _ hu))
    simp only [List.append_assoc, List.length_append] at o2
    rw [e, List.append_assoc, List.length_cons, toksF, o1]
    simp only
    rw [o2]
    rfl
end Go.Cod

namespace Go.Cod
open Go.Huf
theorem cnt_pos {p : Tk → Nat → Bool} {n s : Nat} {l : List Tk} {t : Tk} (hs : s < n) (ht : t ∈ l) (hp : p t s = true) : (cntG p n l).getD s 0 ≠ 0 := by
  have h : s < (cntG p n l).length := by rw [cntG_len]; exact hs
  rw [List.getD_eq_getElem?_getD, List.getElem?_eq_getElem h, Option.getD_some, cntG_get h]
  have : 0 < l.countP fun t => p t s := List.countP_pos_iff.2 ⟨t, ht, hp⟩
  omega
theorem readP_back {l : List Tk} (hl : l.length ≤ 20000) (hs : sizeE l = 0) (hlit : litOk l) : readP (packP l) = some l := by
  have hall : l.all okT = true := by
    unfold sizeE at hs
    split at hs
    · assumption
    · cases hs
  obtain ⟨a1, a2, a3⟩ := lenA_ok (l := l) (by omega)
  obtain ⟨d1, d2, d3⟩ := lenD_ok (l := l) (by omega)
  have hg : ∀ ls : List Int, okL ls → ∀ x ∈ ls, 0 ≤ x ∧ x ≤ 255 := fun ls h => good_255 h
  have ht : ∀ t ∈ l, okT t = true ∧ t.2.2 < 256 ∧ symT t < (lenA l).length ∧ 0 < ln (lenA l) (symT t) ∧ (0 < t.1 → dsT t < (lenD l).length ∧ 0 < ln (lenD l) (dsT t)) := fun t hm => by
    have h1 : okT t = true := List.all_eq_true.1 hall t hm
    have h2 := hlit t hm
    have h3 := symT_lt h1 h2
    refine ⟨h1, h2, by omega, ?_, fun hd => ?_⟩
    · have q := ln_good a1.2.1 (symT t)
      have z : (lenA l).getD (symT t) 0 ≠ 0 := fun e => cnt_pos (p := fun t s => decide (symT t = s)) h3 hm (by simp) ((a3 _ h3).1 e)
      have e : ln (lenA l) (symT t) = (lenA l).getD (symT t) 0 := rfl
      omega
    · have h4 := (dsT_lt h1 hd).1
      have q := ln_good d1.2.1 (dsT t)
      have z : (lenD l).getD (dsT t) 0 ≠ 0 := fun e => cnt_pos (p := fun t s => decide (0 < t.1) && decide (dsT t = s)) h4 hm (by simp [hd]) ((d3 _ h4).1 e)
      have e : ln (lenD l) (dsT t) = (lenD l).getD (dsT t) 0 := rfl
      exact ⟨by omega, by omega⟩
  unfold readP packP hdP
  simp only [List.append_assoc]
  rw [lenP_runs a2 (by omega) a1 (hg _ a1)]
  simp only
  rw [lenP_runs d2 (by omega) d1 (hg _ d1)]
  simp only
  rw [rd_var (by omega)]
  simp only
  rw [if_neg (by omega), List.drop_left]
  have := toksF_at a1 d1 l [] [] ht
  simpa using this
theorem unp_back {l : List Tk} (hl : l.length ≤ 20000) (hs : sizeE l = 0) (hlit : litOk l) (hp : (packP l).length ≤ 262144) : unpT (packP l) = l ∧ unpE (packP l) = 0 := by
  have h := readP_back hl hs hlit
  refine ⟨?_, ?_⟩
  · unfold unpT
    rw [h]
    simp only
    rw [if_pos ⟨hp, hs, trivial⟩]
  · unfold unpE
    rw [if_neg (by omega), h]
    simp only
    rw [if_pos ⟨hs, trivial⟩]
theorem unp_one {b : List Nat} (h : unpE b = 0) : sizeE (unpT b) = 0 ∧ packP (unpT b) = b ∧ b.length ≤ 262144 := by
  unfold unpE at h
  split at h
  · cases h
  · cases hr : readP b with
    | none => rw [hr] at h; cases h
    | some l =>
      rw [hr] at h
      simp only at h
      split at h
      · rename_i h1 h2
        unfold unpT
        rw [hr]
        simp only
        rw [if_pos ⟨by omega, h2⟩]
        exact ⟨h2.1, h2.2, by omega⟩
      · cases h
end Go.Cod

namespace Go.Cod
open Go.Huf
theorem dec_back {b : List Nat} (hb : ∀ x ∈ b, x < 256) (hl : b.length ≤ 20000) : decP (encP b) = some b := by
  obtain ⟨hs, hlit⟩ := tok_size hb (by omega)
  have ht : (tokP b).length ≤ 20000 := Nat.le_trans (tok_len b.length 0) hl
  have hpk : packR (tokP b) = packP (tokP b) := by unfold packR; rw [if_pos hs]
  unfold encP
  split
  · rename_i hlt
    rw [hpk] at hlt ⊢
    obtain ⟨u1, u2⟩ := unp_back ht hs hlit (by omega)
    unfold decP headP
    simp only
    rw [if_pos (by omega), rd_var (by omega)]
    simp only
    rw [if_pos (by omega), List.drop_left]
    simp [u1, u2, byt_back (b := b) (by omega)]
  · unfold decP headP
    simp only
    rw [if_pos (by omega), rd_var (by omega)]
    simp only
    rw [if_pos (by omega), List.drop_left]
    simp
end Go.Cod

namespace Go.Cod
open Go.Huf
theorem runsP_ge {l : List Int} (h : 0 < l.length) : 2 ≤ (runsP l).length := by
  cases l with
  | nil => simp at h
  | cons x l =>
    unfold runsP
    rw [List.length_cons, runF]
    have hv : 1 ≤ (varP (runK x l + 1)).length := by
      unfold varP
      rw [varF]
      split <;> simp
    simp
    omega
theorem pack_ge (l : List Tk) (hl : l.length ≤ 16000) : 2 ≤ (packP l).length := by
  have := runsP_ge (l := lenA l) (by rw [(lenA_ok (l := l) (by omega)).2.1]; omega)
  unfold packP hdP
  simp only [List.length_append]
  omega
end Go.Cod

namespace Go.Cod
open Go.Huf
theorem enc_lt {b : List Nat} (hb : ∀ x ∈ b, x < 256) (hl : b.length ≤ 20000) : ∀ y ∈ encP b, y < 256 := by
  intro y hy
  have h1 : (tokP b).length ≤ b.length := tok_len _ 0
  unfold encP at hy
  split at hy
  · rcases List.mem_cons.1 hy with rfl | hy
    · omega
    · rcases List.mem_append.1 hy with hy | hy
      · exact varP_lt (by omega) y hy
      · exact Go.Proofs.YtdnaahbhfjclpaaGreatDoor.packR_lt (by omega) y hy
  · rcases List.mem_cons.1 hy with rfl | hy
    · omega
    · rcases List.mem_append.1 hy with hy | hy
      · exact varP_lt (by omega) y hy
      · exact hb y hy
end Go.Cod
namespace Go.Proofs.YtdnaahbhfjclpaaGreatDoor
open Go.RowKit Go.Sal Go.Huf Go.Cod
def strN (l : List Nat) : ByteArray := ⟨(l.map UInt8.ofNat).toArray⟩
theorem conv0 (a : Addr) (c : Nat) (w : World) : (convert 22 9 (.slice (some a) 0 c)).run Tryz.prog w = .ok (.string ⟨#[]⟩) w := by
  have hl : (loadCells a 0).run Tryz.prog w = .ok (([] : List Int).map (Value.int .u8)).toArray w := by
    have := run_loadCells_list (P := Tryz.prog) w a (([] : List Int).map (Value.int .u8)) (fun j v hj => by simp at hj)
    simpa using this
  have h1 := run_convert_bytes_string (P := Tryz.prog) w 22 9 5 (some a) 0 c Tryz.underlying22 Tryz.underlying5 Tryz.underlying9
  have h2 := run_bytesToString (P := Tryz.prog) w a 0 c [] hl
  exact h1.trans (h2.trans rfl)
theorem str_src {w : World} {A : Option Addr} {l : List Nat} (h : BySrc w A l) (c : Nat) : (convert 22 9 (.slice A l.length c)).run Tryz.prog w = .ok (.string (strN l)) w := by
  cases A with
  | none =>
    have hz : l = [] := by
      cases l with
      | nil => rfl
      | cons x l =>
        obtain ⟨g, o, h, _⟩ := h.1 0 (by simp)
        cases h
    subst hz
    have := run_convert_bytes_nil w 22 5 Tryz.underlying22 Tryz.underlying5 0 c 9 Tryz.underlying9
    exact this
  | some a =>
    rcases Nat.eq_zero_or_pos l.length with h0 | h0
    · have hz : l = [] := List.eq_nil_of_length_eq_zero h0
      subst hz
      have e1 : strN [] = ⟨#[]⟩ := rfl
      rw [List.length_nil, e1]
      exact conv0 a c w
    · obtain ⟨g, o, e, _⟩ := h.1 0 h0
      obtain rfl := Option.some.inj e
      have := run_convert_bytes_arg w 22 5 Tryz.underlying22 Tryz.underlying5 g o l.length c (l.map fun (k : Nat) => (k : Int)) (by simp) (fun i hi => by
        obtain ⟨g', o', e, _, hc⟩ := h.1 i hi
        injection e with e
        injection e with e1 e2
        subst e1; subst e2
        rw [hc]
        simp [List.getD, hi]) 9 Tryz.underlying9
      rw [this]
      simp [strOfNums, strN, Function.comp_def]
def ZB (n : Nat) : Obj := .cells (madeCells #[.int .u8 0] (n * 1)) 5 (0, 0)
theorem mkb (N : Nat) (hN : N ≤ 1000000) (w : World) : (Instr.makeSlice 22 (.int .i64 (N : Nat)) (.int .i64 (N : Nat))).run Tryz.prog w = .ok (.slice (some ⟨w.heap.size, 0, none⟩) N N) (w.alloc (ZB N)) := by
  obtain ⟨i, hi, hz, hs, hby⟩ : ∃ i, Tryz.prog.info? 5 = some i ∧ i.zero = some (.int .u8 0) ∧ i.size = 1 ∧ i.bytes = 1 := by
    cases hx : Tryz.prog.info? 5 with
    | none => have := u8info; rw [hx] at this; cases this
    | some i =>
      have := u8info
      rw [hx] at this
      simp only [Option.map_some, Option.some.injEq, Prod.mk.injEq] at this
      exact ⟨i, rfl, this.1, this.2.1, this.2.2⟩
  have := run_make (P := Tryz.prog) w 22 5 i (.int .u8 0) Tryz.underlying22 hi hz .i64 .i64 (N : Int) (N : Int) (by omega) (by omega) (by rw [hby]; omega) (by omega)
  rw [this, hs]
  rfl
theorem own_blk_lt {w : World} {base size n c : Nat} {e : TypeId} {A : Option Addr} {xs : List Value} (h : w.ownsRow base e size (.slice A n c) n xs) : ∀ a, A = some a → a.block < w.heap.size := fun a ha => by
  subst ha
  exact (h.lt a.block rfl).2
theorem own_cap' {w : World} {base size n c : Nat} {e : TypeId} {A : Option Addr} {xs : List Value} (h : w.ownsRow base e size (.slice A n c) n xs) : n ≤ c := by
  rcases h.2 with ⟨h0, _⟩ | ⟨g, cap, cur, h0, _, _, h1, _⟩
  · injection h0 with _ h1 h2
    omega
  · injection h0 with _ _ h2
    omega
end Go.Proofs.YtdnaahbhfjclpaaGreatDoor

