/- A builder stays a builder where its block and the rows of its element's type lie as they lay. -/
import Derived.Test.YtopfbbnpbobhaaaDoorBld
import Derived.RangeFuncNested
set_option linter.unusedVariables false
namespace Go.Proofs.YtopfbbnpbobhaaaDoor
open Go.RowKit

theorem bldAt_kept {T e : TypeId} {B b : Nat} {p : Value} {bs : List Value} {W W' : World} (h : Lib.BuilderAtF T e B b p bs W)
    (hk : ∀ k c t f, W.heap[k]? = some (.cells c t f) → (t = e ∨ k = b) → W'.heap[k]? = W.heap[k]?) : Lib.BuilderAtF T e B b p bs W' := by
  obtain ⟨hB, v, hb, hown, hne⟩ := h
  refine ⟨hB, v, (hk b _ _ _ hb (.inr rfl)).trans hb, ⟨hown.1, ?_⟩, hne⟩
  rcases hown.2 with hn | ⟨g, cap, cur, fz, hv, hbg, hg, rest⟩
  · exact .inl hn
  · exact .inr ⟨g, cap, cur, fz, hv, hbg, (hk g _ _ _ hg (.inl rfl)).trans hg, rest⟩
theorem bld_kept {T e : TypeId} {B b : Nat} {bs : List Value} {W W' : World} (h : Lib.IsBuilderF T e B b bs W)
    (hk : ∀ k c t f, W.heap[k]? = some (.cells c t f) → (t = e ∨ k = b) → W'.heap[k]? = W.heap[k]?) : Lib.IsBuilderF T e B b bs W' :=
  h.elim (fun x => .inl (bldAt_kept x hk)) (fun x => .inr (bldAt_kept x hk))
theorem bld_grown {T e : TypeId} {B b : Nat} {bs : List Value} {W W' : World} {row : Option Nat} (h : Lib.IsBuilderF T e B b bs W) (hg : W.grownBy W' row)
    (hr : ∀ r, row = some r → ∃ o : Obj, W.heap[r]? = some o ∧ o.isCells = false) : Lib.IsBuilderF T e B b bs W' :=
  bld_kept h (fun k c t f hc _ => hg.block k (Array.getElem?_eq_some_iff.1 hc).1 (fun e1 => by
    obtain ⟨o, ho, hcl⟩ := hr k e1.symm
    rw [hc] at ho
    cases ho
    cases hcl))
theorem bld_set {T e : TypeId} {B b Bn : Nat} {bs : List Value} {W : World} (h : Lib.IsBuilderF T e B b bs W) {u : Value} {t : TypeId} (hB : Boxed W Bn t u) (ht : t ≠ e) (hb : Bn ≠ b) (v : Value) :
    Lib.IsBuilderF T e B b bs (W.setCell ⟨Bn, 0, none⟩ v) :=
  bld_kept h (fun k c t' f hc hor => Below.heap_setCell W ⟨Bn, 0, none⟩ v k (by
    rintro rfl
    rcases hor with h1 | h1
    · rw [show W.heap[k]? = _ from hB] at hc
      cases hc
      exact ht h1
    · exact hb h1))
end Go.Proofs.YtopfbbnpbobhaaaDoor
