/- A region that draws its order: S holds as long as none of F has come up; behind the first of F nothing is asked any more. An operation that yields its value in every world needs no S. -/
import Derived.Test.YtopfbbnpbobhaaaDoorReg
set_option linter.unusedVariables false
set_option linter.unusedSimpArgs false
namespace Go.Sal
def noneOf (listed : Array Bool) (F : List Nat) : Bool := F.all fun f => !listed.getD f true
section
variable {P : Program} {ops : Array Oper} {Q : Exit → Act → World → Prop} {md : Region.Mode} {S : World → Prop} {F : List Nat}
theorem noneOf_set {listed : Array Bool} {i : Nat} (h : noneOf (listed.setIfInBounds i true) F = true) : noneOf listed F = true := by
  simp only [noneOf, List.all_eq_true] at h ⊢
  intro f hf
  have h1 := h f hf
  by_cases hfi : i = f
  · subst hfi
    rcases Nat.lt_or_ge i listed.size with h2 | h2 <;> simp [h2] at h1
  · rw [getD_set_ne true hfi] at h1; exact h1
theorem noneOf_set' {listed : Array Bool} {i : Nat} (hi : i ∉ F) (h : noneOf listed F = true) : noneOf (listed.setIfInBounds i true) F = true := by
  simp only [noneOf, List.all_eq_true] at h ⊢
  intro f hf
  have h1 := h f hf
  rw [getD_set_ne true (show i ≠ f by rintro rfl; exact hi hf)]
  exact h1
def wpAnyG (P : Program) (md : Region.Mode) (ops : Array Oper) (Q : Exit → Act → World → Prop) (S : World → Prop) (F : List Nat) : Nat → Array Bool → Act → World → Prop
  | 0, listed, a, w => Region.ready md ops listed = [] ∧ Q .normal a w
  | fuel + 1, listed, a, w =>
    (Region.ready md ops listed = [] → Q .normal a w) ∧
    ∀ i ∈ Region.ready md ops listed, wpOp P ops Q i (fun a' w' => (noneOf (listed.setIfInBounds i true) F = true → S w') ∧ wpAnyG P md ops Q S F fuel (listed.setIfInBounds i true) a' w') a w
theorem wpAny_of_G : ∀ (fuel : Nat) (listed : Array Bool) (a : Act) (w : World), wpAnyG P md ops Q S F fuel listed a w → wpAny P md ops Q fuel listed a w
  | 0, _, _, _, h => h
  | fuel + 1, _, _, _, h => ⟨h.1, fun i hi => wpOp_mono (fun a' w' h' => wpAny_of_G fuel _ a' w' h'.2) (h.2 i hi)⟩
/-- while i has not come up, S0 holds wherever S holds as long as none of F has come up -/
theorem wpAnyG_first {i : Nat} {oi : Oper} {v : Value} {S0 : World → Prop} (hi : ops[i]? = some oi) (hiF : i ∉ F) (hsel : ∀ (j : Nat) (o : Oper) cs b, ops[j]? = some o → o.op ≠ .select cs b)
    (hQ : ∀ c a w, Q (.panic c) (a.put oi.dst v) w → Q (.panic c) a w) {U : List Nat} :
    ∀ (fuel : Nat) (listed : Array Bool) (a : Act) (w : World),
      ((∀ w, S0 w) ∨ ((∀ w, S w → S0 w) ∧ i ∈ U ∧ (∀ f ∈ F, f ∈ U) ∧ ∀ u ∈ U, listed.getD u true = false ∧ (u ≠ i → ∃ o, ops[u]? = some o ∧ ∃ e ∈ o.after, Region.binds md e = true ∧ e.on ∈ U))) →
      (∀ j oj, ops[j]? = some oj → j ≠ i → listed.getD j true = false → (∀ e ∈ oj.after, Region.binds md e = true → e.on ≠ i) → oi.apart ops oj = true) →
      i ∈ Region.ready md ops listed → YieldsE P ops S0 oi v a → (noneOf listed F = true → S w) →
      wpAnyG P md ops Q S F fuel (listed.setIfInBounds i true) (a.put oi.dst v) w → wpAnyG P md ops Q S F (fuel + 1) listed a w := by
  intro fuel
  have hS0 : ∀ (listed : Array Bool) (w : World), ((∀ w, S0 w) ∨ ((∀ w, S w → S0 w) ∧ i ∈ U ∧ (∀ f ∈ F, f ∈ U) ∧ ∀ u ∈ U, listed.getD u true = false ∧ (u ≠ i → ∃ o, ops[u]? = some o ∧ ∃ e ∈ o.after, Region.binds md e = true ∧ e.on ∈ U))) →
      (noneOf listed F = true → S w) → S0 w := by
    intro listed w h hS
    rcases h with h | ⟨h, _, h2, h3⟩
    · exact h w
    · refine h w (hS ?_)
      simp only [noneOf, List.all_eq_true]
      intro f hf
      rw [(h3 f (h2 f hf)).1]
      rfl
  induction fuel with
  | zero =>
    intro listed a w hU _ hr hy hS H
    refine ⟨fun h => (by rw [h] at hr; cases hr), fun j hj => ?_⟩
    by_cases hji : j = i
    · subst hji; exact hy.wpOp hi (hS0 _ _ hU hS) ⟨fun h => hS (noneOf_set h), H⟩
    · have := ready_mono hj hji
      rw [H.1] at this
      cases this
  | succ fuel ih =>
    intro listed a w hU hfree hr hy hS H
    refine ⟨fun h => (by rw [h] at hr; cases hr), fun j hj => ?_⟩
    by_cases hji : j = i
    · subst hji; exact hy.wpOp hi (hS0 _ _ hU hS) ⟨fun h => hS (noneOf_set h), H⟩
    · have h1 := H.2 j (ready_mono hj hji)
      obtain ⟨hjun, oj, hoj, hall⟩ := mem_ready.1 hj
      have hnot : ∀ e ∈ oj.after, Region.binds md e = true → e.on ≠ i := fun e he hb heq => by
        have h1 := hall e he hb
        have h0 := (mem_ready.1 hr).1
        rw [heq] at h1
        rcases Nat.lt_or_ge i listed.size with h' | h'
        · simp [h'] at h0 h1; rw [h0] at h1; cases h1
        · simp [Array.getElem?_eq_none h'] at h1
      have h2 := wpOp_putE hoj (hfree j oj hoj hji hjun hnot) (fun cs b => hsel i oi cs b hi) (fun cs b => hsel j oj cs b hoj) hQ hy h1
      have hfree' : ∀ k ok, ops[k]? = some ok → k ≠ i → (listed.setIfInBounds j true).getD k true = false →
          (∀ e ∈ ok.after, Region.binds md e = true → e.on ≠ i) → oi.apart ops ok = true := fun k ok hk hki hun hno => by
        refine hfree k ok hk hki ?_ hno
        by_cases hjk : j = k
        · subst hjk; exact hjun
        · rw [getD_set_ne true hjk] at hun; exact hun
      have hU' : ((∀ w, S0 w) ∨ ((∀ w, S w → S0 w) ∧ i ∈ U ∧ (∀ f ∈ F, f ∈ U) ∧ ∀ u ∈ U, (listed.setIfInBounds j true).getD u true = false ∧ (u ≠ i → ∃ o, ops[u]? = some o ∧ ∃ e ∈ o.after, Region.binds md e = true ∧ e.on ∈ U))) := by
        rcases hU with hU | ⟨h0, hU⟩
        · exact .inl hU
        · have hjU := chain_not_ready hU hj hji
          refine .inr ⟨h0, hU.1, hU.2.1, fun u hu => ⟨?_, (hU.2.2 u hu).2⟩⟩
          rw [getD_set_ne true (show j ≠ u by rintro rfl; exact hjU hu)]
          exact (hU.2.2 u hu).1
      refine wpOp_mono (fun a' w' h3 => ?_) h2
      have hSj : noneOf (listed.setIfInBounds j true) F = true → S w' := fun h => h3.2.1 (by rw [Array.setIfInBounds_comm _ _ (Ne.symm hji)]; exact noneOf_set' hiF h)
      refine ⟨hSj, ih (listed.setIfInBounds j true) a' w' hU' hfree' (ready_mono hr (Ne.symm hji)) h3.1 hSj ?_⟩
      rw [Array.setIfInBounds_comm _ _ hji]
      exact h3.2.2
/-- take number i first; its value is asked of worlds that meet S -/
theorem wpAnyG_take {i : Nat} {oi : Oper} {v : Value} {fuel : Nat} {listed : Array Bool} {a : Act} {w : World} (U : List Nat) (hi : ops[i]? = some oi)
    (hs : Region.noSelect ops = true) (hf : Region.free md ops listed i = true) (hr : (Region.ready md ops listed).contains i = true) (hU : chain md ops listed U i F = true) (hiF : F.contains i = false)
    (hQ : ∀ c a w, Q (.panic c) (a.put oi.dst v) w → Q (.panic c) a w) (hS : noneOf listed F = true → S w) (hy : YieldsE P ops S oi v a)
    (h : wpAnyG P md ops Q S F fuel (listed.setIfInBounds i true) (a.put oi.dst v) w) : wpAnyG P md ops Q S F (fuel + 1) listed a w :=
  wpAnyG_first hi (by simpa using hiF) (Region.noSelect_spec hs) hQ (U := U) fuel listed a w (.inr ⟨fun _ h => h, chain_spec hU⟩) (Region.free_spec hi hf) (by simpa using hr) hy hS h
/-- take number i first; its value is the same in every world -/
theorem wpAnyG_take0 {i : Nat} {oi : Oper} {v : Value} {fuel : Nat} {listed : Array Bool} {a : Act} {w : World} (hi : ops[i]? = some oi)
    (hs : Region.noSelect ops = true) (hf : Region.free md ops listed i = true) (hr : (Region.ready md ops listed).contains i = true) (hiF : F.contains i = false)
    (hQ : ∀ c a w, Q (.panic c) (a.put oi.dst v) w → Q (.panic c) a w) (hS : noneOf listed F = true → S w) (hy : YieldsE P ops (fun _ => True) oi v a)
    (h : wpAnyG P md ops Q S F fuel (listed.setIfInBounds i true) (a.put oi.dst v) w) : wpAnyG P md ops Q S F (fuel + 1) listed a w :=
  wpAnyG_first hi (by simpa using hiF) (Region.noSelect_spec hs) hQ (U := []) fuel listed a w (.inl fun _ => trivial) (Region.free_spec hi hf) (by simpa using hr) hy hS h
/-- the one that may come up, carried out -/
theorem wpAnyG_step {i : Nat} {oi : Oper} {fuel : Nat} {listed : Array Bool} {a : Act} {w : World} (hi : ops[i]? = some oi) (hr : Region.ready md ops listed = [i]) (hw : Region.wanted oi (yielded ops a.tmps) = true)
    (h : ∀ K : Act → World → Prop, (∀ a' w', (noneOf (listed.setIfInBounds i true) F = true → S w') → ((noneOf (listed.setIfInBounds i true) F = true → S w') → wpAnyG P md ops Q S F fuel (listed.setIfInBounds i true) a' w') → K a' w') → oi.wp P a w K Q) : wpAnyG P md ops Q S F (fuel + 1) listed a w := by
  refine ⟨fun h0 => (by rw [hr] at h0; cases h0), fun j hj => ?_⟩
  rw [hr] at hj
  obtain rfl : j = i := by simpa using hj
  unfold wpOp
  simp only [hi, hw, if_true]
  exact .inl (h _ (fun a' w' hS hn => ⟨hS, hn hS⟩))
theorem wpAnyG_done {listed : Array Bool} {a : Act} {w : World} (hr : Region.ready md ops listed = []) (h : Q .normal a w) : ∀ fuel, wpAnyG P md ops Q S F fuel listed a w
  | 0 => ⟨hr, h⟩
  | _ + 1 => ⟨fun _ => h, by rw [hr]; simp⟩
theorem wp_region_G {id : Nat} {a : Act} {w : World} (S : World → Prop) (F : List Nat) (L0 : Array Bool) (n0 : Nat) (hn : ops.size = n0) (hL : Array.replicate n0 false = L0) (hm : P.follows .mixedOrders = true)
    (h : wpAnyG P .any ops Q S F n0 L0 a w.drew) : (Code.region id ops true).wp P Q a w := by
  refine wp_region_any hm (wpAny_of_G (S := S) (F := F) _ _ _ _ ?_)
  rw [hn, hL]
  exact h
end
end Go.Sal
