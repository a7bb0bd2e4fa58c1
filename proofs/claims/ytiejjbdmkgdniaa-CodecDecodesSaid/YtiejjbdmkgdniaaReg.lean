/- A region that draws its order: what holds of the world (S) is asked anew behind every operation but the late ones (F): so the last stores may write what the region has read. -/
import Derived.OrdersHeld
import Derived.Deep.QuietTactic
import Derived.Tactics
import Derived.KernelRfl
set_option linter.unusedVariables false
set_option linter.unusedSimpArgs false
namespace Go.Sal
/-- while i has not come up, none of F can: all of U have not come up, and each of U but i waits for one of U -/
def chain (md : Region.Mode) (ops : Array Oper) (listed : Array Bool) (U : List Nat) (i : Nat) (F : List Nat) : Bool :=
  U.contains i && F.all (fun f => U.contains f) && U.all fun u => !listed.getD u true && (u == i || ((ops[u]?).map fun o => o.after.any fun e => Region.binds md e && U.contains e.on).getD false)
section
variable {P : Program} {ops : Array Oper} {Q : Exit → Act → World → Prop} {md : Region.Mode} {S : World → Prop} {F : List Nat}
theorem chain_spec {listed : Array Bool} {U : List Nat} {i : Nat} {F : List Nat} (h : chain md ops listed U i F = true) :
    i ∈ U ∧ (∀ f ∈ F, f ∈ U) ∧ ∀ u ∈ U, listed.getD u true = false ∧ (u ≠ i → ∃ o, ops[u]? = some o ∧ ∃ e ∈ o.after, Region.binds md e = true ∧ e.on ∈ U) := by
  simp only [chain, Bool.and_eq_true, List.all_eq_true, List.contains_iff_mem] at h
  obtain ⟨⟨h1, h2⟩, h3⟩ := h
  refine ⟨h1, h2, fun u hu => ?_⟩
  have h4 := h3 u hu
  simp only [Bool.not_eq_true', Bool.or_eq_true, beq_iff_eq] at h4
  refine ⟨h4.1, fun hne => ?_⟩
  have h5 := h4.2.resolve_left hne
  cases ho : ops[u]? with
  | none => rw [ho] at h5; simp at h5
  | some o =>
    rw [ho] at h5
    simp only [Option.map_some, Option.getD_some] at h5
    obtain ⟨k, hk, he⟩ := Array.any_eq_true.1 h5
    simp only [Bool.and_eq_true, List.contains_iff_mem] at he
    exact ⟨o, rfl, o.after[k], Array.getElem_mem hk, he.1, he.2⟩
/-- none of the chain but its head can come up -/
theorem chain_not_ready {listed : Array Bool} {U : List Nat} {i j : Nat} {F : List Nat} (h : i ∈ U ∧ (∀ f ∈ F, f ∈ U) ∧ ∀ u ∈ U, listed.getD u true = false ∧ (u ≠ i → ∃ o, ops[u]? = some o ∧ ∃ e ∈ o.after, Region.binds md e = true ∧ e.on ∈ U))
    (hj : j ∈ Region.ready md ops listed) (hne : j ≠ i) : j ∉ U := by
  intro hu
  obtain ⟨o, ho, e, he, hb, hon⟩ := (h.2.2 j hu).2 hne
  obtain ⟨_, o', ho', hall⟩ := mem_ready.1 hj
  rw [ho] at ho'
  injection ho' with ho'
  subst ho'
  have h1 := hall e he hb
  have h2 := (h.2.2 e.on hon).1
  rcases Nat.lt_or_ge e.on listed.size with h' | h'
  · simp [h'] at h1 h2
    rw [h1] at h2
    cases h2
  · simp [Array.getElem?_eq_none h'] at h1
/-- in every world that meets S the operation (a call, too) yields v and leaves the world as it is -/
def YieldsE (P : Program) (ops : Array Oper) (S : World → Prop) (o : Oper) (v : Value) (a : Act) : Prop :=
  (Region.wanted o (yielded ops a.tmps) = true ∧ ∀ w, S w → o.quietAt P a (fun w' => w' = w) w v) ∨
  (Region.wanted o (yielded ops a.tmps) = false ∧ v = undef)
theorem YieldsE.wpOp {i : Nat} {o : Oper} {v : Value} {a : Act} (hi : ops[i]? = some o) (hy : YieldsE P ops S o v a)
    {K : Act → World → Prop} {w : World} (hS : S w) (h : K (a.put o.dst v) w) : wpOp P ops Q i K a w := by
  unfold Go.wpOp
  simp only [hi]
  rcases hy with ⟨hw, hv⟩ | ⟨hw, rfl⟩
  · simp only [hw, if_true]
    refine .inl ?_
    have h3 := hv w hS
    unfold Oper.quietAt at h3
    unfold Oper.wp
    generalize (execOp a.eval o).run P w = r at *
    cases r with
    | ok n w' =>
      cases n <;> simp only [Oper.quietUpon] at h3 <;> simp only [Oper.upon]
      case value u =>
        obtain ⟨e1, e2⟩ := h3
        rw [e1, e2]
        exact h
      case skip =>
        obtain ⟨e1, e2⟩ := h3
        rw [e1, ← e2]
        exact h
      case enter f args =>
        obtain ⟨e1, hc⟩ := h3
        rw [e1]
        exact hc.mono fun e w'' ⟨he, hw''⟩ => by subst he; subst hw''; exact h
    | halt x w' => simp only [Oper.quietUpon] at h3
  · simp only [hw, Bool.false_eq_true, if_false]; exact h
theorem YieldsE.of_same {o : Oper} {v : Value} {a a' : Act} (hy : YieldsE P ops S o v a) (he : execOp a'.eval o = execOp a.eval o)
    (hw : Region.wanted o (yielded ops a'.tmps) = Region.wanted o (yielded ops a.tmps)) : YieldsE P ops S o v a' := by
  unfold YieldsE Oper.quietAt at *
  rw [he, hw]
  exact hy
theorem wpOp_putE {j : Nat} {oi oj : Oper} {v : Value} (hj : ops[j]? = some oj) (hap : oi.apart ops oj = true)
    (hsi : ∀ cs b, oi.op ≠ .select cs b) (hsj : ∀ cs b, oj.op ≠ .select cs b)
    (hQ : ∀ c a w, Q (.panic c) (a.put oi.dst v) w → Q (.panic c) a w) {K : Act → World → Prop} {a : Act} {w : World}
    (hy : YieldsE P ops S oi v a) (h : wpOp P ops Q j K (a.put oi.dst v) w) :
    wpOp P ops Q j (fun a' w' => YieldsE P ops S oi v a' ∧ K (a'.put oi.dst v) w') a w := by
  obtain ⟨h1, h2, h3⟩ := Oper.apart_spec hap
  have keep : ∀ (a : Act), YieldsE P ops S oi v a → ∀ u, YieldsE P ops S oi v (a.put oj.dst u) := fun a hy u =>
    hy.of_same (execOp_put oi hsi a oj.dst u h3) (wanted_put oi a oj.dst u h3)
  have keepD : ∀ d, YieldsE P ops S oi v { a with defers := d :: a.defers } := fun d => hy.of_same rfl rfl
  unfold wpOp at *
  simp only [hj] at *
  rw [wanted_put oj a oi.dst v h1] at h
  split
  · rename_i hw
    simp only [hw, if_true] at h
    rcases h with h | ⟨hasks, hlets⟩
    case inr => exact .inr ⟨by unfold Oper.asks at *; rw [execOp_put oj hsj a oi.dst v h1] at hasks; exact hasks, hlets⟩
    refine .inl ?_
    unfold Oper.wp at *
    rw [execOp_put oj hsj a oi.dst v h1] at h
    generalize (execOp a.eval oj).run P w = r at *
    cases r with
    | ok n w' =>
      cases n <;> simp only [Oper.upon] at h ⊢
      case value u => exact ⟨keep a hy u, by rw [← Act.put_comm a v u h2]; exact h⟩
      case skip => exact ⟨keep a hy _, by rw [← Act.put_comm a v undef h2]; exact h⟩
      case defer d =>
        refine ⟨keep _ (keepD d) _, ?_⟩
        rw [← Act.put_comm _ v undef h2, ← Act.put_defers]
        exact h
      case enter f args =>
        refine Calls.mono h fun e w'' he => ?_
        cases e with
        | returned u => exact ⟨keep a hy u, by rw [← Act.put_comm a v u h2]; exact he⟩
        | panicked c => exact hQ _ _ _ he
        | outgrown => exact he
      case row row args => exact Rows.mono h fun u w'' he => ⟨keep a hy u, by rw [← Act.put_comm a v u h2]; exact he⟩
    | halt x w' =>
      cases x <;> simp only [Oper.upon] at h ⊢
      case panic u => exact hQ _ _ _ h
  · rename_i hw
    simp only [hw] at h
    exact ⟨keep a hy _, by rw [← Act.put_comm a v undef h2]; exact h⟩
def wpAnyE (P : Program) (md : Region.Mode) (ops : Array Oper) (Q : Exit → Act → World → Prop) (S : World → Prop) (F : List Nat) : Nat → Array Bool → Act → World → Prop
  | 0, listed, a, w => Region.ready md ops listed = [] ∧ Q .normal a w
  | fuel + 1, listed, a, w =>
    (Region.ready md ops listed = [] → Q .normal a w) ∧
    ∀ i ∈ Region.ready md ops listed, wpOp P ops Q i (fun a' w' => (i ∉ F → S w') ∧ wpAnyE P md ops Q S F fuel (listed.setIfInBounds i true) a' w') a w
theorem wpAny_of_E : ∀ (fuel : Nat) (listed : Array Bool) (a : Act) (w : World), wpAnyE P md ops Q S F fuel listed a w → wpAny P md ops Q fuel listed a w
  | 0, _, _, _, h => h
  | fuel + 1, _, _, _, h => ⟨h.1, fun i hi => wpOp_mono (fun a' w' h' => wpAny_of_E fuel _ a' w' h'.2) (h.2 i hi)⟩
theorem wpAnyE_first {i : Nat} {oi : Oper} {v : Value} (hi : ops[i]? = some oi) (hsel : ∀ (j : Nat) (o : Oper) cs b, ops[j]? = some o → o.op ≠ .select cs b)
    (hQ : ∀ c a w, Q (.panic c) (a.put oi.dst v) w → Q (.panic c) a w) {U : List Nat} :
    ∀ (fuel : Nat) (listed : Array Bool) (a : Act) (w : World),
      (i ∈ U ∧ (∀ f ∈ F, f ∈ U) ∧ ∀ u ∈ U, listed.getD u true = false ∧ (u ≠ i → ∃ o, ops[u]? = some o ∧ ∃ e ∈ o.after, Region.binds md e = true ∧ e.on ∈ U)) →
      (∀ j oj, ops[j]? = some oj → j ≠ i → listed.getD j true = false → (∀ e ∈ oj.after, Region.binds md e = true → e.on ≠ i) → oi.apart ops oj = true) →
      i ∈ Region.ready md ops listed → YieldsE P ops S oi v a → S w →
      wpAnyE P md ops Q S F fuel (listed.setIfInBounds i true) (a.put oi.dst v) w → wpAnyE P md ops Q S F (fuel + 1) listed a w := by
  intro fuel
  induction fuel with
  | zero =>
    intro listed a w _ _ hr hy hS H
    refine ⟨fun h => (by rw [h] at hr; cases hr), fun j hj => ?_⟩
    by_cases hji : j = i
    · subst hji; exact hy.wpOp hi hS ⟨fun _ => hS, H⟩
    · have := ready_mono hj hji
      rw [H.1] at this
      cases this
  | succ fuel ih =>
    intro listed a w hU hfree hr hy hS H
    refine ⟨fun h => (by rw [h] at hr; cases hr), fun j hj => ?_⟩
    by_cases hji : j = i
    · subst hji; exact hy.wpOp hi hS ⟨fun _ => hS, H⟩
    · have h1 := H.2 j (ready_mono hj hji)
      obtain ⟨hjun, oj, hoj, hall⟩ := mem_ready.1 hj
      have hnot : ∀ e ∈ oj.after, Region.binds md e = true → e.on ≠ i := fun e he hb heq => by
        have h1 := hall e he hb
        have h0 := (mem_ready.1 hr).1
        rw [heq] at h1
        rcases Nat.lt_or_ge i listed.size with h' | h'
        · simp [h'] at h0 h1; rw [h0] at h1; cases h1
        · simp [Array.getElem?_eq_none h'] at h1
      have h2 := wpOp_putE hoj (hfree j oj hoj hji hjun hnot) (fun cs b => hsel i oi cs b hi) (fun cs b => hsel j oj cs b hoj) hQ hy h1
      have hfree' : ∀ k ok, ops[k]? = some ok → k ≠ i → (listed.setIfInBounds j true).getD k true = false →
          (∀ e ∈ ok.after, Region.binds md e = true → e.on ≠ i) → oi.apart ops ok = true := fun k ok hk hki hun hno => by
        refine hfree k ok hk hki ?_ hno
        by_cases hjk : j = k
        · subst hjk; exact hjun
        · rw [getD_set_ne true hjk] at hun; exact hun
      have hjf : j ∉ F := fun hf => chain_not_ready hU hj hji (hU.2.1 j hf)
      have hU' : i ∈ U ∧ (∀ f ∈ F, f ∈ U) ∧ ∀ u ∈ U, (listed.setIfInBounds j true).getD u true = false ∧ (u ≠ i → ∃ o, ops[u]? = some o ∧ ∃ e ∈ o.after, Region.binds md e = true ∧ e.on ∈ U) := by
        have hjU := chain_not_ready hU hj hji
        refine ⟨hU.1, hU.2.1, fun u hu => ⟨?_, (hU.2.2 u hu).2⟩⟩
        rw [getD_set_ne true (show j ≠ u by rintro rfl; exact hjU hu)]
        exact (hU.2.2 u hu).1
      refine wpOp_mono (fun a' w' h3 => ⟨h3.2.1, ih (listed.setIfInBounds j true) a' w' hU' hfree' (ready_mono hr (Ne.symm hji)) h3.1 (h3.2.1 hjf) ?_⟩) h2
      rw [Array.setIfInBounds_comm _ _ hji]
      exact h3.2.2
/-- take number i first -/
theorem wpAnyE_take {i : Nat} {oi : Oper} {v : Value} {fuel : Nat} {listed : Array Bool} {a : Act} {w : World} (U : List Nat) (hi : ops[i]? = some oi)
    (hs : Region.noSelect ops = true) (hf : Region.free md ops listed i = true) (hr : (Region.ready md ops listed).contains i = true) (hU : chain md ops listed U i F = true)
    (hQ : ∀ c a w, Q (.panic c) (a.put oi.dst v) w → Q (.panic c) a w) (hS : S w) (hy : YieldsE P ops S oi v a)
    (h : wpAnyE P md ops Q S F fuel (listed.setIfInBounds i true) (a.put oi.dst v) w) : wpAnyE P md ops Q S F (fuel + 1) listed a w :=
  wpAnyE_first hi (Region.noSelect_spec hs) hQ (U := U) fuel listed a w (chain_spec hU) (Region.free_spec hi hf) (by simpa using hr) hy hS h
/-- the one that may come up, carried out; S anew behind it -/
theorem wpAnyE_step {i : Nat} {oi : Oper} {fuel : Nat} {listed : Array Bool} {a : Act} {w : World} (hi : ops[i]? = some oi) (hr : Region.ready md ops listed = [i]) (hw : Region.wanted oi (yielded ops a.tmps) = true)
    (h : ∀ K : Act → World → Prop, (∀ a' w', S w' → (S w' → wpAnyE P md ops Q S F fuel (listed.setIfInBounds i true) a' w') → K a' w') → oi.wp P a w K Q) : wpAnyE P md ops Q S F (fuel + 1) listed a w := by
  refine ⟨fun h0 => (by rw [hr] at h0; cases h0), fun j hj => ?_⟩
  rw [hr] at hj
  obtain rfl : j = i := by simpa using hj
  unfold wpOp
  simp only [hi, hw, if_true]
  exact .inl (h _ (fun a' w' hS hn => ⟨fun _ => hS, hn hS⟩))
/-- what is left is late: nothing is asked of the world any more -/
theorem wpAnyE_switch : ∀ (fuel : Nat) (listed : Array Bool) (a : Act) (w : World), ((List.range ops.size).all fun j => listed.getD j true || F.contains j) = true →
    wpAnyE P md ops Q (fun _ => True) [] fuel listed a w → wpAnyE P md ops Q S F fuel listed a w
  | 0, _, _, _, _, h => h
  | fuel + 1, listed, a, w, hF, h => ⟨h.1, fun i hi => wpOp_mono (fun a' w' h' => ⟨fun hn => by
      obtain ⟨h0, o, ho, _⟩ := mem_ready.1 hi
      have hlt : i < ops.size := (Array.getElem?_eq_some_iff.1 ho).1
      have := (List.all_eq_true.1 hF) i (List.mem_range.2 hlt)
      rw [h0] at this
      simp at this
      exact absurd this hn, wpAnyE_switch fuel _ a' w' (by
      rw [List.all_eq_true] at hF ⊢
      intro j hj
      have := hF j hj
      simp only [Bool.or_eq_true] at this ⊢
      rcases this with h1 | h1
      · left
        by_cases hij : i = j
        · subst hij
          rcases Nat.lt_or_ge i listed.size with h2 | h2 <;> simp [h2]
        · rw [getD_set_ne true hij]; exact h1
      · exact .inr h1) h'.2⟩) (h.2 i hi)⟩
theorem wpAnyE_done {listed : Array Bool} {a : Act} {w : World} (hr : Region.ready md ops listed = []) (h : Q .normal a w) : ∀ fuel, wpAnyE P md ops Q S F fuel listed a w
  | 0 => ⟨hr, h⟩
  | _ + 1 => ⟨fun _ => h, by rw [hr]; simp⟩
theorem wp_region_E {id : Nat} {a : Act} {w : World} (S : World → Prop) (F : List Nat) (hm : P.follows .mixedOrders = true)
    (h : wpAnyE P .any ops Q S F ops.size (Array.replicate ops.size false) a w.drew) : (Code.region id ops true).wp P Q a w :=
  wp_region_any hm (wpAny_of_E _ _ _ _ h)
end
end Go.Sal
set_option linter.unusedVariables false
set_option linter.unusedSimpArgs false
namespace Go.Sal
def noneOf (listed : Array Bool) (F : List Nat) : Bool := F.all fun f => !listed.getD f true
section
variable {P : Program} {ops : Array Oper} {Q : Exit → Act → World → Prop} {md : Region.Mode} {S : World → Prop} {F : List Nat}
theorem noneOf_set {listed : Array Bool} {i : Nat} (h : noneOf (listed.setIfInBounds i true) F = true) : noneOf listed F = true := by
  simp only [noneOf, List.all_eq_true] at h ⊢
  intro f hf
  have h1 := h f hf
  by_cases hfi : i = f
  · subst hfi
    rcases Nat.lt_or_ge i listed.size with h2 | h2 <;> simp [h2] at h1
  · rw [getD_set_ne true hfi] at h1; exact h1
theorem noneOf_set' {listed : Array Bool} {i : Nat} (hi : i ∉ F) (h : noneOf listed F = true) : noneOf (listed.setIfInBounds i true) F = true := by
  simp only [noneOf, List.all_eq_true] at h ⊢
  intro f hf
  have h1 := h f hf
  rw [getD_set_ne true (show i ≠ f by rintro rfl; exact hi hf)]
  exact h1
def wpAnyG (P : Program) (md : Region.Mode) (ops : Array Oper) (Q : Exit → Act → World → Prop) (S : World → Prop) (F : List Nat) : Nat → Array Bool → Act → World → Prop
  | 0, listed, a, w => Region.ready md ops listed = [] ∧ Q .normal a w
  | fuel + 1, listed, a, w =>
    (Region.ready md ops listed = [] → Q .normal a w) ∧
    ∀ i ∈ Region.ready md ops listed, wpOp P ops Q i (fun a' w' => (noneOf (listed.setIfInBounds i true) F = true → S w') ∧ wpAnyG P md ops Q S F fuel (listed.setIfInBounds i true) a' w') a w
theorem wpAny_of_G : ∀ (fuel : Nat) (listed : Array Bool) (a : Act) (w : World), wpAnyG P md ops Q S F fuel listed a w → wpAny P md ops Q fuel listed a w
  | 0, _, _, _, h => h
  | fuel + 1, _, _, _, h => ⟨h.1, fun i hi => wpOp_mono (fun a' w' h' => wpAny_of_G fuel _ a' w' h'.2) (h.2 i hi)⟩
/-- while i has not come up, S0 holds wherever S holds as long as none of F has come up -/
theorem wpAnyG_first {i : Nat} {oi : Oper} {v : Value} {S0 : World → Prop} (hi : ops[i]? = some oi) (hiF : i ∉ F) (hsel : ∀ (j : Nat) (o : Oper) cs b, ops[j]? = some o → o.op ≠ .select cs b)
    (hQ : ∀ c a w, Q (.panic c) (a.put oi.dst v) w → Q (.panic c) a w) {U : List Nat} :
    ∀ (fuel : Nat) (listed : Array Bool) (a : Act) (w : World),
      ((∀ w, S0 w) ∨ ((∀ w, S w → S0 w) ∧ i ∈ U ∧ (∀ f ∈ F, f ∈ U) ∧ ∀ u ∈ U, listed.getD u true = false ∧ (u ≠ i → ∃ o, ops[u]? = some o ∧ ∃ e ∈ o.after, Region.binds md e = true ∧ e.on ∈ U))) →
      (∀ j oj, ops[j]? = some oj → j ≠ i → listed.getD j true = false → (∀ e ∈ oj.after, Region.binds md e = true → e.on ≠ i) → oi.apart ops oj = true) →
      i ∈ Region.ready md ops listed → YieldsE P ops S0 oi v a → (noneOf listed F = true → S w) →
      wpAnyG P md ops Q S F fuel (listed.setIfInBounds i true) (a.put oi.dst v) w → wpAnyG P md ops Q S F (fuel + 1) listed a w := by
  intro fuel
  have hS0 : ∀ (listed : Array Bool) (w : World), ((∀ w, S0 w) ∨ ((∀ w, S w → S0 w) ∧ i ∈ U ∧ (∀ f ∈ F, f ∈ U) ∧ ∀ u ∈ U, listed.getD u true = false ∧ (u ≠ i → ∃ o, ops[u]? = some o ∧ ∃ e ∈ o.after, Region.binds md e = true ∧ e.on ∈ U))) →
      (noneOf listed F = true → S w) → S0 w := by
    intro listed w h hS
    rcases h with h | ⟨h, _, h2, h3⟩
    · exact h w
    · refine h w (hS ?_)
      simp only [noneOf, List.all_eq_true]
      intro f hf
      rw [(h3 f (h2 f hf)).1]
      rfl
  induction fuel with
  | zero =>
    intro listed a w hU _ hr hy hS H
    refine ⟨fun h => (by rw [h] at hr; cases hr), fun j hj => ?_⟩
    by_cases hji : j = i
    · subst hji; exact hy.wpOp hi (hS0 _ _ hU hS) ⟨fun h => hS (noneOf_set h), H⟩
    · have := ready_mono hj hji
      rw [H.1] at this
      cases this
  | succ fuel ih =>
    intro listed a w hU hfree hr hy hS H
    refine ⟨fun h => (by rw [h] at hr; cases hr), fun j hj => ?_⟩
    by_cases hji : j = i
    · subst hji; exact hy.wpOp hi (hS0 _ _ hU hS) ⟨fun h => hS (noneOf_set h), H⟩
    · have h1 := H.2 j (ready_mono hj hji)
      obtain ⟨hjun, oj, hoj, hall⟩ := mem_ready.1 hj
      have hnot : ∀ e ∈ oj.after, Region.binds md e = true → e.on ≠ i := fun e he hb heq => by
        have h1 := hall e he hb
        have h0 := (mem_ready.1 hr).1
        rw [heq] at h1
        rcases Nat.lt_or_ge i listed.size with h' | h'
        · simp [h'] at h0 h1; rw [h0] at h1; cases h1
        · simp [Array.getElem?_eq_none h'] at h1
      have h2 := wpOp_putE hoj (hfree j oj hoj hji hjun hnot) (fun cs b => hsel i oi cs b hi) (fun cs b => hsel j oj cs b hoj) hQ hy h1
      have hfree' : ∀ k ok, ops[k]? = some ok → k ≠ i → (listed.setIfInBounds j true).getD k true = false →
          (∀ e ∈ ok.after, Region.binds md e = true → e.on ≠ i) → oi.apart ops ok = true := fun k ok hk hki hun hno => by
        refine hfree k ok hk hki ?_ hno
        by_cases hjk : j = k
        · subst hjk; exact hjun
        · rw [getD_set_ne true hjk] at hun; exact hun
      have hU' : ((∀ w, S0 w) ∨ ((∀ w, S w → S0 w) ∧ i ∈ U ∧ (∀ f ∈ F, f ∈ U) ∧ ∀ u ∈ U, (listed.setIfInBounds j true).getD u true = false ∧ (u ≠ i → ∃ o, ops[u]? = some o ∧ ∃ e ∈ o.after, Region.binds md e = true ∧ e.on ∈ U))) := by
        rcases hU with hU | ⟨h0, hU⟩
        · exact .inl hU
        · have hjU := chain_not_ready hU hj hji
          refine .inr ⟨h0, hU.1, hU.2.1, fun u hu => ⟨?_, (hU.2.2 u hu).2⟩⟩
          rw [getD_set_ne true (show j ≠ u by rintro rfl; exact hjU hu)]
          exact (hU.2.2 u hu).1
      refine wpOp_mono (fun a' w' h3 => ?_) h2
      have hSj : noneOf (listed.setIfInBounds j true) F = true → S w' := fun h => h3.2.1 (by rw [Array.setIfInBounds_comm _ _ (Ne.symm hji)]; exact noneOf_set' hiF h)
      refine ⟨hSj, ih (listed.setIfInBounds j true) a' w' hU' hfree' (ready_mono hr (Ne.symm hji)) h3.1 hSj ?_⟩
      rw [Array.setIfInBounds_comm _ _ hji]
      exact h3.2.2
/-- take number i first; its value is asked of worlds that meet S -/
theorem wpAnyG_take {i : Nat} {oi : Oper} {v : Value} {fuel : Nat} {listed : Array Bool} {a : Act} {w : World} (U : List Nat) (hi : ops[i]? = some oi)
    (hs : Region.noSelect ops = true) (hf : Region.free md ops listed i = true) (hr : (Region.ready md ops listed).contains i = true) (hU : chain md ops listed U i F = true) (hiF : F.contains i = false)
    (hQ : ∀ c a w, Q (.panic c) (a.put oi.dst v) w → Q (.panic c) a w) (hS : noneOf listed F = true → S w) (hy : YieldsE P ops S oi v a)
    (h : wpAnyG P md ops Q S F fuel (listed.setIfInBounds i true) (a.put oi.dst v) w) : wpAnyG P md ops Q S F (fuel + 1) listed a w :=
  wpAnyG_first hi (by simpa using hiF) (Region.noSelect_spec hs) hQ (U := U) fuel listed a w (.inr ⟨fun _ h => h, chain_spec hU⟩) (Region.free_spec hi hf) (by simpa using hr) hy hS h
/-- take number i first; its value is the same in every world -/
theorem wpAnyG_take0 {i : Nat} {oi : Oper} {v : Value} {fuel : Nat} {listed : Array Bool} {a : Act} {w : World} (hi : ops[i]? = some oi)
    (hs : Region.noSelect ops = true) (hf : Region.free md ops listed i = true) (hr : (Region.ready md ops listed).contains i = true) (hiF : F.contains i = false)
    (hQ : ∀ c a w, Q (.panic c) (a.put oi.dst v) w → Q (.panic c) a w) (hS : noneOf listed F = true → S w) (hy : YieldsE P ops (fun _ => True) oi v a)
    (h : wpAnyG P md ops Q S F fuel (listed.setIfInBounds i true) (a.put oi.dst v) w) : wpAnyG P md ops Q S F (fuel + 1) listed a w :=
  wpAnyG_first hi (by simpa using hiF) (Region.noSelect_spec hs) hQ (U := []) fuel listed a w (.inl fun _ => trivial) (Region.free_spec hi hf) (by simpa using hr) hy hS h
/-- the one that may come up, carried out -/
theorem wpAnyG_step {i : Nat} {oi : Oper} {fuel : Nat} {listed : Array Bool} {a : Act} {w : World} (hi : ops[i]? = some oi) (hr : Region.ready md ops listed = [i]) (hw : Region.wanted oi (yielded ops a.tmps) = true)
    (h : ∀ K : Act → World → Prop, (∀ a' w', (noneOf (listed.setIfInBounds i true) F = true → S w') → ((noneOf (listed.setIfInBounds i true) F = true → S w') → wpAnyG P md ops Q S F fuel (listed.setIfInBounds i true) a' w') → K a' w') → oi.wp P a w K Q) : wpAnyG P md ops Q S F (fuel + 1) listed a w := by
  refine ⟨fun h0 => (by rw [hr] at h0; cases h0), fun j hj => ?_⟩
  rw [hr] at hj
  obtain rfl : j = i := by simpa using hj
  unfold wpOp
  simp only [hi, hw, if_true]
  exact .inl (h _ (fun a' w' hS hn => ⟨hS, hn hS⟩))
theorem wpAnyG_done {listed : Array Bool} {a : Act} {w : World} (hr : Region.ready md ops listed = []) (h : Q .normal a w) : ∀ fuel, wpAnyG P md ops Q S F fuel listed a w
  | 0 => ⟨hr, h⟩
  | _ + 1 => ⟨fun _ => h, by rw [hr]; simp⟩
theorem wp_region_G {id : Nat} {a : Act} {w : World} (S : World → Prop) (F : List Nat) (L0 : Array Bool) (n0 : Nat) (hn : ops.size = n0) (hL : Array.replicate n0 false = L0) (hm : P.follows .mixedOrders = true)
    (h : wpAnyG P .any ops Q S F n0 L0 a w.drew) : (Code.region id ops true).wp P Q a w := by
  refine wp_region_any hm (wpAny_of_G (S := S) (F := F) _ _ _ _ ?_)
  rw [hn, hL]
  exact h
end
end Go.Sal
