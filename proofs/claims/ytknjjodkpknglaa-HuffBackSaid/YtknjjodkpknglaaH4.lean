/- The tree of counts, walked. -/
import Derived.Test.YtknjjodkpknglaaH3
set_option linter.unusedVariables false
set_option linter.unusedSimpArgs false
namespace Go.Proofs.Ytknjjodkpknglaa
open Go.RowKit Go.Sal Go.Huf
theorem own_slice {base n size : Nat} {e : TypeId} {v : Value} {xs : List Value} {w : World} (h : w.ownsRow base e size v n xs) : ∃ A c, v = .slice A n c ∧ n ≤ c ∧ c ≤ 9223372036854775807 := by
  rcases h.2 with ⟨rfl, rfl⟩ | ⟨g, cap, cur, rfl, _, _, h1, h2, _⟩
  · exact ⟨_, _, rfl, by omega, by omega⟩
  · exact ⟨_, _, rfl, h1, by unfold maxLen at h2; omega⟩
theorem own_ne_own {b b' n n' size size' : Nat} {e e' : TypeId} {v v' : Value} {xs xs' : List Value} {w : World} (h : w.ownsRow b e size v n xs) (h' : w.ownsRow b' e' size' v' n' xs') (hne : e ≠ e') {g : Nat} (hg : v.ownBlock = some g) : v'.ownBlock ≠ some g := by
  intro hg'
  rcases h.2 with ⟨rfl, _⟩ | ⟨g1, cap, cur, rfl, _, hh, _⟩
  · simp [Value.ownBlock] at hg
  · rcases h'.2 with ⟨rfl, _⟩ | ⟨g2, cap', cur', rfl, _, hh', _⟩
    · simp [Value.ownBlock] at hg'
    · simp [Value.ownBlock] at hg hg'
      subst hg
      subst hg'
      rw [hh] at hh'
      injection hh' with hh'
      injection hh' with _ hh'
      exact hne hh'

theorem own_le {w : World} {base base' size n : Nat} {e : TypeId} {v : Value} {xs : List Value} (h : w.ownsRow base e size v n xs) (hb : base' ≤ base) : w.ownsRow base' e size v n xs := by
  refine ⟨h.1, ?_⟩
  rcases h.2 with h | ⟨g, cap, cur, h1, h2, h3⟩
  · exact .inl h
  · exact .inr ⟨g, cap, cur, h1, by omega, h3⟩
/-- a row of ints, wherever it lies -/
def ISrc (w : World) (A : Option Addr) (cs : List Int) : Prop := ∀ i (h : i < cs.length), ∃ g o, A = some ⟨g, o, none⟩ ∧ g < w.heap.size ∧ w.cell? ⟨g, o + i, none⟩ = some (.int .i64 cs[i])
theorem ISrc.keep {w w' : World} {A : Option Addr} {cs : List Int} {F : List Nat} (h : ISrc w A cs) (k : Keep F w w') (hF : ∀ a, A = some a → a.block ∉ F) : ISrc w' A cs := fun i hi => by
  obtain ⟨g, o, rfl, h1, h2⟩ := h i hi
  exact ⟨g, o, rfl, Nat.lt_of_lt_of_le h1 k.size, (k.cell (p := ⟨g, o + i, none⟩) h1 (hF ⟨g, o, none⟩ rfl)).trans h2⟩
theorem nodes0_take {cs : List Int} {i : Nat} (h : i < cs.length) : nodes0 (cs.take (i + 1)) = nodes0 (cs.take i) ++ (if 0 < cs[i] then [(cs[i], -1)] else []) := by
  rw [List.take_succ_eq_append_getElem h]
  unfold nodes0
  rw [List.filter_append, List.map_append]
  congr 1
  by_cases hp : 0 < cs[i] <;> simp [hp]
theorem nodes0_len (cs : List Int) : (nodes0 cs).length ≤ cs.length := by
  unfold nodes0
  rw [List.length_map]
  exact List.length_filter_le _ _
theorem nd_set {w : World} {base g n cap i : Nat} {l : List (Int × Int)} {t : Int} (h : w.ownsRow base 76 2 (.slice (some ⟨g, 0, none⟩) n cap) n (l.flatMap ncells)) (hi : i < l.length) (hn : n = l.length) :
    (w.setCell ⟨g, i * 2 + 1, none⟩ (.int .i64 t)).ownsRow base 76 2 (.slice (some ⟨g, 0, none⟩) n cap) n ((link l i t).flatMap ncells) := by
  have h1 := ownsRow_set h (i * 2 + 1) (by omega) (.int .i64 t)
  have e : l.getD i (0, -1) = l[i] := by simp [List.getD, hi]
  have s1 : (l.flatMap ncells).set (i * 2 + 1) (.int .i64 t) = (l.set i (wt l i, t)).flatMap ncells :=
    rf_set ncells_len l i 1 hi (by omega) _ _ (by simp [ncells, wt, List.getD, hi])
  rw [s1] at h1
  exact h1
/-- the nodes in their box -/
def NB (bl : Nat) (base : Nat) (AL : Option Addr) (cL : Nat) (l : List (Int × Int)) (w : World) : Prop :=
  Blk w bl 73 #[.slice AL l.length cL] ∧ w.ownsRow base 76 2 (.slice AL l.length cL) l.length (l.flatMap ncells)
/-- the free ones in theirs -/
def FB (bf : Nat) (base : Nat) (AF : Option Addr) (cF : Nat) (f : List Nat) (w : World) : Prop :=
  Blk w bf 22 #[.slice AF f.length cF] ∧ w.ownsRow base 3 1 (.slice AF f.length cF) f.length (inN f)
theorem NB.keep {bl base cL : Nat} {AL : Option Addr} {l : List (Int × Int)} {w w' : World} (h : NB bl base AL cL l w) (k : Keep [] w w') : NB bl base AL cL l w' := ⟨h.1.keep k (by simp), ownsRow_keep h.2 k (by simp)⟩
theorem FB.keep {bf base cF : Nat} {AF : Option Addr} {f : List Nat} {w w' : World} (h : FB bf base AF cF f w) (k : Keep [] w w') : FB bf base AF cF f w' := ⟨h.1.keep k (by simp), ownsRow_keep h.2 k (by simp)⟩
/-- an int behind the free ones -/
theorem free_append {base c : Nat} {A : Option Addr} {f : List Nat} {w : World} (h : w.ownsRow base 3 1 (.slice A f.length c) f.length (inN f)) (x : Nat) (hn : f.length ≤ 100000) (hB : base ≤ w.heap.size) :
    ∃ A' c' w', (Builtin.append_ #[22, 22] 22 #[.slice A f.length c, .slice (some ⟨w.heap.size, 0, none⟩) 1 1]).run Try.prog (w.alloc (.cells #[.int .i64 (x : Int)] 3)) = .ok (.slice A' (f ++ [x]).length c') w' ∧
      w'.ownsRow base 3 1 (.slice A' (f ++ [x]).length c') (f ++ [x]).length (inN (f ++ [x])) ∧ Keep (Value.slice A f.length c).ownBlock.toList w w' ∧ (A' = A ∨ ∃ g, A' = some ⟨g, 0, none⟩ ∧ w.heap.size < g) := by
  have hka : Keep [] w (w.alloc (.cells #[.int .i64 (x : Int)] 3)) := (Keep.refl [] w).alloc _
  obtain ⟨v', w', hrun, hown, hg, hat⟩ := run_append_src (P := Try.prog) (w.alloc (.cells #[.int .i64 (x : Int)] 3)) 22 22 3 (.int .i64 0) 1 8 base Try.underlying22 intinfo rfl (by omega) (.slice A f.length c) f.length (inN f) (ownsRow_keep h hka (by simp))
    (some ⟨w.heap.size, 0, none⟩) 1 1 [.int .i64 (x : Int)] (src_new w 3 1 [.int .i64 (x : Int)] rfl) (by simp [Value.oneCell']) (by unfold maxLen; omega) (by omega) (by simp; omega)
  obtain ⟨A', c', rfl, _⟩ := own_slice hown
  have el : f.length + 1 = (f ++ [x]).length := by simp
  rw [el] at hrun hown hat
  refine ⟨A', c', w', hrun, by simpa [inN] using hown, (hka.mono (by simp)).grown hg (fun k hk => .inl (by simp [hk])), ?_⟩
  obtain ⟨g', hg1, _⟩ := own_some hown (by simp)
  subst hg1
  rcases hat with hat | hat
  · left
    cases A with
    | none => simp [Value.ownBlock] at hat
    | some a =>
      have hs := h.2
      rcases hs with ⟨hs, _⟩ | ⟨g2, cap, cur, hs, _⟩
      · cases hs
      · injection hs with hs1 _ _
        injection hs1 with hs1
        subst hs1
        simp [Value.ownBlock] at hat
        rw [hat]
  · right
    simp [Value.ownBlock] at hat
    exact ⟨g', rfl, by omega⟩
/-- a node behind the nodes -/
theorem node_append {base c : Nat} {A : Option Addr} {l : List (Int × Int)} {w : World} (h : w.ownsRow base 76 2 (.slice A l.length c) l.length (l.flatMap ncells)) (x : Int × Int) (hn : l.length ≤ 100000) (hB : base ≤ w.heap.size) :
    ∃ A' c' w', (Builtin.append_ #[73, 73] 73 #[.slice A l.length c, .slice (some ⟨w.heap.size, 0, none⟩) 1 1]).run Try.prog (w.alloc (.cells #[.int .i64 x.1, .int .i64 x.2] 76)) = .ok (.slice A' (l ++ [x]).length c') w' ∧
      w'.ownsRow base 76 2 (.slice A' (l ++ [x]).length c') (l ++ [x]).length ((l ++ [x]).flatMap ncells) ∧ Keep (Value.slice A l.length c).ownBlock.toList w w' := by
  have hka : Keep [] w (w.alloc (.cells #[.int .i64 x.1, .int .i64 x.2] 76)) := (Keep.refl [] w).alloc _
  obtain ⟨v', w', hrun, hown, hg, hat⟩ := run_append_src (P := Try.prog) (w.alloc (.cells #[.int .i64 x.1, .int .i64 x.2] 76)) 73 73 76 _ 2 16 base Try.underlying73 ndinfo rfl (by omega) (.slice A l.length c) l.length (l.flatMap ncells) (ownsRow_keep h hka (by simp))
    (some ⟨w.heap.size, 0, none⟩) 1 1 (ncells x) (src_new w 76 2 (ncells x) rfl) (by simp [Value.oneCell', ncells]) (by unfold maxLen; omega) (by omega) (by simp; omega)
  obtain ⟨A', c', rfl, _⟩ := own_slice hown
  have el : l.length + 1 = (l ++ [x]).length := by simp
  rw [el] at hrun hown
  exact ⟨A', c', w', hrun, by simpa using hown, (hka.mono (by simp)).grown hg (fun k hk => .inl (by simp [hk]))⟩
end Go.Proofs.Ytknjjodkpknglaa
