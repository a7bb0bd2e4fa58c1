/- order's comparison; slices.insertionSortCmpFunc at it. -/
import Derived.Test.YtknjjodkpknglaaC1
import Derived.Test.YtknjjodkpknglaaSoP
set_option linter.unusedVariables false
set_option linter.unusedSimpArgs false
namespace Go.Proofs.Ytknjjodkpknglaa
open Go.RowKit Go.Sal Go.Huf
theorem cmp_any (ls : List Int) (A : Option Addr) (c bx : Nat) (a b : Nat) (w : World) (hB : Blk w bx 22 #[.slice A ls.length c]) (hs : ISrc w A ls) (hg : good ls) (ha : a < ls.length) (hb : b < ls.length) :
    Calls Try.prog 43 #[.int .i64 (a : Nat), .int .i64 (b : Nat), .pointer (some ⟨bx, 0, none⟩)] w fun e w' => e = .returned (.int .i64 (ls[a] - ls[b])) ∧ ∃ k, w' = w.drewN k := by
  obtain ⟨g, o, rfl, hg1, c1⟩ := hs a ha
  obtain ⟨g', o', he, hg2, c2⟩ := hs b hb
  injection he with he
  injection he with e1 e2
  subst e1 e2
  have r0 : w.cell? ⟨bx, 0, none⟩ = some (.slice (some ⟨g, o, none⟩) ls.length c) := hB.cell 0
  have h1 := hg _ (List.getElem_mem ha)
  have h2 := hg _ (List.getElem_mem hb)
  have hw : IntKind.i64.wrap (ls[a] - ls[b]) = ls[a] - ls[b] := by rw [IntKind.wrap_i64]; omega
  have hai : (a : Int) < ls.length := by omega
  have hbi : (b : Int) < ls.length := by omega
  clear hs hg hB
  generalize ls[a] = x at *
  generalize ls[b] = y at *
  generalize ls.length = n at *
  go_enter Try.func43, Try.ntmps43
  go_wp2
  go_quiet (fail)
  go_wp2
  go_ret
  exact ⟨rfl, _, rfl⟩
/-- what the sorts ask of the comparison: in every world in which only the sorted row (its block g) is turned -/
def Cmp (g : Nat) (w : World) (key : Nat → Int) (m : Nat) (bx : Nat) : Prop :=
  ∀ wr, Keep [g] w wr → ∀ a b : Nat, a < m → b < m → Calls Try.prog 43 #[.int .i64 (a : Nat), .int .i64 (b : Nat), .pointer (some ⟨bx, 0, none⟩)] wr fun e w' => e = .returned (.int .i64 (key a - key b)) ∧ ∃ k, w' = wr.drewN k
theorem Cmp.of {ls : List Int} {A : Option Addr} {c bx g : Nat} {w : World} (hB : Blk w bx 22 #[.slice A ls.length c]) (hs : ISrc w A ls) (hg : good ls) (h1 : bx ≠ g) (h2 : ∀ a, A = some a → a.block ≠ g) : Cmp g w (fun i => ls.getD i 0) ls.length bx := fun wr hk a b ha hb => by
  have := cmp_any ls A c bx a b wr (hB.keep hk (by simpa using h1)) (hs.keep hk (fun a h => by simpa using h2 a h)) hg ha hb
  simpa [List.getD, ha, hb] using this
end Go.Proofs.Ytknjjodkpknglaa
