/-
  No cell of these rows narrows 'for every input' (looked for: loops, veiled, ifaces, maps, wideKeys, modest, calm, conditions, laid).
  DERIVED. THE GIVEN ROWS OF THIS SEAT. 5 by the template 'for every input the law returns true; each argument reads behind the call as it read before'; 0 by the template 'total and deterministic' (their statements: YtlkpecalkakpeaaTotals.lean).
  GIVEN WITH THE SEED: the statements are not yours to turn. If you find one false, say at which input.
  Laid BY PROGRAM, IN A SANDBOX (cutbox-rows.mjs): the forced cells as the released guide's own fill.sh prints them over the translation 22711b581ce6e74d… (all of the seat's roots in one cut). By AI agents, Wed Nov 11 2026. No macro, syntax, notation, axiom, sorry.
-/
import Derived.Test.YtlkpecalkakpeaaChecked
import GoSem.Claim
import GoSem.ClaimJoined
import GoSem.ClaimMapViews
import Derived.JoinedTies
import Derived.KernelRfl
namespace Go.Proofs.Ytlkpecalkakpeaa
/- THE CELL 'sum', in the pinned program and in every row, IS THE sha256 OF THE DUMP (.gsa) THAT YtlkpecalkakpeaaProg.lean LOADS. Nothing in Lean hashes anything: it is a label: what it is worth is what the hold of that sum in a sandbox is worth. -/
noncomputable def Try.pinned : Pinned := { name := "ytlkpecalkakpeaa", sum := "22711b581ce6e74dade7cffd6e7379d05823ce664ad9aa9d9fbe36d39982aeed", checked := Try.checked }
namespace Rows
def none {H : Type} : Left H := { results := [], args := [] }

/-- 'salternlaw19.WindowTakes': WHATEVER THE INPUT: true; the input reads as it did. -/
def windowTakesSpec : ChangeSpec := { name := "windowTakes", fn := fun _ => fun
  | [d1, d2] => { results := [.lit (.bool true)], args := [d1, d2] }
  | _ => none }
def windowTakesRow : OpenClaim := { program := "ytlkpecalkakpeaa", sum := "22711b581ce6e74dade7cffd6e7379d05823ce664ad9aa9d9fbe36d39982aeed", func := "saltern/salternlaw19.WindowTakes", spec := "windowTakes", apart := false }
def WindowTakesSaid : Prop := windowTakesRow.holds Try.pinned (OpenSpec.ofChange windowTakesSpec)

/-- ITS FALSE NEIGHBOUR: 'it returns false'. Refute it at one input. -/
def windowTakesWrong : ChangeSpec := { name := "windowTakes", fn := fun _ => fun
  | [d1, d2] => { results := [.lit (.bool false)], args := [d1, d2] }
  | _ => none }
def WindowTakesWrongFalsely : Prop := windowTakesRow.holds Try.pinned (OpenSpec.ofChange windowTakesWrong)

/-- 'salternlaw19.WindowOrder': WHATEVER THE INPUT: true; the input reads as it did. -/
def windowOrderSpec : ChangeSpec := { name := "windowOrder", fn := fun _ => fun
  | [d1, d2, d3] => { results := [.lit (.bool true)], args := [d1, d2, d3] }
  | _ => none }
def windowOrderRow : OpenClaim := { program := "ytlkpecalkakpeaa", sum := "22711b581ce6e74dade7cffd6e7379d05823ce664ad9aa9d9fbe36d39982aeed", func := "saltern/salternlaw19.WindowOrder", spec := "windowOrder", unfollowed := true, recurses := true, apart := false }
def WindowOrderSaid : Prop := windowOrderRow.holds Try.pinned (OpenSpec.ofChange windowOrderSpec)

/-- ITS FALSE NEIGHBOUR: 'it returns false'. Refute it at one input. -/
def windowOrderWrong : ChangeSpec := { name := "windowOrder", fn := fun _ => fun
  | [d1, d2, d3] => { results := [.lit (.bool false)], args := [d1, d2, d3] }
  | _ => none }
def WindowOrderWrongFalsely : Prop := windowOrderRow.holds Try.pinned (OpenSpec.ofChange windowOrderWrong)

/-- 'salternlaw19.WindowAll': WHATEVER THE INPUT: true; the input reads as it did. -/
def windowAllSpec : ChangeSpec := { name := "windowAll", fn := fun _ => fun
  | [d1, d2, d3, d4] => { results := [.lit (.bool true)], args := [d1, d2, d3, d4] }
  | _ => none }
def windowAllRow : OpenClaim := { program := "ytlkpecalkakpeaa", sum := "22711b581ce6e74dade7cffd6e7379d05823ce664ad9aa9d9fbe36d39982aeed", func := "saltern/salternlaw19.WindowAll", spec := "windowAll", unfollowed := true, recurses := true, apart := false }
def WindowAllSaid : Prop := windowAllRow.holds Try.pinned (OpenSpec.ofChange windowAllSpec)

/-- ITS FALSE NEIGHBOUR: 'it returns false'. Refute it at one input. -/
def windowAllWrong : ChangeSpec := { name := "windowAll", fn := fun _ => fun
  | [d1, d2, d3, d4] => { results := [.lit (.bool false)], args := [d1, d2, d3, d4] }
  | _ => none }
def WindowAllWrongFalsely : Prop := windowAllRow.holds Try.pinned (OpenSpec.ofChange windowAllWrong)

/-- 'salternlaw19.WindowSends': WHATEVER THE INPUT: true; the input reads as it did. -/
def windowSendsSpec : ChangeSpec := { name := "windowSends", fn := fun _ => fun
  | [d1, d2, d3] => { results := [.lit (.bool true)], args := [d1, d2, d3] }
  | _ => none }
def windowSendsRow : OpenClaim := { program := "ytlkpecalkakpeaa", sum := "22711b581ce6e74dade7cffd6e7379d05823ce664ad9aa9d9fbe36d39982aeed", func := "saltern/salternlaw19.WindowSends", spec := "windowSends", unfollowed := true, recurses := true, apart := false }
def WindowSendsSaid : Prop := windowSendsRow.holds Try.pinned (OpenSpec.ofChange windowSendsSpec)

/-- ITS FALSE NEIGHBOUR: 'it returns false'. Refute it at one input. -/
def windowSendsWrong : ChangeSpec := { name := "windowSends", fn := fun _ => fun
  | [d1, d2, d3] => { results := [.lit (.bool false)], args := [d1, d2, d3] }
  | _ => none }
def WindowSendsWrongFalsely : Prop := windowSendsRow.holds Try.pinned (OpenSpec.ofChange windowSendsWrong)

/-- 'salternlaw19.WindowNobody': WHATEVER THE INPUT: true; the input reads as it did. -/
def windowNobodySpec : ChangeSpec := { name := "windowNobody", fn := fun _ => fun
  | [d] => { results := [.lit (.bool true)], args := [d] }
  | _ => none }
def windowNobodyRow : OpenClaim := { program := "ytlkpecalkakpeaa", sum := "22711b581ce6e74dade7cffd6e7379d05823ce664ad9aa9d9fbe36d39982aeed", func := "saltern/salternlaw19.WindowNobody", spec := "windowNobody", unfollowed := true, recurses := true, apart := false }
def WindowNobodySaid : Prop := windowNobodyRow.holds Try.pinned (OpenSpec.ofChange windowNobodySpec)

/-- ITS FALSE NEIGHBOUR: 'it returns false'. Refute it at one input. -/
def windowNobodyWrong : ChangeSpec := { name := "windowNobody", fn := fun _ => fun
  | [d] => { results := [.lit (.bool false)], args := [d] }
  | _ => none }
def WindowNobodyWrongFalsely : Prop := windowNobodyRow.holds Try.pinned (OpenSpec.ofChange windowNobodyWrong)

/- THE SECOND FORM. 'bulk': how many values and letters a reading holds, each counted each time it is reached (what is shared counts as often as it is met; a slice's spare places count too). A statement '..UptoSaid' is the law's where the arguments, and the package variables that the reading takes, are together of bulk at most 1048576: NARROWER than '..Said'. Prove '..Said' where nothing that the law and all that it calls make is longer than what came in: it says more and counts as full. Else prove '..UptoSaid'. A law counts once. -/
mutual
def uptoBulk {H : Type} : DataW H → Nat
  | .lit (.string bytes) => bytes.length + 1
  | .lit _ => 1
  | .nil => 1
  | .ptr d => uptoBulk d + 1
  | .slice elems spare => uptoBulkAll elems + uptoBulkAll spare + 1
  | .agg parts => uptoBulkAll parts + 1
  | .iface _ d => uptoBulk d + 1
  | .map entries => uptoBulkEntries entries + 1
  | .held _ => 1
def uptoBulkAll {H : Type} : List (DataW H) → Nat
  | [] => 0
  | d :: r => uptoBulk d + uptoBulkAll r
def uptoBulkEntries {H : Type} : List (Lit × DataW H) → Nat
  | [] => 0
  | x :: r => uptoBulkEntry x + uptoBulkEntries r
def uptoBulkEntry {H : Type} : Lit × DataW H → Nat
  | (.string bytes, d) => bytes.length + uptoBulk d + 1
  | (_, d) => uptoBulk d + 1
 end
def uptoSmall : (H : Type) → List (DataW H) → Bool := fun _ ds => decide (uptoBulkAll ds ≤ 1048576)
def OpenSpec.upto (s : _root_.Go.ChangeSpec) : _root_.Go.OpenSpec := { _root_.Go.OpenSpec.ofChange s with cond := some uptoSmall }

/-- 'salternlaw19.WindowTakes', WHERE WHAT IT READS IS OF BULK AT MOST 1048576: true; the input reads as it did. -/
def windowTakesUptoRow : OpenClaim := { program := "ytlkpecalkakpeaa", sum := "22711b581ce6e74dade7cffd6e7379d05823ce664ad9aa9d9fbe36d39982aeed", func := "saltern/salternlaw19.WindowTakes", spec := "windowTakes", apart := false, narrowed := true }
def WindowTakesUptoSaid : Prop := windowTakesUptoRow.holds Try.pinned (OpenSpec.upto windowTakesSpec)

/-- 'salternlaw19.WindowOrder', WHERE WHAT IT READS IS OF BULK AT MOST 1048576: true; the input reads as it did. -/
def windowOrderUptoRow : OpenClaim := { program := "ytlkpecalkakpeaa", sum := "22711b581ce6e74dade7cffd6e7379d05823ce664ad9aa9d9fbe36d39982aeed", func := "saltern/salternlaw19.WindowOrder", spec := "windowOrder", unfollowed := true, recurses := true, apart := false, narrowed := true }
def WindowOrderUptoSaid : Prop := windowOrderUptoRow.holds Try.pinned (OpenSpec.upto windowOrderSpec)

/-- 'salternlaw19.WindowAll', WHERE WHAT IT READS IS OF BULK AT MOST 1048576: true; the input reads as it did. -/
def windowAllUptoRow : OpenClaim := { program := "ytlkpecalkakpeaa", sum := "22711b581ce6e74dade7cffd6e7379d05823ce664ad9aa9d9fbe36d39982aeed", func := "saltern/salternlaw19.WindowAll", spec := "windowAll", unfollowed := true, recurses := true, apart := false, narrowed := true }
def WindowAllUptoSaid : Prop := windowAllUptoRow.holds Try.pinned (OpenSpec.upto windowAllSpec)

/-- 'salternlaw19.WindowSends', WHERE WHAT IT READS IS OF BULK AT MOST 1048576: true; the input reads as it did. -/
def windowSendsUptoRow : OpenClaim := { program := "ytlkpecalkakpeaa", sum := "22711b581ce6e74dade7cffd6e7379d05823ce664ad9aa9d9fbe36d39982aeed", func := "saltern/salternlaw19.WindowSends", spec := "windowSends", unfollowed := true, recurses := true, apart := false, narrowed := true }
def WindowSendsUptoSaid : Prop := windowSendsUptoRow.holds Try.pinned (OpenSpec.upto windowSendsSpec)

/-- 'salternlaw19.WindowNobody', WHERE WHAT IT READS IS OF BULK AT MOST 1048576: true; the input reads as it did. -/
def windowNobodyUptoRow : OpenClaim := { program := "ytlkpecalkakpeaa", sum := "22711b581ce6e74dade7cffd6e7379d05823ce664ad9aa9d9fbe36d39982aeed", func := "saltern/salternlaw19.WindowNobody", spec := "windowNobody", unfollowed := true, recurses := true, apart := false, narrowed := true }
def WindowNobodyUptoSaid : Prop := windowNobodyUptoRow.holds Try.pinned (OpenSpec.upto windowNobodySpec)

end Rows
end Go.Proofs.Ytlkpecalkakpeaa
