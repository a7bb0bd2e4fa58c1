/-
  No cell of these rows narrows 'for every input' (looked for: loops, veiled, ifaces, maps, wideKeys, modest, calm, conditions, laid).
  DERIVED. THE GIVEN ROWS OF THIS SEAT. 7 by the template 'for every input the law returns true; each argument reads behind the call as it read before'; 0 by the template 'total and deterministic' (their statements: YtiejjbdmkgdniaaTotals.lean).
  GIVEN WITH THE SEED: the statements are not yours to turn. If you find one false, say at which input.
  Laid BY PROGRAM, IN A SANDBOX (cutbox-rows.mjs): the forced cells as the released guide's own fill.sh prints them over the translation 8f11105922ce8fda… (all of the seat's roots in one cut). By AI agents, Wed Nov 11 2026. No macro, syntax, notation, axiom, sorry.
-/
import Derived.Test.YtiejjbdmkgdniaaChecked
import GoSem.Claim
import GoSem.ClaimJoined
import GoSem.ClaimMapViews
import Derived.JoinedTies
import Derived.KernelRfl
namespace Go.Proofs.Ytiejjbdmkgdniaa
/- THE CELL 'sum', in the pinned program and in every row, IS THE sha256 OF THE DUMP (.gsa) THAT YtiejjbdmkgdniaaProg.lean LOADS. Nothing in Lean hashes anything: it is a label: what it is worth is what the hold of that sum in a sandbox is worth. -/
noncomputable def Try.pinned : Pinned := { name := "ytiejjbdmkgdniaa", sum := "8f11105922ce8fdabd4c2199d3053498b7aaa047efb87a023e687818e45042c2", checked := Try.checked }
namespace Rows
def none {H : Type} : Left H := { results := [], args := [] }

/-- 'salternlaw07.CodecPacks': WHATEVER THE INPUT: true; the input reads as it did. -/
def codecPacksSpec : ChangeSpec := { name := "codecPacks", fn := fun _ => fun
  | [d] => { results := [.lit (.bool true)], args := [d] }
  | _ => none }
def codecPacksRow : OpenClaim := { program := "ytiejjbdmkgdniaa", sum := "8f11105922ce8fdabd4c2199d3053498b7aaa047efb87a023e687818e45042c2", func := "saltern/salternlaw07.CodecPacks", spec := "codecPacks", unfollowed := true, recurses := true, plainKeys := false, apart := false }
def CodecPacksSaid : Prop := codecPacksRow.holds Try.pinned (OpenSpec.ofChange codecPacksSpec)

/-- ITS FALSE NEIGHBOUR: 'it returns false'. Refute it at one input. -/
def codecPacksWrong : ChangeSpec := { name := "codecPacks", fn := fun _ => fun
  | [d] => { results := [.lit (.bool false)], args := [d] }
  | _ => none }
def CodecPacksWrongFalsely : Prop := codecPacksRow.holds Try.pinned (OpenSpec.ofChange codecPacksWrong)

/-- 'salternlaw07.CodecUnpacks': WHATEVER THE INPUT: true; the input reads as it did. -/
def codecUnpacksSpec : ChangeSpec := { name := "codecUnpacks", fn := fun _ => fun
  | [d] => { results := [.lit (.bool true)], args := [d] }
  | _ => none }
def codecUnpacksRow : OpenClaim := { program := "ytiejjbdmkgdniaa", sum := "8f11105922ce8fdabd4c2199d3053498b7aaa047efb87a023e687818e45042c2", func := "saltern/salternlaw07.CodecUnpacks", spec := "codecUnpacks", unfollowed := true, recurses := true, plainKeys := false, apart := false }
def CodecUnpacksSaid : Prop := codecUnpacksRow.holds Try.pinned (OpenSpec.ofChange codecUnpacksSpec)

/-- ITS FALSE NEIGHBOUR: 'it returns false'. Refute it at one input. -/
def codecUnpacksWrong : ChangeSpec := { name := "codecUnpacks", fn := fun _ => fun
  | [d] => { results := [.lit (.bool false)], args := [d] }
  | _ => none }
def CodecUnpacksWrongFalsely : Prop := codecUnpacksRow.holds Try.pinned (OpenSpec.ofChange codecUnpacksWrong)

/-- 'salternlaw07.CodecEncodes': WHATEVER THE INPUT: true; the input reads as it did. -/
def codecEncodesSpec : ChangeSpec := { name := "codecEncodes", fn := fun _ => fun
  | [d] => { results := [.lit (.bool true)], args := [d] }
  | _ => none }
def codecEncodesRow : OpenClaim := { program := "ytiejjbdmkgdniaa", sum := "8f11105922ce8fdabd4c2199d3053498b7aaa047efb87a023e687818e45042c2", func := "saltern/salternlaw07.CodecEncodes", spec := "codecEncodes", unfollowed := true, recurses := true, plainKeys := false, apart := false }
def CodecEncodesSaid : Prop := codecEncodesRow.holds Try.pinned (OpenSpec.ofChange codecEncodesSpec)

/-- ITS FALSE NEIGHBOUR: 'it returns false'. Refute it at one input. -/
def codecEncodesWrong : ChangeSpec := { name := "codecEncodes", fn := fun _ => fun
  | [d] => { results := [.lit (.bool false)], args := [d] }
  | _ => none }
def CodecEncodesWrongFalsely : Prop := codecEncodesRow.holds Try.pinned (OpenSpec.ofChange codecEncodesWrong)

/-- 'salternlaw07.CodecBack': WHATEVER THE INPUT: true; the input reads as it did. -/
def codecBackSpec : ChangeSpec := { name := "codecBack", fn := fun _ => fun
  | [d1, d2] => { results := [.lit (.bool true)], args := [d1, d2] }
  | _ => none }
def codecBackRow : OpenClaim := { program := "ytiejjbdmkgdniaa", sum := "8f11105922ce8fdabd4c2199d3053498b7aaa047efb87a023e687818e45042c2", func := "saltern/salternlaw07.CodecBack", spec := "codecBack", unfollowed := true, recurses := true, plainKeys := false, apart := false }
def CodecBackSaid : Prop := codecBackRow.holds Try.pinned (OpenSpec.ofChange codecBackSpec)

/-- ITS FALSE NEIGHBOUR: 'it returns false'. Refute it at one input. -/
def codecBackWrong : ChangeSpec := { name := "codecBack", fn := fun _ => fun
  | [d1, d2] => { results := [.lit (.bool false)], args := [d1, d2] }
  | _ => none }
def CodecBackWrongFalsely : Prop := codecBackRow.holds Try.pinned (OpenSpec.ofChange codecBackWrong)

/-- 'salternlaw07.CodecOne': WHATEVER THE INPUT: true; the input reads as it did. -/
def codecOneSpec : ChangeSpec := { name := "codecOne", fn := fun _ => fun
  | [d] => { results := [.lit (.bool true)], args := [d] }
  | _ => none }
def codecOneRow : OpenClaim := { program := "ytiejjbdmkgdniaa", sum := "8f11105922ce8fdabd4c2199d3053498b7aaa047efb87a023e687818e45042c2", func := "saltern/salternlaw07.CodecOne", spec := "codecOne", unfollowed := true, recurses := true, plainKeys := false, apart := false }
def CodecOneSaid : Prop := codecOneRow.holds Try.pinned (OpenSpec.ofChange codecOneSpec)

/-- ITS FALSE NEIGHBOUR: 'it returns false'. Refute it at one input. -/
def codecOneWrong : ChangeSpec := { name := "codecOne", fn := fun _ => fun
  | [d] => { results := [.lit (.bool false)], args := [d] }
  | _ => none }
def CodecOneWrongFalsely : Prop := codecOneRow.holds Try.pinned (OpenSpec.ofChange codecOneWrong)

/-- 'salternlaw07.CodecDecodes': WHATEVER THE INPUT: true; the input reads as it did. -/
def codecDecodesSpec : ChangeSpec := { name := "codecDecodes", fn := fun _ => fun
  | [d] => { results := [.lit (.bool true)], args := [d] }
  | _ => none }
def codecDecodesRow : OpenClaim := { program := "ytiejjbdmkgdniaa", sum := "8f11105922ce8fdabd4c2199d3053498b7aaa047efb87a023e687818e45042c2", func := "saltern/salternlaw07.CodecDecodes", spec := "codecDecodes", unfollowed := true, recurses := true, plainKeys := false, apart := false }
def CodecDecodesSaid : Prop := codecDecodesRow.holds Try.pinned (OpenSpec.ofChange codecDecodesSpec)

/-- ITS FALSE NEIGHBOUR: 'it returns false'. Refute it at one input. -/
def codecDecodesWrong : ChangeSpec := { name := "codecDecodes", fn := fun _ => fun
  | [d] => { results := [.lit (.bool false)], args := [d] }
  | _ => none }
def CodecDecodesWrongFalsely : Prop := codecDecodesRow.holds Try.pinned (OpenSpec.ofChange codecDecodesWrong)

/-- 'salternlaw07.CodecBounds': WHATEVER THE INPUT: true; the input reads as it did. -/
def codecBoundsSpec : ChangeSpec := { name := "codecBounds", fn := fun _ => fun
  | [d1, d2] => { results := [.lit (.bool true)], args := [d1, d2] }
  | _ => none }
def codecBoundsRow : OpenClaim := { program := "ytiejjbdmkgdniaa", sum := "8f11105922ce8fdabd4c2199d3053498b7aaa047efb87a023e687818e45042c2", func := "saltern/salternlaw07.CodecBounds", spec := "codecBounds", unfollowed := true, recurses := true, plainKeys := false, apart := false }
def CodecBoundsSaid : Prop := codecBoundsRow.holds Try.pinned (OpenSpec.ofChange codecBoundsSpec)

/-- ITS FALSE NEIGHBOUR: 'it returns false'. Refute it at one input. -/
def codecBoundsWrong : ChangeSpec := { name := "codecBounds", fn := fun _ => fun
  | [d1, d2] => { results := [.lit (.bool false)], args := [d1, d2] }
  | _ => none }
def CodecBoundsWrongFalsely : Prop := codecBoundsRow.holds Try.pinned (OpenSpec.ofChange codecBoundsWrong)

/- THE SECOND FORM. 'bulk': how many values and letters a reading holds, each counted each time it is reached (what is shared counts as often as it is met; a slice's spare places count too). A statement '..UptoSaid' is the law's where the arguments, and the package variables that the reading takes, are together of bulk at most 1048576: NARROWER than '..Said'. Prove '..Said' where nothing that the law and all that it calls make is longer than what came in: it says more and counts as full. Else prove '..UptoSaid'. A law counts once. -/
mutual
def uptoBulk {H : Type} : DataW H → Nat
  | .lit (.string bytes) => bytes.length + 1
  | .lit _ => 1
  | .nil => 1
  | .ptr d => uptoBulk d + 1
  | .slice elems spare => uptoBulkAll elems + uptoBulkAll spare + 1
  | .agg parts => uptoBulkAll parts + 1
  | .iface _ d => uptoBulk d + 1
  | .map entries => uptoBulkEntries entries + 1
  | .held _ => 1
def uptoBulkAll {H : Type} : List (DataW H) → Nat
  | [] => 0
  | d :: r => uptoBulk d + uptoBulkAll r
def uptoBulkEntries {H : Type} : List (Lit × DataW H) → Nat
  | [] => 0
  | x :: r => uptoBulkEntry x + uptoBulkEntries r
def uptoBulkEntry {H : Type} : Lit × DataW H → Nat
  | (.string bytes, d) => bytes.length + uptoBulk d + 1
  | (_, d) => uptoBulk d + 1
 end
def uptoSmall : (H : Type) → List (DataW H) → Bool := fun _ ds => decide (uptoBulkAll ds ≤ 1048576)
def OpenSpec.upto (s : _root_.Go.ChangeSpec) : _root_.Go.OpenSpec := { _root_.Go.OpenSpec.ofChange s with cond := some uptoSmall }

/-- 'salternlaw07.CodecPacks', WHERE WHAT IT READS IS OF BULK AT MOST 1048576: true; the input reads as it did. -/
def codecPacksUptoRow : OpenClaim := { program := "ytiejjbdmkgdniaa", sum := "8f11105922ce8fdabd4c2199d3053498b7aaa047efb87a023e687818e45042c2", func := "saltern/salternlaw07.CodecPacks", spec := "codecPacks", unfollowed := true, recurses := true, plainKeys := false, apart := false, narrowed := true }
def CodecPacksUptoSaid : Prop := codecPacksUptoRow.holds Try.pinned (OpenSpec.upto codecPacksSpec)

/-- 'salternlaw07.CodecUnpacks', WHERE WHAT IT READS IS OF BULK AT MOST 1048576: true; the input reads as it did. -/
def codecUnpacksUptoRow : OpenClaim := { program := "ytiejjbdmkgdniaa", sum := "8f11105922ce8fdabd4c2199d3053498b7aaa047efb87a023e687818e45042c2", func := "saltern/salternlaw07.CodecUnpacks", spec := "codecUnpacks", unfollowed := true, recurses := true, plainKeys := false, apart := false, narrowed := true }
def CodecUnpacksUptoSaid : Prop := codecUnpacksUptoRow.holds Try.pinned (OpenSpec.upto codecUnpacksSpec)

/-- 'salternlaw07.CodecEncodes', WHERE WHAT IT READS IS OF BULK AT MOST 1048576: true; the input reads as it did. -/
def codecEncodesUptoRow : OpenClaim := { program := "ytiejjbdmkgdniaa", sum := "8f11105922ce8fdabd4c2199d3053498b7aaa047efb87a023e687818e45042c2", func := "saltern/salternlaw07.CodecEncodes", spec := "codecEncodes", unfollowed := true, recurses := true, plainKeys := false, apart := false, narrowed := true }
def CodecEncodesUptoSaid : Prop := codecEncodesUptoRow.holds Try.pinned (OpenSpec.upto codecEncodesSpec)

/-- 'salternlaw07.CodecBack', WHERE WHAT IT READS IS OF BULK AT MOST 1048576: true; the input reads as it did. -/
def codecBackUptoRow : OpenClaim := { program := "ytiejjbdmkgdniaa", sum := "8f11105922ce8fdabd4c2199d3053498b7aaa047efb87a023e687818e45042c2", func := "saltern/salternlaw07.CodecBack", spec := "codecBack", unfollowed := true, recurses := true, plainKeys := false, apart := false, narrowed := true }
def CodecBackUptoSaid : Prop := codecBackUptoRow.holds Try.pinned (OpenSpec.upto codecBackSpec)

/-- 'salternlaw07.CodecOne', WHERE WHAT IT READS IS OF BULK AT MOST 1048576: true; the input reads as it did. -/
def codecOneUptoRow : OpenClaim := { program := "ytiejjbdmkgdniaa", sum := "8f11105922ce8fdabd4c2199d3053498b7aaa047efb87a023e687818e45042c2", func := "saltern/salternlaw07.CodecOne", spec := "codecOne", unfollowed := true, recurses := true, plainKeys := false, apart := false, narrowed := true }
def CodecOneUptoSaid : Prop := codecOneUptoRow.holds Try.pinned (OpenSpec.upto codecOneSpec)

/-- 'salternlaw07.CodecDecodes', WHERE WHAT IT READS IS OF BULK AT MOST 1048576: true; the input reads as it did. -/
def codecDecodesUptoRow : OpenClaim := { program := "ytiejjbdmkgdniaa", sum := "8f11105922ce8fdabd4c2199d3053498b7aaa047efb87a023e687818e45042c2", func := "saltern/salternlaw07.CodecDecodes", spec := "codecDecodes", unfollowed := true, recurses := true, plainKeys := false, apart := false, narrowed := true }
def CodecDecodesUptoSaid : Prop := codecDecodesUptoRow.holds Try.pinned (OpenSpec.upto codecDecodesSpec)

/-- 'salternlaw07.CodecBounds', WHERE WHAT IT READS IS OF BULK AT MOST 1048576: true; the input reads as it did. -/
def codecBoundsUptoRow : OpenClaim := { program := "ytiejjbdmkgdniaa", sum := "8f11105922ce8fdabd4c2199d3053498b7aaa047efb87a023e687818e45042c2", func := "saltern/salternlaw07.CodecBounds", spec := "codecBounds", unfollowed := true, recurses := true, plainKeys := false, apart := false, narrowed := true }
def CodecBoundsUptoSaid : Prop := codecBoundsUptoRow.holds Try.pinned (OpenSpec.upto codecBoundsSpec)

end Rows
end Go.Proofs.Ytiejjbdmkgdniaa
