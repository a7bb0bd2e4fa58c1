/- Deeds, as pure data: their names, the fields that their lines show, their lines. -/
import Derived.Test.YtopfbbnpbobhaaaDoorHy
import Derived.Lib.Join
namespace Go.Proofs.YtopfbbnpbobhaaaDoor
open Go

structure Dd where
  kind : Int
  a : Int
  path : List UInt8
  bs : List UInt8
  frm : Int
  n : Int
  keep : List Bool
def nameOf (k : Int) : List UInt8 :=
  if k = 1 then [112, 117, 116] else if k = 2 then [100, 101, 108, 101, 116, 101] else if k = 3 then [103, 101, 116] else if k = 4 then [109, 97, 114, 107]
  else if k = 5 then [115, 119, 101, 101, 112] else if k = 6 then [115, 99, 114, 117, 98] else if k = 7 then [112, 114, 111, 109, 111, 116, 101] else if k = 8 then [115, 116, 101, 112]
  else if k = 9 then [100, 101, 108, 105, 118, 101, 114] else if k = 10 then [100, 114, 111, 112] else if k = 11 then [100, 111, 117, 98, 108, 101] else if k = 12 then [105, 110, 106, 101, 99, 116]
  else if k = 13 then [116, 105, 99, 107] else if k = 14 then [99, 114, 97, 115, 104] else if k = 15 then [114, 111, 116] else if k = 16 then [102, 117, 115, 101] else []
def fieldsOf (k : Int) : List UInt8 :=
  if k = 1 then [97, 112, 98] else if k = 2 then [97, 112] else if k = 3 then [97, 112, 102, 110] else if k = 9 ∨ k = 10 ∨ k = 11 then [110] else if k = 12 then [97, 98]
  else if k = 13 ∨ k = 16 then [97, 110] else if k = 14 then [97, 102, 110, 107] else if k = 15 then [97, 102, 110, 98] else [97]
def truS (l : List Bool) : List UInt8 := if l = [] then [46] else l.map fun t => if t then 43 else 45
def wordOf (d : Dd) (f : UInt8) : List UInt8 :=
  if f = 97 then Lib.itoa d.a else if f = 112 then hexS d.path else if f = 98 then hexS d.bs else if f = 102 then Lib.itoa d.frm else if f = 110 then Lib.itoa d.n else truS d.keep
def lineOf (d : Dd) : List UInt8 := Lib.join (nameOf d.kind :: (fieldsOf d.kind).map (wordOf d)) [32]
/-- the fields that a line shows -/
def keepF (d : Dd) (l : List UInt8) : Dd := ⟨d.kind, if 97 ∈ l then d.a else 0, if 112 ∈ l then d.path else [], if 98 ∈ l then d.bs else [], if 102 ∈ l then d.frm else 0, if 110 ∈ l then d.n else 0, if 107 ∈ l then d.keep else []⟩
def shownOf (d : Dd) : Dd := keepF d (fieldsOf d.kind)
theorem fields_all (k : Int) : (fieldsOf k).all (fun f => f == 97 || f == 112 || f == 98 || f == 102 || f == 110 || f == 107) = true := by
  unfold fieldsOf
  repeat' split
  all_goals rfl
theorem fields_mem (k : Int) (f : UInt8) (hf : f ∈ fieldsOf k) : f = 97 ∨ f = 112 ∨ f = 98 ∨ f = 102 ∨ f = 110 ∨ f = 107 := by
  have := List.all_eq_true.1 (fields_all k) f hf
  simp only [Bool.or_eq_true, beq_iff_eq] at this
  simpa [or_assoc] using this
theorem fields_len (k : Int) : (fieldsOf k).length ≤ 4 := by
  unfold fieldsOf
  repeat' split
  all_goals simp
end Go.Proofs.YtopfbbnpbobhaaaDoor
