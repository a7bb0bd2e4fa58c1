/- alive. -/
import Derived.Test.YtopfbbnpbobhaaaDoorT7
import Derived.Lib.SlBytesConst
set_option linter.unusedVariables false
set_option linter.unusedSimpArgs false
namespace Go.Proofs.YtopfbbnpbobhaaaDoor
open Go.RowKit Go.Sal

def d0 : Dd := ⟨1, 0, [97], [104, 101, 108, 108, 111], 0, 0, []⟩
theorem itoa0 : Lib.itoa 0 = [48] := by simp [Lib.itoa, Lib.decDigits]
theorem line0 : lineOf d0 = [112, 117, 116, 32, 48, 32, 54, 49, 32, 54, 56, 54, 53, 54, 99, 54, 99, 54, 102] := by
  have e : lineOf d0 = Lib.join [[112, 117, 116], Lib.itoa 0, hexS [97], hexS [104, 101, 108, 108, 111]] [32] := rfl
  rw [itoa0] at e
  exact e.trans (by kernel_rfl)
theorem tx0 : txV d0 = .tuple #[.string ⟨#[112, 117, 116, 32, 48, 32, 54, 49, 32, 54, 56, 54, 53, 54, 99, 54, 99, 54, 102]⟩, .int .i64 0] := by
  unfold txV
  rw [if_pos ⟨by decide, by decide⟩, line0]
theorem uh1 : uhS [48, 48, 42, 49, 48, 48, 44, 54, 49] = .ok (List.replicate 100 0 ++ [97]) := by kernel_rfl
theorem uh2 : uhS [54, 49, 54, 49, 54, 49, 54, 49, 54, 49] = .bad 9 := by kernel_rfl
set_option maxRecDepth 200000 in
set_option maxHeartbeats 8000000 in
theorem alive_any (w : World) (htab : Lib.TabIs Tryd.prog w "internal/strconv.uint64pow10" .u64 Lib.pow10Tab) : Calls Tryd.prog 11 #[] w fun e w' => e = .returned (.bool true) ∧ Below w.heap.size w w' := by
  have HT := Lib.hid (Lib.tabBelow_of_tabIs htab)
  have hcv := Lib.run_convert_bytes_const (P := Tryd.prog) w 22 5 #[.int .u8 104, .int .u8 101, .int .u8 108, .int .u8 108, .int .u8 111] 5 5 Tryd.underlying22 Tryd.underlying5
  have hcA : ∀ j, (w.alloc (.cells #[.int .u8 104, .int .u8 101, .int .u8 108, .int .u8 108, .int .u8 111] 5 (5, 6))).cell? ⟨w.heap.size, j, none⟩ = (#[.int .u8 104, .int .u8 101, .int .u8 108, .int .u8 108, .int .u8 111] : Array Value)[j]? := fun j => World.cell?_alloc_mark w _ 5 (5, 6) j
  have hbA : Hid (Below w.heap.size w (w.alloc (.cells #[.int .u8 104, .int .u8 101, .int .u8 108, .int .u8 108, .int .u8 111] 5 (5, 6)))) := Lib.hid ((Below.refl _ w).alloc (Nat.le_refl _) _)
  have hzA : Hid (w.heap.size + 1 = (w.alloc (.cells #[.int .u8 104, .int .u8 101, .int .u8 108, .int .u8 108, .int .u8 111] 5 (5, 6))).heap.size) := Lib.hid (by simp)
  simp only [List.size_toArray, List.length_cons, List.length_nil, Nat.reduceAdd] at hcv
  generalize w.alloc (.cells #[.int .u8 104, .int .u8 101, .int .u8 108, .int .u8 108, .int .u8 111] 5 (5, 6)) = wA at *
  have htx := text_any d0 (some ⟨w.heap.size, 0, none⟩) none 5 0 wA (fun _ => ⟨_, _, rfl, by have := hzA.out; omega, fun j hj => by
      rw [Nat.zero_add, hcA]
      match j, hj with
      | 0, _ => rfl
      | 1, _ => rfl
      | 2, _ => rfl
      | 3, _ => rfl
      | 4, _ => rfl⟩) (RD.nil _ _ _) (by decide) (by decide) (by decide) (by decide) (by decide) (by decide) (by decide) (by decide) (HT.out _ hbA.out)
  rw [tx0] at htx
  have htx2 : Calls Tryd.prog 28 #[.agg #[.int .i64 1, .int .i64 0, .string ⟨#[97]⟩, .slice (some ⟨w.heap.size, 0, none⟩) 5 5, .int .i64 0, .int .i64 0, .slice none 0 0]] wA fun e w' => e = .returned (.tuple #[.string ⟨#[112, 117, 116, 32, 48, 32, 54, 49, 32, 54, 56, 54, 53, 54, 99, 54, 99, 54, 102]⟩, .int .i64 0]) ∧ Below wA.heap.size wA w' := htx
  have Htx := Lib.hid htx2
  have hu1 : ∀ W, Hid (Calls Tryd.prog 7 #[.string ⟨#[48, 48, 42, 49, 48, 48, 44, 54, 49]⟩] W fun e w' => ∃ A c, e = .returned (.tuple #[.slice A 101 c, .int .i64 0, .int .i64 0]) ∧ Below W.heap.size W w') := fun W => Lib.hid ((unhex_any [48, 48, 42, 49, 48, 48, 44, 54, 49] W (by decide)).mono (fun e w' h => by
    rw [uh1] at h
    obtain ⟨h1, A, c, h2, _⟩ := h
    exact ⟨A, c, h2, h1⟩))
  have hu2 : ∀ W, Hid (Calls Tryd.prog 7 #[.string ⟨#[54, 49, 54, 49, 54, 49, 54, 49, 54, 49]⟩] W fun e w' => e = .returned (.tuple #[.slice none 0 0, .int .i64 9, .int .i64 250]) ∧ Below W.heap.size W w') := fun W => Lib.hid ((unhex_any [54, 49, 54, 49, 54, 49, 54, 49, 54, 49] W (by decide)).mono (fun e w' h => by
    rw [uh2] at h
    obtain ⟨h1, h2⟩ := h
    exact ⟨h2, h1⟩))
  clear htx htx2 hcA htab
  go_enter Tryd.func11, Tryd.ntmps11
  go_wp2_with (fail)
  refine Htx.out.mono ?_
  rintro e w2 ⟨rfl, hb2⟩
  have Hb2 := Lib.hid (hbA.out.trans (hb2.mono hbA.out.size))
  clear hb2
  go_wp2_with (fail)
  refine (hu1 _).out.mono ?_
  rintro e w3 ⟨A, c, rfl, hb3⟩
  have Hb3 := Lib.hid (Hb2.out.trans (hb3.mono Hb2.out.size))
  clear hb3
  go_wp2_with (fail)
  refine (hu2 _).out.mono ?_
  rintro e w4 ⟨rfl, hb4⟩
  have Hb4 := Lib.hid (Hb3.out.trans (hb4.mono Hb3.out.size))
  clear hb4
  go_wp2
  go_ret
  exact ⟨rfl, Hb4.out⟩
end Go.Proofs.YtopfbbnpbobhaaaDoor
