/- Senders and takers that nobody made: nil, or all zero: each call is refused. -/
import Derived.Test.YtlkpecalkakpeaaAl
set_option linter.unusedVariables false
set_option linter.unusedSimpArgs false
namespace Go.Proofs.Ytlkpecalkakpeaa
open Go.RowKit Go.Sal

/-- nil, or a block whose first cell is 0 -/
def NoOne (a : Option Addr) (w : World) : Prop := a = none ∨ ∃ b, a = some ⟨b, 0, none⟩ ∧ w.cell? ⟨b, 0, none⟩ = some (.int .i64 0)
theorem NoOne.alloc {a : Option Addr} {w : World} (h : NoOne a w) (o : Obj) : NoOne a (w.alloc o) := by
  rcases h with h | ⟨b, h1, h2⟩
  · exact .inl h
  · exact .inr ⟨b, h1, by rw [World.cell?_alloc_lt _ _ _ (World.block_lt_of_cell? _ _ h2)]; exact h2⟩

theorem nb_smade (a : Option Addr) (w : World) (h : NoOne a w) : Calls Try.prog 35 #[.pointer a] w fun e w' => e = .returned (.bool false) ∧ w = w' := by
  rcases h with rfl | ⟨b, rfl, h⟩
  · go_enter Try.func35, Try.ntmps35
    go_wp2
    go_ret
    exact ⟨rfl, rfl⟩
  · go_enter Try.func35, Try.ntmps35
    go_wp2
    go_ret
    exact ⟨rfl, rfl⟩
theorem nb_tmade (a : Option Addr) (w : World) (h : NoOne a w) : Calls Try.prog 32 #[.pointer a] w fun e w' => e = .returned (.bool false) ∧ w = w' := by
  rcases h with rfl | ⟨b, rfl, h⟩
  · go_enter Try.func32, Try.ntmps32
    go_wp2
    go_ret
    exact ⟨rfl, rfl⟩
  · go_enter Try.func32, Try.ntmps32
    go_wp2
    go_ret
    exact ⟨rfl, rfl⟩
theorem nb_push (a : Option Addr) (v : Value) (w : World) (h : NoOne a w) : Calls Try.prog 18 #[.pointer a, v] w fun e w' => e = .returned (.tuple #[.int .i64 0, .int .i64 4]) ∧ w = w' := by
  have H := Lib.hid h
  clear h
  go_enter Try.func18, Try.ntmps18
  go_wp2_with (go_at_call 35; refine (nb_smade _ _ H.out).mono ?_; rintro e w' ⟨rfl, rfl⟩)
  go_ret2
  exact ⟨rfl, rfl⟩
theorem nb_due (a : Option Addr) (n : Int) (w : World) (h : NoOne a w) : Calls Try.prog 20 #[.pointer a, .int .i64 n] w fun e w' => e = .returned (.tuple #[.slice none 0 0, .int .i64 4]) ∧ Keep [] w w' := by
  have H := Lib.hid ((h.alloc (.cells #[.pointer a] 45)).alloc (.cells #[.int .i64 n] 3))
  have hk := Lib.hid (((Keep.refl [] w).alloc (.cells #[.pointer a] 45)).alloc (.cells #[.int .i64 n] 3))
  clear h
  go_enter Try.func20, Try.ntmps20
  go_wp2_with (go_at_call 35; refine (nb_smade _ _ H.out).mono ?_; rintro e w' ⟨rfl, rfl⟩)
  go_ret2
  exact ⟨rfl, hk.out⟩
theorem nb_ack (a : Option Addr) (n m : Int) (w : World) (h : NoOne a w) : Calls Try.prog 21 #[.pointer a, .int .i64 n, .int .u64 m] w fun e w' => e = .returned (.tuple #[.int .i64 0, .int .i64 4]) ∧ w = w' := by
  have H := Lib.hid h
  clear h
  go_enter Try.func21, Try.ntmps21
  go_wp2_with (go_at_call 35; refine (nb_smade _ _ H.out).mono ?_; rintro e w' ⟨rfl, rfl⟩)
  go_ret2
  exact ⟨rfl, rfl⟩
theorem nb_state (a : Option Addr) (w : World) (h : NoOne a w) : Calls Try.prog 22 #[.pointer a] w fun e w' => e = .returned (.tuple #[.int .i64 0, .int .i64 0]) ∧ w = w' := by
  have H := Lib.hid h
  clear h
  go_enter Try.func22, Try.ntmps22
  go_wp2_with (go_at_call 35; refine (nb_smade _ _ H.out).mono ?_; rintro e w' ⟨rfl, rfl⟩)
  go_ret2
  exact ⟨rfl, rfl⟩
theorem nb_svoid (a : Option Addr) (w : World) (h : NoOne a w) : Calls Try.prog 28 #[.pointer a] w fun e w' => e = .returned (.int .i64 4) ∧ w = w' := by
  have H := Lib.hid h
  clear h
  go_enter Try.func28, Try.ntmps28
  go_wp2_with (go_at_call 35; refine (nb_smade _ _ H.out).mono ?_; rintro e w' ⟨rfl, rfl⟩)
  go_ret
  exact ⟨rfl, rfl⟩
theorem nb_tvoid (a : Option Addr) (w : World) (h : NoOne a w) : Calls Try.prog 30 #[.pointer a] w fun e w' => e = .returned (.int .i64 4) ∧ w = w' := by
  have H := Lib.hid h
  clear h
  go_enter Try.func30, Try.ntmps30
  go_wp2_with (go_at_call 32; refine (nb_tmade _ _ H.out).mono ?_; rintro e w' ⟨rfl, rfl⟩)
  go_ret
  exact ⟨rfl, rfl⟩
theorem nb_take (a : Option Addr) (n : Int) (A : Option Addr) (m c : Nat) (w : World) (h : NoOne a w) : Calls Try.prog 12 #[.pointer a, .agg #[.int .i64 n, .slice A m c]] w fun e w' => e = .returned (.tuple #[.slice none 0 0, .int .i64 4]) ∧ Keep [] w w' := by
  have H := Lib.hid (h.alloc (.cells #[.int .i64 n, .slice A m c] 33))
  have hk := Lib.hid ((Keep.refl [] w).alloc (.cells #[.int .i64 n, .slice A m c] 33))
  clear h
  go_enter Try.func12, Try.ntmps12
  go_wp2_with (go_at_call 32; refine (nb_tmade _ _ H.out).mono ?_; rintro e w' ⟨rfl, rfl⟩)
  go_ret2
  exact ⟨rfl, hk.out⟩
theorem nb_acks (a : Option Addr) (w : World) (h : NoOne a w) : Calls Try.prog 14 #[.pointer a] w fun e w' => e = .returned (.tuple #[.int .i64 0, .int .u64 0]) ∧ w = w' := by
  have H := Lib.hid h
  clear h
  go_enter Try.func14, Try.ntmps14
  go_wp2_with (go_at_call 32; refine (nb_tmade _ _ H.out).mono ?_; rintro e w' ⟨rfl, rfl⟩)
  go_ret2
  exact ⟨rfl, rfl⟩
end Go.Proofs.Ytlkpecalkakpeaa
