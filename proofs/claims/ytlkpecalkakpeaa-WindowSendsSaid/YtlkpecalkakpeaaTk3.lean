/- The taker of the program, walked: Take in one contract; Acks. -/
import Derived.Test.YtlkpecalkakpeaaTk2
set_option linter.unusedVariables false
set_option linter.unusedSimpArgs false
namespace Go.Proofs.Ytlkpecalkakpeaa
open Go.RowKit Go.Sal

theorem take_any (base bt bm : Nat) (sz wt : Int) (l : List (Int × Value)) (es : Array MapEntry) (cl : Nat) (N : Int) (v : Value) (b : List UInt8) (w : World)
    (hT : Blk w bt 81 #[.int .i64 sz, .int .i64 wt, .map (some bm)]) (hM : MapIs w bm l es cl) (hv : Reads base 5 w v b) (hB : base ≤ w.heap.size) (hbl : b.length ≤ 140737488355328)
    (hs1 : 1 ≤ sz) (hs2 : sz ≤ 64) (hN1 : -9223372036854775808 ≤ N) (hN2 : N ≤ 9223372036854775807) (hwt : 1 ≤ wt) (hwl : wt + l.length ≤ 4611686018427387904) (hone : ∀ p ∈ l, IsSl p.2) (hll : l.length ≤ 1000) (hbm : base ≤ bm) (hbt : base ≤ bt) :
    Calls Try.prog 12 #[.pointer (some ⟨bt, 0, none⟩), .agg #[.int .i64 N, v]] w (TakePost base bt bm sz wt l N b w) := by
  by_cases h1 : N < 1 ∨ wt ≤ N - sz
  · exact take_err base bt bm sz wt l es cl N v b w hT hM hv hs1 hs2 hN1 hN2 h1
  · by_cases h2 : N < wt ∨ (mlook l N).isSome = true
    · exact take_skip base bt bm sz wt l es cl N v b w hT hM hv hs1 hs2 (by omega) hN2 (by omega) h2
    · refine take_main base bt bm sz wt l es cl N v b w hT hM hv hB hbl hs1 hs2 (by omega) hN2 (by omega) (by omega) ?_ hwt hwl hone hll hbm hbt
      cases h : mlook l N with
      | none => rfl
      | some x => exact absurd (.inr (by rw [h]; rfl)) h2

/-- bit k of M is set just if an entry's number is wt + 1 + k -/
def AckBits (wt : Int) (l : List (Int × Value)) (M : Nat) : Prop := M < 18446744073709551616 ∧ ∀ k : Nat, M.testBit k = true ↔ k < 64 ∧ ∃ p ∈ l, p.1 = wt + 1 + k
def AcksPost (wt : Int) (l : List (Int × Value)) (w : World) (e : Ending) (w' : World) : Prop :=
  ∃ M : Nat, AckBits wt l M ∧ e = .returned (.tuple #[.int .i64 (wt - 1), .int .u64 (M : Int)]) ∧ Keep [] w w'

theorem filter_lt {α : Type} {p q : α → Bool} : ∀ (l : List α) (x : α), x ∈ l → p x = true → q x = false → (∀ y, q y = true → p y = true) → (l.filter q).length < (l.filter p).length
  | y :: l, x, hx, hp, hq, hqp => by
    have hle : (l.filter q).length ≤ (l.filter p).length := by
      have : (l.filter q) = (l.filter p).filter q := by
        rw [List.filter_filter]
        apply List.filter_congr
        intro z _
        cases hz : q z
        · simp
        · simp [hqp z hz]
      rw [this]
      exact List.length_filter_le _ _
    rcases List.mem_cons.1 hx with rfl | hx
    · simp only [List.filter_cons, hp, hq, if_true, Bool.false_eq_true, if_false, List.length_cons]
      omega
    · have ih := filter_lt l x hx hp hq hqp
      simp only [List.filter_cons]
      cases hy : q y
      · cases hy2 : p y <;> simp <;> omega
      · simp [hqp y hy]; omega

theorem nodup_inj {α β : Type} (f : α → β) : ∀ (l : List α), (l.map f).Nodup → ∀ x ∈ l, ∀ y ∈ l, f x = f y → x = y
  | [], _, x, hx, _, _, _ => by simp at hx
  | a :: l, h, x, hx, y, hy, hf => by
    simp only [List.map_cons, List.nodup_cons, List.mem_map, not_exists, not_and] at h
    rcases List.mem_cons.1 hx with rfl | hx' <;> rcases List.mem_cons.1 hy with rfl | hy'
    · rfl
    · exact absurd hf.symm (h.1 y hy')
    · exact absurd hf (h.1 x hx')
    · exact nodup_inj f l h.2 x hx' y hy' hf

/-- the numbers of the entries that have been seen -/
def SeenBits (wt : Int) (es : Array MapEntry) (seen : Array Nat) (M : Nat) : Prop :=
  M < 18446744073709551616 ∧ ∀ k : Nat, M.testBit k = true ↔ k < 64 ∧ ∃ e ∈ es.toList, e.born ∈ seen.toList ∧ e.key = .int .i64 (wt + 1 + k)
def unseen (es : Array MapEntry) (seen : Array Nat) : Nat := (es.toList.filter fun e => !seen.toList.contains e.born).length

theorem seen_or {wt : Int} {es : Array MapEntry} {seen : Array Nat} {M k0 : Nat} {e : MapEntry} (h : SeenBits wt es seen M) (he : e ∈ es.toList) (hn : e.born ∉ seen.toList) (hnd : (es.toList.map (·.born)).Nodup)
    (hk : e.key = .int .i64 (wt + 1 + (k0 : Int))) (hk0 : k0 < 64) : SeenBits wt es (seen.push e.born) (M ||| 2 ^ k0) := by
  have hb : ∀ e' ∈ es.toList, e'.born = e.born → e' = e := by
    intro e' he' hbb
    exact nodup_inj _ _ hnd _ he' _ he hbb
  refine ⟨?_, fun k => ?_⟩
  · have h1 : M < 2 ^ 64 := h.1
    have h2 : 2 ^ k0 < 2 ^ 64 := Nat.pow_lt_pow_right (by omega) hk0
    exact Nat.or_lt_two_pow h1 h2
  · rw [Nat.testBit_or, Bool.or_eq_true, h.2 k, Nat.testBit_two_pow]
    constructor
    · rintro (⟨h1, e', h2, h3, h4⟩ | h1)
      · exact ⟨h1, e', h2, by simp; left; simpa using h3, h4⟩
      · simp at h1
        subst h1
        exact ⟨hk0, e, he, by simp, hk⟩
    · rintro ⟨h1, e', h2, h3, h4⟩
      simp at h3
      rcases h3 with h3 | h3
      · exact .inl ⟨h1, e', h2, by simpa using h3, h4⟩
      · right
        have := hb e' h2 h3
        subst this
        rw [hk] at h4
        injection h4 with _ h4
        simp
        omega
theorem seen_skip {wt : Int} {es : Array MapEntry} {seen : Array Nat} {M : Nat} {e : MapEntry} {n : Int} (h : SeenBits wt es seen M) (hk : e.key = .int .i64 n) (hb : ∀ e' ∈ es.toList, e'.born = e.born → e' = e) (hout : ¬ (0 ≤ n - wt - 1 ∧ n - wt - 1 < 64)) :
    SeenBits wt es (seen.push e.born) M := by
  refine ⟨h.1, fun k => ?_⟩
  rw [h.2 k]
  constructor
  · rintro ⟨h1, e', h2, h3, h4⟩
    exact ⟨h1, e', h2, by simp; left; simpa using h3, h4⟩
  · rintro ⟨h1, e', h2, h3, h4⟩
    simp at h3
    rcases h3 with h3 | h3
    · exact ⟨h1, e', h2, by simpa using h3, h4⟩
    · have := hb e' h2 h3
      subst this
      rw [hk] at h4
      injection h4 with _ h4
      omega

theorem MapIs.key {w : World} {b : Nat} {l : List (Int × Value)} {es : Array MapEntry} {cl : Nat} (h : MapIs w b l es cl) {e : MapEntry} (he : e ∈ es.toList) : ∃ p ∈ l, e.key = .int .i64 p.1 := by
  have : (e.key, e.val) ∈ es.toList.map (fun e => (e.key, e.val)) := List.mem_map.2 ⟨e, he, rfl⟩
  rw [h.rows] at this
  obtain ⟨p, hp, hpe⟩ := List.mem_map.1 this
  simp only [Prod.mk.injEq] at hpe
  exact ⟨p, hp, hpe.1.symm⟩
theorem MapIs.entry {w : World} {b : Nat} {l : List (Int × Value)} {es : Array MapEntry} {cl : Nat} (h : MapIs w b l es cl) {p : Int × Value} (hp : p ∈ l) : ∃ e ∈ es.toList, e.key = .int .i64 p.1 := by
  have : (Value.int .i64 p.1, p.2) ∈ l.map (fun p => (Value.int .i64 p.1, p.2)) := List.mem_map.2 ⟨p, hp, rfl⟩
  rw [← h.rows] at this
  obtain ⟨e, he, hpe⟩ := List.mem_map.1 this
  simp only [Prod.mk.injEq] at hpe
  exact ⟨e, he, hpe.1⟩

theorem or_bit {M k0 : Nat} (hM : M < 18446744073709551616) (h : k0 < 64) : bits .or .u64 (M : Int) (IntKind.u64.wrap ((2 : Int) ^ k0)) = ((M ||| 2 ^ k0 : Nat) : Int) := by
  have h3 : 2 ^ k0 < 2 ^ 64 := Nat.pow_lt_pow_right (by omega) h
  have h4 : (2 : Int) ^ k0 = ((2 ^ k0 : Nat) : Int) := by simp
  have h5 : IntKind.u64.wrap ((2 ^ k0 : Nat) : Int) = ((2 ^ k0 : Nat) : Int) := by
    rw [IntKind.wrap_u64]
    have h6 : 2 ^ k0 < 18446744073709551616 := h3
    generalize 2 ^ k0 = q at h6 ⊢
    omega
  rw [h4, h5, u64_or_nat M (2 ^ k0) hM h3]

set_option maxRecDepth 20000 in
set_option maxHeartbeats 2000000 in
theorem acks_any (bt bm : Nat) (sz wt : Int) (l : List (Int × Value)) (es : Array MapEntry) (cl : Nat) (w : World)
    (hT : Blk w bt 81 #[.int .i64 sz, .int .i64 wt, .map (some bm)]) (hM : MapIs w bm l es cl) (hs1 : 1 ≤ sz) (hwt : 1 ≤ wt) (hwl : wt ≤ 4611686018427387904)
    (hl : ∀ p ∈ l, 0 ≤ p.1 ∧ p.1 ≤ 4611686018427387904) :
    Calls Try.prog 14 #[.pointer (some ⟨bt, 0, none⟩)] w (AcksPost wt l w) := by
  have c1 : w.cell? ⟨bt, 1, none⟩ = some (.int .i64 wt) := hT.cell 1
  have c2 : w.cell? ⟨bt, 2, none⟩ = some (.map (some bm)) := hT.cell 2
  have hrg := smap_range (P := Try.prog) (t := 79) Try.underlying79 hM
  have hTl := hT.lt
  have HT := Lib.hid hT
  have HM := Lib.hid hM
  have Hl := Lib.hid hl
  clear hM hl
  go_enter Try.func14, Try.ntmps14
  go_wp2_with (first | (go_at_call 32; refine (tmade_any _ _ _ _ _ HT.out hs1).mono ?_; rintro e w' ⟨rfl, rfl⟩))
  clear c1 c2 hrg hT
  go_loopg [4] (unseen es #[] + 1) (fun k v wr => ∃ seen M, v = .int .u64 (M : Nat) ∧ IterIs wr w.heap.size bm cl seen ∧ Keep [] w wr ∧ SeenBits wt es seen M ∧ unseen es seen < k)
  case atStart =>
    refine ⟨#[], 0, rfl, ?_, (Keep.refl _ _).alloc _, ⟨by omega, fun k => by simp⟩, by omega⟩
    unfold IterIs
    exact heap_alloc_new w _
  case round =>
    obtain ⟨seen, M, rfl, hit, hk, hsb, hun⟩ := hrel
    have hMr := HM.out.keep hk (by simp)
    rcases smap_next (P := Try.prog) hMr hit 0 with ⟨hall, hrun⟩ | ⟨e, w1, he, hen, hrun, hent, hit1, hk1, hz1⟩
    · have Hall := Lib.hid hall
      have Hsb := Lib.hid hsb
      have Hk := Lib.hid hk
      have hTr := HT.out.keep hk (by simp)
      have c1 : wr.cell? ⟨bt, 1, none⟩ = some (.int .i64 wt) := hTr.cell 1
      clear hall hsb hk hMr hit hTr
      go_wp2
      go_ret2
      refine ⟨M, ⟨Hsb.out.1, fun k => ?_⟩, rfl, Hk.out⟩
      rw [Hsb.out.2 k]
      constructor
      · rintro ⟨h1, e, h2, _, h4⟩
        obtain ⟨p, hp, hpe⟩ := MapIs.key HM.out h2
        rw [h4] at hpe
        injection hpe with _ hpe
        exact ⟨h1, p, hp, hpe.symm⟩
      · rintro ⟨h1, p, hp, h4⟩
        obtain ⟨e, he, hke⟩ := MapIs.entry HM.out hp
        exact ⟨h1, e, he, Hall.out e he, by rw [hke, h4]⟩
    · obtain ⟨n, hkey, hn1, hn2⟩ : ∃ n, e.key = .int .i64 n ∧ 0 ≤ n ∧ n ≤ 4611686018427387904 := by
        obtain ⟨p, hp, hpe⟩ := MapIs.key HM.out he
        exact ⟨p.1, hpe, Hl.out p hp⟩
      have hinj := fun e' (he' : e' ∈ es.toList) (hb : e'.born = e.born) => nodup_inj _ _ HM.out.born e' he' e he hb
      have hun1 : unseen es (seen.push e.born) < unseen es seen := filter_lt _ e he (by simpa using hen) (by simp) (fun y hy => by simp at hy ⊢; exact fun h => hy.1 h)
      have hk2 : Keep [] w w1 := hk.step hk1 (by simp)
      have hTr := HT.out.keep hk2 (by simp)
      have c1 : w1.cell? ⟨bt, 1, none⟩ = some (.int .i64 wt) := hTr.cell 1
      rw [hkey] at hrun hent
      have Hsb := Lib.hid hsb
      have Hk2 := Lib.hid hk2
      have Hkey := Lib.hid hkey
      have Hinj := Lib.hid hinj
      have Hit1 := Lib.hid hit1
      have He := Lib.hid he
      have Hen := Lib.hid hen
      clear hsb hk2 hkey hinj hit1 hk1 hz1 hk hMr hit hTr he hen
      have hwrap : wrap64 (n - wt - 1) = n - wt - 1 := by unfold wrap64; omega
      by_cases h1 : 0 ≤ n - wt - 1
      · by_cases h2 : n - wt - 1 < 64
        · obtain ⟨k0, hk0⟩ : ∃ k0 : Nat, n - wt - 1 = k0 := ⟨(n - wt - 1).toNat, by omega⟩
          have hk1 : k0 < 64 := by omega
          rw [hk0] at hwrap
          have Hn := Lib.hid (show n = wt + 1 + k0 by omega)
          clear h1 h2
          go_wp2
          go_roundg (unseen es seen)
          case measure => omega
          case rel =>
            refine ⟨_, M ||| 2 ^ k0, ?_, Hit1.out, Hk2.out, seen_or Hsb.out He.out Hen.out HM.out.born (by rw [Hkey.out, Hn.out]) hk1, hun1⟩
            exact congrArg (Value.int IntKind.u64) (or_bit Hsb.out.1 hk1)
        · have hns : ¬ (0 ≤ n - wt - 1 ∧ n - wt - 1 < 64) := by omega
          go_wp2
          go_roundg (unseen es seen)
          case measure => omega
          case rel => exact ⟨_, M, rfl, Hit1.out, Hk2.out, seen_skip Hsb.out Hkey.out Hinj.out hns, hun1⟩
      · have hns : ¬ (0 ≤ n - wt - 1 ∧ n - wt - 1 < 64) := by omega
        go_wp2
        go_roundg (unseen es seen)
        case measure => omega
        case rel => exact ⟨_, M, rfl, Hit1.out, Hk2.out, seen_skip Hsb.out Hkey.out Hinj.out hns, hun1⟩
end Go.Proofs.Ytlkpecalkakpeaa
