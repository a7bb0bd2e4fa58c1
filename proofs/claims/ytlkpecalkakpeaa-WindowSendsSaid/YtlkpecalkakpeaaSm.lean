/- Same: two rows of payloads. -/
import Derived.Test.YtlkpecalkakpeaaRk2
import Derived.Laws.IdiomStrings
import Derived.Laws.BytesArg
set_option linter.unusedVariables false
set_option linter.unusedSimpArgs false
namespace Go.Proofs.Ytlkpecalkakpeaa
open Go.RowKit Go.Sal

theorem str_of_reads {P : Program} {base : Nat} {tb : TypeId} {w : World} {v : Value} {bs : List UInt8} (h : Reads base tb w v bs) (src dst e : TypeId) (hs : P.underlying src = some (.slice e)) (he : P.underlying e = some (.int .u8)) (hd : P.underlying dst = some .string) :
    (convert src dst v).run P w = .ok (.string ⟨bs.toArray⟩) w := by
  obtain ⟨A, c, rfl, h1, h2, h3⟩ := h
  cases A with
  | none =>
    have : bs = [] := by
      apply Classical.byContradiction
      intro hne
      obtain ⟨a, ha, _⟩ := h3 hne
      cases ha
    subst this
    rw [run_convert_bytes_nil w src e hs he _ c dst hd]
    rfl
  | some a =>
    refine run_convert_bytes_back w src dst e a c bs hs he hd (fun j hj => ?_)
    obtain ⟨a', ha, _, hc⟩ := h3 (fun e => by subst e; simp at hj)
    injection ha with ha
    subst ha
    exact hc j hj

/-- a row of payloads and what they read as -/
def PR (base : Nat) (w : World) (l : List (Int × Value)) (p : List (Int × List UInt8)) : Prop :=
  l.length = p.length ∧ ∀ k (h : k < l.length) (h' : k < p.length), l[k].1 = p[k].1 ∧ Reads base 5 w l[k].2 p[k].2
theorem PR.keep {base : Nat} {w w' : World} {l : List (Int × Value)} {p : List (Int × List UInt8)} {F : List Nat} (h : PR base w l p) (k : Keep F w w') (hn : NoByte base 5 w F) : PR base w' l p :=
  ⟨h.1, fun j h1 h2 => ⟨(h.2 j h1 h2).1, (h.2 j h1 h2).2.keep k hn⟩⟩
theorem PR.nil (base : Nat) (w : World) : PR base w [] [] := ⟨rfl, fun k h => by simp at h⟩

theorem flat_src {w : World} {A : Option Addr} {n : Nat} {l : List (Int × Value)} (h : Src w 2 A n (flat l)) : n = l.length ∧ ∀ k (hk : k < l.length), ∃ a, A = some a ∧ w.cell? (a.add (k * 2)) = some (.int .i64 l[k].1) ∧ w.cell? (a.add (k * 2 + 1)) = some l[k].2 := by
  have h1 := h.1
  rw [flat_len] at h1
  have hn : n = l.length := by omega
  subst hn
  refine ⟨rfl, fun k hk => ?_⟩
  obtain ⟨a, ha, hc⟩ := h.2 (by omega)
  exact ⟨a, ha, hc _ _ (flat_get l k hk).1, hc _ _ (flat_get l k hk).2⟩

theorem ret_bool {a b : Bool} (h : a = b) : Ending.returned (.bool a) = .returned (.bool b) := by rw [h]

set_option maxRecDepth 20000 in
set_option maxHeartbeats 2000000 in
theorem same_any (base : Nat) (la lb : List (Int × Value)) (pa pb : List (Int × List UInt8)) (A B : Option Addr) (n m ca cb : Nat) (w : World)
    (ha : Src w 2 A n (flat la)) (hb : Src w 2 B m (flat lb)) (ra : PR base w la pa) (rb : PR base w lb pb) (hA : ∀ a, A = some a → a.spot = none) (hB : ∀ a, B = some a → a.spot = none) (hn : n ≤ 1000000) (hm : m ≤ 1000000) :
    Calls Try.prog 16 #[.slice A n ca, .slice B m cb] w fun e w' => e = .returned (.bool (decide (pa = pb))) ∧ ∃ k, w' = w.drewN k := by
  obtain ⟨rfl, hca⟩ := flat_src ha
  obtain ⟨rfl, hcb⟩ := flat_src hb
  by_cases hlen : la.length = lb.length
  · have hl := Lib.hid hlen
    have hne : ((la.length : Int) != (lb.length : Int)) = false := by simp [hlen]
    have hle : la.length ≤ lb.length := by omega
    have Hca := Lib.hid hca
    have Hcb := Lib.hid hcb
    have Ra := Lib.hid ra
    have Rb := Lib.hid rb
    clear hlen hca hcb ra rb ha hb
    go_enter Try.func16, Try.ntmps16
    go_wp2_with fail
    clear hne
    go_loopw [5] (fun i wr => ∃ k q : Nat, i = .int .i64 k ∧ k ≤ la.length ∧ wr = w.drewN q ∧ Hid (∀ j (h1 : j < pa.length) (h2 : j < pb.length), j < k → pa[j] = pb[j])) (fun i _ => la.length - (intOf i).toNat)
    case atStart => exact ⟨0, 0, rfl, by omega, rfl, Lib.hid (fun j _ _ h => by omega)⟩
    case round =>
      obtain ⟨k, q, rfl, hk, rfl, hinv⟩ := hrel
      by_cases hlt : k < la.length
      · obtain ⟨a, rfl, ha0, ha1⟩ := Hca.out k hlt
        obtain ⟨b, rfl, hb0, hb1⟩ := Hcb.out k (by omega)
        obtain ⟨ga, oa, rfl⟩ : ∃ g o, a = ⟨g, o, none⟩ := ⟨a.block, a.off, by have := hA a rfl; cases a; simp_all⟩
        obtain ⟨gb, ob, rfl⟩ : ∃ g o, b = ⟨g, o, none⟩ := ⟨b.block, b.off, by have := hB b rfl; cases b; simp_all⟩
        rw [add_mk] at ha0 ha1 hb0 hb1
        rw [← Nat.add_assoc] at ha1 hb1
        have hltb : k < lb.length := by omega
        have hpa : k < pa.length := by have := Ra.out.1; omega
        have hpb : k < pb.length := by have := Rb.out.1; omega
        obtain ⟨ea, hra⟩ := Ra.out.2 k hlt hpa
        obtain ⟨eb, hrb⟩ := Rb.out.2 k (by omega) hpb
        rw [ea] at ha0
        rw [eb] at hb0
        have hsa := fun q => str_of_reads (P := Try.prog) (hra.keep ((Keep.refl [] w).drewN q) noByte_nil) 31 9 5 Try.underlying31 Try.underlying5 Try.underlying9
        have hsb := fun q => str_of_reads (P := Try.prog) (hrb.keep ((Keep.refl [] w).drewN q) noByte_nil) 31 9 5 Try.underlying31 Try.underlying5 Try.underlying9
        have hstep : pa[k] = pb[k] → Hid (∀ j (h1 : j < pa.length) (h2 : j < pb.length), j < k + 1 → pa[j] = pb[j]) := fun he => Lib.hid (fun j h1 h2 hj => by
          by_cases hjk : j = k
          · subst hjk; exact he
          · exact hinv.out j h1 h2 (by omega))
        have hno : pa[k] ≠ pb[k] → decide (pa = pb) = false := fun he => by
          simp
          rintro rfl
          exact he rfl
        obtain ⟨Aa, ca', hva, _⟩ := hra
        obtain ⟨Ab, cb', hvb, _⟩ := hrb
        rw [hva] at ha1 hsa
        rw [hvb] at hb1 hsb
        generalize pa[k] = xa at *
        generalize pb[k] = xb at *
        obtain ⟨na, ya⟩ := xa
        obtain ⟨nb, yb⟩ := xb
        have Hstep := Lib.hid hstep
        have Hno := Lib.hid hno
        clear hva hvb ea eb hstep hno
        by_cases hnn : na = nb
        · subst hnn
          have d1 : (na != na) = false := by simp
          by_cases hyy : ya = yb
          · subst hyy
            have hok := Hstep.out rfl
            clear Hstep Hno
            go_wp2
            go_quiet (fail)
            go_wp2
            go_roundw
            case rel => exact ⟨k + 1, _, by go_num, by omega, rfl, hok⟩
            case measure => simp [intOf]; omega
          · have d2 : (ya == yb) = false := by simpa using hyy
            have d3 : (ya != yb) = true := by simpa using hyy
            have hok := Lib.hid (Hno.out (by simpa using hyy))
            clear Hstep Hno
            go_wp2
            go_quiet (fail)
            go_wp2
            go_ret
            exact ⟨ret_bool hok.out.symm, q + nq, by rw [World.drewN_drewN]⟩
        · have d1 : (na != nb) = true := by simpa using hnn
          have hok := Lib.hid (Hno.out (by simp [hnn]))
          clear Hstep Hno
          go_wp2
          go_quiet (fail)
          go_wp2
          go_ret
          exact ⟨ret_bool hok.out.symm, q + nq, by rw [World.drewN_drewN]⟩
      · have hok := Lib.hid (show decide (pa = pb) = true by
          simp
          have h1 := Ra.out.1
          have h2 := Rb.out.1
          have h3 := hl.out
          exact List.ext_getElem (by omega) (fun j h4 h5 => hinv.out j h4 h5 (by omega)))
        go_wp2
        go_ret
        exact ⟨ret_bool hok.out.symm, _, rfl⟩
  · have hne : ((la.length : Int) != (lb.length : Int)) = true := by simp; omega
    have hne2 : (la.length != lb.length) = true := by simp; omega
    have hok := Lib.hid (show decide (pa = pb) = false by
      simp
      rintro rfl
      exact hlen (ra.1.trans rb.1.symm))
    clear ha hb ra rb hca hcb
    go_enter Try.func16, Try.ntmps16
    go_wp2
    go_ret
    exact ⟨ret_bool hok.out.symm, 0, rfl⟩
end Go.Proofs.Ytlkpecalkakpeaa
