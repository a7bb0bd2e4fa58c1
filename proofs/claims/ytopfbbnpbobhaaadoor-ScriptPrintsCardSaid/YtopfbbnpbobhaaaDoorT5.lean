/- line. -/
import Derived.Test.YtopfbbnpbobhaaaDoorT4
set_option linter.unusedVariables false
set_option linter.unusedSimpArgs false
namespace Go.Proofs.YtopfbbnpbobhaaaDoor
open Go.RowKit Go.Sal

theorem name_at (d : Dd) (bv kv : Value) (w : World) (hk : -9223372036854775808 ≤ d.kind ∧ d.kind ≤ 9223372036854775807) :
    Calls Tryd.prog 45 #[.int .i64 d.kind] ((w.alloc (.cells (DvA d bv kv) 72)).alloc (.cells (shA ⟨0, 0, [], [], 0, 0, []⟩ bv kv []) 72)) fun e w2 => e = .returned (.string ⟨(nameOf d.kind).toArray⟩) ∧
      Blk w2 w.heap.size 72 (DvA d bv kv) ∧ Blk w2 (w.heap.size + 1) 72 (shA ⟨0, 0, [], [], 0, 0, []⟩ bv kv []) ∧ Below w.heap.size w w2 ∧ w.heap.size + 2 ≤ w2.heap.size ∧ w2.cell? ⟨w.heap.size, 0, none⟩ = some (.int .i64 d.kind) := by
  refine (name_any d.kind _ hk).mono ?_
  rintro e w2 ⟨h1, hk2⟩
  have hD2 := ((Blk.new w 72 (DvA d bv kv)).alloc (.cells (shA ⟨0, 0, [], [], 0, 0, []⟩ bv kv []) 72)).keep hk2 (by simp)
  have hR2 := (Blk.new (w.alloc (.cells (DvA d bv kv) 72)) 72 (shA ⟨0, 0, [], [], 0, 0, []⟩ bv kv [])).keep hk2 (by simp)
  rw [World.size_alloc] at hR2
  have hz := hk2.size
  simp only [World.size_alloc] at hz
  refine ⟨h1, hD2, hR2, ?_, by omega, hD2.cell 0⟩
  exact (((Below.refl _ w).alloc (Nat.le_refl _) _).alloc (by simp) _).trans (hk2.belowB (by simp; omega) (by simp))
theorem keep_grow {w w' : World} {k : Nat} {os : Array Obj} (h : w' = Sort.grow (w.drewN k) os) : Keep [] w w' := by rw [h]; exact keep_of_grow _ _ _
theorem LS.facts {base : Nat} {w : World} {d : Dd} {bv kv : Value} {pd pr ps pw g4 : Nat} {fa : Array Value × (Nat × Nat)} {sa : Array Value} {ws : List (List UInt8)} {wr : World} (h : LS base w d bv kv pd pr ps pw g4 fa sa ws wr) :
    wr.cell? ⟨pd, 1, none⟩ = some (.int .i64 d.a) ∧ wr.cell? ⟨pd, 2, none⟩ = some (.string ⟨d.path.toArray⟩) ∧ wr.cell? ⟨pd, 3, none⟩ = some bv ∧ wr.cell? ⟨pd, 4, none⟩ = some (.int .i64 d.frm) ∧ wr.cell? ⟨pd, 5, none⟩ = some (.int .i64 d.n) ∧ wr.cell? ⟨pd, 6, none⟩ = some kv ∧
      (∀ i, wr.cell? ⟨ps, i, none⟩ = sa[i]?) ∧ (∀ i, wr.frozen? ⟨ps, i, none⟩ = false) ∧ ¬ pd = ps ∧ ¬ ps = pd :=
  ⟨h.deed.cell 1, h.deed.cell 2, h.deed.cell 3, h.deed.cell 4, h.deed.cell 5, h.deed.cell 6, fun i => h.shown.cell i, fun i => h.shown.free i, h.bd.2.2.2.1, fun e => h.bd.2.2.2.1 e.symm⟩
theorem itoa_len (n : Int) (h : -9223372036854775808 ≤ n ∧ n ≤ 9223372036854775807) : (Lib.itoa n).length ≤ 21 := by
  unfold Lib.itoa
  split
  · have := Lib.nDigits_le20 n.natAbs (by omega)
    simp [Lib.decDigits_length]
    omega
  · have := Lib.nDigits_le20 n.toNat (by omega)
    rw [Lib.decDigits_length]
    omega
theorem truS_len (l : List Bool) : (truS l).length ≤ l.length + 1 := by
  unfold truS
  split
  · exact Nat.le_add_left _ _
  · rw [List.length_map]; omega
theorem wordOf_len (d : Dd) (f : UInt8) (hlb : d.bs.length ≤ 3000) (hlp : d.path.length ≤ 3000) (hlk : d.keep.length ≤ 4000000)
    (ha : -9223372036854775808 ≤ d.a ∧ d.a ≤ 9223372036854775807) (hf : -9223372036854775808 ≤ d.frm ∧ d.frm ≤ 9223372036854775807) (hn : -9223372036854775808 ≤ d.n ∧ d.n ≤ 9223372036854775807) : (wordOf d f).length ≤ 4000001 := by
  have h1 := itoa_len d.a ha
  have h2 := itoa_len d.frm hf
  have h3 := itoa_len d.n hn
  have h4 := hexS_len d.path (by omega)
  have h5 := hexS_len d.bs (by omega)
  have h6 := truS_len d.keep
  unfold wordOf
  repeat' split
  all_goals omega
theorem ite_len {p : Prop} [Decidable p] {a b : List UInt8} {n : Nat} (ha : a.length ≤ n) (hb : b.length ≤ n) : (if p then a else b).length ≤ n := by split <;> assumption
theorem nameOf_len (k : Int) : (nameOf k).length ≤ 8 := by
  unfold nameOf
  iterate 16 (refine ite_len (by decide) ?_)
  decide
theorem join_len (ws : List (List UInt8)) (M : Nat) (h : ∀ x ∈ ws, x.length ≤ M) : (Lib.join ws [32]).length ≤ ws.length * (M + 1) := by
  cases ws with
  | nil => simp [Lib.join_nil]
  | cons a r =>
    have hl : ∀ (r : List (List UInt8)), (∀ x ∈ r, x.length ≤ M) → Lib.lens r ≤ r.length * M := by
      intro r
      induction r with
      | nil => intro _; simp [Lib.lens]
      | cons b t ih =>
        intro hb
        have h1 := ih (fun x hx => hb x (List.mem_cons_of_mem _ hx))
        have h2 := hb b (List.mem_cons_self ..)
        have h3 : Lib.lens (b :: t) = b.length + Lib.lens t := by simp [Lib.lens]
        rw [h3, List.length_cons, Nat.add_mul]
        omega
    have h1 := hl r (fun x hx => h x (List.mem_cons_of_mem _ hx))
    have h2 := h a (List.mem_cons_self ..)
    have e : (r.length + 1) * (M + 1) = r.length * M + M + r.length + 1 := by rw [Nat.add_mul, Nat.mul_add, Nat.one_mul, Nat.mul_one]; omega
    rw [Lib.join_cons, List.length_append, Lib.joinTail_length, show (a :: r).length = r.length + 1 from rfl, e]
    simp only [List.length_cons, List.length_nil]
    omega
/-- strings.Join of the words -/
theorem join_any {base bw : Nat} {ws : List (List UInt8)} {W : World} {A : Option Addr} {c : Nat} (ho : W.ownsRow base 9 1 (.slice A ws.length c) ws.length (strRow ws)) (hne : ws ≠ []) (hw : ws.length ≤ 1000) (hl : (Lib.join ws [32]).length ≤ 100000000) :
    Calls Tryd.prog 49 #[.slice A ws.length c, .string ⟨#[32]⟩] W fun e w' => e = .returned (.string ⟨(Lib.join ws [32]).toArray⟩) ∧ Below W.heap.size W w' := by
  have hp : 0 < ws.length := List.length_pos_iff.2 hne
  obtain ⟨g, rfl, hg, _⟩ := own_some ho hp
  have hx : (ws.map fun s => (⟨s.toArray⟩ : ByteArray)).length = ws.length := by simp
  have hm : (ws.map fun s => (⟨s.toArray⟩ : ByteArray)).map (·.data.toList) = ws := by simp [List.map_map, Function.comp_def]
  have hcap : ws.length ≤ c := by
    rcases ho.2 with ⟨h0, _⟩ | ⟨g', cap', cur, hv, _, _, h1, _⟩
    · cases h0
    · injection hv with _ _ hv2
      subst hv2
      exact h1
  have := Tryd.strings_Join g 0 c (ws.map fun s => (⟨s.toArray⟩ : ByteArray)) ⟨#[32]⟩ W (fun j x hj => by
    rw [Nat.zero_add]
    refine (ownsRow_cell ho ?_).1
    simp only [List.getElem?_map, Option.map_eq_some_iff] at hj
    obtain ⟨y, hy, rfl⟩ := hj
    simp [strRow, hy]) hg (by rw [hx]; omega) (by rw [hx]; exact hcap) (by rw [hm]; exact Nat.le_trans hl (by omega))
  rw [hx, hm] at this
  exact this
theorem LS.resF {base : Nat} {w : World} {d : Dd} {bv kv : Value} {pd pr ps pw g4 : Nat} {fa : Array Value × (Nat × Nat)} {sa : Array Value} {ws : List (List UInt8)} {wr : World} (h : LS base w d bv kv pd pr ps pw g4 fa sa ws wr) :
    wr.cell? ⟨pr, 0, none⟩ = some (.int .i64 0) ∧ wr.cell? ⟨pr, 1, none⟩ = some (.int .i64 0) ∧ wr.cell? ⟨pr, 2, none⟩ = some (.string ⟨#[]⟩) ∧ wr.cell? ⟨pr, 3, none⟩ = some (.slice none 0 0) ∧ wr.cell? ⟨pr, 4, none⟩ = some (.int .i64 0) ∧ wr.cell? ⟨pr, 5, none⟩ = some (.int .i64 0) ∧ wr.cell? ⟨pr, 6, none⟩ = some (.slice none 0 0) ∧ (∀ i, wr.frozen? ⟨pr, i, none⟩ = false) :=
  ⟨h.res.cell 0, h.res.cell 1, h.res.cell 2, h.res.cell 3, h.res.cell 4, h.res.cell 5, h.res.cell 6, fun i => h.res.free i⟩
set_option maxRecDepth 200000 in
set_option maxHeartbeats 8000000 in
theorem line_any (d : Dd) (Ab Ak : Option Addr) (cb ck : Nat) (w : World) (hb : RD encB w Ab d.bs) (hk : RD encT w Ak d.keep) (hcb : d.bs.length ≤ cb) (hlb : d.bs.length ≤ 3000) (hlp : d.path.length ≤ 3000) (hlk : d.keep.length ≤ 4000000)
    (hka : -9223372036854775808 ≤ d.kind ∧ d.kind ≤ 9223372036854775807) (ha : -9223372036854775808 ≤ d.a ∧ d.a ≤ 9223372036854775807) (hf : -9223372036854775808 ≤ d.frm ∧ d.frm ≤ 9223372036854775807) (hn : -9223372036854775808 ≤ d.n ∧ d.n ≤ 9223372036854775807)
    (htab : Lib.TabIs Tryd.prog w "internal/strconv.uint64pow10" .u64 Lib.pow10Tab) :
    Calls Tryd.prog 46 #[.agg (DvA d (.slice Ab d.bs.length cb) (.slice Ak d.keep.length ck))] w fun e w' => e = .returned (.tuple #[.string ⟨(lineOf d).toArray⟩, .agg (shA d (.slice Ab d.bs.length cb) (.slice Ak d.keep.length ck) (fieldsOf d.kind))]) ∧ Below w.heap.size w w' := by
  have HT := Lib.hid (Lib.tabBelow_of_tabIs htab)
  have Hb := Lib.hid hb
  have Hk := Lib.hid hk
  have Hka := Lib.hid hka
  have Ha := Lib.hid ha
  have Hf := Lib.hid hf
  have Hn := Lib.hid hn
  clear htab hb hk hka ha hf hn
  unfold DvA
  go_enter Tryd.func46, Tryd.ntmps46
  go_upto_region 4 with (go_at_call 45; refine (name_at d (.slice Ab d.bs.length cb) (.slice Ak d.keep.length ck) w Hka.out).mono ?_; rintro e w2 ⟨rfl, hD2, hR2, hbl2, hz2, e0⟩; have q0 : w.heap.size < w2.heap.size := (by omega); have q1 : ¬ w.heap.size = w2.heap.size := (by omega); have q2 : ¬ w.heap.size = w2.heap.size + 1 := (by omega); have q3 : ¬ w.heap.size = w2.heap.size + 1 + 1 := (by omega); have q4 : w.heap.size < w2.heap.size + 1 := (by omega);  have q5 : w.heap.size < w2.heap.size + 1 + 1 := (by omega); have HD2 := Lib.hid hD2; have HR2 := Lib.hid hR2; have Hbl2 := Lib.hid hbl2; clear hD2 hR2 hbl2)
  obtain ⟨w4, hw4⟩ : ∃ w4, ((w2.alloc (.cells #[.string ⟨(nameOf d.kind).toArray⟩] 9)).alloc (.cells #[.slice (some ⟨w2.heap.size, 0, none⟩) 1 1] 90)).alloc (.cells #[.int .i64 d.kind, .int .i64 0, .string ⟨#[]⟩, .slice none 0 0, .int .i64 0, .int .i64 0, .slice none 0 0] 72) = w4 := ⟨_, rfl⟩
  have hL4 : Hid (∀ fa w5, Keep [] w4 w5 → w5.heap[w4.heap.size]? = some (.cells fa.1 5 fa.2) → LS w.heap.size w d (.slice Ab d.bs.length cb) (.slice Ak d.keep.length ck) w.heap.size (w.heap.size + 1) (w2.heap.size + 1 + 1) (w2.heap.size + 1) w4.heap.size fa (shA d (.slice Ab d.bs.length cb) (.slice Ak d.keep.length ck) []) [nameOf d.kind] w5) := Lib.hid (by
    intro fa w5 hk5 hrow
    refine ⟨?_, ?_, ?_, ?_, hrow, ?_, Nat.le_refl _, Nat.le_refl _, by omega, by omega, by omega, by omega⟩
    · rw [← hw4] at hk5; exact (((HD2.out.alloc _).alloc _).alloc _).keep hk5 (by simp)
    · rw [← hw4] at hk5; exact (((HR2.out.alloc _).alloc _).alloc _).keep hk5 (by simp)
    · rw [← hw4] at hk5
      have := (Blk.new ((w2.alloc (.cells #[.string ⟨(nameOf d.kind).toArray⟩] 9)).alloc (.cells #[.slice (some ⟨w2.heap.size, 0, none⟩) 1 1] 90)) 72 #[.int .i64 d.kind, .int .i64 0, .string ⟨#[]⟩, .slice none 0 0, .int .i64 0, .int .i64 0, .slice none 0 0]).keep hk5 (by simp)
      rw [World.size_alloc, World.size_alloc] at this
      exact this
    · refine WordsIs.keep (w := w4) ⟨by omega, some ⟨w2.heap.size, 0, none⟩, 1, ?_, ?_⟩ hk5
      · rw [← hw4]
        have := (Blk.new (w2.alloc (.cells #[.string ⟨(nameOf d.kind).toArray⟩] 9)) 90 #[.slice (some ⟨w2.heap.size, 0, none⟩) 1 1]).alloc (.cells #[.int .i64 d.kind, .int .i64 0, .string ⟨#[]⟩, .slice none 0 0, .int .i64 0, .int .i64 0, .slice none 0 0] 72)
        rw [World.size_alloc] at this
        exact this
      · have hnb : Blk w4 w2.heap.size 9 #[.string ⟨(nameOf d.kind).toArray⟩] := by
          rw [← hw4]
          exact ((Blk.new w2 9 _).alloc _).alloc _
        exact ⟨rfl, .inr ⟨w2.heap.size, 1, _, rfl, Hbl2.out.size, hnb, Nat.le_refl _, by simp [maxLen], rfl, rfl⟩⟩
    · rw [← hw4] at hk5
      exact Hbl2.out.trans (((((Below.refl _ w2).alloc Hbl2.out.size _).alloc (by simp; omega) _).alloc (by simp; omega) _).trans (hk5.belowB (by simp; omega) (by simp))))
  have e4 : w4.cell? ⟨w.heap.size, 0, none⟩ = some (.int .i64 d.kind) := by rw [← hw4]; exact (((HD2.out.alloc _).alloc _).alloc _).cell 0
  rw [hw4]
  clear hw4 e0 HD2 HR2
  obtain ⟨fs, hfs⟩ : ∃ fs, fieldsOf d.kind = fs := ⟨_, rfl⟩
  have Hfm := Lib.hid (fields_mem d.kind)
  have hfl := fields_len d.kind
  have Hlo : Hid (lineOf d = Lib.join (nameOf d.kind :: fs.map (wordOf d)) [32]) := Lib.hid (by unfold lineOf; rw [hfs])
  have hfc := fields_any d.kind w4
  rw [hfs] at Hfm hfl hfc
  have Hfs := Lib.hid hfs
  obtain ⟨capF, w5, fa, hcv, hcapF, hF⟩ := conv_bytes fs w4
  have HLS := Lib.hid (hL4.out fa w5 hF.out.2.2 hF.out.1)
  have Hfc := Lib.hid hfc
  have hfl4 : (fs.length : Int) ≤ 4 := by omega
  have Hfr : Hid (∀ j (h : j < fs.length), fa.1[j]? = some (.int .u8 (fs[j].toNat : Int))) := Lib.hid hF.out.2.1
  clear hfc hfs hL4 hF
  go_wp2_with (go_at_call 61; refine Hfc.out.mono ?_; rintro e w6 ⟨rfl, rfl⟩)
  clear hcv e4 Hfc q1 q2 q4
  have HLS2 : Hid (LS w.heap.size w d (.slice Ab d.bs.length cb) (.slice Ak d.keep.length ck) w.heap.size (w.heap.size + 1) (w2.heap.size + 1 + 1) (w2.heap.size + 1) w4.heap.size fa (shA d (.slice Ab d.bs.length cb) (.slice Ak d.keep.length ck) (fs.take 0)) (nameOf d.kind :: (fs.take 0).map (wordOf d)) w5) := HLS
  clear HLS
  go_loopw [22] (fun u wr => ∃ i : Nat, u = .int .i64 i ∧ i ≤ fs.length ∧ Hid (LS w.heap.size w d (.slice Ab d.bs.length cb) (.slice Ak d.keep.length ck) w.heap.size (w.heap.size + 1) (w2.heap.size + 1 + 1) (w2.heap.size + 1) w4.heap.size fa (shA d (.slice Ab d.bs.length cb) (.slice Ak d.keep.length ck) (fs.take i)) (nameOf d.kind :: (fs.take i).map (wordOf d)) wr)) (fun u _ => fs.length - (intOf u).toNat)
  case atStart => exact ⟨0, rfl, by omega, HLS2⟩
  case round =>
    obtain ⟨i, rfl, hi, HL⟩ := hrel
    clear HLS2
    have hi4 : (i : Int) ≤ 4 := by omega
    rcases Nat.lt_or_ge i fs.length with hlt | hge
    · have hil : (i : Int) < (fs.length : Int) := by omega
      have hwi : IntKind.i64.wrap ((i : Int) + 1) = (i : Int) + 1 := by rw [IntKind.wrap_i64]; omega
      have x1 : wr.cell? ⟨w4.heap.size, i, none⟩ = some (.int .u8 (fs[i].toNat : Int)) := (cell_of_row _ _ _ _ _ _ HL.out.row).trans (Hfr.out i hlt)
      obtain ⟨d1, d2, d3, d4, d5, d6, sc, sf, n1, n2⟩ := HL.out.facts
      have Hts : Hid (fs.take (i + 1) = fs.take i ++ [fs[i]]) := Lib.hid (List.take_succ_eq_append_getElem hlt)
      have hmem := Hfm.out fs[i] (List.getElem_mem hlt)
      have s1 := sc 1
      have s2 := sc 2
      have s3 := sc 3
      have s4 := sc 4
      have s5 := sc 5
      have s6 := sc 6
      simp only [shA, List.getElem?_toArray, List.getElem?_cons_succ, List.getElem?_cons_zero] at s1 s2 s3 s4 s5 s6
      generalize fs[i] = c at *
      clear sc
      rcases hmem with rfl | rfl | rfl | rfl | rfl | rfl
      · have x1 : wr.cell? ⟨w4.heap.size, i, none⟩ = some (.int .u8 97) := x1
        have HL1 := Lib.hid (shA_a d (.slice Ab d.bs.length cb) (.slice Ak d.keep.length ck) (fs.take i) ▸ HL.out.set 1 (.int .i64 d.a))
        clear HL
        go_wp2_with (first | (go_at_call 24; refine (Tryd.strconv_Itoa d.a Ha.out.1 Ha.out.2 _ (HT.out _ HL1.out.below)).mono ?_; rintro e w5 ⟨rfl, k5, os5, hk5⟩; have HL5 := Lib.hid (HL1.out.keep (keep_grow hk5)); clear hk5) | (go_at_call 60; refine (add_any w.heap.size (w2.heap.size + 1) _ _ _ HL5.out.words HL5.out.below.size (by simp only [List.length_cons, List.length_map, List.length_take]; omega)).mono ?_; rintro e w6 hadd; obtain ⟨v6, hv6⟩ := hadd.1; subst hv6; have HL6 := Lib.hid (HL5.out.add hadd); clear hadd))
        go_roundw
        case rel => exact ⟨i + 1, by simp, by omega, Lib.hid (by rw [Hts.out, List.map_append]; exact HL6.out)⟩
        case measure => simp [intOf]; omega
      · have x1 : wr.cell? ⟨w4.heap.size, i, none⟩ = some (.int .u8 112) := x1
        have HL1 := Lib.hid (shA_p d (.slice Ab d.bs.length cb) (.slice Ak d.keep.length ck) (fs.take i) ▸ HL.out.set 2 (.string ⟨d.path.toArray⟩))
        obtain ⟨capP, wP, fP, hcv, hcapP, hP⟩ := conv_bytes d.path (wr.setCell ⟨w2.heap.size + 1 + 1, 2, none⟩ (.string ⟨d.path.toArray⟩))
        have hszw : (wr.setCell ⟨w2.heap.size + 1 + 1, 2, none⟩ (.string ⟨d.path.toArray⟩)).heap.size = wr.heap.size := by simp [World.setCell]
        rw [hszw] at hcv hP
        clear hszw
        have HL1b := Lib.hid (HL1.out.keep hP.out.2.2)
        have Hrd : Hid (RD encB wP (some ⟨wr.heap.size, 0, none⟩) d.path) := Lib.hid (fun _ => ⟨_, _, rfl, lt_of_some hP.out.1, fun j hj => by rw [cell_of_row _ _ _ _ _ _ hP.out.1, Nat.zero_add]; exact hP.out.2.1 j hj⟩)
        clear HL
        go_wp2_with (first | (go_at_call 9; refine (hexg_any d.path (some ⟨wr.heap.size, 0, none⟩) capP _ Hrd.out hcapP hlp (HT.out _ HL1b.out.below)).mono ?_; rintro e w5 ⟨rfl, hb5⟩; have HL5 := Lib.hid (HL1b.out.keep (Keep.of_below hb5)); clear hb5) | (go_at_call 60; refine (add_any w.heap.size (w2.heap.size + 1) _ _ _ HL5.out.words HL5.out.below.size (by simp only [List.length_cons, List.length_map, List.length_take]; omega)).mono ?_; rintro e w6 hadd; obtain ⟨v6, hv6⟩ := hadd.1; subst hv6; have HL6 := Lib.hid (HL5.out.add hadd); clear hadd))
        go_roundw
        case rel => exact ⟨i + 1, by simp, by omega, Lib.hid (by rw [Hts.out, List.map_append]; exact HL6.out)⟩
        case measure => simp [intOf]; omega
      · have x1 : wr.cell? ⟨w4.heap.size, i, none⟩ = some (.int .u8 98) := x1
        have HL1 := Lib.hid (shA_b d (.slice Ab d.bs.length cb) (.slice Ak d.keep.length ck) (fs.take i) ▸ HL.out.set 3 (.slice Ab d.bs.length cb))
        clear HL
        go_wp2_with (first | (go_at_call 9; refine (hexg_any d.bs Ab cb _ (RD.below Hb.out HL1.out.below) hcb hlb (HT.out _ HL1.out.below)).mono ?_; rintro e w5 ⟨rfl, hb5⟩; have HL5 := Lib.hid (HL1.out.keep (Keep.of_below hb5)); clear hb5) | (go_at_call 60; refine (add_any w.heap.size (w2.heap.size + 1) _ _ _ HL5.out.words HL5.out.below.size (by simp only [List.length_cons, List.length_map, List.length_take]; omega)).mono ?_; rintro e w6 hadd; obtain ⟨v6, hv6⟩ := hadd.1; subst hv6; have HL6 := Lib.hid (HL5.out.add hadd); clear hadd))
        go_roundw
        case rel => exact ⟨i + 1, by simp, by omega, Lib.hid (by rw [Hts.out, List.map_append]; exact HL6.out)⟩
        case measure => simp [intOf]; omega
      · have x1 : wr.cell? ⟨w4.heap.size, i, none⟩ = some (.int .u8 102) := x1
        have HL1 := Lib.hid (shA_f d (.slice Ab d.bs.length cb) (.slice Ak d.keep.length ck) (fs.take i) ▸ HL.out.set 4 (.int .i64 d.frm))
        clear HL
        go_wp2_with (first | (go_at_call 24; refine (Tryd.strconv_Itoa d.frm Hf.out.1 Hf.out.2 _ (HT.out _ HL1.out.below)).mono ?_; rintro e w5 ⟨rfl, k5, os5, hk5⟩; have HL5 := Lib.hid (HL1.out.keep (keep_grow hk5)); clear hk5) | (go_at_call 60; refine (add_any w.heap.size (w2.heap.size + 1) _ _ _ HL5.out.words HL5.out.below.size (by simp only [List.length_cons, List.length_map, List.length_take]; omega)).mono ?_; rintro e w6 hadd; obtain ⟨v6, hv6⟩ := hadd.1; subst hv6; have HL6 := Lib.hid (HL5.out.add hadd); clear hadd))
        go_roundw
        case rel => exact ⟨i + 1, by simp, by omega, Lib.hid (by rw [Hts.out, List.map_append]; exact HL6.out)⟩
        case measure => simp [intOf]; omega
      · have x1 : wr.cell? ⟨w4.heap.size, i, none⟩ = some (.int .u8 110) := x1
        have HL1 := Lib.hid (shA_n d (.slice Ab d.bs.length cb) (.slice Ak d.keep.length ck) (fs.take i) ▸ HL.out.set 5 (.int .i64 d.n))
        clear HL
        go_wp2_with (first | (go_at_call 24; refine (Tryd.strconv_Itoa d.n Hn.out.1 Hn.out.2 _ (HT.out _ HL1.out.below)).mono ?_; rintro e w5 ⟨rfl, k5, os5, hk5⟩; have HL5 := Lib.hid (HL1.out.keep (keep_grow hk5)); clear hk5) | (go_at_call 60; refine (add_any w.heap.size (w2.heap.size + 1) _ _ _ HL5.out.words HL5.out.below.size (by simp only [List.length_cons, List.length_map, List.length_take]; omega)).mono ?_; rintro e w6 hadd; obtain ⟨v6, hv6⟩ := hadd.1; subst hv6; have HL6 := Lib.hid (HL5.out.add hadd); clear hadd))
        go_roundw
        case rel => exact ⟨i + 1, by simp, by omega, Lib.hid (by rw [Hts.out, List.map_append]; exact HL6.out)⟩
        case measure => simp [intOf]; omega
      · have x1 : wr.cell? ⟨w4.heap.size, i, none⟩ = some (.int .u8 107) := x1
        have HL1 := Lib.hid (shA_k d (.slice Ab d.bs.length cb) (.slice Ak d.keep.length ck) (fs.take i) ▸ HL.out.set 6 (.slice Ak d.keep.length ck))
        clear HL
        go_wp2_with (first | (go_at_call 62; refine (truths_any d.keep Ak ck _ (RD.below Hk.out HL1.out.below) hlk).mono ?_; rintro e w5 ⟨rfl, hb5⟩; have HL5 := Lib.hid (HL1.out.keep (Keep.of_below hb5)); clear hb5) | (go_at_call 60; refine (add_any w.heap.size (w2.heap.size + 1) _ _ _ HL5.out.words HL5.out.below.size (by simp only [List.length_cons, List.length_map, List.length_take]; omega)).mono ?_; rintro e w6 hadd; obtain ⟨v6, hv6⟩ := hadd.1; subst hv6; have HL6 := Lib.hid (HL5.out.add hadd); clear hadd))
        go_roundw
        case rel => exact ⟨i + 1, by simp, by omega, Lib.hid (by rw [Hts.out, List.map_append]; exact HL6.out)⟩
        case measure => simp [intOf]; omega
    · obtain rfl : i = fs.length := by omega
      have hil : ¬ (fs.length : Int) < (fs.length : Int) := by omega
      have hLe := HL.out
      rw [List.take_length] at hLe
      obtain ⟨hwb, Aw, cw, hBw, how⟩ := hLe.words
      obtain ⟨ws, hws⟩ : ∃ ws, ws = nameOf d.kind :: fs.map (wordOf d) := ⟨_, rfl⟩
      rw [← hws] at hBw how hLe
      have hwl : ws.length ≤ 5 := by rw [hws]; simp; omega
      have hwne : ws ≠ [] := by rw [hws]; simp
      have hjl : (Lib.join ws [32]).length ≤ 100000000 := by
        have := join_len ws 4000001 (fun x hx => by
          rw [hws] at hx
          rcases List.mem_cons.1 hx with rfl | hx
          · have := nameOf_len d.kind
            omega
          · obtain ⟨f, _, rfl⟩ := List.mem_map.1 hx
            exact wordOf_len d f hlb hlp hlk Ha.out Hf.out Hn.out)
        have h2 : ws.length * (4000001 + 1) ≤ 5 * (4000001 + 1) := Nat.mul_le_mul_right _ hwl
        omega
      have Hjoin := Lib.hid (join_any (bw := 0) (ownsRow_keep how ((Keep.refl [] wr).drew) (by simp)) hwne (by omega) hjl)
      have Hlo2 : Hid (lineOf d = Lib.join ws [32]) := Lib.hid (by rw [Hlo.out, hws])
      obtain ⟨A3, n3, c3, hz3⟩ : ∃ A n c, (if 98 ∈ fs then Value.slice Ab d.bs.length cb else .slice none 0 0) = .slice A n c := by split <;> exact ⟨_, _, _, rfl⟩
      obtain ⟨A6, n6, c6, hz6⟩ : ∃ A n c, (if 107 ∈ fs then Value.slice Ak d.keep.length ck else .slice none 0 0) = .slice A n c := by split <;> exact ⟨_, _, _, rfl⟩
      obtain ⟨z1, hz1⟩ : ∃ z, (if 97 ∈ fs then d.a else 0) = z := ⟨_, rfl⟩
      obtain ⟨z2, hz2⟩ : ∃ z : ByteArray, ⟨(if 112 ∈ fs then d.path else []).toArray⟩ = z := ⟨_, rfl⟩
      obtain ⟨z4, hz4⟩ : ∃ z, (if 102 ∈ fs then d.frm else 0) = z := ⟨_, rfl⟩
      obtain ⟨z5, hz5⟩ : ∃ z, (if 110 ∈ fs then d.n else 0) = z := ⟨_, rfl⟩
      have hshA : shA d (.slice Ab d.bs.length cb) (.slice Ak d.keep.length ck) fs = #[.int .i64 d.kind, .int .i64 z1, .string z2, .slice A3 n3 c3, .int .i64 z4, .int .i64 z5, .slice A6 n6 c6] := by
        unfold shA
        rw [hz1, hz2, hz3, hz4, hz5, hz6]
      have hBs := hLe.shown
      rw [hshA] at hBs
      have Hs7 : Hid (∀ W, Keep [] wr W → W.cell? ⟨w2.heap.size + 1, 0, none⟩ = some (.slice Aw ws.length cw) ∧ W.cell? ⟨w2.heap.size + 1 + 1, 0, none⟩ = some (.int .i64 d.kind) ∧ W.cell? ⟨w2.heap.size + 1 + 1, 1, none⟩ = some (.int .i64 z1) ∧ W.cell? ⟨w2.heap.size + 1 + 1, 2, none⟩ = some (.string z2) ∧ W.cell? ⟨w2.heap.size + 1 + 1, 3, none⟩ = some (.slice A3 n3 c3) ∧ W.cell? ⟨w2.heap.size + 1 + 1, 4, none⟩ = some (.int .i64 z4) ∧ W.cell? ⟨w2.heap.size + 1 + 1, 5, none⟩ = some (.int .i64 z5) ∧ W.cell? ⟨w2.heap.size + 1 + 1, 6, none⟩ = some (.slice A6 n6 c6)) :=
        Lib.hid (fun W k => ⟨(hBw.keep k (by simp)).cell 0, (hBs.keep k (by simp)).cell 0, (hBs.keep k (by simp)).cell 1, (hBs.keep k (by simp)).cell 2, (hBs.keep k (by simp)).cell 3, (hBs.keep k (by simp)).cell 4, (hBs.keep k (by simp)).cell 5, (hBs.keep k (by simp)).cell 6⟩)
      have hS27 := Hs7.out wr.drew ((Keep.refl [] wr).drew)
      have HLe := Lib.hid hLe
      have HshA := Lib.hid hshA
      clear hLe hBw how hws hwne hjl hz1 hz2 hz3 hz4 hz5 hz6 hshA hBs HL
      go_wp2
      refine wp_region_G (fun W => W.cell? ⟨w2.heap.size + 1, 0, none⟩ = some (.slice Aw ws.length cw) ∧ W.cell? ⟨w2.heap.size + 1 + 1, 0, none⟩ = some (.int .i64 d.kind) ∧ W.cell? ⟨w2.heap.size + 1 + 1, 1, none⟩ = some (.int .i64 z1) ∧ W.cell? ⟨w2.heap.size + 1 + 1, 2, none⟩ = some (.string z2) ∧ W.cell? ⟨w2.heap.size + 1 + 1, 3, none⟩ = some (.slice A3 n3 c3) ∧ W.cell? ⟨w2.heap.size + 1 + 1, 4, none⟩ = some (.int .i64 z4) ∧ W.cell? ⟨w2.heap.size + 1 + 1, 5, none⟩ = some (.int .i64 z5) ∧ W.cell? ⟨w2.heap.size + 1 + 1, 6, none⟩ = some (.slice A6 n6 c6)) [4] #[false, false, false, false, false] 5 (by kernel_rfl) (by kernel_rfl) (by kernel_rfl) ?_
      refine wpAnyG_take (i := 0) (oi := { dst := some 89, op := Go.Op.load 90 (Go.Operand.tmp 4), type := 90, pos := "script.go:243", after := #[], guard := none }) (v := ?vg1_0) [0, 1, 3, 4] rfl (by kernel_rfl) (by kernel_rfl) (by kernel_rfl) (by kernel_rfl) (by kernel_rfl) (fun _ _ _ h => h) (fun _ => hS27) (Or.inl ⟨by rfl, ?hg1_0⟩) ?_
      case hg1_0 => intro w hSw; (try dsimp only at hSw); go_simp; (try with_reducible rfl)
      try simp only [Act.put, List.setIfInBounds_toArray, List.set_cons_zero, List.set_cons_succ]
      refine wpAnyG_take (i := 2) (oi := { dst := some 91, op := Go.Op.load 72 (Go.Operand.tmp 5), type := 72, pos := "script.go:243", after := #[{ on := 3, ground := Go.Ground.gcOnly Go.Departure.lateStores }], guard := none }) (v := ?vg1_2) [2, 4] rfl (by kernel_rfl) (by kernel_rfl) (by kernel_rfl) (by kernel_rfl) (by kernel_rfl) (fun _ _ _ h => h) (fun _ => hS27) (Or.inl ⟨by rfl, ?hg1_2⟩) ?_
      case hg1_2 => intro w hSw; (try dsimp only at hSw); go_simp; (try with_reducible rfl)
      try simp only [Act.put, List.setIfInBounds_toArray, List.set_cons_zero, List.set_cons_succ]
      refine wpAnyG_step (i := 1) (oi := { dst := some 90, op := Go.Op.call { callee := Go.Callee.value (Go.Operand.func 49), args := #[Go.Operand.tmp 89, Go.Operand.const (Go.Value.string { data := #[32] })], argTypes := #[90, 9] }, type := 9, pos := "script.go:243", after := #[{ on := 0, ground := Go.Ground.data }], guard := none }) rfl (by kernel_rfl) (by rfl) (fun K hK => ?_)
      go_simp
      go_at_call 49
      refine Hjoin.out.mono ?_
      rintro e w7 ⟨rfl, hb7⟩
      have hk7 := ((Keep.refl [] wr).drew).trans (Keep.of_below hb7)
      have HL7 := Lib.hid (HLe.out.keep hk7)
      obtain ⟨r0, r1, r2, r3, r4, r5, r6, rf⟩ := HL7.out.resF
      have hs7 := Hs7.out _ hk7
      clear hb7 hk7
      dsimp only
      refine hK _ _ ?_ (fun hSg1_1 => ?_)
      · intro _; exact hs7
      replace hSg1_1 := hSg1_1 (by kernel_rfl)
      clear hK
      try simp only [Act.put, List.setIfInBounds_toArray, List.set_cons_zero, List.set_cons_succ]
      refine wpAnyG_take0 (i := 3) (oi := { dst := some 2, op := Go.Op.assign (Go.Operand.tmp 90), type := 9, pos := "script.go:243", after := #[{ on := 1, ground := Go.Ground.data }, { on := 1, ground := Go.Ground.chain }, { on := 0, ground := Go.Ground.phase }, { on := 1, ground := Go.Ground.phase }, { on := 2, ground := Go.Ground.textOnly Go.Departure.lateStores }], guard := none }) (v := ?vg1_3) rfl (by kernel_rfl) (by kernel_rfl) (by kernel_rfl) (by kernel_rfl) (fun _ _ _ h => h) (fun _ => hSg1_1) (Or.inl ⟨by rfl, ?hg1_3⟩) ?_
      case hg1_3 => intro w _; go_simp; (try with_reducible rfl)
      try simp only [Act.put, List.setIfInBounds_toArray, List.set_cons_zero, List.set_cons_succ]
      refine wpAnyG_step (i := 4) (oi := { dst := none, op := Go.Op.store 72 (Go.Operand.tmp 3) (Go.Operand.tmp 91), type := 0, pos := "script.go:243", after := #[{ on := 2, ground := Go.Ground.data }, { on := 3, ground := Go.Ground.chain }, { on := 0, ground := Go.Ground.phase }, { on := 1, ground := Go.Ground.phase }, { on := 2, ground := Go.Ground.phase }, { on := 3, ground := Go.Ground.phase }], guard := none }) rfl (by kernel_rfl) (by rfl) (fun K hK => ?_)
      go_simp
      refine hK _ _ (fun h => absurd h (Bool.eq_false_iff.1 (by kernel_rfl))) (fun _ => ?_)
      clear hK
      try simp only [Act.put, List.setIfInBounds_toArray, List.set_cons_zero, List.set_cons_succ]
      refine wpAnyG_done (by kernel_rfl) ?_ _
      go_wp2
      refine bodyPost_ret (v := .tuple #[.string ⟨(Lib.join ws [32]).toArray⟩, .agg #[.int .i64 d.kind, .int .i64 z1, .string z2, .slice A3 n3 c3, .int .i64 z4, .int .i64 z5, .slice A6 n6 c6]]) ?_ rfl ?_
      · simp [results, Tryd.results46, go_sem, r0, r1, r2, r3, r4, r5, r6]
      · rw [Hlo2.out, Hfs.out, HshA.out]
        refine ⟨rfl, ?_⟩
        have hb9 := HL7.out.below
        exact (((((((hb9.setCell (p := ⟨w.heap.size + 1, 0, none⟩) (by simp) _).setCell (p := ⟨w.heap.size + 1, 1, none⟩) (by simp) _).setCell (p := ⟨w.heap.size + 1, 2, none⟩) (by simp) _).setCell (p := ⟨w.heap.size + 1, 3, none⟩) (by simp) _).setCell (p := ⟨w.heap.size + 1, 4, none⟩) (by simp) _).setCell (p := ⟨w.heap.size + 1, 5, none⟩) (by simp) _).setCell (p := ⟨w.heap.size + 1, 6, none⟩) (by simp) _)
end Go.Proofs.YtopfbbnpbobhaaaDoor
