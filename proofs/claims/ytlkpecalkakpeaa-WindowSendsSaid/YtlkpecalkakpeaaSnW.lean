/- The program's sender and the reference's side by side in memory: each act answers alike. -/
import Derived.Test.YtlkpecalkakpeaaSnP
import Derived.Test.YtlkpecalkakpeaaSr3
set_option linter.unusedVariables false
set_option linter.unusedSimpArgs false
namespace Go.Proofs.Ytlkpecalkakpeaa
open Go.RowKit Go.Sal
theorem _root_.Go.Sal.RR.mem_tm {α β : Type} {R : α → β → Prop} {l : List (Snr α)} {p : List (Snr β)} (h : RR R l p) {x : Snr α} (hx : x ∈ l) : ∃ y ∈ p, y.tm = x.tm := by
  have : x.tm ∈ l.map (·.tm) := List.mem_map_of_mem hx
  rw [h.tms] at this
  obtain ⟨y, hy, e⟩ := List.mem_map.1 this
  exact ⟨y, hy, e⟩
theorem _root_.Go.Sal.RR.sl {base : Nat} {w : World} : ∀ {l : List (Snr Value)} {p : List (Snr (List UInt8))}, RR (Reads base 5 w) l p → ∀ x ∈ l, IsSl x.b
  | [], _, _, x, hx => by simp at hx
  | a :: l, b :: p, h, x, hx => by
    rcases List.mem_cons.1 hx with rfl | hx
    · obtain ⟨A, c, e, _⟩ := h.1.2.2
      exact ⟨A, _, c, e⟩
    · exact Go.Sal.RR.sl (l := l) (p := p) h.2 x hx
  | _ :: _, [], h, _, _ => h.elim
theorem _root_.Go.Sal.RR.one {base : Nat} {w : World} : ∀ {l : List (Snr Value)} {p : List (Snr (List UInt8))}, RR (Reads base 5 w) l p → ∀ u ∈ l.flatMap rcells, u.oneCell' = true
  | [], [], _, u, hu => by simp at hu
  | a :: l, b :: p, h, u, hu => by
    rw [List.flatMap_cons, List.mem_append] at hu
    rcases hu with hu | hu
    · obtain ⟨A, c, hb, _⟩ := h.1.2.2
      simp only [rcells, hb, List.mem_cons, List.not_mem_nil, or_false] at hu
      rcases hu with rfl | rfl | rfl <;> rfl
    · exact Go.Sal.RR.one (l := l) (p := p) h.2 u hu
  | [], _ :: _, h, _, _ => h.elim
  | _ :: _, [], h, _, _ => h.elim
structure SW (base : Nat) (sz ag nowP nowR : Int) (d : Nat) (m op : Int) (q : List (Snt (List UInt8))) (lr : List (Snr (List UInt8))) (w wr : World) (lv : Value) (lq : List (Snt Value)) (AR : Option Addr) (cR : Nat) (lrv : List (Snr Value)) : Prop where
  hb : base = w.heap.size
  S : SBlk base sz ag nowP ((d : Int) + 1) m lv op wr
  Q : wr.ownsRow base 91 4 lv lq.length (lq.flatMap scells)
  q : SR (Reads base 5 wr) lq q
  Rr : RS base (base + 1) sz ag nowR AR cR lrv wr
  r : RR (Reads base 5 wr) lrv lr
  kp : Keep [] w wr
section
variable {base : Nat} {sz ag nowP nowR : Int} {d : Nat} {m op : Int} {q : List (Snt (List UInt8))} {lr : List (Snr (List UInt8))} {w wr w' : World} {lv : Value} {lq : List (Snt Value)} {AR : Option Addr} {cR : Nat} {lrv : List (Snr Value)}
theorem SW.size (h : SW base sz ag nowP nowR d m op q lr w wr lv lq AR cR lrv) : base ≤ wr.heap.size := by rw [h.hb]; exact h.kp.size
theorem SW.keep (h : SW base sz ag nowP nowR d m op q lr w wr lv lq AR cR lrv) (k : Keep [] wr w') : SW base sz ag nowP nowR d m op q lr w w' lv lq AR cR lrv :=
  ⟨h.hb, Blk.keep h.S k (by simp), ownsRow_keep h.Q k (by simp), h.q.mono (fun a b x => x.keep k noByte_nil), ⟨h.Rr.1.keep k (by simp), ownsRow_keep h.Rr.2 k (by simp)⟩, h.r.mono (fun a b x => x.keep k noByte_nil), h.kp.trans k⟩
theorem SW.noS (h : SW base sz ag nowP nowR d m op q lr w wr lv lq AR cR lrv) : NoByte base 5 wr (base :: lv.ownBlock.toList) :=
  noByte_cons h.S (by decide) (Nat.le_refl _) (by simpa using noByte_own (F := []) h.Q (Nat.le_refl _) (by decide) noByte_nil)
theorem SW.noR (h : SW base sz ag nowP nowR d m op q lr w wr lv lq AR cR lrv) : NoByte base 5 wr ((base + 1) :: (Value.slice AR lrv.length cR).ownBlock.toList) :=
  noByte_cons h.Rr.1 (by decide) (by omega) (by simpa using noByte_own (F := []) h.Rr.2 (Nat.le_refl _) (by decide) noByte_nil)
/-- the program's sender has turned -/
theorem SW.snd (h : SW base sz ag nowP nowR d m op q lr w wr lv lq AR cR lrv) (k : Keep (base :: lv.ownBlock.toList) wr w') {nowP' : Int} {d' : Nat} {m' op' : Int} {q' : List (Snt (List UInt8))} {lv' : Value} {lq' : List (Snt Value)}
    (S' : SBlk base sz ag nowP' ((d' : Int) + 1) m' lv' op' w') (Q' : w'.ownsRow base 91 4 lv' lq'.length (lq'.flatMap scells)) (sq : SR (Reads base 5 w') lq' q') :
    SW base sz ag nowP' nowR d' m' op' q' lr w w' lv' lq' AR cR lrv := by
  refine ⟨h.hb, S', Q', sq, ⟨h.Rr.1.keep k ?_, ownsRow_keep h.Rr.2 k ?_⟩, h.r.mono (fun a b x => x.keep k h.noS), h.kp.step k ?_⟩
  · have := own_ne_blk h.Q h.Rr.1 (by decide)
    simp only [List.mem_cons, Option.mem_toList, not_or]
    exact ⟨by omega, by simpa using this⟩
  · intro i hi
    simp only [List.mem_cons, Option.mem_toList, not_or]
    exact ⟨fun e => own_ne_blk h.Rr.2 h.S (by decide) (e ▸ hi), fun e => own_ne_own h.Rr.2 h.Q (by decide) hi (by simpa using e)⟩
  · intro i hi
    simp only [List.mem_cons, Option.mem_toList] at hi
    right
    rw [← h.hb]
    rcases hi with rfl | hi
    · exact Nat.le_refl _
    · exact (h.Q.lt i (by simpa using hi)).1
/-- the reference's sender has turned -/
theorem SW.rfr (h : SW base sz ag nowP nowR d m op q lr w wr lv lq AR cR lrv) {F : List Nat} (k : Keep F wr w') (hF : ∀ i ∈ F, i = base + 1 ∨ (Value.slice AR lrv.length cR).ownBlock = some i) {nowR' : Int} {lr' : List (Snr (List UInt8))} {AR' : Option Addr} {cR' : Nat} {lrv' : List (Snr Value)}
    (R' : RS base (base + 1) sz ag nowR' AR' cR' lrv' w') (r' : RR (Reads base 5 w') lrv' lr') : SW base sz ag nowP nowR' d m op q lr' w w' lv lq AR' cR' lrv' := by
  have hno : NoByte base 5 wr F := fun i hi => by
    rcases hF i hi with rfl | h1
    · exact h.noR _ (by simp)
    · exact h.noR _ (by simp [h1])
  refine ⟨h.hb, Blk.keep h.S k ?_, ownsRow_keep h.Q k ?_, h.q.mono (fun a b x => x.keep k hno), R', r', h.kp.step k ?_⟩
  · intro hm
    rcases hF _ hm with h1 | h1
    · omega
    · exact own_ne_blk h.Rr.2 h.S (by decide) h1
  · intro i hi hm
    rcases hF _ hm with rfl | h1
    · exact own_ne_blk h.Q h.Rr.1 (by decide) hi
    · exact own_ne_own h.Q h.Rr.2 (by decide) hi h1
  · intro i hi
    right
    rw [← h.hb]
    rcases hF _ hi with rfl | h1
    · omega
    · exact (h.Rr.2.lt i h1).1
end
def SI (base : Nat) (sz ag : Int) (w : World) (K : Nat) (now : Int) (wr : World) : Prop :=
  ∃ d m op q lr lv lq AR cR lrv, SP K now d m op q lr ∧ SW base sz ag now now d m op q lr w wr lv lq AR cR lrv
section
variable {base : Nat} {sz ag now : Int} {w wr : World} {K xb : Nat} {cs : Array Value}
theorem SI.kp (h : SI base sz ag w K now wr) : Keep [] w wr := by obtain ⟨_, _, _, _, _, _, _, _, _, _, _, h⟩ := h; exact h.kp
theorem SI.hb (h : SI base sz ag w K now wr) : base = w.heap.size := by obtain ⟨_, _, _, _, _, _, _, _, _, _, _, h⟩ := h; exact h.hb
theorem SI.keep {w' : World} (h : SI base sz ag w K now wr) (k : Keep [] wr w') : SI base sz ag w K now w' := by
  obtain ⟨d, m, op, q, lr, lv, lq, AR, cR, lrv, h1, h2⟩ := h
  exact ⟨d, m, op, q, lr, lv, lq, AR, cR, lrv, h1, h2.keep k⟩
theorem SI.later (h : SI base sz ag w K now wr) : SI base sz ag w (K + 1) now wr := by
  obtain ⟨d, m, op, q, lr, lv, lq, AR, cR, lrv, h1, h2⟩ := h
  exact ⟨d, m, op, q, lr, lv, lq, AR, cR, lrv, h1.later, h2⟩
theorem SI.nowb (h : SI base sz ag w K now wr) : 0 ≤ now ∧ now ≤ 1099511627776 ∧ wr.cell? ⟨base + 1, 2, none⟩ = some (.int .i64 now) := by
  obtain ⟨d, m, op, q, lr, lv, lq, AR, cR, lrv, h1, h2⟩ := h
  exact ⟨h1.now0, h1.now1, h2.Rr.1.cell 2⟩
theorem si_start {sz ag : Int} {w : World} : SI w.heap.size sz ag w 0 0
    ((w.alloc (.cells #[.int .i64 sz, .int .i64 ag, .int .i64 0, .int .i64 1, .int .i64 0, .slice none 0 0, .int .i64 0] 77 (0, 0))).alloc (.cells #[.int .i64 sz, .int .i64 ag, .int .i64 0, .slice none 0 0] 70 (0, 0))) := by
  refine ⟨0, 0, 0, [], [], .slice none 0 0, [], none, 0, [], SP.start, ⟨rfl, ?_, World.ownsRow_nil _ _ _ _, trivial, ⟨?_, World.ownsRow_nil _ _ _ _⟩, trivial, ((Keep.refl [] w).alloc _).alloc _⟩⟩
  · exact (Blk.new w 77 #[.int .i64 sz, .int .i64 ag, .int .i64 0, .int .i64 1, .int .i64 0, .slice none 0 0, .int .i64 0]).alloc _
  · have := Blk.new (w.alloc (.cells #[.int .i64 sz, .int .i64 ag, .int .i64 0, .int .i64 1, .int .i64 0, .slice none 0 0, .int .i64 0] 77 (0, 0))) 70 #[.int .i64 sz, .int .i64 ag, .int .i64 0, .slice none 0 0]
    simpa using this
theorem SW.xblk {nowP nowR : Int} {d : Nat} {m op : Int} {q : List (Snt (List UInt8))} {lr : List (Snr (List UInt8))} {w' : World} {lv : Value} {lq : List (Snt Value)} {AR : Option Addr} {cR : Nat} {lrv : List (Snr Value)}
    (h : SW base sz ag nowP nowR d m op q lr w wr lv lq AR cR lrv) (k : Keep (base :: lv.ownBlock.toList) wr w') (hx : Blk wr xb 66 cs) : Blk w' xb 66 cs := by
  refine hx.keep k ?_
  have h1 := Blk.ne_ hx h.S (by decide)
  have h2 := own_ne_blk h.Q hx (by decide)
  simp only [List.mem_cons, Option.mem_toList, not_or]
  exact ⟨h1, by simpa using h2⟩
theorem SI.push (h : SI base sz ag w K now wr) (hK : K < 80) (hs : 1 ≤ sz) (hx : Blk wr xb 66 cs) {v : Value} {b : List UInt8} (hv : Reads base 5 wr v b) (hbl : b.length ≤ 50) :
    ∃ n : Int, Calls Try.prog 18 #[.pointer (some ⟨base, 0, none⟩), v] wr fun e w' => e = .returned (.tuple #[.int .i64 n, .int .i64 0]) ∧ Blk w' xb 66 cs ∧
      Calls Try.prog 24 #[.pointer (some ⟨base + 1, 0, none⟩), v] w' fun e w'' => e = .returned (.tuple #[.int .i64 n, .int .i64 0]) ∧ SI base sz ag w (K + 1) now w'' := by
  obtain ⟨d, m, op, q, lr, lv, lq, AR, cR, lrv, hp, hw⟩ := h
  have h1 := hp.len
  have h2 := hw.q.len
  have h3 := hp.LK
  have h4 := hp.op0
  have h5 := hp.op1
  have h6 := hw.r.len
  refine ⟨(lrv.length : Int) + 1, ?_⟩
  refine (push_any base base sz ag now ((d : Int) + 1) m op lv lq v b wr hw.S hw.Q hv hw.size (by omega) hs (by omega) (by omega) (by omega) (by omega) (by omega) (Nat.le_refl _)).mono ?_
  rintro e w' ⟨v', lv', rfl, hr, hS, hQ, hk⟩
  refine ⟨by rw [show (d : Int) + 1 + lq.length = (lrv.length : Int) + 1 by omega], hw.xblk hk hx, ?_⟩
  have hw' := hw.snd hk hS hQ ((hw.q.mono (fun a b x => x.keep hk hw.noS)).append ⟨⟨rfl, rfl, rfl, hr⟩, trivial⟩ : SR (Reads base 5 w') (lq ++ [⟨v', false, 0, false⟩]) (q ++ [⟨b, false, 0, false⟩]))
  refine (rpush_any base (base + 1) sz ag now AR cR lrv v b w' hw'.Rr (hv.keep hk hw.noS) hw'.size (by omega) (by omega) (by omega)).mono ?_
  rintro e w'' ⟨v2, A2, c2, rfl, hr2, hR2, hk2⟩
  have hw2 := hw'.rfr hk2 (fun i hi => by simpa using hi) hR2 ((hw'.r.mono (fun a b x => x.keep hk2 hw'.noR)).append ⟨⟨rfl, rfl, hr2⟩, trivial⟩ : RR (Reads base 5 w'') (lrv ++ [⟨v2, false, -1⟩]) (lr ++ [⟨b, false, -1⟩]))
  exact ⟨rfl, _, _, _, _, _, _, _, _, _, _, hp.push (b := b) hbl, hw2⟩
theorem SI.state (h : SI base sz ag w K now wr) (hK : K ≤ 80) (hs : 1 ≤ sz) :
    ∃ a b : Int, Calls Try.prog 22 #[.pointer (some ⟨base, 0, none⟩)] wr fun e w' => e = .returned (.tuple #[.int .i64 a, .int .i64 b]) ∧
      Calls Try.prog 29 #[.pointer (some ⟨base + 1, 0, none⟩)] w' fun e w'' => e = .returned (.tuple #[.int .i64 a, .int .i64 b]) ∧ SI base sz ag w K now w'' := by
  obtain ⟨d, m, op, q, lr, lv, lq, AR, cR, lrv, hp, hw⟩ := h
  have h1 := hp.len
  have h2 := hw.q.len
  have h3 := hp.LK
  have h6 := hw.r.len
  have hS := hw.S
  have hrd : rdone lrv = d := by rw [hw.r.rdone]; exact hp.rd
  obtain ⟨AL, cL, hlv, _⟩ := own_slice hw.Q
  rw [hlv] at hS
  refine ⟨(rdone lrv : Int) + 1, lrv.length, ?_⟩
  refine (sstate_any base sz ag now ((d : Int) + 1) m AL lq.length cL op wr hS hs (by omega) (by omega) (by omega)).mono ?_
  rintro e w' ⟨rfl, k, rfl⟩
  refine ⟨by rw [hrd, show (d : Int) + 1 + lq.length - 1 = (lrv.length : Int) by omega], ?_⟩
  have hw' := hw.keep ((Keep.refl [] wr).drewN k)
  refine (rstate_any base (base + 1) sz ag now AR cR lrv _ hw'.Rr (by omega)).mono ?_
  rintro e w'' ⟨rfl, k2, rfl⟩
  exact ⟨rfl, d, m, op, q, lr, lv, lq, AR, cR, lrv, hp, hw'.keep ((Keep.refl [] _).drewN k2)⟩
theorem SI.ack (h : SI base sz ag w K now wr) (hK : K < 80) (hs : 1 ≤ sz) (hx : Blk wr xb 66 cs) {all : Int} {M : Nat} (hM : M < 18446744073709551616) (hall : -9223372036854775808 ≤ all ∧ all ≤ 9223372036854775807) :
    Calls Try.prog 21 #[.pointer (some ⟨base, 0, none⟩), .int .i64 all, .int .u64 (M : Int)] wr fun e w' => ∃ f ec : Int, e = .returned (.tuple #[.int .i64 f, .int .i64 ec]) ∧ Blk w' xb 66 cs ∧
      Calls Try.prog 26 #[.pointer (some ⟨base + 1, 0, none⟩), .int .i64 all, .int .u64 (M : Int)] w' fun e w'' => e = .returned (.tuple #[.int .i64 f, .int .i64 ec]) ∧ SI base sz ag w (K + 1) now w'' := by
  obtain ⟨d, m, op, q, lr, lv, lq, AR, cR, lrv, hp, hw⟩ := h
  have h1 := hp.len
  have h2 := hw.q.len
  have h3 := hp.LK
  have h4 := hp.op0
  have h5 := hp.op1
  have h6 := hw.r.len
  have hm := hp.hm
  have hsl := sentN_le lr lr.length
  have hsr : sentN lrv lrv.length = sentN lr lr.length := hw.r.sent
  refine (ack_any base base sz ag now ((d : Int) + 1) m op all M lv lq q wr hw.S hw.Q hw.q hw.size hs hM ⟨by omega, by omega⟩ (by omega) (by omega) (by omega) (Nat.le_refl _) (by omega) (by omega)).mono ?_
  rintro e w' (⟨hno, rfl, rfl⟩ | ⟨hyes, lv', rfl, hS, hQ, hq, hk⟩)
  · refine ⟨0, 191, rfl, hx, ?_⟩
    refine (rack_any base (base + 1) sz ag now AR cR lrv all M w' hw.Rr hM hw.size (by omega) hall).mono ?_
    rintro e w'' (⟨_, rfl, hk2⟩ | ⟨hyes, _⟩)
    · exact ⟨rfl, d, m, op, q, lr, lv, lq, AR, cR, lrv, hp.later, hw.keep hk2⟩
    · rw [hsr, ← hm] at hyes
      exact absurd hyes hno
  · have e1 := hw.q.ackF (all := all) (M := M) ((d : Int) + 1)
    have e2 := (hw.q.ack (all := all) (M := M) ((d : Int) + 1)).doneN
    obtain ⟨hp', hF⟩ := hp.ack (by omega) (all := all) (M := M)
    refine ⟨_, 0, rfl, hw.xblk hk hx, ?_⟩
    have hS' : SBlk base sz ag now (((d + doneN (ackR all M q ((d : Int) + 1)) : Nat) : Int) + 1) m lv' (op - (ackF all M q ((d : Int) + 1) : Nat)) w' := by
      rw [e1, e2] at hS
      rw [show ((d + doneN (ackR all M q ((d : Int) + 1)) : Nat) : Int) + 1 = (d : Int) + 1 + (doneN (ackR all M q ((d : Int) + 1)) : Nat) by omega]
      exact hS
    have hw' := hw.snd hk hS' hQ hq
    refine (rack_any base (base + 1) sz ag now AR cR lrv all M w' hw'.Rr hM hw'.size (by omega) hall).mono ?_
    rintro e w'' (⟨hno, _⟩ | ⟨_, rfl, hR2, hk2⟩)
    · rw [hsr, ← hm] at hno
      exact absurd hyes hno
    · have hF2 : rackF all M lrv 1 = ackF all M lq ((d : Int) + 1) := by rw [hw.r.ackF, hF, e1]
      have hw2 := hw'.rfr hk2 (fun i hi => .inr (by simpa using hi)) hR2 ((hw'.r.mono (fun a b x => x.keep hk2 (fun i hi => hw'.noR i (List.mem_cons_of_mem _ hi)))).ack (all := all) (M := M) 1)
      exact ⟨by rw [hF2], _, _, _, _, _, _, _, _, _, _, hp', hw2⟩
theorem SI.void (h : SI base sz ag w K now wr) (hK : K < 80) (hs : 1 ≤ sz) :
    Calls Try.prog 27 #[.pointer (some ⟨base + 1, 0, none⟩)] wr fun e w' => e = .returned (.tuple #[]) ∧
      Calls Try.prog 28 #[.pointer (some ⟨base, 0, none⟩)] w' fun e w'' => e = .returned (.int .i64 0) ∧ SI base sz ag w (K + 1) now w'' := by
  obtain ⟨d, m, op, q, lr, lv, lq, AR, cR, lrv, hp, hw⟩ := h
  have h1 := hp.len
  have h2 := hw.q.len
  have h3 := hp.LK
  have h6 := hw.r.len
  refine (rvoid_any base (base + 1) sz ag now AR cR lrv wr hw.Rr hw.r.one hw.size (by omega)).mono ?_
  rintro e w' ⟨A2, c2, rfl, hR2, hk2⟩
  refine ⟨rfl, ?_⟩
  have hno : NoByte base 5 wr [base + 1] := fun i hi => hw.noR i (by simp at hi; simp [hi])
  have hw' := hw.rfr hk2 (fun i hi => .inl (by simpa using hi)) hR2 ((hw.r.mono (fun a b x => x.keep hk2 hno)).void (Reads.nil _ _ _))
  obtain ⟨AL, cL, hlv, _⟩ := own_slice hw'.Q
  have hS := hw'.S
  have hQ := hw'.Q
  rw [hlv] at hS hQ
  refine (svoid_any base base sz ag now ((d : Int) + 1) m op AL cL lq w' hS hQ hs (by omega)).mono ?_
  rintro e w'' ⟨rfl, hS3, hQ3, hk3⟩
  rw [← hlv] at hS3 hQ3 hk3
  have hq3 : SR (Reads base 5 w'') (lq.map (svoid (.slice none 0 0))) (q.map (svoid [])) := (hw'.q.mono (fun a b x => x.keep hk3 (fun i hi => hw'.noS i (List.mem_cons_of_mem _ hi)))).void (Reads.nil _ _ _)
  have hw2 := hw'.snd (hk3.mono (fun i hi => List.mem_cons_of_mem _ hi)) hS3 (by rw [List.length_map]; exact hQ3) hq3
  exact ⟨rfl, _, _, _, _, _, _, _, _, _, _, hp.void, hw2⟩
theorem SI.due (h : SI base sz ag w K now wr) (hK : K < 80) (hs : 1 ≤ sz ∧ sz ≤ 64) (ha : 1 ≤ ag ∧ ag ≤ 1048576) (now' : Int) :
    ∃ ec : Int, Calls Try.prog 20 #[.pointer (some ⟨base, 0, none⟩), .int .i64 now'] wr fun e w' => ∃ (A : Option Addr) (n c : Nat), e = .returned (.tuple #[.slice A n c, .int .i64 ec]) ∧ (n : Int) ≤ sz ∧
      Calls Try.prog 25 #[.pointer (some ⟨base + 1, 0, none⟩), .int .i64 now'] w' fun e w'' => ∃ (A' : Option Addr) (n' c' : Nat) (nowE : Int), e = .returned (.tuple #[.slice A' n' c', .int .i64 ec]) ∧ SI base sz ag w (K + 1) nowE w'' ∧
        Calls Try.prog 16 #[.slice A n c, .slice A' n' c'] w'' fun e w3 => e = .returned (.bool true) ∧ ∃ k, w3 = w''.drewN k := by
  obtain ⟨d, m, op, q, lr, lv, lq, AR, cR, lrv, hp, hw⟩ := h
  have h1 := hp.len
  have h2 := hw.q.len
  have h3 := hp.LK
  have h6 := hw.r.len
  have hm := hp.hm
  have hsl := sentN_le lr lr.length
  by_cases hok : now ≤ now' ∧ now' ≤ 1099511627776
  · obtain ⟨hn, hn2⟩ := hok
    have hn0 := hp.now0
    obtain ⟨k, hk⟩ : ∃ k : Nat, min sz (lq.length : Int) = k := ⟨(min sz (lq.length : Int)).toNat, by omega⟩
    have hbl : ∀ x ∈ q, x.b.length ≤ 140737488355328 := fun x hx => by
      have h9 : conv x ∈ lr := List.mem_of_mem_drop (by rw [hp.rel]; exact List.mem_map_of_mem hx)
      have := hp.bl _ h9
      show (conv x).b.length ≤ _
      omega
    have htm : ∀ x ∈ q, -4611686018427387904 ≤ x.tm ∧ x.tm ≤ 4611686018427387904 := fun x hx => by
      have := hp.tms x hx
      have := hp.now1
      omega
    refine ⟨0, ?_⟩
    refine (due_any base base sz ag now ((d : Int) + 1) m op now' lv lq q k wr hw.S hw.Q hw.q hw.size hbl hs.1 ⟨hn0, hn, hn2⟩ (by omega) (by omega) (by omega) (Nat.le_refl _) htm hk ⟨by omega, by omega⟩).mono ?_
    rintro e w' ⟨ro, out, rfl, hS, hQ, hq, hro, hout, hkp⟩
    obtain ⟨A, c, rfl, _⟩ := own_slice hro
    have hol := hout.len
    have hdl := dueO_len (ag := ag) (now := now') (bse := (d : Int) + 1) (q.take k) 0
    have htl : (q.take k).length ≤ k := by rw [List.length_take]; omega
    obtain ⟨hp', hO⟩ := hp.due (ag := ag) (now' := now') (k := k) hn hn2 (by omega)
    have hw' := hw.snd hkp hS (by rw [dueL_len]; exact hQ) hq
    refine ⟨A, out.length, c, rfl, by omega, ?_⟩
    have hrd : rdone lrv = d := by rw [hw.r.rdone]; exact hp.rd
    refine (rdue_any base (base + 1) sz ag now now' AR cR lrv k w' hw'.Rr hw'.size (by omega) hs ha ⟨hn0, hn, hn2⟩ (by omega) hw'.r.sl (fun x hx => by
      obtain ⟨y, hy, e⟩ := hw'.r.mem_tm hx
      rw [← e]
      exact hp.tmr y hy) (by rw [hrd]; omega)).mono ?_
    unfold RDuePost
    rw [hrd]
    rintro e w'' ⟨A', c', rfl, hR2, hro2, hk2⟩
    have hw2 := hw'.rfr hk2 (fun i hi => by simpa using hi) hR2 ((hw'.r.mono (fun a b x => x.keep hk2 hw'.noR)).due)
    have hLR2 : LR (Reads base 5 w'') (rdueO ag now' ((d : Int) + 1) ((lrv.drop d).take k) 0) (dueO ag now' ((d : Int) + 1) (q.take k) 0) := by
      rw [← hO]
      exact (((hw'.r.mono (fun a b x => x.keep hk2 hw'.noR)).drop d).take k).dueO 0
    have hro3 := ownsRow_keep hro hk2 (by
      intro i hi
      simp only [List.mem_cons, Option.mem_toList, not_or]
      exact ⟨fun e => own_ne_blk hro hw'.Rr.1 (by decide) (e ▸ hi), fun e => own_ne_own hro hw'.Rr.2 (by decide) hi (by simpa using e)⟩)
    have hout3 : LR (Reads base 5 w'') out (dueO ag now' ((d : Int) + 1) (q.take k) 0) := hout.mono (fun a b x => x.keep hk2 hw'.noR)
    have hl2 := hLR2.len
    refine ⟨A', _, c', now', rfl, ⟨_, _, _, _, _, _, _, _, _, _, hp', hw2⟩, ?_⟩
    · refine (same_any base out (rdueO ag now' ((d : Int) + 1) ((lrv.drop d).take k) 0) (dueO ag now' ((d : Int) + 1) (q.take k) 0) (dueO ag now' ((d : Int) + 1) (q.take k) 0) A A' _ _ _ _ w'' (Src.of_own hro3) (Src.of_own hro2) hout3.pr hLR2.pr (own_spot hro3) (own_spot hro2) (by omega) (by omega)).mono ?_
      rintro e w3 ⟨rfl, k3, rfl⟩
      exact ⟨by rw [decide_eq_true rfl], k3, rfl⟩
  · have hbad : now' < now ∨ 1099511627776 < now' := by omega
    refine ⟨190, ?_⟩
    refine (due_err base sz ag now ((d : Int) + 1) m op now' lv wr hw.S hs.1 hbad).mono ?_
    rintro e w' ⟨rfl, hk⟩
    refine ⟨none, 0, 0, rfl, by omega, ?_⟩
    have hw' := hw.keep hk
    refine (rdue_err base (base + 1) sz ag now now' AR cR lrv w' hw'.Rr hbad).mono ?_
    rintro e w'' ⟨rfl, rfl⟩
    refine ⟨none, 0, 0, now, rfl, ⟨d, m, op, q, lr, lv, lq, AR, cR, lrv, hp.later, hw'⟩, ?_⟩
    refine (same_any base [] [] [] [] none none 0 0 0 0 w' (Src.of_own (World.ownsRow_nil w' 0 33 2)) (Src.of_own (World.ownsRow_nil w' 0 33 2)) (PR.nil _ _) (PR.nil _ _) (by simp) (by simp) (by omega) (by omega)).mono ?_
    rintro e w3 ⟨rfl, k3, rfl⟩
    exact ⟨rfl, k3, rfl⟩
end
end Go.Proofs.Ytlkpecalkakpeaa
