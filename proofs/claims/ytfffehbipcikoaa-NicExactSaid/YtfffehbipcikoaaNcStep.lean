/- NicExact: each act on both cards. -/

import Derived.Test.YtfffehbipcikoaaNcLaw
namespace Go.Proofs.Ytfffehbipcikoaa
open Go.RowKit Go.MapKept

/-- .. and a row of bytes of the law's own beside them. -/
def NB (w0 : World) (r : Nat) (w : World) (v : Value) (L : List UInt8) (N : Nat) (rx tx : QS) (hi base P : Nat) (In Out : List (List UInt8)) (drop : Nat) : Prop :=
  ∃ D iv ov, NicG w N rx tx w0.heap.size hi In Out drop ∧ PageAt w base P D iv ov In Out drop ∧ Below w0.heap.size w0 w ∧ w.ownsRow r 5 1 v L.length (u8s L) ∧ ∀ k ∈ D, k ∉ Value.ownL v
section
variable {w0 w w' : World} {r N hi base P drop : Nat} {rx tx : QS} {v : Value} {L : List UInt8} {In Out : List (List UInt8)}
theorem NB.nums (h : NB w0 r w v L N rx tx hi base P In Out drop) : In.length ≤ 16 ∧ Out.length ≤ 64 ∧ hi ≤ w.heap.size := by
  obtain ⟨D, iv, ov, h1, _⟩ := h
  exact ⟨h1.rx_.count, h1.tx_.count, h1.hi_⟩
theorem NB.left0 (h : NB w0 r w v L N rx tx hi base P In Out drop) (hl : Left [] w w') : NB w0 r w' v L N rx tx hi base P In Out drop := by
  obtain ⟨D, iv, ov, h1, h2, h3, h4, h5⟩ := h
  exact ⟨D, iv, ov, (h1.left0 hl).1, h2.left0 hl, h3.trans (hl.belowB h3.size (by simp)), own_leftB h4 hl (by simp), h5⟩
theorem NB.spoil (h : NB w0 r w v L N rx tx hi base P In Out drop) (hl : Left (Value.ownL v) w w') (hr : base ≤ r) (hP : hi ≤ P) (hw : w0.heap.size ≤ base) : NJ w0 w' N rx tx hi base P In Out drop := by
  obtain ⟨D, iv, ov, h1, h2, h3, h4, h5⟩ := h
  have hb := h2.plt
  exact ⟨D, iv, ov, spoil_nic h1 h4 (by omega) hl, spoil_page h2 h4 hr h5 hl, h3.trans (hl.belowB h3.size (fun k hk => by have := (h4.lt k (mem_ownL.1 hk)).1; omega))⟩
theorem NJ.toNB (h : NJ w0 w N rx tx hi base P In Out drop) (hb : Below w.heap.size w w') (ho : w'.ownsRow w.heap.size 5 1 v L.length (u8s L)) : NB w0 w.heap.size w' v L N rx tx hi base P In Out drop := by
  obtain ⟨D, iv, ov, h1, h2, h3⟩ := h
  have hl := Left.of_below hb []
  refine ⟨D, iv, ov, (h1.left0 hl).1, h2.left0 hl, h3.trans (hb.mono h3.size), ho, fun k hk hm => ?_⟩
  have := (h2.dlt k hk).2.2
  have := (ho.lt k (mem_ownL.1 hm)).1
  omega
/-- The card's part is done, the page's is not. -/
def NM (w0 : World) (r : Nat) (w : World) (v : Value) (L : List UInt8) (N : Nat) (rx tx : QS) (hi base P : Nat) (In Out : List (List UInt8)) (drop : Nat) (In0 Out0 : List (List UInt8)) (drop0 : Nat) : Prop :=
  ∃ D iv ov, NicG w N rx tx w0.heap.size hi In Out drop ∧ PageAt w base P D iv ov In0 Out0 drop0 ∧ Below w0.heap.size w0 w ∧ w.ownsRow r 5 1 v L.length (u8s L) ∧ (∀ k ∈ D, k ∉ Value.ownL v)
variable {In' Out' In0 Out0 : List (List UInt8)} {drop' drop0 : Nat}
theorem NB.card {S : List Nat} (h : NB w0 r w v L N rx tx hi base P In Out drop) (hg : NicG w' N rx tx w0.heap.size hi In' Out' drop') (hl : Left S w w') (hS : ∀ k ∈ S, k ≠ P ∧ k < base ∧ w0.heap.size ≤ k ∧ k < hi) (hr : base ≤ r) : NM w0 r w' v L N rx tx hi base P In' Out' drop' In Out drop := by
  obtain ⟨D, iv, ov, h1, h2, h3, h4, h5⟩ := h
  exact ⟨D, iv, ov, hg, h2.left hl (fun k hk => ⟨(hS k hk).1, .inl (hS k hk).2.1⟩), h3.trans (hl.belowB h3.size (fun k hk => (hS k hk).2.2.1)), own_left h4 hl (fun k hk => by have := hS k hk; omega), h5⟩
theorem NM.page {D : List Nat} {iv ov iv' ov' : Value} {D' : List Nat} (hg : NicG w N rx tx w0.heap.size hi In Out drop) (hp : PageAt w base P D iv ov In0 Out0 drop0) (h3 : Below w0.heap.size w0 w) (h4 : w.ownsRow r 5 1 v L.length (u8s L)) (h5 : ∀ k ∈ D, k ∉ Value.ownL v)
    (hp' : PageAt w' base P D' iv' ov' In Out drop) (hs : PStep w w' base P) (hD : ∀ k ∈ D', k ∈ D ∨ w.heap.size ≤ k) (hr : base ≤ r) (hP : hi ≤ P) (hw : w0.heap.size ≤ P) : NB w0 r w' v L N rx tx hi base P In Out drop := by
  have hb := hp.plt
  refine ⟨D', iv', ov', pstep_nic hg hp hs hP, hp', pstep_below hs h3 hw (by omega), pstep_own h4 hs hr hb, fun k hk hm => ?_⟩
  rcases hD k hk with h | h
  · exact h5 k h hm
  · have := (h4.lt k (mem_ownL.1 hm)).2
    omega

/-- Receive. -/
theorem NB.recv (h : NB w0 r w v L N rx tx hi base P In Out drop) (hr : base ≤ r) (hrw : r ≤ w.heap.size) (hP : hi ≤ P) (hw : w0.heap.size ≤ P) {bv : Value} {B0 : Nat} (hB0 : B0 ≤ w0.heap.size) (hbv : Rd w B0 1 bv L.length (u8s L)) (hd : drop ≤ 1000000) :
    ∃ (ok : Bool) (M : World → Prop), (Calls Try.prog 58 #[.pointer (some ⟨N, 0, none⟩), v] w fun e w2 => e = .returned (.bool ok) ∧ M w2 ∧ Below w0.heap.size w0 w2) ∧
      ∀ w2, M w2 → Calls Try.prog 59 #[.pointer (some ⟨P, 0, none⟩), bv] w2 fun e w3 => e = .returned (.bool ok) ∧ ∃ In' drop', drop' ≤ drop + 1 ∧ NB w0 r w3 v L N rx tx hi base P In' Out drop' := by
  have h0 := h
  obtain ⟨D, iv, ov, h1, h2, h3, h4, h5⟩ := h
  have hb := h2.plt
  have hS := h1.own_rx hP hb
  have hcnt := h1.rx_.count
  by_cases hc : wholeB L.length = true ∧ In.length < 16
  · refine ⟨true, fun w2 => NM w0 r w2 v L N rx tx hi base P (In ++ [L]) Out drop In Out drop ∧ Rd w2 B0 1 bv L.length (u8s L), ?_, fun w2 hM => ?_⟩
    · refine (Receive_ok h1 (Rd.of_own h4) (fun k hk => (fun hm => by have := (h4.lt k hk).1; have := h1.rng k (by simp [hm]); omega)) hc.1 hc.2).mono ?_
      rintro e w2 ⟨rfl, hg, hl, _⟩
      have hbb := hl.belowB (B := w0.heap.size) h3.size (fun k hk => (hS k hk).2.2.1)
      exact ⟨rfl, ⟨h0.card hg hl hS hr, hbv.below (hbb.mono hB0)⟩, h3.trans hbb⟩
    · obtain ⟨⟨D, iv, ov, g1, g2, g3, g4, g5⟩, hrd⟩ := hM
      have hz := g3.size
      refine (rRecv_ok g2 hrd (by omega) (by have := g1.hi_; have := g2.head.lt; obtain hbase | hbase := Nat.le_total base w2.heap.size; exact hbase; have := (Rd.of_own g4); rcases Nat.lt_or_ge 0 L.length with hl0 | hl0; (obtain ⟨g, cap, _, hBg, hgl⟩ := own_form' g4 hl0; omega); (have := hc.1; simp [wholeB] at this; omega)) hc.1 hc.2).mono ?_
      rintro e w3 ⟨rfl, iv', D', hp', hs, hD⟩
      exact ⟨rfl, In ++ [L], drop, by omega, NM.page g1 g2 g3 g4 g5 hp' hs hD hr hP hw⟩
  · have hc' : wholeB L.length = false ∨ In.length = 16 := by
      by_cases h1 : wholeB L.length = true
      · exact .inr (by have : ¬ In.length < 16 := fun h2 => hc ⟨h1, h2⟩; omega)
      · exact .inl (by simpa using h1)
    obtain ⟨ao, cap, rfl, _, _⟩ := (Rd.of_own h4).form
    obtain ⟨ao2, cap2, rfl, _, _⟩ := hbv.form
    refine ⟨false, fun w2 => NM w0 r w2 (.slice ao L.length cap) L N rx tx hi base P In Out (drop + 1) In Out drop, ?_, fun w2 hM => ?_⟩
    · refine (Receive_no h1 ao L.length cap hc' hd).mono ?_
      rintro e w2 ⟨rfl, hg, hl, _⟩
      exact ⟨rfl, h0.card hg hl hS hr, h3.trans (hl.belowB (B := w0.heap.size) h3.size (fun k hk => (hS k hk).2.2.1))⟩
    · obtain ⟨D, iv, ov, g1, g2, g3, g4, g5⟩ := hM
      refine (rRecv_no g2 ao2 L.length cap2 hc' hcnt hd).mono ?_
      rintro e w3 ⟨rfl, hp', hl⟩
      exact ⟨rfl, In, drop + 1, by omega, NM.page g1 g2 g3 g4 g5 hp' (pstep_one hl) (fun k hk => .inl hk) hr hP hw⟩
/-- Send. -/
theorem NB.send (h : NB w0 r w v L N rx tx hi base P In Out drop) (hr : base ≤ r) (hrw : r ≤ w.heap.size) (hP : hi ≤ P) (hw : w0.heap.size ≤ P) {bv : Value} {B0 : Nat} (hB0 : B0 ≤ w0.heap.size) (hbv : Rd w B0 1 bv L.length (u8s L)) :
    ∃ (er : Int) (M : World → Prop), (Calls Try.prog 54 #[.pointer (some ⟨N, 0, none⟩), v] w fun e w2 => e = .returned (.int .i64 er) ∧ M w2 ∧ Below w0.heap.size w0 w2) ∧
      ∀ w2, M w2 → Calls Try.prog 55 #[.pointer (some ⟨P, 0, none⟩), bv] w2 fun e w3 => e = .returned (.int .i64 er) ∧ ∃ Out', NB w0 r w3 v L N rx tx hi base P In Out' drop := by
  have h0 := h
  obtain ⟨D, iv, ov, h1, h2, h3, h4, h5⟩ := h
  have hb := h2.plt
  have hS := h1.own_tx hP hb
  have hcnt := h1.tx_.count
  cases hwb : wholeB L.length
  · obtain ⟨ao, cap, rfl, _, _⟩ := (Rd.of_own h4).form
    obtain ⟨ao2, cap2, rfl, _, _⟩ := hbv.form
    refine ⟨1, fun w2 => NB w0 r w2 (.slice ao L.length cap) L N rx tx hi base P In Out drop, ?_, fun w2 hM => ?_⟩
    · refine (Send_form h1 ao L.length cap hwb).mono ?_
      rintro e w2 ⟨rfl, rfl⟩
      exact ⟨rfl, h0, h3⟩
    · refine (rSend_form w2 P ao2 L.length cap2 hwb).mono ?_
      rintro e w3 ⟨rfl, rfl⟩
      exact ⟨rfl, Out, hM⟩
  · by_cases hf : Out.length < 64
    · refine ⟨0, fun w2 => NM w0 r w2 v L N rx tx hi base P In (Out ++ [L]) drop In Out drop ∧ Rd w2 B0 1 bv L.length (u8s L), ?_, fun w2 hM => ?_⟩
      · refine (Send_ok h1 (Rd.of_own h4) (fun k hk => (fun hm => by have := (h4.lt k hk).1; have := h1.rng k (by simp [hm]); omega)) hwb hf).mono ?_
        rintro e w2 ⟨rfl, hg, hl, _⟩
        have hbb := hl.belowB (B := w0.heap.size) h3.size (fun k hk => (hS k hk).2.2.1)
        exact ⟨rfl, ⟨h0.card hg hl hS hr, hbv.below (hbb.mono hB0)⟩, h3.trans hbb⟩
      · obtain ⟨⟨D, iv, ov, g1, g2, g3, g4, g5⟩, hrd⟩ := hM
        have hz := g3.size
        refine (rSend_ok g2 hrd (by omega) (by rcases Nat.lt_or_ge 0 L.length with hl0 | hl0; (obtain ⟨g, cap, _, hBg, hgl⟩ := own_form' g4 hl0; omega); (have := hwb; simp [wholeB] at this; omega)) hwb hf).mono ?_
        rintro e w3 ⟨rfl, ov', D', hp', hs, hD⟩
        exact ⟨rfl, Out ++ [L], NM.page g1 g2 g3 g4 g5 hp' hs hD hr hP hw⟩
    · have hf64 : Out.length = 64 := by omega
      obtain ⟨ao, cap, rfl, _, _⟩ := (Rd.of_own h4).form
      obtain ⟨ao2, cap2, rfl, _, _⟩ := hbv.form
      refine ⟨5, fun w2 => NB w0 r w2 (.slice ao L.length cap) L N rx tx hi base P In Out drop, ?_, fun w2 hM => ?_⟩
      · refine (Send_full h1 ao L.length cap hwb hf64).mono ?_
        rintro e w2 ⟨rfl, rfl⟩
        exact ⟨rfl, h0, h3⟩
      · have hM' := hM
        obtain ⟨D, iv, ov, g1, g2, g3, g4, g5⟩ := hM
        refine (rSend_full g2 ao2 L.length cap2 hwb hf64).mono ?_
        rintro e w3 ⟨rfl, rfl⟩
        exact ⟨rfl, Out, hM'⟩
theorem NB.empty (h : NJ w0 w N rx tx hi base P In Out drop) : NB w0 w.heap.size w (.slice none 0 0) [] N rx tx hi base P In Out drop := by
  obtain ⟨D, iv, ov, h1, h2, h3⟩ := h
  exact ⟨D, iv, ov, h1, h2, h3, World.ownsRow_nil _ _ _ _, fun k _ hm => by simp [Value.ownL, Value.ownBlock] at hm⟩
/-- Poll. -/
theorem NJ.poll (h : NJ w0 w N rx tx hi base P In Out drop) (hr : base ≤ w.heap.size) (hP : hi ≤ P) (hw : w0.heap.size ≤ P) :
    ∃ (ok : Bool) (L : List UInt8) (M : Value → World → Prop), L.length ≤ 1048576 ∧ (Calls Try.prog 51 #[.pointer (some ⟨N, 0, none⟩)] w fun e w2 => ∃ v, e = .returned (.tuple #[v, .bool ok]) ∧ M v w2 ∧ ∃ ao cap, v = .slice ao L.length cap) ∧
      ∀ v w2, M v w2 → Calls Try.prog 52 #[.pointer (some ⟨P, 0, none⟩)] w2 fun e w3 => ∃ x, e = .returned (.tuple #[x, .bool ok]) ∧ (∃ ao cap, x = .slice ao L.length cap) ∧ Rd w3 w3.heap.size 1 x L.length (u8s L) ∧ ∃ In', NB w0 w.heap.size w3 v L N rx tx hi base P In' Out drop := by
  have h0 := h
  obtain ⟨D, iv, ov, h1, h2, h3⟩ := h
  have hb := h2.plt
  have hS := h1.own_rx hP hb
  have hcnt := h1.rx_.count
  cases In with
  | nil =>
    refine ⟨false, [], fun v w2 => v = .slice none 0 0 ∧ NB w0 w.heap.size w2 (.slice none 0 0) [] N rx tx hi base P [] Out drop, by simp, ?_, fun v w2 hM => ?_⟩
    · refine (Poll_none h1).mono ?_
      rintro e w2 ⟨rfl, hg, hl, _⟩
      exact ⟨_, rfl, ⟨rfl, (NB.empty h0).left0 hl⟩, none, 0, rfl⟩
    · obtain ⟨rfl, hM⟩ := hM
      have hM' := hM
      obtain ⟨D, iv, ov, g1, g2, g3, g4, g5⟩ := hM
      refine (rPoll_none g2).mono ?_
      rintro e w3 ⟨rfl, rfl⟩
      exact ⟨_, rfl, ⟨none, 0, rfl⟩, Rd.nil_ _ _ _, [], hM'⟩
  | cons b In =>
    have hbl : b.length ≤ 1514 := by
      obtain ⟨own, used, Bk, W, O, hR, _, hO⟩ := h1.rx_
      cases O with
      | nil => simp at hO
      | cons p O =>
        rw [List.map_cons] at hO
        injection hO with hO _
        rw [← hO]
        exact (hR.fr p (by simp)).2
    refine ⟨true, b, fun v w2 => NM w0 w.heap.size w2 v b N rx tx hi base P In Out drop (b :: In) Out drop, by omega, ?_, fun v w2 hM => ?_⟩
    · refine (Poll_some h1).mono ?_
      rintro e w2 ⟨v, rfl, ho, hg, hl, _⟩
      obtain ⟨ao, cap, hv, _, _⟩ := (Rd.of_own ho).form
      refine ⟨v, rfl, ⟨D, iv, ov, hg, h2.left hl (fun k hk => ⟨(hS k hk).1, .inl (hS k hk).2.1⟩), h3.trans (hl.belowB h3.size (fun k hk => (hS k hk).2.2.1)), ho, fun k hk hm => ?_⟩, ao, cap, hv⟩
      have := (h2.dlt k hk).2.2
      have := (ho.lt k (mem_ownL.1 hm)).1
      omega
    · obtain ⟨D, iv, ov, g1, g2, g3, g4, g5⟩ := hM
      refine (rPoll_some g2 (by simp at hcnt; omega)).mono ?_
      rintro e w3 ⟨x, iv', rfl, hx, hp', hl⟩
      obtain ⟨ao, cap, hv, _, _⟩ := (Rd.of_own hx).form
      exact ⟨x, rfl, ⟨ao, cap, hv⟩, Rd.of_own hx, In, NM.page g1 g2 g3 g4 g5 hp' (pstep_one hl) (fun k hk => .inl hk) hr hP hw⟩
/-- Out. -/
theorem NJ.out_ (h : NJ w0 w N rx tx hi base P In Out drop) (hr : base ≤ w.heap.size) (hP : hi ≤ P) (hw : w0.heap.size ≤ P) :
    ∃ (ok : Bool) (L : List UInt8) (M : Value → World → Prop), L.length ≤ 1048576 ∧ (Calls Try.prog 56 #[.pointer (some ⟨N, 0, none⟩)] w fun e w2 => ∃ v, e = .returned (.tuple #[v, .bool ok]) ∧ M v w2 ∧ ∃ ao cap, v = .slice ao L.length cap) ∧
      ∀ v w2, M v w2 → Calls Try.prog 57 #[.pointer (some ⟨P, 0, none⟩)] w2 fun e w3 => ∃ x, e = .returned (.tuple #[x, .bool ok]) ∧ (∃ ao cap, x = .slice ao L.length cap) ∧ Rd w3 w3.heap.size 1 x L.length (u8s L) ∧ ∃ Out', NB w0 w.heap.size w3 v L N rx tx hi base P In Out' drop := by
  have h0 := h
  obtain ⟨D, iv, ov, h1, h2, h3⟩ := h
  have hb := h2.plt
  have hS := h1.own_tx hP hb
  have hcnt := h1.tx_.count
  cases Out with
  | nil =>
    refine ⟨false, [], fun v w2 => v = .slice none 0 0 ∧ NB w0 w.heap.size w2 (.slice none 0 0) [] N rx tx hi base P In [] drop, by simp, ?_, fun v w2 hM => ?_⟩
    · refine (Out_none h1).mono ?_
      rintro e w2 ⟨rfl, hg, hl, _⟩
      exact ⟨_, rfl, ⟨rfl, (NB.empty h0).left0 hl⟩, none, 0, rfl⟩
    · obtain ⟨rfl, hM⟩ := hM
      have hM' := hM
      obtain ⟨D, iv, ov, g1, g2, g3, g4, g5⟩ := hM
      refine (rOut_none g2).mono ?_
      rintro e w3 ⟨rfl, rfl⟩
      exact ⟨_, rfl, ⟨none, 0, rfl⟩, Rd.nil_ _ _ _, [], hM'⟩
  | cons b Out =>
    have hbl : b.length ≤ 1514 := by
      obtain ⟨own, used, Bk, G, hT, hO⟩ := h1.tx_
      cases G with
      | nil => simp at hO
      | cons p G =>
        rw [List.map_cons] at hO
        injection hO with hO _
        rw [← hO]
        exact (hT.fr p (by simp)).2.2
    refine ⟨true, b, fun v w2 => NM w0 w.heap.size w2 v b N rx tx hi base P In Out drop In (b :: Out) drop, by omega, ?_, fun v w2 hM => ?_⟩
    · refine (Out_some h1).mono ?_
      rintro e w2 ⟨v, rfl, ho, hg, hl, _⟩
      obtain ⟨ao, cap, hv, _, _⟩ := (Rd.of_own ho).form
      refine ⟨v, rfl, ⟨D, iv, ov, hg, h2.left hl (fun k hk => ⟨(hS k hk).1, .inl (hS k hk).2.1⟩), h3.trans (hl.belowB h3.size (fun k hk => (hS k hk).2.2.1)), ho, fun k hk hm => ?_⟩, ao, cap, hv⟩
      have := (h2.dlt k hk).2.2
      have := (ho.lt k (mem_ownL.1 hm)).1
      omega
    · obtain ⟨D, iv, ov, g1, g2, g3, g4, g5⟩ := hM
      refine (rOut_some g2 (by simp at hcnt; omega)).mono ?_
      rintro e w3 ⟨x, iv', rfl, hx, hp', hl⟩
      obtain ⟨ao, cap, hv, _, _⟩ := (Rd.of_own hx).form
      exact ⟨x, rfl, ⟨ao, cap, hv⟩, Rd.of_own hx, Out, NM.page g1 g2 g3 g4 g5 hp' (pstep_one hl) (fun k hk => .inl hk) hr hP hw⟩
end
end Go.Proofs.Ytfffehbipcikoaa
