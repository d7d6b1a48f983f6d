/- LogModel: the walk. -/

import Derived.Test.YtcgdlmlolmfinaaLmAgn
import Derived.Test.YtcgdlmlolmfinaaLmHv
namespace Go.Proofs.Ytcgdlmlolmfinaa
open Go.RowKit
def vBlk : Value → Option Nat
  | .slice (some a) _ _ => some a.block
  | _ => none
/-- A row that the log does not touch. -/
structure RK (w : World) (v : Value) (l : List (List UInt8)) (X : List Nat) : Prop where
  rd : Rd w w.heap.size 1 v l.length (sts l)
  sep : 0 < l.length → ∀ k, vBlk v = some k → k ∉ X
section
variable {w w' : World} {v : Value} {l : List (List UInt8)} {X X' S : List Nat}
theorem RK.step (h : RK w v l X) (hl : Left S w w') (hS : ∀ k ∈ S, k ∈ X ∨ w.heap.size ≤ k ∨ (0 < l.length → vBlk v ≠ some k)) (hX : ∀ k ∈ X', k ∈ X ∨ w.heap.size ≤ k) : RK w' v l X' := by
  obtain ⟨h1, ao, cap, rfl, h3, h4, h5, h6⟩ := h.rd
  refine ⟨⟨h1, ao, cap, rfl, h3, h4, h5, fun hn => ?_⟩, fun hn k hk hm => ?_⟩
  · obtain ⟨b, o, rfl, hb, hc⟩ := h6 hn
    refine ⟨b, o, rfl, Nat.lt_of_lt_of_le hb hl.size, fun j u hu => cell_left' (hc j u hu) hl (fun hm => ?_)⟩
    rcases hS b hm with h' | h' | h'
    · exact h.sep hn b rfl h'
    · omega
    · exact h' hn rfl
  · obtain ⟨b, o, rfl, hb, hc⟩ := h6 hn
    have hbk : b = k := by simpa [vBlk] using hk
    subst hbk
    rcases hX b hm with h' | h'
    · exact h.sep hn b rfl h'
    · omega
theorem RK.of_own {B : Nat} (h : w.ownsRow B 9 1 v l.length (sts l)) (hX : ∀ k ∈ X, k < B) : RK w v l X := by
  refine ⟨Rd.of_own h, fun hn k hk hm => ?_⟩
  obtain ⟨g, cap, rfl, hg, _⟩ := own_form h hn
  have : g = k := by simpa [vBlk] using hk
  subst this
  have := hX _ hm
  omega
end
theorem light_act {a : Act6} (h : wtA a ≤ 40000) : a.s.length ≤ 40000 ∧ a.l.length ≤ 40000 ∧ (∀ x ∈ a.l, x.length ≤ 40000) ∧ wtL a.l ≤ 100000000 ∧ a.k.length ≤ 40000 := by
  unfold wtA txW at h
  have hm : ∀ (l : List (List UInt8)) (x : List UInt8), x ∈ l → x.length ≤ (l.map List.length).sum := by
    intro l
    induction l with
    | nil => intro x hx; cases hx
    | cons y r ih =>
      intro x hx
      simp only [List.map_cons, List.sum_cons]
      rcases List.mem_cons.1 hx with rfl | hx
      · omega
      · have := ih x hx; omega
  have hw : ∀ l : List (List UInt8), wtL l = (l.map List.length).sum + 128 * l.length := by
    intro l
    induction l with
    | nil => simp [wtL]
    | cons y r ih => simp only [wtL, List.map_cons, List.sum_cons, List.length_cons, ih]; omega
  have := hw a.l
  refine ⟨by omega, by omega, fun x hx => ?_, by omega, by omega⟩
  have := hm a.l x hx
  omega
/-- A round of LogModel. -/
structure QM (w0 wr : World) (base R RD : Nat) (X : List Nat) (sy : Bool) (ls l : List (List UInt8)) (v : Value) (G N : Int) : Prop where
  bel : Below w0.heap.size w0 wr
  kg : KG wr base R RD X sy ls l G N
  hb : w0.heap.size ≤ base
  hz : base ≤ wr.heap.size
  row : RK wr v l X
section
variable {w0 wr w' : World} {base R RD : Nat} {X : List Nat} {sy sy' : Bool} {ls l ls' l' : List (List UInt8)} {v v' : Value} {G N G' N' : Int}
theorem QM.quiet (h : QM w0 wr base R RD X sy ls l v G N) (hb : Below wr.heap.size wr w') : QM w0 w' base R RD X sy ls l v G N :=
  ⟨h.bel.trans (hb.mono h.bel.size), h.kg.below hb, h.hb, Nat.le_trans h.hz hb.size, h.row.step (Left.of_below hb []) (by simp) (fun k hk => .inl hk)⟩
theorem QM.kp (h : QM w0 wr base R RD X sy ls l v G N) (hr : RK wr v' l' X) (hk : KP wr base R RD X sy' ls' l' G' N' w') :
    ∃ X', QM w0 w' base R RD X' sy' ls' l' v' G' N' ∧ Left X wr w' := by
  obtain ⟨X', h1, h2, h3⟩ := hk
  exact ⟨X', ⟨h.bel.trans (h2.belowB h.bel.size (fun k hk => Nat.le_trans h.hb (h.kg.lt k hk).1)), h1, h.hb, Nat.le_trans h.hz h2.size, hr.step h2 (fun k hk => .inl hk) h3⟩, h2⟩
theorem QM.mono (h : QM w0 wr base R RD X sy ls l v G N) (hG : G ≤ G') (hN : N ≤ N') : QM w0 wr base R RD X sy ls l v G' N' := ⟨h.bel, h.kg.mono hG hN, h.hb, h.hz, h.row⟩
theorem QM.own (h : QM w0 wr base R RD X sy ls l v G N) {B : Nat} (hB : wr.heap.size ≤ B) (hbw : Below wr.heap.size wr w') (hv : v' = v ∧ l' = l ∨ w'.ownsRow B 9 1 v' l'.length (sts l')) : RK w' v' l' X := by
  rcases hv with ⟨rfl, rfl⟩ | hv
  · exact (h.quiet hbw).row
  · exact RK.of_own hv (fun k hk => Nat.lt_of_lt_of_le (h.kg.lt k hk).2 hB)
end
theorem KG.wt {w : World} {base R RD : Nat} {X : List Nat} {sy : Bool} {ls l : List (List UInt8)} {G N : Int} (h : KG w base R RD X sy ls l G N) : wtL l ≤ 65536 := by
  obtain ⟨L, _, hs, _⟩ := h
  exact hs.ok.live.opn.wt
set_option maxRecDepth 20000 in
set_option maxHeartbeats 8000000 in
theorem kmodel (w : World) (lv ov : Value) (A : List Act6) (O : List Int) (hA : ActsAt6 w w.heap.size lv A) (hO : Rd w w.heap.size 1 ov O.length (i64s O)) :
    Calls Try.prog 4 #[.agg #[lv, ov]] w fun e w' => e = .returned (.bool true) ∧ Below w.heap.size w w' := by
  have hA0 := hA
  obtain ⟨ao, cap, rfl, hc1, hc2, _⟩ := hA
  obtain ⟨oo, oc, rfl, ho1, ho2⟩ := hO.form
  obtain ⟨w0, hw0⟩ : ∃ w0, w0 = w.alloc (.cells #[.slice ao A.length cap, .slice oo O.length oc] 25) := ⟨_, rfl⟩
  have hb0 : Below w.heap.size w w0 := by rw [hw0]; exact (Below.refl _ _).alloc (Nat.le_refl _) _
  have hW0 : Whole w0 w.heap.size 25 [.slice ao A.length cap, .slice oo O.length oc] := by rw [hw0]; exact Whole.new w 25 _
  have hs0 : w0.heap.size = w.heap.size + 1 := by rw [hw0]; simp
  have hA1 := hA0.below hb0
  have HHV := Lib.hid (heavy6 w0 (.slice ao A.length cap) (.slice oo O.length oc) A O (by
    obtain ⟨a1, a2, a3, a4, a5, a6⟩ := hA1
    exact ⟨a1, a2, a3, a4, a5, fun i a ha => by
      obtain ⟨⟨b, o, e, hh⟩, hr⟩ := a6 i a ha
      obtain ⟨v1, p1, p2⟩ := hh.l
      obtain ⟨v2, q1, q2⟩ := hh.k
      exact ⟨⟨b, o, e, by have := hh.lt; omega, hh.d, hh.s, ⟨v1, p1, p2.more (by omega)⟩, ⟨v2, q1, q2.more (by omega)⟩⟩, hr⟩⟩) ((hO.below hb0).more (by omega)))
  have b0 : w0.cell? ⟨w.heap.size, 0, none⟩ = some (.slice ao A.length cap) := by rw [hW0.cell]; rfl
  have b1 : w0.cell? ⟨w.heap.size, 1, none⟩ = some (.slice oo O.length oc) := by rw [hW0.cell]; rfl
  have HA1 := Lib.hid hA1
  have H0 := Lib.hid (And.intro hb0 (And.intro hs0 hW0))
  have hch := hw0.symm
  clear hA0 hA1 hO hb0 hW0 hs0 hw0 ho2
  go_enter Try.func4, Try.ntmps4
  go_wp2_with fail
  refine HHV.out.mono ?_
  rintro e w1 ⟨b, rfl, hlt, hb1⟩
  have HLT := Lib.hid hlt
  have HB1 := Lib.hid hb1
  clear hlt hb1 hch
  cases b
  case true =>
    have HB := Lib.hid (H0.out.1.trans (HB1.out.mono H0.out.1.size))
    clear b0 b1
    go_wp2
    go_ret
    exact ⟨rfl, HB.out⟩
  case false =>
    have HLI := Lib.hid (HLT.out rfl)
    have HDI := Lib.hid (kdisk w1)
    clear b0 b1
    go_wp2_with fail
    refine HDI.out.mono ?_
    rintro e w2 ⟨RD, F, rfl, hd, hl⟩
    have hFlt := hd.lt
    have hz1 : w1.heap.size + 1 ≤ w2.heap.size := by
      obtain ⟨_, _, _, _, _, h⟩ := hd
      have := h.lt RD h.blk.1
      omega
    have HOP := Lib.hid (kopen noughts_len hd hz1 (same_zero (fun m hm => secN_nought m hm)))
    have HB2 := Lib.hid (And.intro (HB1.out.trans (hl.below.mono HB1.out.size)) (And.intro hFlt hz1))
    clear hd hl hFlt hz1
    go_wp2_with fail
    refine HOP.out.mono ?_
    rintro e w3 ⟨rfl, X, hk, hl, hX⟩
    have hq : QM w0 w3 (w1.heap.size + 1) w2.heap.size RD X false [] [] (.slice none 0 0) ((0 : Nat) : Int) (5000000 + 20000 * ((0 : Nat) : Int)) := ⟨HB2.out.1.trans (hl.belowB HB2.out.1.size (fun k hk => by have := (HB2.out.2.1 k hk).1; have := HB1.out.size; omega)), by simpa using hk, by have := HB1.out.size; omega, by have := hl.size; have := HB2.out.2.2; omega, ⟨Rd.nil_ _ _ _, fun h => absurd h (by simp)⟩⟩
    have HQ := Lib.hid hq
    obtain ⟨R, hR⟩ : ∃ R, w2.heap.size = R := ⟨_, rfl⟩
    rw [hR] at HQ ⊢
    clear hk hl hX hq hR
    go_wp2_with (go_at_call 8; refine (knum _ _).mono ?_; rintro e w' ⟨rfl, rfl⟩)
    go_loopw [3, 4, 5, 6, 7] (fun d g _ r i wr => ∃ (k base R RD : Nat) (X : List Nat) (sy : Bool) (ls l : List (List UInt8)) (v : Value), d = .pointer (some ⟨RD, 0, none⟩) ∧ g = .pointer (some ⟨R, 0, none⟩) ∧ r = v ∧ i = .int .i64 k ∧ k ≤ 20 ∧ k ≤ A.length ∧ Hid (QM w0 wr base R RD X sy ls l v (k : Int) (5000000 + 20000 * (k : Int)))) (fun _ _ _ _ i _ => 30 - (intOf i).toNat)
    case atStart => exact ⟨0, _, R, RD, X, false, [], [], _, rfl, rfl, rfl, rfl, by omega, by omega, HQ⟩
    case round =>
      obtain ⟨k, base, R, RD, X, sy, ls, l, v, rfl, rfl, rfl, rfl, hk20, hkA, HQ⟩ := hrel
      obtain ⟨vo, vc, rfl, _, _⟩ := HQ.out.row.rd.form
      have hWr : Whole wr w.heap.size 25 [.slice ao A.length cap, .slice oo O.length oc] := H0.out.2.2.belowH HQ.out.bel
      have t0 : wr.cell? ⟨w.heap.size, 0, none⟩ = some (.slice ao A.length cap) := by rw [hWr.cell]; rfl
      by_cases hgo : k < A.length ∧ k < 20
      · obtain ⟨hg1, hg2⟩ := hgo
        have hg1' : (k : Int) < (A.length : Int) := by omega
        have hg2' : (k : Int) < 20 := by omega
        obtain ⟨a, ha⟩ : ∃ a, A[k]? = some a := ⟨_, List.getElem?_eq_getElem hg1⟩
        have hbel := HQ.out.bel.mono (by have := H0.out.2.1; omega : w.heap.size ≤ w0.heap.size)
        obtain ⟨⟨b, o, rfl, hAt0⟩, hR6⟩ := act6_get HA1.out ha
        have hAt := hAt0.below hbel
        obtain ⟨lv, c2, hL⟩ := hAt.l
        obtain ⟨kv, c30, hK0⟩ := hAt0.k
        have c3 := (hbel.cell (p := ⟨b, _, none⟩) hAt.lt).trans c30
        have hK := hK0.below hbel
        have c0 := hAt.d
        have c1 := hAt.s
        obtain ⟨lo, lc, rfl, _, _⟩ := hL.form
        obtain ⟨ko, kc, rfl, _, _⟩ := hK.form
        obtain ⟨q1, q2, q3, q4, q5⟩ := light_act (HLI.out.1 a (List.mem_of_getElem? ha))
        have HACT := Lib.hid (And.intro hL (And.intro hK (And.intro hR6 hAt.lt)))
        have HLA := Lib.hid (And.intro q1 (And.intro q2 (And.intro q3 (And.intro q4 q5))))
        obtain ⟨wA, hwA⟩ : ∃ wA, wA = wr.alloc (.cells #[.int .i64 a.d, .string ⟨a.s.toArray⟩, .slice lo a.l.length lc, .slice ko a.k.length kc] 42) := ⟨_, rfl⟩
        have hbA : Below wr.heap.size wr wA := by rw [hwA]; exact (Below.refl _ _).alloc (Nat.le_refl _) _
        have hWA : Whole wA wr.heap.size 42 [.int .i64 a.d, .string ⟨a.s.toArray⟩, .slice lo a.l.length lc, .slice ko a.k.length kc] := by rw [hwA]; exact Whole.new wr 42 _
        have hsA : wA.heap.size = wr.heap.size + 1 := by rw [hwA]; simp
        have d0 : wA.cell? ⟨wr.heap.size, 0, none⟩ = some (.int .i64 a.d) := by rw [hWA.cell]; rfl
        have d1 : wA.cell? ⟨wr.heap.size, 1, none⟩ = some (.string ⟨a.s.toArray⟩) := by rw [hWA.cell]; rfl
        have d2 : wA.cell? ⟨wr.heap.size, 2, none⟩ = some (.slice lo a.l.length lc) := by rw [hWA.cell]; rfl
        have d3 : wA.cell? ⟨wr.heap.size, 3, none⟩ = some (.slice ko a.k.length kc) := by rw [hWA.cell]; rfl
        have hqA := HQ.out.quiet hbA
        have hLA : Rd wA wA.heap.size 1 (.slice lo a.l.length lc) a.l.length (sts a.l) := (hL.below (hbA.mono (by have := HQ.out.bel.size; have := H0.out.2.1; omega))).more (by have := hqA.bel.size; have := H0.out.2.1; omega)
        have HNX := Lib.hid (knext wA (.slice vo l.length vc) l a (.slice lo a.l.length lc) (.slice ko a.k.length kc) hqA.row.rd hqA.kg.wt hLA (fun x hx => by have := q3 x hx; omega) (by omega) q4 (by omega))
        obtain ⟨D, hD⟩ : ∃ D, nextD l a = D := ⟨_, rfl⟩
        rw [hD] at HNX
        have HDD := Lib.hid hD
        have HQA := Lib.hid hqA
        have HSA := Lib.hid (And.intro hsA hbA)
        have HKR := Lib.hid hK0
        have HLR := Lib.hid hLA
        have hch := hwA.symm
        clear ha hbel hAt0 c30 hK0 hAt hR6 hL hK hWr q1 q2 q3 q4 q5 hwA hbA hWA hsA hqA hLA hD
        go_wp2_with fail
        refine HNX.out.mono ?_
        rintro e w1 ⟨v1, rfl, hv1, hb1⟩
        have hr1 : RK w1 v1 D.1 X := HQA.out.own (Nat.le_refl _) hb1 hv1
        obtain ⟨vo1, vc1, rfl, _, _⟩ := hr1.rd.form
        have hq1 : QM w0 w1 base R RD X sy ls l (.slice vo l.length vc) (k : Int) (5000000 + 20000 * (k : Int)) := HQA.out.quiet hb1
        have hL1 : Rd w1 w1.heap.size 1 (.slice lo a.l.length lc) a.l.length (sts a.l) := (HLR.out.below hb1).more hb1.size
        have HDO := Lib.hid (kdoes w1 hq1.kg hq1.hz (by omega) (by omega) a (.slice lo a.l.length lc) (.slice ko a.k.length kc) hL1 (fun x hx => by have := HLA.out.2.2.1 x hx; omega) (by have := HLA.out.2.1; omega) (by have := HLA.out.1; omega))
        rw [HDD.out] at HDO
        have HQ1 := Lib.hid (And.intro hq1 hr1)
        have HS1 := Lib.hid (And.intro hb1.size (fun (j : Nat) u (h : wA.cell? ⟨wr.heap.size, j, none⟩ = some u) => cell_left' h (Left.of_below hb1 []) (by simp)))
        replace d0 := HS1.out.2 0 _ d0
        replace d1 := HS1.out.2 1 _ d1
        replace d2 := HS1.out.2 2 _ d2
        replace d3 := HS1.out.2 3 _ d3
        clear hv1 hb1 hr1 hq1 hL1 c0 c1 c2 c3 t0 hch
        go_wp2_with fail
        refine HDO.out.mono ?_
        rintro e w2 ⟨rfl, sy2, ls2, hP, hsy⟩
        obtain ⟨X2, hq2, hl2⟩ := HQ1.out.1.kp HQ1.out.2 hP
        have hfar : wr.heap.size ∉ X := fun hm => by have := (HQ.out.kg.lt _ hm).2; omega
        replace d0 := cell_left' d0 hl2 hfar
        replace d1 := cell_left' d1 hl2 hfar
        replace d2 := cell_left' d2 hl2 hfar
        replace d3 := cell_left' d3 hl2 hfar
        have HAL := Lib.hid (kall hq2.kg)
        have HQ2 := Lib.hid hq2
        have HSY := Lib.hid hsy
        have HS2 := Lib.hid hl2.size
        clear hP hq2 hl2 hfar hsy
        go_wp2_with fail
        refine HAL.out.mono ?_
        rintro e w3 ⟨v3, rfl, hv3, hb3⟩
        obtain ⟨vo3, vc3, rfl, _, _⟩ := (Rd.of_own hv3).form
        have hr3 := (HQ2.out.quiet hb3).row
        have HEQ := Lib.hid (keqs w3 (.slice vo3 D.1.length vc3) (.slice vo1 D.1.length vc1) D.1 D.1 _ _ (Rd.of_own hv3) hr3.rd)
        rw [decide_eq_true rfl] at HEQ
        have H3 := Lib.hid (And.intro hv3 hb3)
        have HC3 := Lib.hid (fun (j : Nat) u (h : w2.cell? ⟨wr.heap.size, j, none⟩ = some u) => cell_left' h (Left.of_below hb3 []) (by simp))
        replace d0 := HC3.out 0 _ d0
        replace d3 := HC3.out 3 _ d3
        clear hv3 hb3 hr3 d1 d2
        go_wp2_with fail
        refine HEQ.out.mono ?_
        rintro e w4 ⟨rfl, nd, rfl⟩
        have hb4 := below_drewN (Below.refl w3.heap.size w3) nd
        have HST := Lib.hid (Strings_left (w3.drewN nd) w2.heap.size _ D.1 (own_below H3.out.1 hb4) (by have := H3.out.2.size; have := hb4.size; omega) (by have := HQ2.out.kg.wt; have := wtL_len D.1; omega))
        obtain ⟨K, hKK⟩ : ∃ K, within a.d 7 = K := ⟨_, rfl⟩
        have HB4 := Lib.hid (H3.out.2.trans (hb4.mono H3.out.2.size))
        have HC4 := Lib.hid (fun (j : Nat) u (h : w3.cell? ⟨wr.heap.size, j, none⟩ = some u) => cell_left' h (Left.of_below hb4 []) (by simp))
        replace d0 := HC4.out 0 _ d0
        replace d3 := HC4.out 3 _ d3
        rw [hKK] at HSY
        have HK := Lib.hid hKK
        clear hb4 hKK
        go_wp2_with fail
        refine HST.out.mono ?_
        rintro e w5 ⟨rfl, hl5⟩
        have hb5 : Below w2.heap.size w2 w5 := HB4.out.trans (hl5.belowB HB4.out.size (fun k hk => (H3.out.1.lt k (mem_ownL.1 hk)).1))
        have hbx : wr.heap.size ∉ Value.ownL (.slice vo3 D.1.length vc3) := fun hm => by
          have h1 := (H3.out.1.lt _ (mem_ownL.1 hm)).1
          have := HSA.out.1
          have := HS1.out.1
          have := HS2.out
          omega
        replace d0 := cell_left' d0 hl5 hbx
        replace d3 := cell_left' d3 hl5 hbx
        have hq5 := HQ2.out.quiet hb5
        have HQ5 := Lib.hid hq5
        clear hl5 hb5 hbx hq5
        by_cases h6 : K = 6
        · have h6' : (K == 6) = true := beq_iff_eq.2 h6
          have hsy := HSY.out h6
          subst hsy
          clear h6
          have hK5 : Rd w5 w.heap.size 1 (.slice ko a.k.length kc) a.k.length (i64s a.k) := HKR.out.below (HQ5.out.bel.mono (by have := H0.out.2.1; omega : w.heap.size ≤ w0.heap.size))
          have HAG := Lib.hid (kagain_sync HQ5.out.kg HQ5.out.hz hK5 (by have := HQ5.out.bel.size; have := H0.out.2.1; omega) (by have := HLA.out.2.2.2.2; omega) HACT.out.2.2.1.k)
          clear hK5
          go_wp2_with (first | (go_at_call 8; refine (knum _ _).mono ?_; rintro e w' ⟨rfl, rfl⟩) | (go_at_call 18; refine (Within_any _ _ 7 (by omega) (by omega)).mono ?_; rintro e w' ⟨rfl, rfl⟩; rw [HK.out]))
          refine HAG.out.mono ?_
          rintro e w6 ⟨B, r6, g6, hBl, hsm, hg0, hgG, R6, F6, base6, rfl, hd6, hl6, hz6, hz6'⟩
          have HOP6 := Lib.hid (kopen hBl hd6 hz6' hsm)
          have HX6 := Lib.hid (And.intro hd6.lt (And.intro hl6 (And.intro hz6 (And.intro hz6' hgG))))
          clear hBl hd6 hl6 hz6 hz6' hsm hg0 hgG
          go_wp2_with (first | (go_at_call 8; refine (knum _ _).mono ?_; rintro e w' ⟨rfl, rfl⟩) | (go_at_call 18; refine (Within_any _ _ 7 (by omega) (by omega)).mono ?_; rintro e w' ⟨rfl, rfl⟩; rw [HK.out]))
          refine HOP6.out.mono ?_
          rintro e w7 ⟨rfl, X7, hk7, hl7, hX7⟩
          have hll : Left X2 w5 w7 := HX6.out.2.1.trans hl7 (fun k hk => .inr (by have := (HX6.out.1 k hk).1; have := HX6.out.2.2.1; omega))
          have hq7 : QM w0 w7 base6 w6.heap.size R6 X7 false D.1 D.1 (.slice vo1 D.1.length vc1) ((k : Int) + 1) (5000000 + 20000 * (k : Int) + 10000) := ⟨HQ5.out.bel.trans (hll.belowB HQ5.out.bel.size (fun k hk => Nat.le_trans HQ5.out.hb (HQ5.out.kg.lt k hk).1)), hk7.mono HX6.out.2.2.2.2 (by omega), by have := HX6.out.2.2.1; have := HQ5.out.bel.size; omega, Nat.le_trans HX6.out.2.2.2.1 hl7.size, HQ5.out.row.step hll (fun k hk => .inl hk) (fun k hk => by
            rcases hX7 k hk with h | h
            · have := (HX6.out.1 k h).1; have := HX6.out.2.2.1; exact .inr (by omega)
            · have := HX6.out.2.1.size; exact .inr (by omega))⟩
          have HAL7 := Lib.hid (kall hq7.kg)
          obtain ⟨RN, hRN⟩ : ∃ RN, w6.heap.size = RN := ⟨_, rfl⟩
          have HQ7 := Lib.hid hq7
          rw [hRN] at HQ7 HAL7 ⊢
          clear hk7 hl7 hX7 hll hq7 hRN
          go_wp2_with (first | (go_at_call 8; refine (knum _ _).mono ?_; rintro e w' ⟨rfl, rfl⟩) | (go_at_call 18; refine (Within_any _ _ 7 (by omega) (by omega)).mono ?_; rintro e w' ⟨rfl, rfl⟩; rw [HK.out]))
          refine HAL7.out.mono ?_
          rintro e w8 ⟨v8, rfl, hv8, hb8⟩
          obtain ⟨vo8, vc8, rfl, _, _⟩ := (Rd.of_own hv8).form
          have hq8 := HQ7.out.quiet hb8
          have HEQ8 := Lib.hid (keqs w8 (.slice vo8 D.1.length vc8) (.slice vo1 D.1.length vc1) D.1 D.1 _ _ (Rd.of_own hv8) hq8.row.rd)
          rw [decide_eq_true rfl] at HEQ8
          have HQ8 := Lib.hid hq8
          clear hv8 hb8 hq8
          go_wp2_with (first | (go_at_call 8; refine (knum _ _).mono ?_; rintro e w' ⟨rfl, rfl⟩) | (go_at_call 18; refine (Within_any _ _ 7 (by omega) (by omega)).mono ?_; rintro e w' ⟨rfl, rfl⟩; rw [HK.out]))
          refine HEQ8.out.mono ?_
          rintro e w9 ⟨rfl, nd9, rfl⟩
          have hq9 := HQ8.out.quiet (below_drewN (Below.refl _ w8) nd9)
          have HQ9 := Lib.hid hq9
          clear hq9
          go_wp2_with (first | (go_at_call 8; refine (knum _ _).mono ?_; rintro e w' ⟨rfl, rfl⟩) | (go_at_call 18; refine (Within_any _ _ 7 (by omega) (by omega)).mono ?_; rintro e w' ⟨rfl, rfl⟩; rw [HK.out]))
          go_roundw
          case rel => exact ⟨k + 1, base6, RN, R6, X7, false, D.1, D.1, _, rfl, rfl, rfl, by go_num, by omega, by omega, Lib.hid (HQ9.out.mono (by omega) (by omega))⟩
          case measure => simp [intOf]; omega
        · have h6' : (K == 6) = false := beq_eq_false_iff_ne.2 h6
          clear h6
          go_wp2_with (first | (go_at_call 8; refine (knum _ _).mono ?_; rintro e w' ⟨rfl, rfl⟩) | (go_at_call 18; refine (Within_any _ _ 7 (by omega) (by omega)).mono ?_; rintro e w' ⟨rfl, rfl⟩; rw [HK.out]))
          go_roundw
          case rel => exact ⟨k + 1, base, R, RD, X2, sy2, ls2, D.1, _, rfl, rfl, rfl, by go_num, by omega, by omega, Lib.hid (HQ5.out.mono (by omega) (by omega))⟩
          case measure => simp [intOf]; omega
      · have hend : ∀ wx, Hid (Below w0.heap.size w0 wx) → Below w.heap.size w wx := fun wx h => H0.out.1.trans (h.out.mono (by have := H0.out.2.1; omega))
        have HBR := Lib.hid HQ.out.bel
        have HWK := Lib.hid (kwakes wr)
        by_cases hg : (k : Int) < (A.length : Int)
        · have hg2 : ¬ ((k : Int) < 20) := by omega
          go_wp2_with (first | (go_at_call 8; refine (knum _ _).mono ?_; rintro e w' ⟨rfl, rfl⟩) | (go_at_call 6; refine (lopen_nil _).mono ?_; rintro e w' ⟨rfl, rfl⟩))
          refine HWK.out.mono ?_
          rintro e w9 ⟨rfl, hb9⟩
          have HB9 := Lib.hid (HBR.out.trans (hb9.mono HBR.out.size))
          clear hb9
          go_wp2
          go_ret
          exact ⟨rfl, hend _ HB9⟩
        · go_wp2_with (first | (go_at_call 8; refine (knum _ _).mono ?_; rintro e w' ⟨rfl, rfl⟩) | (go_at_call 6; refine (lopen_nil _).mono ?_; rintro e w' ⟨rfl, rfl⟩))
          refine HWK.out.mono ?_
          rintro e w9 ⟨rfl, hb9⟩
          have HB9 := Lib.hid (HBR.out.trans (hb9.mono HBR.out.size))
          clear hb9
          go_wp2
          go_ret
          exact ⟨rfl, hend _ HB9⟩
end Go.Proofs.Ytcgdlmlolmfinaa
