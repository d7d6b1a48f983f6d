/- LogQuotas: the walk. -/

import Derived.Test.YtcgdlmlolmfinaaLkWak
namespace Go.Proofs.Ytcgdlmlolmfinaa
open Go.RowKit
/-- A log on the way. -/
structure QS (w wi : World) (base R : Nat) (X : List Nat) (ls l : List (List UInt8)) (G N : Int) : Prop where
  bel : Below w.heap.size w wi
  kg : KG wi base R X ls l G N
  hb : w.heap.size ≤ base
  hz : base ≤ wi.heap.size
section
variable {w wi w' : World} {base R : Nat} {X : List Nat} {ls l ls' l' : List (List UInt8)} {G N G' N' : Int}
theorem QS.step (h : QS w wi base R X ls l G N) (hP : KP wi base R X ls' l' G' N' w') : ∃ X', QS w w' base R X' ls' l' G' N' := by
  obtain ⟨X', h1, h2, h3⟩ := hP
  exact ⟨X', h.bel.trans (h2.belowB h.bel.size (fun k hk => Nat.le_trans h.hb (h.kg.lt k hk).1)), h1, h.hb, Nat.le_trans h.hz h2.size⟩
theorem QS.quiet (h : QS w wi base R X ls l G N) (hb : Below wi.heap.size wi w') : QS w w' base R X ls l G N :=
  ⟨h.bel.trans (hb.mono h.bel.size), h.kg.below hb, h.hb, Nat.le_trans h.hz hb.size⟩
theorem rd_lit (h : ∀ k ∈ X, k < wi.heap.size) (cs : List (List UInt8)) (hn : cs.length ≤ 1000) : ∀ w', Left X (wi.alloc (.cells (cs.map strL).toArray 9)) w' → Rd w' w'.heap.size 1 (.slice (some ⟨wi.heap.size, 0, none⟩) cs.length cs.length) cs.length (cs.map strL) := fun w' hl => by
  have hW := (Whole.new wi 9 (cs.map strL)).left hl (fun hm => by have := h _ hm; omega)
  have := Rd.of_whole hW (by unfold maxLen; rw [List.length_map]; omega)
  rwa [List.length_map] at this
end
theorem wtL_rep (x : List UInt8) : ∀ n, wtL (List.replicate n x) = n * (x.length + 128)
  | 0 => by simp [wtL]
  | n + 1 => by rw [List.replicate_succ, wtL, wtL_rep x n, Nat.succ_mul]; omega
theorem cat_str (x : List UInt8) : (⟨x.toArray⟩ : ByteArray) ++ ⟨#[120]⟩ = ⟨(x ++ [120]).toArray⟩ := by
  apply ByteArray.ext
  simp
set_option maxRecDepth 20000 in
set_option maxHeartbeats 8000000 in
theorem kquotas (w : World) (a1 : Option Addr) (n1 c1 : Nat) (a2 : Option Addr) (n2 c2 : Nat) (hn1 : n1 ≤ 9223372036854775807) : Calls Try.prog 3 #[.agg #[.slice a1 n1 c1, .slice a2 n2 c2]] w fun e w' => e = .returned (.bool true) ∧ Below w.heap.size w w' := by
  have hmk := run_make_row' (P := Try.prog) 33 5 (.int .u8 0) 1 Try.underlying33 info_u8 rfl .i64 .i64 16384 (by omega) (by omega)
  rw [made_u8L] at hmk
  simp only [show (((16384 : Nat) : Nat) : Int) = 16384 from rfl] at hmk
  obtain ⟨XS, hXS⟩ : ∃ XS, XS = List.replicate 16384 (0 : UInt8) := ⟨_, rfl⟩
  have hlen : XS.length = 16384 := by rw [hXS, List.length_replicate]
  rw [← hXS] at hmk
  clear hXS
  obtain ⟨Z, hZ⟩ : ∃ Z, Z = u8s XS := ⟨_, rfl⟩
  rw [← hZ] at hmk
  have HZ := Lib.hid hZ
  have HXL := Lib.hid hlen
  clear hZ hlen
  obtain ⟨w0, hw0⟩ : ∃ w0, w0 = w.alloc (.cells #[.slice a1 n1 c1, .slice a2 n2 c2] 25) := ⟨_, rfl⟩
  have hb0 : Below w.heap.size w w0 := by rw [hw0]; exact (Below.refl _ _).alloc (Nat.le_refl _) _
  have hs0 : w0.heap.size = w.heap.size + 1 := by rw [hw0]; simp
  have hW0 : Whole w0 w.heap.size 25 [.slice a1 n1 c1, .slice a2 n2 c2] := by rw [hw0]; exact Whole.new w 25 _
  have HDI := Lib.hid (kdisk w0)
  have H0 := Lib.hid (And.intro hb0 (And.intro hs0 hW0))
  have hch := hw0.symm
  clear hb0 hs0 hW0 hw0
  go_enter Try.func3, Try.ntmps3
  go_wp2_with fail
  refine HDI.out.mono ?_
  rintro e w1 ⟨RD, F, rfl, hd, hl⟩
  clear hch
  have hFlt := hd.lt
  have hz1 : w0.heap.size + 1 ≤ w1.heap.size := by
    obtain ⟨_, _, _, _, _, h⟩ := hd
    have := h.lt RD h.blk.1
    omega
  have HOP := Lib.hid (kopen noughts_len hd hz1 (same_zero (fun m hm => secN_nought m hm)))
  have HB1 := Lib.hid (And.intro hl.below (And.intro hFlt hz1))
  obtain ⟨base, hbase⟩ : ∃ base, w0.heap.size + 1 = base := ⟨_, rfl⟩
  have hb2 : w0.heap.size + 1 = base := hbase
  rw [hbase] at HOP HB1
  have HBS := Lib.hid hb2
  clear hd hl hFlt hz1 hbase hb2
  go_wp2_with fail
  refine HOP.out.mono ?_
  rintro e w2 ⟨rfl, X2, hk, hl, hX⟩
  have hq2 : QS w0 w2 base w1.heap.size X2 [] [] 0 5000000 := ⟨HB1.out.1.trans (hl.belowB HB1.out.1.size (fun k hk => by have := (HB1.out.2.1 k hk).1; have := HBS.out; omega)), hk, by have := HBS.out; omega, by have := hl.size; have := HB1.out.2.2; omega⟩
  have HQ2 := Lib.hid hq2
  obtain ⟨R, hR⟩ : ∃ R, w1.heap.size = R := ⟨_, rfl⟩
  rw [hR] at HQ2 ⊢
  clear hk hl hX hq2 hR
  obtain ⟨w3, hw3⟩ : ∃ w3, w3 = w2.alloc (.cells Z.toArray 5) := ⟨_, rfl⟩
  have hW3 : Whole w3 w2.heap.size 5 (u8s XS) := by rw [hw3, HZ.out]; exact Whole.new w2 5 _
  have hconv := conv_bs w3 w2.heap.size 0 16384 XS (fun j b hj => by
    rw [Nat.zero_add, hW3.cell, u8s, List.getElem?_map, hj]
    rfl)
  rw [HXL.out] at hconv
  have hq3 : QS w0 w3 base R X2 [] [] 0 5000000 := HQ2.out.quiet (by rw [hw3]; exact (Below.refl _ _).alloc (Nat.le_refl _) _)
  have HAF := Lib.hid (kappend_no hq3.kg hq3.hz (by omega) (XS ++ [120]) (by rw [List.length_append, HXL.out]; simp) (.inl (by rw [List.length_append, HXL.out]; simp)))
  rw [if_pos (by rw [List.length_append, HXL.out]; simp)] at HAF
  have HQ3 := Lib.hid hq3
  have hch3 := hw3.symm
  clear hW3 hq3 hw3
  have hcat := cat_str XS
  have hxsl := HXL.out
  go_wp2_with (go_at_call 8; refine (knum _ _).mono ?_; rintro e w' ⟨rfl, rfl⟩)
  refine HAF.out.mono ?_
  rintro e w4 ⟨rfl, hP⟩
  obtain ⟨X4, hq4⟩ := HQ3.out.step hP
  have HQ4 := Lib.hid hq4
  clear hP hq4 hch3 hconv hmk
  go_wp2_with (go_at_call 8; refine (knum _ _).mono ?_; rintro e w' ⟨rfl, rfl⟩)
  go_loopw [7] (fun i wr => ∃ (k : Nat) (X : List Nat), i = .int .i64 k ∧ k ≤ 3 ∧ Hid (QS w0 wr base R X [] (List.replicate k XS) 0 (5000000 + 1000 * (k : Int)))) (fun i _ => 4 - (intOf i).toNat)
  case atStart => exact ⟨0, X4, rfl, by omega, Lib.hid (by simpa using HQ4.out)⟩
  case round =>
    obtain ⟨k, X5, rfl, hk, HQ5⟩ := hrel
    have hwt : wtL (List.replicate k XS) = k * 16512 := by rw [wtL_rep, HXL.out]
    by_cases hlt : k < 3
    · have hlt' : (k : Int) < 3 := by omega
      have HAP := Lib.hid (kappend HQ5.out.kg HQ5.out.hz (by omega) XS (by omega) (by rw [hwt]; omega))
      clear hwt
      go_wp2_with (go_at_call 8; refine (knum _ _).mono ?_; rintro e w' ⟨rfl, rfl⟩)
      refine HAP.out.mono ?_
      rintro e w6 ⟨rfl, hP⟩
      obtain ⟨X6, hq6⟩ := HQ5.out.step hP
      have HQ6 : Hid (QS w0 w6 base R X6 [] (List.replicate (k + 1) XS) 0 (5000000 + 1000 * ((k + 1 : Nat) : Int))) := Lib.hid (by
        rw [List.replicate_succ', show (5000000 : Int) + 1000 * ((k + 1 : Nat) : Int) = 5000000 + 1000 * (k : Int) + 1000 by omega]
        exact hq6)
      clear hP hq6
      go_wp2_with (go_at_call 8; refine (knum _ _).mono ?_; rintro e w' ⟨rfl, rfl⟩)
      go_roundw
      case rel => exact ⟨k + 1, X6, by go_num, by omega, HQ6⟩
      case measure => simp [intOf]; omega
    · have hk3 : k = 3 := by omega
      subst hk3
      obtain ⟨l3, hl3⟩ : ∃ l3, List.replicate 3 XS = l3 := ⟨_, rfl⟩
      have hll : l3.length = 3 := by rw [← hl3, List.length_replicate]
      rw [hl3] at HQ5 hwt
      have HAP := Lib.hid (kappend_no HQ5.out.kg HQ5.out.hz (by omega) XS (by omega) (.inr (by rw [hwt]; omega)))
      rw [if_neg (by omega)] at HAP
      have HLL := Lib.hid hll
      clear hwt hl3 hll hcat
      go_wp2_with (go_at_call 8; refine (knum _ _).mono ?_; rintro e w' ⟨rfl, rfl⟩)
      refine HAP.out.mono ?_
      rintro e w6 ⟨rfl, hP⟩
      obtain ⟨X6, hq6⟩ := HQ5.out.step hP
      have HAL := Lib.hid (kall hq6.kg)
      rw [HLL.out] at HAL
      have HQ6 := Lib.hid hq6
      clear hP hq6
      go_wp2_with (go_at_call 8; refine (knum _ _).mono ?_; rintro e w' ⟨rfl, rfl⟩)
      refine HAL.out.mono ?_
      rintro e w7 ⟨v7, rfl, hv7, hb7⟩
      obtain ⟨vo7, vc7, rfl, _, _⟩ := (Rd.of_own hv7).form
      have hq7 := HQ6.out.quiet hb7
      have hXlt : ∀ k ∈ X6, k < w7.heap.size := fun k hk => (hq7.kg.lt k hk).2
      have hq8 := hq7.quiet ((Below.refl _ w7).alloc (Nat.le_refl _) (.cells #[.string ⟨#[97]⟩, .string ⟨(XS ++ [120]).toArray⟩] 9))
      have HRS := Lib.hid (kreset_no (w := w7.alloc (.cells #[.string ⟨#[97]⟩, .string ⟨(XS ++ [120]).toArray⟩] 9)) hq8.kg hq8.hz (by omega) (by omega) (.slice (some ⟨w7.heap.size, 0, none⟩) 2 2) [[97], XS ++ [120]] (rd_lit hXlt [[97], XS ++ [120]] (by simp)) (fun x hx => by
        simp only [List.mem_cons, List.not_mem_nil, or_false] at hx
        rcases hx with rfl | rfl
        · simp
        · rw [List.length_append, HXL.out]; simp) (.inl ⟨XS ++ [120], by simp, by rw [List.length_append, HXL.out]; simp⟩))
      rw [if_pos ⟨XS ++ [120], by simp, by rw [List.length_append, HXL.out]; simp⟩] at HRS
      have HQ8 := Lib.hid hq8
      have hcat := cat_str XS
      clear hv7 hb7 hq7 hq8 hXlt
      go_wp2_with (go_at_call 8; refine (knum _ _).mono ?_; rintro e w' ⟨rfl, rfl⟩)
      refine HRS.out.mono ?_
      rintro e w9 ⟨rfl, hP⟩
      obtain ⟨X9, hq9⟩ := HQ8.out.step hP
      have HAL9 := Lib.hid (kall hq9.kg)
      rw [HLL.out] at HAL9
      have HQ9 := Lib.hid hq9
      clear hP hq9 hcat
      go_wp2_with (go_at_call 8; refine (knum _ _).mono ?_; rintro e w' ⟨rfl, rfl⟩)
      refine HAL9.out.mono ?_
      rintro e w10 ⟨v10, rfl, hv10, hb10⟩
      obtain ⟨vo10, vc10, rfl, _, _⟩ := (Rd.of_own hv10).form
      have hq10 := HQ9.out.quiet hb10
      have hXlt : ∀ k ∈ X9, k < w10.heap.size := fun k hk => (hq10.kg.lt k hk).2
      have hq11 := hq10.quiet ((Below.refl _ w10).alloc (Nat.le_refl _) (.cells #[.string ⟨#[97]⟩] 9))
      have HRS2 := Lib.hid (kreset (w := w10.alloc (.cells #[.string ⟨#[97]⟩] 9)) hq11.kg hq11.hz (by omega) (by omega) (.slice (some ⟨w10.heap.size, 0, none⟩) 1 1) [[97]] (rd_lit hXlt [[97]] (by simp)) (fun x hx => by
        simp only [List.mem_cons, List.not_mem_nil, or_false] at hx
        subst hx
        simp) (by simp [wtL]))
      have HQ11 := Lib.hid hq11
      clear hv10 hb10 hq10 hq11 hXlt
      go_wp2_with (go_at_call 8; refine (knum _ _).mono ?_; rintro e w' ⟨rfl, rfl⟩)
      refine HRS2.out.mono ?_
      rintro e w12 ⟨rfl, hP⟩
      obtain ⟨X12, hq12⟩ := HQ11.out.step hP
      have HAP2 := Lib.hid (kappend hq12.kg hq12.hz (by omega) XS (by omega) (by simp [wtL]; omega))
      have HQ12 := Lib.hid hq12
      clear hP hq12
      go_wp2_with (go_at_call 8; refine (knum _ _).mono ?_; rintro e w' ⟨rfl, rfl⟩)
      refine HAP2.out.mono ?_
      rintro e w13 ⟨rfl, hP⟩
      obtain ⟨X13, hq13⟩ := HQ12.out.step hP
      have HAL3 := Lib.hid (kall hq13.kg)
      have HQ13 := Lib.hid hq13
      clear hP hq13
      go_wp2_with (go_at_call 8; refine (knum _ _).mono ?_; rintro e w' ⟨rfl, rfl⟩)
      refine HAL3.out.mono ?_
      rintro e w14 ⟨v14, rfl, hv14, hb14⟩
      obtain ⟨vo14, vc14, rfl, _, _⟩ := (Rd.of_own hv14).form
      have hrd := (Rd.of_own hv14).belowH ((Below.refl _ w14).alloc (Nat.le_refl _) (.cells #[.string ⟨#[97]⟩, .string ⟨XS.toArray⟩] 9)) (Nat.le_refl _)
      have hq15 := (HQ13.out.quiet hb14).quiet ((Below.refl _ w14).alloc (Nat.le_refl _) (.cells #[.string ⟨#[97]⟩, .string ⟨XS.toArray⟩] 9))
      have HEQ := Lib.hid (keqs (w14.alloc (.cells #[.string ⟨#[97]⟩, .string ⟨XS.toArray⟩] 9)) _ (.slice (some ⟨w14.heap.size, 0, none⟩) 2 2) _ [[97], XS] _ _ hrd (rd_lit (X := []) (wi := w14) (by simp) [[97], XS] (by simp) _ (Left.refl _ _)))
      have HQ15 := Lib.hid hq15
      clear hv14 hb14 hrd hq15
      go_wp2_with fail
      refine HEQ.out.mono ?_
      rintro e w16 ⟨rfl, nd, rfl⟩
      have hde : decide ([[97]] ++ [XS] = [[97], XS]) = true := decide_eq_true rfl
      rw [hde]
      have hq16 := HQ15.out.bel
      have hW16 : Whole ((w14.alloc (.cells #[.string ⟨#[97]⟩, .string ⟨XS.toArray⟩] 9)).drewN nd) w.heap.size 25 [.slice a1 n1 c1, .slice a2 n2 c2] := H0.out.2.2.belowH (below_drewN hq16 nd)
      have c16 : ((w14.alloc (.cells #[.string ⟨#[97]⟩, .string ⟨XS.toArray⟩] 9)).drewN nd).cell? ⟨w.heap.size, 0, none⟩ = some (.slice a1 n1 c1) := by rw [hW16.cell]; rfl
      have HWK := Lib.hid (kwakes ((w14.alloc (.cells #[.string ⟨#[97]⟩, .string ⟨XS.toArray⟩] 9)).drewN nd))
      have HB16 := Lib.hid (below_drewN hq16 nd)
      clear hde hq16 hW16
      go_wp2_with fail
      refine HWK.out.mono ?_
      rintro e w17 ⟨rfl, hb17⟩
      have HB17 := Lib.hid (H0.out.1.trans ((HB16.out.trans (hb17.mono HB16.out.size)).mono H0.out.1.size))
      clear hb17 c16
      go_wp2
      go_ret
      exact ⟨rfl, HB17.out⟩
end Go.Proofs.Ytcgdlmlolmfinaa
