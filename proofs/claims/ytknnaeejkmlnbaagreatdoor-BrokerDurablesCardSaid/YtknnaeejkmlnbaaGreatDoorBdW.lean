/- BrokerDurables, walked: what lasts of any broker is the page's, or refused; it lasts once more as it is. -/


import Derived.Test.YtknnaeejkmlnbaaGreatDoorGd
import Derived.Test.YtknnaeejkmlnbaaGreatDoorGf
import Derived.Test.YtknnaeejkmlnbaaGreatDoorGg
import Derived.Test.YtknnaeejkmlnbaaGreatDoorBdWak
import Derived.Test.YtknnaeejkmlnbaaGreatDoorDuMay
import Derived.Test.YtknnaeejkmlnbaaGreatDoorRcEqB2
namespace Go.Proofs.YtknnaeejkmlnbaaGreatDoor
open Go.RowKit Go.Shelf Go.Proofs
theorem num_any (n : Int) (w : World) : Calls Tryz.prog 8 #[.int .i64 n] w fun e w' => e = .returned (.int .i64 n) ∧ w = w' := by
  go_enter Tryz.func8, Tryz.ntmps8
  go_wp2
  go_ret
  exact ⟨rfl, rfl⟩
set_option maxRecDepth 20000 in
set_option maxHeartbeats 8000000 in
theorem BroDur_any (w : World) (x : RB) (aa : Option Addr) (ac : Nat) (L : List Ac4) (h : RBok w w.heap.size x) (hw : BW RR x.b) (hL : Rd w w.heap.size 27 (.slice aa L.length ac) L.length (eA4.cells L)) (hA : ∀ a ∈ L, MqR w w.heap.size a.m) (hl : L.length ≤ RR) (hE : Env w) :
    Calls Tryz.prog 3 #[.agg #[.slice x.la x.b.L.length x.lc, .slice x.sa x.R.length x.sc, .slice x.ka x.b.K.length x.kc, .slice aa L.length ac]] w fun e w' => e = .returned (.bool true) ∧ Below w.heap.size w w' := by
  have hbr : BRd w w.heap.size (.slice x.la x.b.L.length x.lc) (.slice x.sa x.R.length x.sc) (.slice x.ka x.b.K.length x.kc) x.R x.b := h
  obtain ⟨T1, hT1⟩ : ∃ T, w.heap.size = T := ⟨_, rfl⟩
  obtain ⟨wa, hwa⟩ : ∃ wa, w.alloc (.cells #[.slice x.la x.b.L.length x.lc, .slice x.sa x.R.length x.sc, .slice x.ka x.b.K.length x.kc, .slice aa L.length ac] 29) = wa := ⟨_, rfl⟩
  have hb0 : Below w.heap.size w wa := by rw [← hwa]; exact (Below.refl _ _).alloc (Nat.le_refl _) _
  have hW : Whole wa w.heap.size 29 [.slice x.la x.b.L.length x.lc, .slice x.sa x.R.length x.sc, .slice x.ka x.b.K.length x.kc, .slice aa L.length ac] := by rw [← hwa]; exact Whole.new w 29 _
  have hX := fun wx (hx : Below wa.heap.size wa wx) => ((hbr.below hb0).below (hx.mono hb0.size)).more (Nat.le_trans hb0.size hx.size)
  have HHV := Lib.hid (heavy_any wa x aa ac L (show RBok wa wa.heap.size x from hX wa (Below.refl _ _)) hw ((hL.below hb0).more hb0.size) (fun a ha => ((hA a ha).below hb0).more hb0.size) hl)
  have HX := Lib.hid hX
  have HE := Lib.hid (fun wx (hx : Below wa.heap.size wa wx) => (hE.below hb0).below hx)
  rw [hT1] at hW
  have HCL := Lib.hid (fun wx (hx : Below wa.heap.size wa wx) => show wx.cell? ⟨T1, 0, none⟩ = some (.slice x.la x.b.L.length x.lc) ∧ wx.cell? ⟨T1, 1, none⟩ = some (.slice x.sa x.R.length x.sc) ∧ wx.cell? ⟨T1, 2, none⟩ = some (.slice x.ka x.b.K.length x.kc) from ⟨(hW.belowH hx).cell 0, (hW.belowH hx).cell 1, (hW.belowH hx).cell 2⟩)
  have HRE := Lib.hid hbr.e
  have HWA := Lib.hid hwa
  have HTT := Lib.hid hT1
  have HB0 := Lib.hid hb0
  have a0 : wa.cell? ⟨T1, 0, none⟩ = some (.slice x.la x.b.L.length x.lc) := hW.cell 0
  have a1 : wa.cell? ⟨T1, 1, none⟩ = some (.slice x.sa x.R.length x.sc) := hW.cell 1
  have a2 : wa.cell? ⟨T1, 2, none⟩ = some (.slice x.ka x.b.K.length x.kc) := hW.cell 2
  have a3 : wa.cell? ⟨T1, 3, none⟩ = some (.slice aa L.length ac) := hW.cell 3
  clear h hbr hw hL hA hl hE hwa hb0 hW hX hT1
  go_enter Tryz.func3, Tryz.ntmps3
  go_upto_region 1 with fail
  rw [HWA.out, HTT.out]
  go_upto_if 10 with (go_at_call 4; refine HHV.out.mono ?_; rintro e w1 ⟨t, rfl, ht, hb1⟩)
  clear a0 a1 a2 a3
  cases t
  case true =>
    clear ht
    go_wp2
    go_ret
    exact ⟨rfl, b_tr HB0.out hb1⟩
  have HBW := Lib.hid (ht rfl)
  clear ht HHV
  have HSH := Lib.hid (bw_sh HBW.out (Nat.le_refl _))
  have HLN := Lib.hid (bw_len HBW.out (Nat.le_refl _) HRE.out)
  have HCP := Lib.hid (cpB_any w1 _ _ _ x.R x.b (HX.out _ hb1) HLN.out.1 (fun y hy => by have := HLN.out.2 y hy; omega))
  obtain ⟨a0, a1, a2⟩ := HCL.out _ hb1
  go_upto_region 4 with (go_at_call 5; refine HCP.out.mono ?_; rintro e w2 ⟨li, si, ki, rfl, ⟨Ri, hri⟩, hb2⟩; obtain ⟨lia, lic, rfl, _, _⟩ := hri.l.form; obtain ⟨sia, sic, rfl, _, _⟩ := hri.s.form; obtain ⟨kia, kic, rfl, _, _⟩ := hri.k.form)
  clear a0 a1 a2 HCP
  obtain ⟨w3, hw3⟩ : ∃ w3, w2.alloc (.cells #[.slice lia x.b.L.length lic, .slice sia Ri.length sic, .slice kia x.b.K.length kic] 26) = w3 := ⟨_, rfl⟩
  have hb3 : Below w2.heap.size w2 w3 := by rw [← hw3]; exact (Below.refl _ _).alloc (Nat.le_refl _) _
  obtain ⟨T3, hT3⟩ : ∃ T, w2.heap.size = T := ⟨_, rfl⟩
  have hW3 : Whole w3 T3 26 [.slice lia x.b.L.length lic, .slice sia Ri.length sic, .slice kia x.b.K.length kic] := by rw [← hw3, ← hT3]; exact Whole.new w2 26 _
  have hT3l : T3 < w3.heap.size := hW3.lt
  have hb13 := b_tr hb1 (b_tr hb2 hb3)
  have HIN := Lib.hid (fun wx (hx : Below w2.heap.size w2 wx) => (hri.below hx).more hx.size)
  have HC3 := Lib.hid (fun wx (hx : Below w3.heap.size w3 wx) => (hW3.belowH hx).three)
  rw [hw3, hT3]
  have hz23 := hb3.size
  have hz13 : wa.heap.size ≤ w3.heap.size := hb13.size
  have HB3 := Lib.hid hb3
  obtain ⟨a0, a1, a2⟩ := HCL.out _ hb13
  obtain ⟨c0, c1, c2, _, _, _⟩ := hW3.three
  clear hw3 hT3 hT3l hW3 hri hb1 hb2 hb3
  by_cases hk : broOk x.b
  case neg =>
    have HDN := Lib.hid (Durable_no w3 _ _ _ Ri x.b (HIN.out _ HB3.out) HSH.out (HE.out _ hb13) hk)
    go_upto_region 5 with (go_at_call 6; refine HDN.out.mono ?_; rintro e w4 ⟨rfl, hb4⟩)
    clear a0 a1 a2 c0 c1 c2
    obtain ⟨w5, hw5⟩ : ∃ w5, w4.alloc (.cells #[.slice none 0 0, .slice none 0 0, .slice none 0 0] 26) = w5 := ⟨_, rfl⟩
    have hb5 : Below w4.heap.size w4 w5 := by rw [← hw5]; exact (Below.refl _ _).alloc (Nat.le_refl _) _
    have hb15 := b_tr hb13 (b_tr hb4 hb5)
    have HMY := Lib.hid (rbMay_any w5 _ _ _ x.R x.b (HX.out _ hb15) HSH.out (HE.out _ hb15))
    rw [yes_false hk] at HMY
    obtain ⟨a0, a1, a2⟩ := HCL.out _ hb15
    rw [hw5]
    clear hw5 hb4 hb5 hk
    go_wp2_with first
      | (go_at_call 7; refine HMY.out.mono ?_; rintro e w6 ⟨rfl, hb6⟩; clear a0 a1 a2)
      | (go_at_call 8; refine (num_any _ _).mono ?_; rintro e w' ⟨rfl, rfl⟩)
      | (go_at_call 9; refine (rwakes_any _).mono ?_; rintro e w7 ⟨rfl, hb7⟩)
    go_ret
    exact ⟨rfl, b_tr HB0.out (b_tr hb15 (b_tr hb6 hb7))⟩
  case pos =>
    have HLI := Lib.hid (bw_len (R := Ri) HBW.out (Nat.le_refl _) (HIN.out _ HB3.out).e)
    have HDO := Lib.hid (Durable_ok w3 _ _ _ Ri x.b (HIN.out _ HB3.out) HSH.out (HE.out _ hb13) hk HLI.out.1 HLI.out.2)
    have HK := Lib.hid hk
    clear hk
    go_upto_region 5 with (go_at_call 6; refine HDO.out.mono ?_; rintro e w4 ⟨svd, kvd, rfl, ⟨R4, hm4, ho4⟩, hb4⟩; obtain ⟨sda, sdc, rfl, _, _⟩ := (Rd.of_own ho4.s).form; obtain ⟨kda, kdc, rfl, _, _⟩ := (Rd.of_own ho4.k).form)
    clear a0 a1 a2 c0 c1 c2
    obtain ⟨w5, hw5⟩ : ∃ w5, w4.alloc (.cells #[.slice none 0 0, .slice sda R4.length sdc, .slice kda x.b.K.length kdc] 26) = w5 := ⟨_, rfl⟩
    have hb5 : Below w4.heap.size w4 w5 := by rw [← hw5]; exact (Below.refl _ _).alloc (Nat.le_refl _) _
    obtain ⟨T4, hT4⟩ : ∃ T, w4.heap.size = T := ⟨_, rfl⟩
    have hW5 : Whole w5 T4 26 [.slice none 0 0, .slice sda R4.length sdc, .slice kda x.b.K.length kdc] := by rw [← hw5, ← hT4]; exact Whole.new w4 26 _
    have hb35 := b_tr hb4 hb5
    have hb15 := b_tr hb13 hb35
    have hb25 := b_tr HB3.out hb35
    have HO4 := Lib.hid (fun wx (hx : Below w4.heap.size w4 wx) => ho4.left (Left.of_below hx []) (by simp))
    have hbd : BRd w4 w4.heap.size (.slice none 0 0) (.slice sda R4.length sdc) (.slice kda x.b.K.length kdc) R4 (durB x.b) := BOwn.brd (b := durB x.b) ho4 rfl hm4
    have HD := Lib.hid (fun wx (hx : Below w4.heap.size w4 wx) => (hbd.below hx).more hx.size)
    have HC5 := Lib.hid (fun wx (hx : Below w5.heap.size w5 wx) => (hW5.belowH hx).three)
    have HMY := Lib.hid (rbMay_any w5 _ _ _ x.R x.b (HX.out _ hb15) HSH.out (HE.out _ hb15))
    rw [yes_true HK.out] at HMY
    have HBD := Lib.hid (dur_bw HBW.out)
    have HSD := Lib.hid (bw_sh HBD.out (Nat.le_refl _))
    have HLD := Lib.hid (bw_len HBD.out (Nat.le_refl _) hm4)
    have HZ := Lib.hid (And.intro hz23 (And.intro hz13 hb35.size))
    have H15 := Lib.hid hb15
    have H25 := Lib.hid hb25
    have H35 := Lib.hid hb35
    have H45 := Lib.hid hb5
    obtain ⟨a0, a1, a2⟩ := HCL.out _ hb15
    rw [hw5, hT4]
    clear hw5 hT4 hW5 hbd ho4 hm4 hb4 hb5 hb13 hb15 hb25 hb35 hz23 hz13
    go_upto_region 7 with (go_at_call 7; refine HMY.out.mono ?_; rintro e w6 ⟨rfl, hb6⟩; clear a0 a1 a2)
    obtain ⟨a0, a1, a2⟩ := HCL.out _ (b_tr H15.out hb6)
    obtain ⟨c0, c1, c2, _, _, _⟩ := HC3.out _ (b_tr H35.out hb6)
    obtain ⟨d0, d1, d2, _, _, _⟩ := HC5.out _ hb6
    refine wp_region_held_drew (S := fun wx => wx.cell? ⟨T1, 0, none⟩ = some (.slice x.la x.b.L.length x.lc) ∧ wx.cell? ⟨T1, 1, none⟩ = some (.slice x.sa x.R.length x.sc) ∧ wx.cell? ⟨T1, 2, none⟩ = some (.slice x.ka x.b.K.length x.kc) ∧ wx.cell? ⟨T3, 0, none⟩ = some (.slice lia x.b.L.length lic) ∧ wx.cell? ⟨T3, 1, none⟩ = some (.slice sia Ri.length sic) ∧ wx.cell? ⟨T3, 2, none⟩ = some (.slice kia x.b.K.length kic) ∧ wx.cell? ⟨T4, 0, none⟩ = some (.slice none 0 0) ∧ wx.cell? ⟨T4, 1, none⟩ = some (.slice sda R4.length sdc) ∧ wx.cell? ⟨T4, 2, none⟩ = some (.slice kda x.b.K.length kdc)) (by kernel_rfl) ⟨a0, a1, a2, c0, c1, c2, d0, d1, d2⟩ (fun hHeld => ?_)
    have hcur := hb6.drew
    clear hb6
    refine tk 0 (by assumption) ?_
    (try simp only [aPt])
    refine wpAnyH_ready (rs := [1]) (by kernel_rfl) (by simp) ?_
    refine call_h 1 ⟨?_, ?_, fun K hK => ?_⟩
    rotate_left 1
    · (simp only [List.getElem?_toArray, List.getElem?_cons_succ, List.getElem?_cons_zero]; exact rfl)
    go_simp
    (go_at_call 8; refine (num_any _ _).mono ?_; rintro e w' ⟨rfl, rfl⟩)
    go_wp2_with fail
    refine hK.out _ _ ⟨a0, a1, a2, c0, c1, c2, d0, d1, d2⟩ (fun hHeld => ?_)
    clear hK K
    (try simp only [aPt])
    refine tk 2 (by assumption) ?_
    (try simp only [aPt])
    refine tk 3 (by assumption) ?_
    (try simp only [aPt])
    refine tk 4 (by assumption) ?_
    (try simp only [aPt])
    refine tk 5 (by assumption) ?_
    (try simp only [aPt])
    refine tk 6 (by assumption) ?_
    (try simp only [aPt])
    refine wpAnyH_ready (rs := [7]) (by kernel_rfl) (by simp) ?_
    refine call_h 7 ⟨?_, ?_, fun K hK => ?_⟩
    rotate_left 1
    · (simp only [List.getElem?_toArray, List.getElem?_cons_succ, List.getElem?_cons_zero]; exact rfl)
    go_simp
    (go_at_call 11; refine (Dur_any _ _ _ _ x.R x.b (HX.out _ (b_tr H15.out hcur)) HK.out).mono ?_; rintro e w7 ⟨sv7, kv7, rfl, ⟨R7, hr7⟩, hb7⟩; obtain ⟨sa7, sc7, rfl, _, _⟩ := hr7.s.form; obtain ⟨ka7, kc7, rfl, _, _⟩ := hr7.k.form)
    go_wp2_with fail
    replace hcur := b_tr hcur hb7
    refine hK.out _ _ ⟨b_cell hb7 a0, b_cell hb7 a1, b_cell hb7 a2, b_cell hb7 c0, b_cell hb7 c1, b_cell hb7 c2, b_cell hb7 d0, b_cell hb7 d1, b_cell hb7 d2⟩ (fun hHeld => ?_)
    clear hK K
    (try simp only [aPt])
    have HEQ := Lib.hid (eqB_any w7 _ _ _ _ _ _ R4 R7 (durB x.b) (durB x.b) (HD.out _ (b_tr H45.out hcur)) hr7)
    rw [yes_true rfl] at HEQ
    refine wpAnyH_ready (rs := [8]) (by kernel_rfl) (by simp) ?_
    refine call_h 8 ⟨?_, ?_, fun K hK => ?_⟩
    rotate_left 1
    · (simp only [List.getElem?_toArray, List.getElem?_cons_succ, List.getElem?_cons_zero]; exact rfl)
    go_simp
    (go_at_call 10; refine HEQ.out.mono ?_; rintro e w8 ⟨rfl, hb8⟩)
    go_wp2_with fail
    have hb78 := b_tr hb7 hb8
    replace hcur := b_tr hcur hb8
    refine hK.out _ _ ⟨b_cell hb78 a0, b_cell hb78 a1, b_cell hb78 a2, b_cell hb78 c0, b_cell hb78 c1, b_cell hb78 c2, b_cell hb78 d0, b_cell hb78 d1, b_cell hb78 d2⟩ (fun hHeld => ?_)
    clear hK K
    (try simp only [aPt])
    refine tk 9 (by assumption) ?_
    (try simp only [aPt])
    refine tk 10 (by assumption) ?_
    (try simp only [aPt])
    refine tk 11 (by assumption) ?_
    (try simp only [aPt])
    refine tk 12 (by assumption) ?_
    (try simp only [aPt])
    refine tk 13 (by assumption) ?_
    (try simp only [aPt])
    refine tk 14 (by assumption) ?_
    (try simp only [aPt])
    have HEI := Lib.hid (eqB_any w8 _ _ _ _ _ _ Ri x.R x.b x.b (HIN.out _ (b_tr H25.out hcur)) (HX.out _ (b_tr H15.out hcur)))
    rw [yes_true rfl] at HEI
    refine wpAnyH_ready (rs := [15]) (by kernel_rfl) (by simp) ?_
    refine call_h 15 ⟨?_, ?_, fun K hK => ?_⟩
    rotate_left 1
    · (simp only [List.getElem?_toArray, List.getElem?_cons_succ, List.getElem?_cons_zero]; exact rfl)
    go_simp
    (go_at_call 10; refine HEI.out.mono ?_; rintro e w9 ⟨rfl, hb9⟩)
    go_wp2_with fail
    have hb79 := b_tr hb78 hb9
    replace hcur := b_tr hcur hb9
    refine hK.out _ _ ⟨b_cell hb79 a0, b_cell hb79 a1, b_cell hb79 a2, b_cell hb79 c0, b_cell hb79 c1, b_cell hb79 c2, b_cell hb79 d0, b_cell hb79 d1, b_cell hb79 d2⟩ (fun hHeld => ?_)
    clear hK K
    (try simp only [aPt])
    refine tk 16 (by assumption) ?_
    (try simp only [aPt])
    refine tk 17 (by assumption) ?_
    (try simp only [aPt])
    refine tk 18 (by assumption) ?_
    (try simp only [aPt])
    refine tk 19 (by assumption) ?_
    (try simp only [aPt])
    have HCH := Lib.hid (Check_ok w9 _ _ _ R4 (durB x.b) (HD.out _ (b_tr H45.out hcur)) HSD.out (HE.out _ (b_tr H15.out hcur)) (dur_ok HK.out))
    refine wpAnyH_ready (rs := [20]) (by kernel_rfl) (by simp) ?_
    refine call_h 20 ⟨?_, ?_, fun K hK => ?_⟩
    rotate_left 1
    · (simp only [List.getElem?_toArray, List.getElem?_cons_succ, List.getElem?_cons_zero]; exact rfl)
    go_simp
    (go_at_call 12; refine HCH.out.mono ?_; rintro e wa1 ⟨rfl, hba⟩)
    go_wp2_with fail
    have hb7a := b_tr hb79 hba
    replace hcur := b_tr hcur hba
    refine hK.out _ _ ⟨b_cell hb7a a0, b_cell hb7a a1, b_cell hb7a a2, b_cell hb7a c0, b_cell hb7a c1, b_cell hb7a c2, b_cell hb7a d0, b_cell hb7a d1, b_cell hb7a d2⟩ (fun hHeld => ?_)
    clear hK K
    (try simp only [aPt])
    refine wpAnyH_ready (rs := [21]) (by kernel_rfl) (by simp) ?_
    refine call_h 21 ⟨?_, ?_, fun K hK => ?_⟩
    rotate_left 1
    · (simp only [List.getElem?_toArray, List.getElem?_cons_succ, List.getElem?_cons_zero]; exact rfl)
    go_simp
    (go_at_call 8; refine (num_any _ _).mono ?_; rintro e w' ⟨rfl, rfl⟩)
    go_wp2_with fail
    refine hK.out _ _ ⟨b_cell hb7a a0, b_cell hb7a a1, b_cell hb7a a2, b_cell hb7a c0, b_cell hb7a c1, b_cell hb7a c2, b_cell hb7a d0, b_cell hb7a d1, b_cell hb7a d2⟩ (fun hHeld => ?_)
    clear hK K
    (try simp only [aPt])
    refine tk 22 (by assumption) ?_
    (try simp only [aPt])
    refine tk 23 (by assumption) ?_
    (try simp only [aPt])
    refine wpAnyH_done (by kernel_rfl) ?_ _
    clear hHeld
    have z0 := b_cell hb7a d0
    have z1 := b_cell hb7a d1
    have z2 := b_cell hb7a d2
    have HDD := Lib.hid (Durable_ok wa1 _ _ _ R4 (durB x.b) (HD.out _ (b_tr H45.out hcur)) HSD.out (HE.out _ (b_tr H15.out hcur)) (dur_ok HK.out) HLD.out.1 HLD.out.2)
    clear a0 a1 a2 c0 c1 c2 d0 d1 d2 hb7 hb8 hb9 hba hb78 hb79 hb7a hr7
    go_upto_region 10 with (go_at_call 6; refine HDD.out.mono ?_; rintro e wb ⟨svx, kvx, rfl, ⟨Rx, hmx, hox⟩, hbb⟩; obtain ⟨sxa, sxc, rfl, _, _⟩ := (Rd.of_own hox.s).form; obtain ⟨kxa, kxc, rfl, _, _⟩ := (Rd.of_own hox.k).form; clear z0 z1 z2)
    obtain ⟨wc, hwc⟩ : ∃ wc, wb.alloc (.cells #[.slice none 0 0, .slice sxa Rx.length sxc, .slice kxa (durB x.b).K.length kxc] 26) = wc := ⟨_, rfl⟩
    have hbc : Below wb.heap.size wb wc := by rw [← hwc]; exact (Below.refl _ _).alloc (Nat.le_refl _) _
    obtain ⟨T6, hT6⟩ : ∃ T, wb.heap.size = T := ⟨_, rfl⟩
    have hWc : Whole wc T6 26 [.slice none 0 0, .slice sxa Rx.length sxc, .slice kxa (durB x.b).K.length kxc] := by rw [← hwc, ← hT6]; exact Whole.new wb 26 _
    have hxb : BRd wb wb.heap.size (.slice none 0 0) (.slice sxa Rx.length sxc) (.slice kxa (durB x.b).K.length kxc) Rx (durB x.b) := by
      have := BOwn.brd (b := durB (durB x.b)) hox rfl hmx
      rw [dur_dur HK.out] at this
      exact this
    replace hcur := b_tr hcur (b_tr hbb hbc)
    obtain ⟨d0, d1, d2, _, _, _⟩ := HC5.out _ hcur
    obtain ⟨e0, e1, e2, _, _, _⟩ := hWc.three
    have HEX := Lib.hid (eqB_any wc _ _ _ _ _ _ Rx R4 (durB x.b) (durB x.b) ((hxb.below hbc).more hbc.size) (HD.out _ (b_tr H45.out hcur)))
    rw [yes_true rfl] at HEX
    rw [hwc, hT6]
    clear hwc hT6 hWc hxb hox hmx hbb hbc
    go_upto_region 11 with first
      | (go_at_call 8; refine (num_any _ _).mono ?_; rintro e w' ⟨rfl, rfl⟩)
      | (go_at_call 10; refine HEX.out.mono ?_; rintro e wd ⟨rfl, hbd⟩; clear d0 d1 d2 e0 e1 e2)
    replace hcur := b_tr hcur hbd
    obtain ⟨d0, d1, d2, _, _, _⟩ := HC5.out _ hcur
    have hz := HZ.out
    have HKB := Lib.hid (kBro_any wd w3.heap.size _ _ R4 x.b.K (HO4.out _ (b_tr H45.out hcur)) (by have := hcur.size; omega) ⟨HLD.out.1.2.1, HLD.out.1.2.2⟩ (fun y hy => by have := HLD.out.2 y hy; omega))
    go_upto_region 12 with (go_at_call 13; refine HKB.out.mono ?_; rintro e we ⟨rfl, hbe⟩; clear d0 d1 d2)
    have h1e : Below wa.heap.size wa we := (b_tr H15.out hcur).trans (hbe.mono hz.2.1)
    have h2e : Below w2.heap.size w2 we := (b_tr H25.out hcur).trans (hbe.mono hz.1)
    have h3e : Below w3.heap.size w3 we := (b_tr H35.out hcur).trans hbe
    obtain ⟨a0, a1, a2⟩ := HCL.out _ h1e
    obtain ⟨c0, c1, c2, _, _, _⟩ := HC3.out _ h3e
    have HEI2 := Lib.hid (eqB_any we _ _ _ _ _ _ Ri x.R x.b x.b (HIN.out _ h2e) (HX.out _ h1e))
    rw [yes_true rfl] at HEI2
    clear hbd hbe h2e h3e hcur
    go_wp2_with first
      | (go_at_call 10; refine HEI2.out.mono ?_; rintro e wf ⟨rfl, hbf⟩; clear a0 a1 a2 c0 c1 c2)
      | (go_at_call 9; refine (rwakes_any _).mono ?_; rintro e wg ⟨rfl, hbg⟩)
    go_ret
    exact ⟨rfl, b_tr HB0.out (b_tr h1e (b_tr hbf hbg))⟩
end Go.Proofs.YtknnaeejkmlnbaaGreatDoor
