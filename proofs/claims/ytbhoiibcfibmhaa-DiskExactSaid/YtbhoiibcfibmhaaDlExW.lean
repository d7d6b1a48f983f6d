/- DiskExact: the walk. -/


import Derived.Test.YtbhoiibcfibmhaaDlPairs
import Derived.Test.YtbhoiibcfibmhaaDlWakes
import Derived.Test.YtbhoiibcfibmhaaDlHeavy
import Derived.Deep.CutBlock
import Derived.Outline
namespace Go.Proofs.Ytbhoiibcfibmhaa
open Go.RowKit Go.MapKept
/-- What an act leaves. -/
def DCut (w1 : World) (B n k : Nat) (d r i1 i2 e1 e2 : Value) (wx : World) : Prop := ∃ (D R : Nat) (s : DS) (id er : Int), d = .pointer (some ⟨D, 0, none⟩) ∧ r = .pointer (some ⟨R, 0, none⟩) ∧ i1 = .int .i64 id ∧ i2 = .int .i64 id ∧ e1 = .int .i64 er ∧ e2 = .int .i64 er ∧ DJ w1 wx B D R s n (k + 1) []
def idL (Q : List Rq) : List Int := Q.map (·.id)
theorem ids_eq (Q : List Rq) : ids Q = i64s (idL Q) := by simp [ids, i64s, idL]
theorem idL_length (Q : List Rq) : (idL Q).length = Q.length := by simp [idL]
theorem DJ.pend {w0 w : World} {B D R n k : Nat} {s : DS} {X : List Nat} (h : DJ w0 w B D R s n k X) :
    Calls Try.prog 28 #[.pointer (some ⟨D, 0, none⟩)] w fun e w' => ∃ ao cap, e = .returned (.slice ao (idL s.Q).length cap) ∧ w'.ownsRow w.heap.size 3 1 (.slice ao (idL s.Q).length cap) (idL s.Q).length (i64s (idL s.Q)) ∧ Below w.heap.size w w' := by
  obtain ⟨⟨b1, b2, F, G, h1, h2, _⟩, _⟩ := h
  refine (Pending_g h1).mono ?_
  rintro e w' ⟨v, rfl, ho, hb⟩
  rw [ids_eq, ← idL_length] at ho
  obtain ⟨ao, cap, rfl, _⟩ := (Rd.of_own ho).form
  exact ⟨ao, cap, rfl, ho, hb⟩
theorem DJ.rpend {w0 w : World} {B D R n k : Nat} {s : DS} {X : List Nat} (h : DJ w0 w B D R s n k X) :
    Calls Try.prog 30 #[.pointer (some ⟨R, 0, none⟩)] w fun e w' => ∃ ao cap, e = .returned (.slice ao (idL s.Q).length cap) ∧ w'.ownsRow w.heap.size 3 1 (.slice ao (idL s.Q).length cap) (idL s.Q).length (i64s (idL s.Q)) ∧ Below w.heap.size w w' := by
  obtain ⟨⟨b1, b2, F, G, h1, h2, _⟩, _⟩ := h
  refine (rPending_g h2).mono ?_
  rintro e w' ⟨v, rfl, ho, hb⟩
  rw [ids_eq, ← idL_length] at ho
  obtain ⟨ao, cap, rfl, _⟩ := (Rd.of_own ho).form
  exact ⟨ao, cap, rfl, ho, hb⟩
theorem DJ.room {w0 w : World} {B D R n k : Nat} {s : DS} {X : List Nat} (h : DJ w0 w B D R s n k X) : (idL s.Q).length ≤ 16 := by
  obtain ⟨⟨b1, b2, F, G, ⟨M, kv, wv, Wv, Qv, h1⟩, h2, _⟩, _⟩ := h
  rw [idL_length, ← h1.qval, List.length_map]
  exact h1.room
theorem DJ.sect {w0 w : World} {B D R n k : Nat} {s : DS} {X : List Nat} (h : DJ w0 w B D R s n k X) :
    Calls Try.prog 31 #[.pointer (some ⟨D, 0, none⟩)] w fun e w' => e = .returned (.int .i64 (n / 64 : Nat)) ∧ w = w' := by
  obtain ⟨⟨b1, b2, F, G, h1, h2, _⟩, _, _, rfl, _⟩ := h
  exact Sectors_g h1
set_option maxRecDepth 20000 in
set_option maxHeartbeats 4000000 in
theorem DiskExact_any (w : World) (bv lv : Value) (K : List UInt8) (acts : List Act4) (hK : Rd w w.heap.size 1 bv K.length (u8s K)) (hA : ActsAt4 w w.heap.size lv acts) (hok : ∀ a ∈ acts, ActOk a) :
    Calls Try.prog 4 #[.agg #[bv, lv]] w fun e w' => e = .returned (.bool true) ∧ Below w.heap.size w w' := by
  have hb0 := (Below.refl w.heap.size w).alloc (Nat.le_refl _) (.cells #[bv, lv] 25)
  obtain ⟨bo, bc, rfl, hbc, hbm⟩ := hK.form
  obtain ⟨ao, cap, rfl, hd1, hd2, hacts⟩ := hA
  have HA : Hid (ActsAt4 w w.heap.size (.slice ao acts.length cap) acts) := Lib.hid ⟨ao, cap, rfl, hd1, hd2, hacts⟩
  have hbm2 : bc ≤ 9223372036854775807 := by unfold maxLen at hbm; omega
  have HK := Lib.hid hK
  have HOK := Lib.hid hok
  clear hK hacts hok hbm
  go_enter Try.func4, Try.ntmps4
  go_wp2_with fail
  refine (heavy4 _ _ _ _ _ _ _ hbc hbm2 hd1 hd2).mono ?_
  rintro e w1 ⟨hv, rfl, hlight, hb1⟩
  have hbb1 := hb0.trans (hb1.mono (by simp))
  have c0 : w1.cell? ⟨w.heap.size, 0, none⟩ = some (.slice bo K.length bc) := (hb1.cell (by simp)).trans (by simp)
  have c1 : w1.cell? ⟨w.heap.size, 1, none⟩ = some (.slice ao acts.length cap) := (hb1.cell (by simp)).trans (by simp)
  have hz1 : w.heap.size + 1 ≤ w1.heap.size := by have := hb1.size; simp at this; omega
  clear hb1 hb0
  cases hv
  case true =>
    go_wp2
    go_ret
    exact ⟨rfl, hbb1⟩
  case false =>
    obtain ⟨hl1, hl2⟩ := hlight rfl
    clear hlight
    go_wp2_with fail
    refine (CopyBytes_any w1 _ K w.heap.size (HK.out.below hbb1) (by omega) (by omega)).mono ?_
    rintro e w2 ⟨v2, rfl, ho2, hb2⟩
    obtain ⟨v2o, v2c, rfl, _, _⟩ := (Rd.of_own ho2).form
    have hz2 := hb2.size
    have HO2 := Lib.hid ho2
    have hN := New_g w2 (Rd.of_own ho2) (by omega)
    have c0' := (hb2.cell (p := ⟨w.heap.size, 0, none⟩) (by simp only; omega)).trans c0
    have c1' := (hb2.cell (p := ⟨w.heap.size, 1, none⟩) (by simp only; omega)).trans c1
    have HB2 := Lib.hid (hb2.mono (show w.heap.size + 1 ≤ _ by omega))
    have F0 := Lib.hid c0
    have F1 := Lib.hid c1
    clear ho2 hb2 c0 c1
    by_cases hm : mayD K.length
    · have hN' : Calls Try.prog 6 #[.slice v2o K.length v2c] w2 fun e w3 => ∃ D F, e = .returned (.tuple #[.pointer (some ⟨D, 0, none⟩), .int .i64 0]) ∧ DkG w3 w2.heap.size D F (newS K) ∧ Left [] w2 w3 := hN.mono (fun e w3 hP => by
        unfold NewP at hP
        rw [if_pos hm] at hP
        exact hP)
      have HN := Lib.hid hN'
      have hmb : decide (mayD K.length) = true := decide_eq_true hm
      have HMAY := Lib.hid hm
      clear hN hN' hm
      go_wp2_with fail
      refine HN.out.mono ?_
      rintro e w3 ⟨D, F, rfl, hD, hl3⟩
      have hz3 := hl3.size
      have d0 := cell_left' (p := ⟨w.heap.size, 0, none⟩) c0' hl3 (by simp)
      have d1 := cell_left' (p := ⟨w.heap.size, 1, none⟩) c1' hl3 (by simp)
      have HO3 := Lib.hid (own_leftB HO2.out hl3 (by simp))
      have HB3 := Lib.hid (HB2.out.trans (hl3.belowB (B := w.heap.size + 1) (by omega) (by simp)))
      have HD3 := Lib.hid hD
      clear hD hl3 c0' c1'
      go_wp2_with fail
      refine (Bytes_left w3 _ _ K HO3.out (by omega) (by omega)).mono ?_
      rintro e w4 ⟨rfl, hl4⟩
      have hz4 := hl4.size
      have hlo : ∀ j ∈ Value.ownL (.slice v2o K.length v2c), w1.heap.size ≤ j ∧ j < w2.heap.size := fun j hj => HO2.out.lt j (mem_ownL.1 hj)
      have e0 := cell_left' (p := ⟨w.heap.size, 0, none⟩) d0 hl4 (fun hm => by have h := (hlo w.heap.size hm).1; omega)
      have e1 := cell_left' (p := ⟨w.heap.size, 1, none⟩) d1 hl4 (fun hm => by have h := (hlo w.heap.size hm).1; omega)
      have HD4 := Lib.hid (HD3.out.left hl4 (fun j hj hm => by have := (HD3.out.lt j hm).1; have := (hlo j hj).2; omega))
      have HB4 := Lib.hid (HB3.out.trans (hl4.belowB (B := w.heap.size + 1) (by omega) (fun j hj => by have := (hlo j hj).1; omega)))
      have HRN := Lib.hid (rNew_g w4 (HK.out.below (hbb1.trans (HB4.out.mono (Nat.le_succ _)))) (by omega) HMAY.out)
      clear hl4 d0 d1 hlo
      go_wp2_with (first | (go_at_call 7; refine (num4_any _ _).mono ?_; rintro e w' ⟨rfl, rfl⟩) | (go_at_call 17; refine (May_any _ _ _ _ (by omega)).mono ?_; rintro e w' ⟨rfl, rfl⟩))
      refine HRN.out.mono ?_
      rintro e w5 ⟨R, G, rfl, hR, hl5⟩
      have HJ0 := Lib.hid (DJ.start (w0 := w1) (B := w.heap.size + 1) HD4.out (by omega) (by omega) hR hl5 HB4.out rfl)
      have E0 := Lib.hid (cell_left' (p := ⟨w.heap.size, 0, none⟩) e0 hl5 (by simp))
      have E1 := Lib.hid (cell_left' (p := ⟨w.heap.size, 1, none⟩) e1 hl5 (by simp))
      clear hR hl5 e0 e1
      go_wp2
      go_loopw [4, 6, 7] (fun d r i wr => ∃ (k D R : Nat) (s : DS), i = .int .i64 k ∧ d = .pointer (some ⟨D, 0, none⟩) ∧ r = .pointer (some ⟨R, 0, none⟩) ∧ k ≤ acts.length ∧ k ≤ 60 ∧ Hid (0 < k → ∀ a, acts[0]? = some a → a.picks.length ≤ 200) ∧ Hid (DJ w1 wr (w.heap.size + 1) D R s K.length k [])) (fun _ _ i _ => 60 - (intOf i).toNat)
      case atStart => exact ⟨0, D, R, _, rfl, rfl, rfl, by omega, by omega, Lib.hid (fun h => absurd h (by omega)), HJ0⟩
      case round =>
        obtain ⟨k, D, R, s, rfl, rfl, rfl, hk1, hk2, HSM, HJ⟩ := hrel
        have hzr : w.heap.size + 1 ≤ wr.heap.size := HJ.out.size
        have hbw : Below w.heap.size w wr := hbb1.trans (HJ.out.2.2.2.2.mono (Nat.le_succ _))
        have e0 := (HJ.out.2.2.2.2.cell (p := ⟨w.heap.size, 0, none⟩) (by simp)).trans F0.out
        have e1 := (HJ.out.2.2.2.2.cell (p := ⟨w.heap.size, 1, none⟩) (by simp)).trans F1.out
        by_cases hlt : k < acts.length
        · by_cases hlt2 : k < 60
          · obtain ⟨a, ha⟩ : ∃ a, acts[k]? = some a := ⟨_, List.getElem?_eq_getElem hlt⟩
            obtain ⟨b, o, eo, hAk⟩ := act4_get HA.out ha
            subst eo
            obtain ⟨c0o, c1o, ⟨bv, c2o, hbr⟩, ⟨pv, c3o, hpr⟩, hbl⟩ := hAk
            have c0 := (hbw.cell (p := ⟨b, o + k * 4, none⟩) hbl).trans c0o
            have c1 := (hbw.cell (p := ⟨b, o + k * 4 + 1, none⟩) hbl).trans c1o
            have c2 := (hbw.cell (p := ⟨b, o + k * 4 + 2, none⟩) hbl).trans c2o
            have c3 := (hbw.cell (p := ⟨b, o + k * 4 + 3, none⟩) hbl).trans c3o
            obtain ⟨ro, rc, rfl, hrc1, hrc2⟩ := hbr.form
            obtain ⟨po, pc, rfl, hpc1, hpc2⟩ := hpr.form
            have hrc3 : rc ≤ 9223372036854775807 := by unfold maxLen at hrc2; omega
            have hpc3 : pc ≤ 9223372036854775807 := by unfold maxLen at hpc2; omega
            have HOKa := Lib.hid (HOK.out a (List.mem_of_getElem? ha))
            have HAK := Lib.hid ha
            have HRB0 := Lib.hid hbr
            have HRP0 := Lib.hid hpr
            clear ha hbr hpr c0o c1o c2o c3o hrc2 hpc2
            go_upto_region 15 with fail
            obtain ⟨wa, hwa⟩ : ∃ wa, wa = wr.alloc (.cells #[.int .i64 a.dk, .int .i64 a.n, .slice ro a.b.length rc, .slice po a.picks.length pc] 35) := ⟨_, rfl⟩
            rw [← hwa]
            have hba : Below wr.heap.size wr wa := hwa ▸ (Below.refl wr.heap.size wr).alloc (Nat.le_refl _) _
            have hza : wr.heap.size + 1 ≤ wa.heap.size := by rw [hwa]; simp
            have f0 : wa.cell? ⟨wr.heap.size, 0, none⟩ = some (.int .i64 a.dk) := by rw [hwa]; simp
            have f1 : wa.cell? ⟨wr.heap.size, 1, none⟩ = some (.int .i64 a.n) := by rw [hwa]; simp
            have f2 : wa.cell? ⟨wr.heap.size, 2, none⟩ = some (.slice ro a.b.length rc) := by rw [hwa]; simp
            have f3 : wa.cell? ⟨wr.heap.size, 3, none⟩ = some (.slice po a.picks.length pc) := by rw [hwa]; simp
            have HJ : Hid (DJ w1 wa (w.heap.size + 1) D R s K.length k [wr.heap.size]) := Lib.hid (HJ.out.grow (Y := [wr.heap.size]) (X := []) hba (by simp; omega))
            have HRB := Lib.hid (HRB0.out.below (hbw.trans (hba.mono (by omega))))
            have HRP := Lib.hid (HRP0.out.below (hbw.trans (hba.mono (by omega))))
            have hbwa := hbw.trans (hba.mono (by omega))
            clear hwa c0 c1 c2 c3 hba
            by_cases hbig : 200 < a.b.length
            · go_wp2
              go_ret
              exact ⟨rfl, hbwa⟩
            · by_cases hbig2 : 200 < a.picks.length
              · go_wp2
                go_ret
                exact ⟨rfl, hbwa⟩
              · obtain ⟨y, hy⟩ : ∃ y, within a.dk 13 = y := ⟨_, rfl⟩
                have hy0 := within_nn a.dk 13 (by omega)
                have hy1 := within_lt a.dk 13 (by omega)
                rw [hy] at hy0 hy1
                have HY := Lib.hid hy
                have HOK := HOKa
                have hb2 : a.b.length ≤ 200 := by omega
                have hp2 : a.picks.length ≤ 200 := by omega
                clear hy
                go_upto_block 2 with (go_at_call 8; refine (Within_any _ _ 13 (by omega) (by omega)).mono ?_; rintro e w' ⟨rfl, rfl⟩; rw [HY.out])
                go_cut [4, 6, 9, 10, 11, 12] (fun d r i1 i2 e1 e2 wx => DCut w1 (w.heap.size + 1) K.length k d r i1 i2 e1 e2 wx)
                case first =>
                  by_cases hy4 : y = 4
                  · subst hy4
                    as_aux_lemma =>
                      obtain ⟨id, er, M, hc1, hc2⟩ := HJ.out.read (by omega) a.n
                      have HC1 := Lib.hid hc1
                      have HC2 := Lib.hid hc2
                      clear hc1 hc2
                      go_wp2_with fail
                      refine HC1.out.mono ?_
                      rintro e w2 ⟨rfl, hM, hf⟩
                      have g1 := hf.cell (p := ⟨wr.heap.size, 1, none⟩) (.inr (by simp)) f1
                      have HM := Lib.hid hM
                      clear hM hf f1
                      go_wp2_with fail
                      refine (HC2.out w2 HM.out).mono ?_
                      rintro e w3 ⟨rfl, ⟨s', hJ3⟩, _⟩
                      have HJ3 := Lib.hid hJ3
                      clear hJ3
                      go_wp2
                      go_meet
                      exact ⟨_, _, _, _, _, rfl, rfl, rfl, rfl, rfl, rfl, (DJ.fewer (Y := [wr.heap.size]) (X := []) HJ3.out)⟩
                  · by_cases hy5 : y = 5
                    · subst hy5
                      as_aux_lemma =>
                        obtain ⟨id, er, M, hc1, hc2⟩ := HJ.out.flush (by omega)
                        have HC1 := Lib.hid hc1
                        have HC2 := Lib.hid hc2
                        clear hc1 hc2
                        go_wp2_with fail
                        refine HC1.out.mono ?_
                        rintro e w2 ⟨rfl, hM, hf⟩
                        have g1 := hf.cell (p := ⟨wr.heap.size, 1, none⟩) (.inr (by simp)) f1
                        have HM := Lib.hid hM
                        clear hM hf f1
                        go_wp2_with fail
                        refine (HC2.out w2 HM.out).mono ?_
                        rintro e w3 ⟨rfl, ⟨s', hJ3⟩, _⟩
                        have HJ3 := Lib.hid hJ3
                        clear hJ3
                        go_wp2
                        go_meet
                        exact ⟨_, _, _, _, _, rfl, rfl, rfl, rfl, rfl, rfl, (DJ.fewer (Y := [wr.heap.size]) (X := []) HJ3.out)⟩
                    · by_cases hy6 : y = 6
                      · subst hy6
                        as_aux_lemma =>
                          obtain ⟨id, er, L, M, hL, hc1, hc2⟩ := HJ.out.complete a.n
                          have HC1 := Lib.hid hc1
                          have HC2 := Lib.hid hc2
                          clear hc1 hc2
                          go_wp2_with fail
                          refine HC1.out.mono ?_
                          rintro e w2 ⟨v, rfl, hM, hf, vo, vc, rfl⟩
                          have g1 := hf.cell (p := ⟨wr.heap.size, 1, none⟩) (.inr (by simp)) f1
                          have HM := Lib.hid hM
                          clear hM hf f1
                          go_wp2_with fail
                          refine (HC2.out _ w2 HM.out).mono ?_
                          rintro e w3 ⟨x, rfl, ⟨yo, yc, rfl⟩, _, s', r, hJ3, ho3, hr3, hy3⟩
                          have HE := Lib.hid (EqBytes_any w3 (.slice vo L.length vc) (.slice yo L.length yc) L L _ _ (Rd.of_own ho3) hy3)
                          have HJ3 := Lib.hid hJ3
                          have HO3 := Lib.hid ho3
                          clear hJ3 ho3 hy3
                          go_wp2_with fail
                          refine HE.out.mono ?_
                          rintro e w4 ⟨rfl, hb4⟩
                          simp only [decide_true]
                          have HJ4 := Lib.hid (HJ3.out.left0 hb4)
                          have HO4 := Lib.hid (own_below HO3.out hb4)
                          have hz4 := hb4.size
                          clear hb4
                          go_wp2_with fail
                          refine (Bytes_left w4 r _ L HO4.out (by omega) (by omega)).mono ?_
                          rintro e w5 ⟨rfl, hl5⟩
                          have HJ5 := Lib.hid (DJ.fewer (Y := [wr.heap.size]) (X := []) ((HJ4.out.own hl5 (fun j hj => List.mem_append_left _ hj)).fewer))
                          clear hl5
                          go_wp2
                          go_meet
                          exact ⟨_, _, _, _, _, rfl, rfl, rfl, rfl, rfl, rfl, HJ5.out⟩
                      · by_cases hy7 : y = 7
                        · subst hy7
                          as_aux_lemma =>
                            obtain ⟨id, er, L, M, hL, hc1, hc2⟩ := HJ.out.complete a.n
                            have HC1 := Lib.hid hc1
                            have HC2 := Lib.hid hc2
                            clear hc1 hc2
                            go_wp2_with fail
                            refine HC1.out.mono ?_
                            rintro e w2 ⟨v, rfl, hM, hf, vo, vc, rfl⟩
                            have g1 := hf.cell (p := ⟨wr.heap.size, 1, none⟩) (.inr (by simp)) f1
                            have HM := Lib.hid hM
                            clear hM hf f1
                            go_wp2_with fail
                            refine (HC2.out _ w2 HM.out).mono ?_
                            rintro e w3 ⟨x, rfl, ⟨yo, yc, rfl⟩, _, s', r, hJ3, ho3, hr3, hy3⟩
                            have HE := Lib.hid (EqBytes_any w3 (.slice vo L.length vc) (.slice yo L.length yc) L L _ _ (Rd.of_own ho3) hy3)
                            have HJ3 := Lib.hid hJ3
                            have HO3 := Lib.hid ho3
                            clear hJ3 ho3 hy3
                            go_wp2_with fail
                            refine HE.out.mono ?_
                            rintro e w4 ⟨rfl, hb4⟩
                            simp only [decide_true]
                            have HJ4 := Lib.hid (HJ3.out.left0 hb4)
                            have HO4 := Lib.hid (own_below HO3.out hb4)
                            have hz4 := hb4.size
                            clear hb4
                            go_wp2_with fail
                            refine (Bytes_left w4 r _ L HO4.out (by omega) (by omega)).mono ?_
                            rintro e w5 ⟨rfl, hl5⟩
                            have HJ5 := Lib.hid (DJ.fewer (Y := [wr.heap.size]) (X := []) ((HJ4.out.own hl5 (fun j hj => List.mem_append_left _ hj)).fewer))
                            clear hl5
                            go_wp2
                            go_meet
                            exact ⟨_, _, _, _, _, rfl, rfl, rfl, rfl, rfl, rfl, HJ5.out⟩
                        · by_cases hy8 : y = 8
                          · subst hy8
                            as_aux_lemma =>
                              obtain ⟨id, er, L, M, hL, hc1, hc2⟩ := HJ.out.complete a.n
                              have HC1 := Lib.hid hc1
                              have HC2 := Lib.hid hc2
                              clear hc1 hc2
                              go_wp2_with fail
                              refine HC1.out.mono ?_
                              rintro e w2 ⟨v, rfl, hM, hf, vo, vc, rfl⟩
                              have g1 := hf.cell (p := ⟨wr.heap.size, 1, none⟩) (.inr (by simp)) f1
                              have HM := Lib.hid hM
                              clear hM hf f1
                              go_wp2_with fail
                              refine (HC2.out _ w2 HM.out).mono ?_
                              rintro e w3 ⟨x, rfl, ⟨yo, yc, rfl⟩, _, s', r, hJ3, ho3, hr3, hy3⟩
                              have HE := Lib.hid (EqBytes_any w3 (.slice vo L.length vc) (.slice yo L.length yc) L L _ _ (Rd.of_own ho3) hy3)
                              have HJ3 := Lib.hid hJ3
                              have HO3 := Lib.hid ho3
                              clear hJ3 ho3 hy3
                              go_wp2_with fail
                              refine HE.out.mono ?_
                              rintro e w4 ⟨rfl, hb4⟩
                              simp only [decide_true]
                              have HJ4 := Lib.hid (HJ3.out.left0 hb4)
                              have HO4 := Lib.hid (own_below HO3.out hb4)
                              have hz4 := hb4.size
                              clear hb4
                              go_wp2_with fail
                              refine (Bytes_left w4 r _ L HO4.out (by omega) (by omega)).mono ?_
                              rintro e w5 ⟨rfl, hl5⟩
                              have HJ5 := Lib.hid (DJ.fewer (Y := [wr.heap.size]) (X := []) ((HJ4.out.own hl5 (fun j hj => List.mem_append_left _ hj)).fewer))
                              clear hl5
                              go_wp2
                              go_meet
                              exact ⟨_, _, _, _, _, rfl, rfl, rfl, rfl, rfl, rfl, HJ5.out⟩
                          · by_cases hy9 : y = 9
                            · subst hy9
                              as_aux_lemma =>
                                obtain ⟨id, er, L, M, hL, hc1, hc2⟩ := HJ.out.complete a.n
                                have HC1 := Lib.hid hc1
                                have HC2 := Lib.hid hc2
                                clear hc1 hc2
                                go_wp2_with fail
                                refine HC1.out.mono ?_
                                rintro e w2 ⟨v, rfl, hM, hf, vo, vc, rfl⟩
                                have g1 := hf.cell (p := ⟨wr.heap.size, 1, none⟩) (.inr (by simp)) f1
                                have HM := Lib.hid hM
                                clear hM hf f1
                                go_wp2_with fail
                                refine (HC2.out _ w2 HM.out).mono ?_
                                rintro e w3 ⟨x, rfl, ⟨yo, yc, rfl⟩, _, s', r, hJ3, ho3, hr3, hy3⟩
                                have HE := Lib.hid (EqBytes_any w3 (.slice vo L.length vc) (.slice yo L.length yc) L L _ _ (Rd.of_own ho3) hy3)
                                have HJ3 := Lib.hid hJ3
                                have HO3 := Lib.hid ho3
                                clear hJ3 ho3 hy3
                                go_wp2_with fail
                                refine HE.out.mono ?_
                                rintro e w4 ⟨rfl, hb4⟩
                                simp only [decide_true]
                                have HJ4 := Lib.hid (HJ3.out.left0 hb4)
                                have HO4 := Lib.hid (own_below HO3.out hb4)
                                have hz4 := hb4.size
                                clear hb4
                                go_wp2_with fail
                                refine (Bytes_left w4 r _ L HO4.out (by omega) (by omega)).mono ?_
                                rintro e w5 ⟨rfl, hl5⟩
                                have HJ5 := Lib.hid (DJ.fewer (Y := [wr.heap.size]) (X := []) ((HJ4.out.own hl5 (fun j hj => List.mem_append_left _ hj)).fewer))
                                clear hl5
                                go_wp2
                                go_meet
                                exact ⟨_, _, _, _, _, rfl, rfl, rfl, rfl, rfl, rfl, HJ5.out⟩
                            · by_cases hy10 : y = 10
                              · subst hy10
                                as_aux_lemma =>
                                  obtain ⟨id, er, L, M, hL, hc1, hc2⟩ := HJ.out.complete a.n
                                  have HC1 := Lib.hid hc1
                                  have HC2 := Lib.hid hc2
                                  clear hc1 hc2
                                  go_wp2_with fail
                                  refine HC1.out.mono ?_
                                  rintro e w2 ⟨v, rfl, hM, hf, vo, vc, rfl⟩
                                  have g1 := hf.cell (p := ⟨wr.heap.size, 1, none⟩) (.inr (by simp)) f1
                                  have HM := Lib.hid hM
                                  clear hM hf f1
                                  go_wp2_with fail
                                  refine (HC2.out _ w2 HM.out).mono ?_
                                  rintro e w3 ⟨x, rfl, ⟨yo, yc, rfl⟩, _, s', r, hJ3, ho3, hr3, hy3⟩
                                  have HE := Lib.hid (EqBytes_any w3 (.slice vo L.length vc) (.slice yo L.length yc) L L _ _ (Rd.of_own ho3) hy3)
                                  have HJ3 := Lib.hid hJ3
                                  have HO3 := Lib.hid ho3
                                  clear hJ3 ho3 hy3
                                  go_wp2_with fail
                                  refine HE.out.mono ?_
                                  rintro e w4 ⟨rfl, hb4⟩
                                  simp only [decide_true]
                                  have HJ4 := Lib.hid (HJ3.out.left0 hb4)
                                  have HO4 := Lib.hid (own_below HO3.out hb4)
                                  have hz4 := hb4.size
                                  clear hb4
                                  go_wp2_with fail
                                  refine (Bytes_left w4 r _ L HO4.out (by omega) (by omega)).mono ?_
                                  rintro e w5 ⟨rfl, hl5⟩
                                  have HJ5 := Lib.hid (DJ.fewer (Y := [wr.heap.size]) (X := []) ((HJ4.out.own hl5 (fun j hj => List.mem_append_left _ hj)).fewer))
                                  clear hl5
                                  go_wp2
                                  go_meet
                                  exact ⟨_, _, _, _, _, rfl, rfl, rfl, rfl, rfl, rfl, HJ5.out⟩
                              · by_cases hy11 : y = 11
                                · subst hy11
                                  as_aux_lemma =>
                                    obtain ⟨M, hc1, hc2⟩ := HJ.out.off a.n (by have := HOK.out.1.2; omega)
                                    have HC1 := Lib.hid hc1
                                    have HC2 := Lib.hid hc2
                                    clear hc1 hc2
                                    go_wp2_with fail
                                    refine HC1.out.mono ?_
                                    rintro e w2 ⟨rfl, hM, hf⟩
                                    have g1 := hf.cell (p := ⟨wr.heap.size, 1, none⟩) (.inr (by simp)) f1
                                    have HM := Lib.hid hM
                                    clear hM hf f1
                                    go_wp2_with fail
                                    refine (HC2.out w2 HM.out).mono ?_
                                    rintro e w3 ⟨rfl, ⟨s', hJ3⟩, _⟩
                                    have HJ3 := Lib.hid hJ3
                                    clear hJ3
                                    go_wp2
                                    go_meet
                                    exact ⟨_, _, _, _, _, rfl, rfl, rfl, rfl, rfl, rfl, (DJ.fewer (Y := [wr.heap.size]) (X := []) HJ3.out)⟩
                                · by_cases hy12 : y = 12
                                  · subst hy12
                                    as_aux_lemma =>
                                      go_wp2_with fail
                                      refine (CopyNumbers_any wa _ a.picks w.heap.size HRP.out (by omega) (by omega)).mono ?_
                                      rintro e wb ⟨v, rfl, ho, hb⟩
                                      obtain ⟨vo, vc, rfl, _, _⟩ := (Rd.of_own ho).form
                                      have f3b := (hb.cell (p := ⟨wr.heap.size, 3, none⟩) (by simp only; omega)).trans f3
                                      have HJb := Lib.hid (HJ.out.left0 hb)
                                      have hzb := hb.size
                                      obtain ⟨L, M, hL, hmay, hc1, hc2⟩ := HJb.out.crash (Rd.of_own ho) (Nat.le_refl _) (HRP.out.more (Nat.le_succ _) |>.below (hb.mono (by omega))) (by omega) HOK.out.2
                                      have HC1 := Lib.hid hc1
                                      have HC2 := Lib.hid hc2
                                      have HMAY := Lib.hid hmay
                                      have HL := Lib.hid hL
                                      clear hc1 hc2 ho hb f3 hmay hL
                                      go_wp2_with fail
                                      refine HC1.out.mono ?_
                                      rintro e w2 ⟨x, rfl, hM, hf, xo, xc, rfl⟩
                                      have g3 := hf.cell (p := ⟨wr.heap.size, 3, none⟩) (.inr (by simp)) f3b
                                      have HM := Lib.hid hM
                                      clear hM hf f3b
                                      go_wp2_with fail
                                      refine (HC2.out _ w2 HM.out).mono ?_
                                      rintro e w3 ⟨x, rfl, ⟨yo, yc, rfl⟩, s', r, r2, hJ3, ho3, hp3, hr, hr2, hlt⟩
                                      have HE := Lib.hid (EqBytes_any w3 (.slice xo L.length xc) (.slice yo L.length yc) L L _ _ (Rd.of_own ho3) (Rd.of_own hp3))
                                      have HJ3 := Lib.hid hJ3
                                      have HO3 := Lib.hid ho3
                                      have HP3 := Lib.hid hp3
                                      have HLT := Lib.hid hlt
                                      clear hJ3 ho3 hp3 hlt
                                      go_wp2_with fail
                                      refine HE.out.mono ?_
                                      rintro e w4 ⟨rfl, hb4⟩
                                      simp only [decide_true]
                                      have hz4 := hb4.size
                                      obtain ⟨M2, hd1, hd2⟩ := (HJ3.out.left0 hb4).anew (own_below HO3.out hb4) (own_below HP3.out hb4) (by omega) (by omega) (fun j hj => ⟨List.mem_append_right _ (List.mem_append_left _ hj), HLT.out j hj⟩) (fun j hj => List.mem_append_left _ hj) HL.out HMAY.out
                                      have HD1 := Lib.hid hd1
                                      have HD2 := Lib.hid hd2
                                      clear hd1 hd2 hb4
                                      go_wp2_with fail
                                      refine HD1.out.mono ?_
                                      rintro e w5 ⟨D2, rfl, hM2, hr5, ho5⟩
                                      have HO5 := Lib.hid ho5
                                      have HM2 := Lib.hid hM2
                                      have hlk : L.length ≤ 1048576 := by have := HL.out; omega
                                      clear ho5 hM2
                                      go_wp2_with (go_at_call 7; refine (num4_any _ _).mono ?_; rintro e w' ⟨rfl, rfl⟩)
                                      refine (Bytes_left w5 r _ L HO5.out hr5 hlk).mono ?_
                                      rintro e w6 ⟨rfl, hl6⟩
                                      have HC6 := Lib.hid (HD2.out D2 w5 HM2.out w6 hl6)
                                      clear hl6
                                      go_wp2_with fail
                                      refine HC6.out.mono ?_
                                      rintro e w7 ⟨R2, rfl, s2, hJ7⟩
                                      have HJ7 := Lib.hid (DJ.fewer (Y := [wr.heap.size]) (X := []) hJ7.fewer.fewer)
                                      clear hJ7
                                      go_wp2
                                      go_meet
                                      exact ⟨_, _, _, _, _, rfl, rfl, rfl, rfl, rfl, rfl, HJ7.out.1, HJ7.out.2.1, by have := HJ7.out.2.2.1; omega, HJ7.out.2.2.2.1, HJ7.out.2.2.2.2⟩
                                  · have g4 : (y == 4) = false := beq_eq_false_iff_ne.2 hy4
                                    have g5 : (y == 5) = false := beq_eq_false_iff_ne.2 hy5
                                    have g6 : (y == 6) = false := beq_eq_false_iff_ne.2 hy6
                                    have g7 : (y == 7) = false := beq_eq_false_iff_ne.2 hy7
                                    have g8 : (y == 8) = false := beq_eq_false_iff_ne.2 hy8
                                    have g9 : (y == 9) = false := beq_eq_false_iff_ne.2 hy9
                                    have g10 : (y == 10) = false := beq_eq_false_iff_ne.2 hy10
                                    have g11 : (y == 11) = false := beq_eq_false_iff_ne.2 hy11
                                    have g12 : (y == 12) = false := beq_eq_false_iff_ne.2 hy12
                                    as_aux_lemma =>
                                      go_wp2_with fail
                                      refine (CopyBytes_any wa _ a.b w.heap.size HRB.out (by omega) (by omega)).mono ?_
                                      rintro e wb ⟨v, rfl, ho, hb⟩
                                      obtain ⟨vo, vc, rfl, _, _⟩ := (Rd.of_own ho).form
                                      have f1b := (hb.cell (p := ⟨wr.heap.size, 1, none⟩) (by simp only; omega)).trans f1
                                      have f2b := (hb.cell (p := ⟨wr.heap.size, 2, none⟩) (by simp only; omega)).trans f2
                                      have HJb := Lib.hid (HJ.out.grow (Y := Value.ownL (.slice vo a.b.length vc)) hb (fun j hj => by have := ho.lt j (mem_ownL.1 hj); omega))
                                      have HO := Lib.hid ho
                                      have hzb := hb.size
                                      obtain ⟨id, er, M, hc1, hc2⟩ := HJb.out.write (by omega) a.n HO.out (fun j hj => List.mem_append_left _ (mem_ownL.2 hj)) (HRB.out.more (Nat.le_succ _) |>.below (hb.mono (by omega))) (by omega)
                                      have HC1 := Lib.hid hc1
                                      have HC2 := Lib.hid hc2
                                      clear hc1 hc2 ho hb f1 f2
                                      go_wp2_with fail
                                      refine HC1.out.mono ?_
                                      rintro e w2 ⟨rfl, hM, hf⟩
                                      have g1 := hf.cell (p := ⟨wr.heap.size, 1, none⟩) (.inr (by simp)) f1b
                                      have g2 := hf.cell (p := ⟨wr.heap.size, 2, none⟩) (.inr (by simp)) f2b
                                      have HO2 := Lib.hid (hf.own HO.out (fun j hj => List.mem_append_left _ (mem_ownL.2 hj)))
                                      have hz2 := hf.size
                                      have HM := Lib.hid hM
                                      clear hM hf f1b f2b
                                      go_wp2_with fail
                                      refine (Bytes_left w2 _ _ a.b HO2.out (by omega) (by omega)).mono ?_
                                      rintro e w3 ⟨rfl, hl3⟩
                                      have hnx : wr.heap.size ∉ Value.ownL (.slice vo a.b.length vc) := fun hm => by have := (HO2.out.lt _ (mem_ownL.1 hm)).1; omega
                                      have i1 := cell_left' (p := ⟨wr.heap.size, 1, none⟩) g1 hl3 hnx
                                      have i2 := cell_left' (p := ⟨wr.heap.size, 2, none⟩) g2 hl3 hnx
                                      have HC3 := Lib.hid (HC2.out w2 HM.out w3 _ hl3 (fun j hj => List.mem_append_left _ hj))
                                      clear hl3 g1 g2 hnx
                                      go_wp2_with fail
                                      refine HC3.out.mono ?_
                                      rintro e w4 ⟨rfl, ⟨s', hJ4⟩, _⟩
                                      have HJ4 := Lib.hid (DJ.fewer (Y := [wr.heap.size]) (X := []) hJ4.fewer)
                                      clear hJ4
                                      go_wp2
                                      go_meet
                                      exact ⟨_, _, _, _, _, rfl, rfl, rfl, rfl, rfl, rfl, HJ4.out⟩
                case rest =>
                  obtain ⟨D', R', s', id, er, rfl, rfl, rfl, rfl, rfl, rfl, hJc⟩ := hcut
                  have HJC := Lib.hid hJc
                  clear hJc
                  have hzc : w.heap.size + 1 ≤ wc.heap.size := HJC.out.size
                  as_aux_lemma =>
                    go_wp2_with fail
                    refine HJC.out.pend.mono ?_
                    rintro e wd ⟨qo, qc, rfl, hqo, hbd⟩
                    have HJD := Lib.hid (HJC.out.grow (Y := Value.ownL (.slice qo (idL s'.Q).length qc)) (X := []) hbd (fun j hj => by have := hqo.lt j (mem_ownL.1 hj); omega))
                    have HQ := Lib.hid (own_leftB hqo (Left.refl [] wd).drew (by simp))
                    have hroom := HJC.out.room
                    have hzd := hbd.size
                    have g0 := (HJD.out.2.2.2.2.cell (p := ⟨w.heap.size, 0, none⟩) (by simp)).trans F0.out
                    have HRPE := Lib.hid ((HJD.out.left0 (Left.refl [] wd).drew.below).rpend)
                    have HSE := Lib.hid (fun (wx : World) (hx : Below wd.drew.heap.size wd.drew wx) => (((HJD.out.left0 (Left.refl [] wd).drew.below).left0 hx).sect))
                    clear hqo hbd
                    obtain ⟨nq, hnq⟩ : ∃ nq, (idL s'.Q).length = nq := ⟨_, rfl⟩
                    have HNQ := Lib.hid hnq
                    rw [hnq] at hroom
                    simp only [hnq]
                    clear hnq
                    go_wp2
                    refine wp_region_held_drew (S := fun wx => wx.cell? ⟨w.heap.size, 0, none⟩ = some (.slice bo K.length bc)) (by kernel_rfl) g0 (fun hHeld => ?_)
                    refine take_h 0 ⟨?_, ?_, ?_, by kernel_rfl, by kernel_rfl, by kernel_rfl, ?_, ?_, by assumption, ?_⟩
                    rotate_left 2
                    · (simp only [List.getElem?_toArray, List.getElem?_cons_zero]; exact rfl)
                    · exact fun _ _ _ h => h
                    · first
                        | (refine Or.inr ⟨by rfl, ?_⟩; exact rfl)
                        | (refine Or.inl ⟨by rfl, ?_⟩
                           intro w hSw
                           (try dsimp only at hSw)
                           (try go_split_ands)
                           go_simp
                           (first | done | with_reducible rfl))
                    try simp only [Act.put, List.setIfInBounds_toArray, List.set_cons_zero, List.set_cons_succ]
                    refine take_h 2 ⟨?_, ?_, ?_, by kernel_rfl, by kernel_rfl, by kernel_rfl, ?_, ?_, by assumption, ?_⟩
                    rotate_left 2
                    · (simp only [List.getElem?_toArray, List.getElem?_cons_succ, List.getElem?_cons_zero]; exact rfl)
                    · exact fun _ _ _ h => h
                    · first
                        | (refine Or.inr ⟨by rfl, ?_⟩; exact rfl)
                        | (refine Or.inl ⟨by rfl, ?_⟩
                           intro w hSw
                           (try dsimp only at hSw)
                           (try go_split_ands)
                           go_simp
                           (first | done | with_reducible rfl))
                    try simp only [Act.put, List.setIfInBounds_toArray, List.set_cons_zero, List.set_cons_succ]
                    refine wpAnyH_ready (rs := [1]) (by kernel_rfl) (by simp) ?_
                    refine call_h 1 ⟨?_, ?_, fun K hK => ?_⟩
                    rotate_left 1
                    · (simp only [List.getElem?_toArray, List.getElem?_cons_succ, List.getElem?_cons_zero]; exact rfl)
                    go_simp
                    (go_at_call 7; refine (num4_any _ _).mono ?_; rintro e w' ⟨rfl, rfl⟩)
                    go_wp2_with fail
                    refine hK.out _ _ g0 (fun hHeld => ?_)
                    clear hK K
                    (try simp only [Act.put, List.setIfInBounds_toArray, List.set_cons_zero, List.set_cons_succ])
                    refine take_h 3 ⟨?_, ?_, ?_, by kernel_rfl, by kernel_rfl, by kernel_rfl, ?_, ?_, by assumption, ?_⟩
                    rotate_left 2
                    · (simp only [List.getElem?_toArray, List.getElem?_cons_succ, List.getElem?_cons_zero]; exact rfl)
                    · exact fun _ _ _ h => h
                    · first
                        | (refine Or.inr ⟨by rfl, ?_⟩; exact rfl)
                        | (refine Or.inl ⟨by rfl, ?_⟩
                           intro w hSw
                           (try dsimp only at hSw)
                           (try go_split_ands)
                           go_simp
                           (first | done | with_reducible rfl))
                    try simp only [Act.put, List.setIfInBounds_toArray, List.set_cons_zero, List.set_cons_succ]
                    refine take_h 4 ⟨?_, ?_, ?_, by kernel_rfl, by kernel_rfl, by kernel_rfl, ?_, ?_, by assumption, ?_⟩
                    rotate_left 2
                    · (simp only [List.getElem?_toArray, List.getElem?_cons_succ, List.getElem?_cons_zero]; exact rfl)
                    · exact fun _ _ _ h => h
                    · first
                        | (refine Or.inr ⟨by rfl, ?_⟩; exact rfl)
                        | (refine Or.inl ⟨by rfl, ?_⟩
                           intro w hSw
                           (try dsimp only at hSw)
                           (try go_split_ands)
                           go_simp
                           (first | done | with_reducible rfl))
                    try simp only [Act.put, List.setIfInBounds_toArray, List.set_cons_zero, List.set_cons_succ]
                    refine take_h 5 ⟨?_, ?_, ?_, by kernel_rfl, by kernel_rfl, by kernel_rfl, ?_, ?_, by assumption, ?_⟩
                    rotate_left 2
                    · (simp only [List.getElem?_toArray, List.getElem?_cons_succ, List.getElem?_cons_zero]; exact rfl)
                    · exact fun _ _ _ h => h
                    · first
                        | (refine Or.inr ⟨by rfl, ?_⟩; exact rfl)
                        | (refine Or.inl ⟨by rfl, ?_⟩
                           intro w hSw
                           (try dsimp only at hSw)
                           (try go_split_ands)
                           go_simp
                           (first | done | with_reducible rfl))
                    try simp only [Act.put, List.setIfInBounds_toArray, List.set_cons_zero, List.set_cons_succ]
                    refine take_h 6 ⟨?_, ?_, ?_, by kernel_rfl, by kernel_rfl, by kernel_rfl, ?_, ?_, by assumption, ?_⟩
                    rotate_left 2
                    · (simp only [List.getElem?_toArray, List.getElem?_cons_succ, List.getElem?_cons_zero]; exact rfl)
                    · exact fun _ _ _ h => h
                    · first
                        | (refine Or.inr ⟨by rfl, ?_⟩; exact rfl)
                        | (refine Or.inl ⟨by rfl, ?_⟩
                           intro w hSw
                           (try dsimp only at hSw)
                           (try go_split_ands)
                           go_simp
                           (first | done | with_reducible rfl))
                    try simp only [Act.put, List.setIfInBounds_toArray, List.set_cons_zero, List.set_cons_succ]
                    refine take_h 7 ⟨?_, ?_, ?_, by kernel_rfl, by kernel_rfl, by kernel_rfl, ?_, ?_, by assumption, ?_⟩
                    rotate_left 2
                    · (simp only [List.getElem?_toArray, List.getElem?_cons_succ, List.getElem?_cons_zero]; exact rfl)
                    · exact fun _ _ _ h => h
                    · first
                        | (refine Or.inr ⟨by rfl, ?_⟩; exact rfl)
                        | (refine Or.inl ⟨by rfl, ?_⟩
                           intro w hSw
                           (try dsimp only at hSw)
                           (try go_split_ands)
                           go_simp
                           (first | done | with_reducible rfl))
                    try simp only [Act.put, List.setIfInBounds_toArray, List.set_cons_zero, List.set_cons_succ]
                    refine take_h 8 ⟨?_, ?_, ?_, by kernel_rfl, by kernel_rfl, by kernel_rfl, ?_, ?_, by assumption, ?_⟩
                    rotate_left 2
                    · (simp only [List.getElem?_toArray, List.getElem?_cons_succ, List.getElem?_cons_zero]; exact rfl)
                    · exact fun _ _ _ h => h
                    · first
                        | (refine Or.inr ⟨by rfl, ?_⟩; exact rfl)
                        | (refine Or.inl ⟨by rfl, ?_⟩
                           intro w hSw
                           (try dsimp only at hSw)
                           (try go_split_ands)
                           go_simp
                           (first | done | with_reducible rfl))
                    try simp only [Act.put, List.setIfInBounds_toArray, List.set_cons_zero, List.set_cons_succ]
                    refine take_h 9 ⟨?_, ?_, ?_, by kernel_rfl, by kernel_rfl, by kernel_rfl, ?_, ?_, by assumption, ?_⟩
                    rotate_left 2
                    · (simp only [List.getElem?_toArray, List.getElem?_cons_succ, List.getElem?_cons_zero]; exact rfl)
                    · exact fun _ _ _ h => h
                    · first
                        | (refine Or.inr ⟨by rfl, ?_⟩; exact rfl)
                        | (refine Or.inl ⟨by rfl, ?_⟩
                           intro w hSw
                           (try dsimp only at hSw)
                           (try go_split_ands)
                           go_simp
                           (first | done | with_reducible rfl))
                    try simp only [Act.put, List.setIfInBounds_toArray, List.set_cons_zero, List.set_cons_succ]
                    refine take_h 10 ⟨?_, ?_, ?_, by kernel_rfl, by kernel_rfl, by kernel_rfl, ?_, ?_, by assumption, ?_⟩
                    rotate_left 2
                    · (simp only [List.getElem?_toArray, List.getElem?_cons_succ, List.getElem?_cons_zero]; exact rfl)
                    · exact fun _ _ _ h => h
                    · first
                        | (refine Or.inr ⟨by rfl, ?_⟩; exact rfl)
                        | (refine Or.inl ⟨by rfl, ?_⟩
                           intro w hSw
                           (try dsimp only at hSw)
                           (try go_split_ands)
                           go_simp
                           (first | done | with_reducible rfl))
                    try simp only [Act.put, List.setIfInBounds_toArray, List.set_cons_zero, List.set_cons_succ]
                    refine take_h 11 ⟨?_, ?_, ?_, by kernel_rfl, by kernel_rfl, by kernel_rfl, ?_, ?_, by assumption, ?_⟩
                    rotate_left 2
                    · (simp only [List.getElem?_toArray, List.getElem?_cons_succ, List.getElem?_cons_zero]; exact rfl)
                    · exact fun _ _ _ h => h
                    · first
                        | (refine Or.inr ⟨by rfl, ?_⟩; exact rfl)
                        | (refine Or.inl ⟨by rfl, ?_⟩
                           intro w hSw
                           (try dsimp only at hSw)
                           (try go_split_ands)
                           go_simp
                           (first | done | with_reducible rfl))
                    try simp only [Act.put, List.setIfInBounds_toArray, List.set_cons_zero, List.set_cons_succ]
                    refine wpAnyH_ready (rs := [12]) (by kernel_rfl) (by simp) ?_
                    refine call_h 12 ⟨?_, ?_, fun K hK => ?_⟩
                    rotate_left 1
                    · (simp only [List.getElem?_toArray, List.getElem?_cons_succ, List.getElem?_cons_zero]; exact rfl)
                    go_simp
                    (go_at_call 30; refine HRPE.out.mono ?_; rintro e we ⟨po2, pc2, rfl, hpo, hbe⟩)
                    go_wp2_with fail
                    have i0 := (hbe.cell (p := ⟨w.heap.size, 0, none⟩) (show w.heap.size < wd.heap.size by omega)).trans g0
                    have HE := Lib.hid (EqNumbers_any we _ _ (idL s'.Q) (idL s'.Q) _ _ (Rd.of_own (own_below HQ.out hbe)) (Rd.of_own hpo))
                    have HBE := Lib.hid hbe
                    clear hpo hbe
                    rw [HNQ.out] at HE ⊢
                    refine hK.out _ _ i0 (fun hHeld => ?_)
                    clear hK K
                    (try simp only [Act.put, List.setIfInBounds_toArray, List.set_cons_zero, List.set_cons_succ])
                    refine wpAnyH_ready (rs := [13]) (by kernel_rfl) (by simp) ?_
                    refine call_h 13 ⟨?_, ?_, fun K hK => ?_⟩
                    rotate_left 1
                    · (simp only [List.getElem?_toArray, List.getElem?_cons_succ, List.getElem?_cons_zero]; exact rfl)
                    go_simp
                    (go_at_call 29; refine HE.out.mono ?_; rintro e wf ⟨rfl, hbf⟩; simp only [decide_true])
                    go_wp2_with fail
                    have j0 := (hbf.cell (p := ⟨w.heap.size, 0, none⟩) (by have := HBE.out.size; show w.heap.size < we.heap.size; have h2 : wd.heap.size ≤ we.heap.size := this; omega)).trans i0
                    have HBF := Lib.hid (HBE.out.trans (hbf.mono HBE.out.size))
                    clear hbf i0
                    refine hK.out _ _ j0 (fun hHeld => ?_)
                    clear hK K
                    (try simp only [Act.put, List.setIfInBounds_toArray, List.set_cons_zero, List.set_cons_succ])
                    refine take_h 14 ⟨?_, ?_, ?_, by kernel_rfl, by kernel_rfl, by kernel_rfl, ?_, ?_, by assumption, ?_⟩
                    rotate_left 2
                    · (simp only [List.getElem?_toArray, List.getElem?_cons_succ, List.getElem?_cons_zero]; exact rfl)
                    · exact fun _ _ _ h => h
                    · first
                        | (refine Or.inr ⟨by rfl, ?_⟩; exact rfl)
                        | (refine Or.inl ⟨by rfl, ?_⟩
                           intro w hSw
                           (try dsimp only at hSw)
                           (try go_split_ands)
                           go_simp
                           (first | done | with_reducible rfl))
                    try simp only [Act.put, List.setIfInBounds_toArray, List.set_cons_zero, List.set_cons_succ]
                    refine take_h 15 ⟨?_, ?_, ?_, by kernel_rfl, by kernel_rfl, by kernel_rfl, ?_, ?_, by assumption, ?_⟩
                    rotate_left 2
                    · (simp only [List.getElem?_toArray, List.getElem?_cons_succ, List.getElem?_cons_zero]; exact rfl)
                    · exact fun _ _ _ h => h
                    · first
                        | (refine Or.inr ⟨by rfl, ?_⟩; exact rfl)
                        | (refine Or.inl ⟨by rfl, ?_⟩
                           intro w hSw
                           (try dsimp only at hSw)
                           (try go_split_ands)
                           go_simp
                           (first | done | with_reducible rfl))
                    try simp only [Act.put, List.setIfInBounds_toArray, List.set_cons_zero, List.set_cons_succ]
                    refine take_h 16 ⟨?_, ?_, ?_, by kernel_rfl, by kernel_rfl, by kernel_rfl, ?_, ?_, by assumption, ?_⟩
                    rotate_left 2
                    · (simp only [List.getElem?_toArray, List.getElem?_cons_succ, List.getElem?_cons_zero]; exact rfl)
                    · exact fun _ _ _ h => h
                    · first
                        | (refine Or.inr ⟨by rfl, ?_⟩; exact rfl)
                        | (refine Or.inl ⟨by rfl, ?_⟩
                           intro w hSw
                           (try dsimp only at hSw)
                           (try go_split_ands)
                           go_simp
                           (first | done | with_reducible rfl))
                    try simp only [Act.put, List.setIfInBounds_toArray, List.set_cons_zero, List.set_cons_succ]
                    refine take_h 17 ⟨?_, ?_, ?_, by kernel_rfl, by kernel_rfl, by kernel_rfl, ?_, ?_, by assumption, ?_⟩
                    rotate_left 2
                    · (simp only [List.getElem?_toArray, List.getElem?_cons_succ, List.getElem?_cons_zero]; exact rfl)
                    · exact fun _ _ _ h => h
                    · first
                        | (refine Or.inr ⟨by rfl, ?_⟩; exact rfl)
                        | (refine Or.inl ⟨by rfl, ?_⟩
                           intro w hSw
                           (try dsimp only at hSw)
                           (try go_split_ands)
                           go_simp
                           (first | done | with_reducible rfl))
                    try simp only [Act.put, List.setIfInBounds_toArray, List.set_cons_zero, List.set_cons_succ]
                    refine take_h 19 ⟨?_, ?_, ?_, by kernel_rfl, by kernel_rfl, by kernel_rfl, ?_, ?_, by assumption, ?_⟩
                    rotate_left 2
                    · (simp only [List.getElem?_toArray, List.getElem?_cons_succ, List.getElem?_cons_zero]; exact rfl)
                    · exact fun _ _ _ h => h
                    · first
                        | (refine Or.inr ⟨by rfl, ?_⟩; exact rfl)
                        | (refine Or.inl ⟨by rfl, ?_⟩
                           intro w hSw
                           (try dsimp only at hSw)
                           (try go_split_ands)
                           go_simp
                           (first | done | with_reducible rfl))
                    try simp only [Act.put, List.setIfInBounds_toArray, List.set_cons_zero, List.set_cons_succ]
                    refine take_h 20 ⟨?_, ?_, ?_, by kernel_rfl, by kernel_rfl, by kernel_rfl, ?_, ?_, by assumption, ?_⟩
                    rotate_left 2
                    · (simp only [List.getElem?_toArray, List.getElem?_cons_succ, List.getElem?_cons_zero]; exact rfl)
                    · exact fun _ _ _ h => h
                    · first
                        | (refine Or.inr ⟨by rfl, ?_⟩; exact rfl)
                        | (refine Or.inl ⟨by rfl, ?_⟩
                           intro w hSw
                           (try dsimp only at hSw)
                           (try go_split_ands)
                           go_simp
                           (first | done | with_reducible rfl))
                    try simp only [Act.put, List.setIfInBounds_toArray, List.set_cons_zero, List.set_cons_succ]
                    refine take_h 21 ⟨?_, ?_, ?_, by kernel_rfl, by kernel_rfl, by kernel_rfl, ?_, ?_, by assumption, ?_⟩
                    rotate_left 2
                    · (simp only [List.getElem?_toArray, List.getElem?_cons_succ, List.getElem?_cons_zero]; exact rfl)
                    · exact fun _ _ _ h => h
                    · first
                        | (refine Or.inr ⟨by rfl, ?_⟩; exact rfl)
                        | (refine Or.inl ⟨by rfl, ?_⟩
                           intro w hSw
                           (try dsimp only at hSw)
                           (try go_split_ands)
                           go_simp
                           (first | done | with_reducible rfl))
                    try simp only [Act.put, List.setIfInBounds_toArray, List.set_cons_zero, List.set_cons_succ]
                    refine take_h 22 ⟨?_, ?_, ?_, by kernel_rfl, by kernel_rfl, by kernel_rfl, ?_, ?_, by assumption, ?_⟩
                    rotate_left 2
                    · (simp only [List.getElem?_toArray, List.getElem?_cons_succ, List.getElem?_cons_zero]; exact rfl)
                    · exact fun _ _ _ h => h
                    · first
                        | (refine Or.inr ⟨by rfl, ?_⟩; exact rfl)
                        | (refine Or.inl ⟨by rfl, ?_⟩
                           intro w hSw
                           (try dsimp only at hSw)
                           (try go_split_ands)
                           go_simp
                           (first | done | with_reducible rfl))
                    try simp only [Act.put, List.setIfInBounds_toArray, List.set_cons_zero, List.set_cons_succ]
                    refine wpAnyH_ready (rs := [18]) (by kernel_rfl) (by simp) ?_
                    refine call_h 18 ⟨?_, ?_, fun K hK => ?_⟩
                    rotate_left 1
                    · (simp only [List.getElem?_toArray, List.getElem?_cons_succ, List.getElem?_cons_zero]; exact rfl)
                    go_simp
                    (go_at_call 31; refine (HSE.out wf HBF.out).mono ?_; rintro e w' ⟨rfl, rfl⟩)
                    go_wp2_with fail
                    refine hK.out _ _ j0 (fun hHeld => ?_)
                    clear hK K
                    (try simp only [Act.put, List.setIfInBounds_toArray, List.set_cons_zero, List.set_cons_succ])
                    refine take_h 23 ⟨?_, ?_, ?_, by kernel_rfl, by kernel_rfl, by kernel_rfl, ?_, ?_, by assumption, ?_⟩
                    rotate_left 2
                    · (simp only [List.getElem?_toArray, List.getElem?_cons_succ, List.getElem?_cons_zero]; exact rfl)
                    · exact fun _ _ _ h => h
                    · first
                        | (refine Or.inr ⟨by rfl, ?_⟩; exact rfl)
                        | (refine Or.inl ⟨by rfl, ?_⟩
                           intro w hSw
                           (try dsimp only at hSw)
                           (try go_split_ands)
                           go_simp
                           (first | done | with_reducible rfl))
                    try simp only [Act.put, List.setIfInBounds_toArray, List.set_cons_zero, List.set_cons_succ]
                    refine take_h 24 ⟨?_, ?_, ?_, by kernel_rfl, by kernel_rfl, by kernel_rfl, ?_, ?_, by assumption, ?_⟩
                    rotate_left 2
                    · (simp only [List.getElem?_toArray, List.getElem?_cons_succ, List.getElem?_cons_zero]; exact rfl)
                    · exact fun _ _ _ h => h
                    · first
                        | (refine Or.inr ⟨by rfl, ?_⟩; exact rfl)
                        | (refine Or.inl ⟨by rfl, ?_⟩
                           intro w hSw
                           (try dsimp only at hSw)
                           (try go_split_ands)
                           go_simp
                           (first | done | with_reducible rfl))
                    try simp only [Act.put, List.setIfInBounds_toArray, List.set_cons_zero, List.set_cons_succ]
                    refine wpAnyH_done (by kernel_rfl) ?_ _
                    clear hHeld j0
                    have hz9 : wc.heap.size ≤ wf.heap.size := Nat.le_trans hzd HBF.out.size
                    have HQ9 := own_below HQ.out HBF.out
                    have hr9 : (idL s'.Q).length ≤ 1048576 := by have := HNQ.out; omega
                    have hnum := Numbers_left wf wc.heap.size (.slice qo nq qc) (idL s'.Q) (by have h := HQ9; rw [HNQ.out] at h ⊢; exact h) hz9 hr9
                    have HNUM := Lib.hid hnum
                    clear hnum HQ9 hr9
                    have hw64 : IntKind.i64.wrap ((K.length : Int) / 64) = (K.length : Int) / 64 := IntWalk.i64_in _ ⟨by omega, by omega⟩
                    rw [hw64]
                    simp only [bne_self_eq_false]
                    clear hw64
                    go_wp2_with fail
                    refine HNUM.out.mono ?_
                    rintro e wg ⟨rfl, hlg⟩
                    have HJ9 := Lib.hid (DJ.fewer (Y := Value.ownL (.slice qo (idL s'.Q).length qc)) (X := []) (((HJD.out.left0 (Left.refl [] wd).drew.below).left0 HBF.out).own hlg (fun j hj => List.mem_append_left _ (by rw [HNQ.out]; exact hj))))
                    have HSM' : Hid (0 < k + 1 → ∀ a, acts[0]? = some a → a.picks.length ≤ 200) := Lib.hid (fun _ a' ha' => by
                      rcases Nat.eq_zero_or_pos k with h0 | h0
                      · have := HAK.out
                        rw [h0, ha'] at this
                        injection this with this
                        rw [this]
                        exact hp2
                      · exact HSM.out h0 a' ha')
                    clear hlg
                    go_wp2
                    go_roundw
                    case rel => exact ⟨k + 1, D', R', s', by go_num, rfl, rfl, by omega, by omega, HSM', HJ9⟩
                    case measure => simp [intOf]; omega
          · have hk3 : k = 60 := by omega
            subst hk3
            have hn1 : 0 < acts.length := by omega
            as_aux_lemma =>
              obtain ⟨a0, ha0⟩ : ∃ a, acts[0]? = some a := ⟨_, List.getElem?_eq_getElem hn1⟩
              obtain ⟨b, o, eo, hA0⟩ := act4_get HA.out ha0
              subst eo
              obtain ⟨_, _, _, ⟨pv, c3o, hpr⟩, hbl⟩ := hA0
              rw [Nat.zero_mul, Nat.add_zero] at c3o
              have c3 := (hbw.cell (p := ⟨b, o + 3, none⟩) hbl).trans c3o
              obtain ⟨po, pc, rfl, _, _⟩ := hpr.form
              have HPR := Lib.hid (hpr.below hbw)
              have HOK0 := Lib.hid (HOK.out a0 (List.mem_of_getElem? ha0))
              have hpl := HSM.out (by omega) a0 ha0
              clear ha0 hpr c3o
              obtain ⟨L, M, hL, hmay, hc1, hc2⟩ := HJ.out.crash (picks := a0.picks) (pv := (.slice po a0.picks.length pc)) (pv2 := (.slice po a0.picks.length pc)) (B0 := w.heap.size) HPR.out (by omega) (HPR.out.more (Nat.le_succ _)) (by omega) HOK0.out.2
              have HC1 := Lib.hid hc1
              have HC2 := Lib.hid hc2
              have HL := Lib.hid hL
              clear hc1 hc2 hmay hL
              go_wp2_with fail
              refine HC1.out.mono ?_
              rintro e w2 ⟨x, rfl, hM, hf, xo, xc, rfl⟩
              have HM := Lib.hid hM
              clear hM hf
              go_wp2_with fail
              refine (HC2.out _ w2 HM.out).mono ?_
              rintro e w3 ⟨x, rfl, ⟨yo, yc, rfl⟩, s', r, r2, hJ3, ho3, hp3, hr, hr2, hlt⟩
              have HE := Lib.hid (EqBytes_any w3 (.slice xo L.length xc) (.slice yo L.length yc) L L _ _ (Rd.of_own ho3) (Rd.of_own hp3))
              have HJ3 := Lib.hid hJ3
              clear hJ3 ho3 hp3 hlt
              go_wp2_with fail
              refine HE.out.mono ?_
              rintro e w4 ⟨rfl, hb4⟩
              simp only [decide_true]
              have HJ4 := Lib.hid (HJ3.out.left0 hb4)
              clear hb4
              go_wp2_with fail
              refine (wakes4_any w4).mono ?_
              rintro e w5 ⟨rfl, hb5⟩
              have hb6 := hbb1.trans ((HJ4.out.2.2.2.2.trans (hb5.mono HJ4.out.size)).mono (Nat.le_succ _))
              clear hb5
              go_wp2
              go_ret
              exact ⟨rfl, hb6⟩
        · have hk3 : k = acts.length := by omega
          subst hk3
          by_cases hn1 : 0 < acts.length
          · as_aux_lemma =>
              obtain ⟨a0, ha0⟩ : ∃ a, acts[0]? = some a := ⟨_, List.getElem?_eq_getElem hn1⟩
              obtain ⟨b, o, eo, hA0⟩ := act4_get HA.out ha0
              subst eo
              obtain ⟨_, _, _, ⟨pv, c3o, hpr⟩, hbl⟩ := hA0
              rw [Nat.zero_mul, Nat.add_zero] at c3o
              have c3 := (hbw.cell (p := ⟨b, o + 3, none⟩) hbl).trans c3o
              obtain ⟨po, pc, rfl, _, _⟩ := hpr.form
              have HPR := Lib.hid (hpr.below hbw)
              have HOK0 := Lib.hid (HOK.out a0 (List.mem_of_getElem? ha0))
              have hpl := HSM.out (by omega) a0 ha0
              clear ha0 hpr c3o
              obtain ⟨L, M, hL, hmay, hc1, hc2⟩ := HJ.out.crash (picks := a0.picks) (pv := (.slice po a0.picks.length pc)) (pv2 := (.slice po a0.picks.length pc)) (B0 := w.heap.size) HPR.out (by omega) (HPR.out.more (Nat.le_succ _)) (by omega) HOK0.out.2
              have HC1 := Lib.hid hc1
              have HC2 := Lib.hid hc2
              have HL := Lib.hid hL
              clear hc1 hc2 hmay hL
              go_wp2_with fail
              refine HC1.out.mono ?_
              rintro e w2 ⟨x, rfl, hM, hf, xo, xc, rfl⟩
              have HM := Lib.hid hM
              clear hM hf
              go_wp2_with fail
              refine (HC2.out _ w2 HM.out).mono ?_
              rintro e w3 ⟨x, rfl, ⟨yo, yc, rfl⟩, s', r, r2, hJ3, ho3, hp3, hr, hr2, hlt⟩
              have HE := Lib.hid (EqBytes_any w3 (.slice xo L.length xc) (.slice yo L.length yc) L L _ _ (Rd.of_own ho3) (Rd.of_own hp3))
              have HJ3 := Lib.hid hJ3
              clear hJ3 ho3 hp3 hlt
              go_wp2_with fail
              refine HE.out.mono ?_
              rintro e w4 ⟨rfl, hb4⟩
              simp only [decide_true]
              have HJ4 := Lib.hid (HJ3.out.left0 hb4)
              clear hb4
              go_wp2_with fail
              refine (wakes4_any w4).mono ?_
              rintro e w5 ⟨rfl, hb5⟩
              have hb6 := hbb1.trans ((HJ4.out.2.2.2.2.trans (hb5.mono HJ4.out.size)).mono (Nat.le_succ _))
              clear hb5
              go_wp2
              go_ret
              exact ⟨rfl, hb6⟩
          · as_aux_lemma =>
              obtain ⟨L, M, hL, hmay, hc1, hc2⟩ := HJ.out.crash (picks := ([] : List Int)) (pv := (.slice none 0 0)) (pv2 := (.slice none 0 0)) (B0 := w.heap.size) (Rd.nil_ _ _ _) (by omega) (Rd.nil_ _ _ _) (by simp) (by simp)
              have HC1 := Lib.hid hc1
              have HC2 := Lib.hid hc2
              have HL := Lib.hid hL
              clear hc1 hc2 hmay hL
              go_wp2_with fail
              refine HC1.out.mono ?_
              rintro e w2 ⟨x, rfl, hM, hf, xo, xc, rfl⟩
              have HM := Lib.hid hM
              clear hM hf
              go_wp2_with fail
              refine (HC2.out _ w2 HM.out).mono ?_
              rintro e w3 ⟨x, rfl, ⟨yo, yc, rfl⟩, s', r, r2, hJ3, ho3, hp3, hr, hr2, hlt⟩
              have HE := Lib.hid (EqBytes_any w3 (.slice xo L.length xc) (.slice yo L.length yc) L L _ _ (Rd.of_own ho3) (Rd.of_own hp3))
              have HJ3 := Lib.hid hJ3
              clear hJ3 ho3 hp3 hlt
              go_wp2_with fail
              refine HE.out.mono ?_
              rintro e w4 ⟨rfl, hb4⟩
              simp only [decide_true]
              have HJ4 := Lib.hid (HJ3.out.left0 hb4)
              clear hb4
              go_wp2_with fail
              refine (wakes4_any w4).mono ?_
              rintro e w5 ⟨rfl, hb5⟩
              have hb6 := hbb1.trans ((HJ4.out.2.2.2.2.trans (hb5.mono HJ4.out.size)).mono (Nat.le_succ _))
              clear hb5
              go_wp2
              go_ret
              exact ⟨rfl, hb6⟩
    · have hN' : Calls Try.prog 6 #[.slice v2o K.length v2c] w2 fun e w3 => e = .returned (.tuple #[.pointer none, .int .i64 1]) ∧ w2 = w3 := hN.mono (fun e w3 hP => by
        unfold NewP at hP
        rw [if_neg hm] at hP
        exact hP)
      have HN := Lib.hid hN'
      have hmb : decide (mayD K.length) = false := decide_eq_false hm
      clear hN hN' hm
      go_wp2_with fail
      refine HN.out.mono ?_
      rintro e w3 ⟨rfl, rfl⟩
      go_wp2_with fail
      refine (Bytes_left w2 _ _ K HO2.out (by omega) (by omega)).mono ?_
      rintro e w4 ⟨rfl, hl4⟩
      have hz4 := hl4.size
      have hlo : ∀ j ∈ Value.ownL (.slice v2o K.length v2c), w1.heap.size ≤ j ∧ j < w2.heap.size := fun j hj => HO2.out.lt j (mem_ownL.1 hj)
      have e0 := cell_left' (p := ⟨w.heap.size, 0, none⟩) c0' hl4 (fun hm => by have h := (hlo w.heap.size hm).1; omega)
      have HB4 := Lib.hid (HB2.out.trans (hl4.belowB (B := w.heap.size + 1) (by omega) (fun j hj => by have := (hlo j hj).1; omega)))
      clear hl4 c0' c1' hlo
      go_wp2_with (first | (go_at_call 7; refine (num4_any _ _).mono ?_; rintro e w' ⟨rfl, rfl⟩) | (go_at_call 17; refine (May_any _ _ _ _ (by omega)).mono ?_; rintro e w' ⟨rfl, rfl⟩))
      refine (wakes4_any w4).mono ?_
      rintro e w5 ⟨rfl, hb5⟩
      go_wp2
      go_ret
      exact ⟨rfl, hbb1.trans ((HB4.out.trans (hb5.mono (by omega))).mono (Nat.le_succ _))⟩
end Go.Proofs.Ytbhoiibcfibmhaa
