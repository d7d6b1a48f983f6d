/- DiskKept: the walk. -/


import Derived.Test.YtbhoiibcfibmhaaDlKeptP
import Derived.Test.YtbhoiibcfibmhaaDlWakes
import Derived.Test.YtbhoiibcfibmhaaDlHeavy
import Derived.Deep.CutBlock
import Derived.Outline
namespace Go.Proofs.Ytbhoiibcfibmhaa
open Go.RowKit Go.MapKept
/-- A slice of 512 bytes that lie at the beginning of block g. -/
def C512 (w : World) (g : Nat) (K : List UInt8) : Prop := ∀ i, i < 512 → w.cell? ⟨g, i, none⟩ = (u8s K)[i]?
theorem C512.fx {w w' : World} {g : Nat} {K : List UInt8} {X : List Nat} (h : C512 w g K) (hf : FX X w w') (hg : g ∈ X) (hK : K.length = 512) : C512 w' g K := fun i hi => by
  have h1 := h i hi
  rw [u8s_at K i (by omega)] at h1 ⊢
  exact hf.cell hg h1
theorem FX.of_below {X : List Nat} {w w' : World} (hb : Below w.heap.size w w') : FX X w w' := ⟨[], Left.of_below hb [], by simp⟩
theorem FX.of_left {X S : List Nat} {w w' : World} (hl : Left S w w') (hS : ∀ k ∈ S, k ∉ X) : FX X w w' := ⟨S, hl, hS⟩
theorem FX.sub {X Y : List Nat} {w w' : World} (h : FX X w w') (hY : ∀ k ∈ Y, k ∈ X) : FX Y w w' := by
  obtain ⟨S, h, hS⟩ := h
  exact ⟨S, h, fun k hk hm => hS k hk (hY k hm)⟩
/-- Behind k acts: what is kept lies in g, what was written in h. -/
structure KL (w1 w : World) (B D : Nat) (Kp N : List UInt8) (j g h : Nat) : Prop where
  kh : KH w1 w B D Kp N j [g, h]
  kl : Kp.length = 512
  nl : N.length = 512
  kc : C512 w g Kp
  nw : Whole w h 5 (u8s N)
  ne : g ≠ h
theorem KL.fx {w1 w w' : World} {B D j g h j' : Nat} {Kp N : List UInt8} (H : KL w1 w B D Kp N j g h) (hk : KH w1 w' B D Kp N j' [g, h]) (hf : FX [g, h] w w') : KL w1 w' B D Kp N j' g h :=
  ⟨hk, H.kl, H.nl, H.kc.fx hf (by simp) H.kl, hf.whole (by simp) H.nw, H.ne⟩
theorem KL.left0 {w1 w w' : World} {B D j g h : Nat} {Kp N : List UInt8} (H : KL w1 w B D Kp N j g h) (hb : Below w.heap.size w w') : KL w1 w' B D Kp N j g h := H.fx (H.kh.left0 hb) (FX.of_below hb)
theorem KL.start {w1 w : World} {B D : Nat} {Z : List UInt8} {L : List Value} (H : KH w1 w B D Z Z 0 []) (hZ : Z.length = 512) (hL : L = u8s Z) :
    KL w1 ((w.alloc (.cells L.toArray 5)).alloc (.cells L.toArray 5)).drew B D Z Z 0 w.heap.size (w.heap.size + 1) ∧ KL w1 ((w.alloc (.cells L.toArray 5)).alloc (.cells L.toArray 5)).drew B D Z Z 0 (w.heap.size + 1) w.heap.size := by
  subst hL
  have h1 : Whole (w.alloc (.cells (u8s Z).toArray 5)) w.heap.size 5 (u8s Z) := Whole.new w 5 _
  have h2 : Whole ((w.alloc (.cells (u8s Z).toArray 5)).alloc (.cells (u8s Z).toArray 5)) (w.heap.size + 1) 5 (u8s Z) := by
    have := Whole.new (w.alloc (.cells (u8s Z).toArray 5)) 5 (u8s Z)
    simpa using this
  have h1' := h1.alloc (.cells (u8s Z).toArray 5)
  have hb : Below w.heap.size w ((w.alloc (.cells (u8s Z).toArray 5)).alloc (.cells (u8s Z).toArray 5)).drew := (((Left.refl [] w).alloc _).alloc _).drew.below
  have hsz : ((w.alloc (.cells (u8s Z).toArray 5)).alloc (.cells (u8s Z).toArray 5)).drew.heap.size = w.heap.size + 2 := by
    show ((w.alloc (.cells (u8s Z).toArray 5)).alloc (.cells (u8s Z).toArray 5)).heap.size = _
    simp
  have k1 := H.grow (Y := [w.heap.size, w.heap.size + 1]) hb (by rw [hsz]; simp)
  have k2 := H.grow (Y := [w.heap.size + 1, w.heap.size]) hb (by rw [hsz]; simp)
  exact ⟨⟨k1, hZ, hZ, fun i hi => h1'.cell i, h2, by omega⟩, ⟨k2, hZ, hZ, fun i hi => h2.cell i, h1', by omega⟩⟩
/-- A sector is written into what was written. -/
theorem set_row {N b : List UInt8} {m : Nat} (hb : b.length = 64) : (u8s N).take (64 * m) ++ (u8s b ++ (u8s N).drop (64 * m + 64)) = u8s (setSec N m b) := by
  unfold setSec u8s
  simp
theorem u8_ofNat {k : Nat} (hk : k < 255) : IntKind.u8.wrap ((k : Int) + 1) = ((UInt8.ofNat (k + 1)).toNat : Int) := by
  have h1 : IntKind.u8.wrap ((k : Int) + 1) = (k : Int) + 1 := IntWalk.u8_in _ ⟨by omega, by omega⟩
  rw [h1, UInt8.toNat_ofNat', Nat.mod_eq_of_lt (by omega)]
  omega
set_option maxRecDepth 20000 in
set_option maxHeartbeats 4000000 in
theorem DiskKept_any (w : World) (bv lv : Value) (K : List UInt8) (acts : List Act4) (hK : Rd w w.heap.size 1 bv K.length (u8s K)) (hA : ActsAt4 w w.heap.size lv acts) (hok : ∀ a ∈ acts, ActOk a) :
    Calls Try.prog 3 #[.agg #[bv, lv]] w fun e w' => e = .returned (.bool true) ∧ Below w.heap.size w w' := by
  have hb0 := (Below.refl w.heap.size w).alloc (Nat.le_refl _) (.cells #[bv, lv] 25)
  obtain ⟨bo, bc, rfl, hbc, hbm⟩ := hK.form
  obtain ⟨ao, cap, rfl, hd1, hd2, hacts⟩ := hA
  have HA : Hid (ActsAt4 w w.heap.size (.slice ao acts.length cap) acts) := Lib.hid ⟨ao, cap, rfl, hd1, hd2, hacts⟩
  have hbm2 : bc ≤ 9223372036854775807 := by unfold maxLen at hbm; omega
  have HOK := Lib.hid hok
  obtain ⟨L1, hL1⟩ : ∃ L, L = u8s (List.replicate 512 0) := ⟨_, rfl⟩
  obtain ⟨L2, hL2⟩ : ∃ L, L = u8s (List.replicate 64 0) := ⟨_, rfl⟩
  have hmk1 : ∀ w : World, (Instr.makeSlice 22 (.int .i64 512) (.int .i64 512)).run Try.prog w = .ok (.slice (some ⟨w.heap.size, 0, none⟩) 512 512) (w.alloc (.cells L1.toArray 5)) := fun w => by
    rw [hL1, ← made_u8D]
    exact run_make_row' (P := Try.prog) 22 5 (.int .u8 0) 1 Try.underlying22 inf_u8 rfl .i64 .i64 512 (by omega) (by omega) w
  have hmk2 : ∀ w : World, (Instr.makeSlice 22 (.int .i64 64) (.int .i64 64)).run Try.prog w = .ok (.slice (some ⟨w.heap.size, 0, none⟩) 64 64) (w.alloc (.cells L2.toArray 5)) := fun w => by
    rw [hL2, ← made_u8D]
    exact run_make_row' (P := Try.prog) 22 5 (.int .u8 0) 1 Try.underlying22 inf_u8 rfl .i64 .i64 64 (by omega) (by omega) w
  have HL1 := Lib.hid hL1
  have HL2 := Lib.hid hL2
  obtain ⟨Z, hZ⟩ : ∃ Z : List UInt8, Z = List.replicate 512 0 := ⟨_, rfl⟩
  have HZ := Lib.hid hZ
  have HZL : Hid (Z.length = 512) := Lib.hid (by rw [hZ, List.length_replicate])
  have HZ1 : Hid (L1 = u8s Z) := Lib.hid (by rw [hL1, hZ])
  clear hK hacts hok hbm hL1 hL2 hZ
  go_enter Try.func3, Try.ntmps3
  go_wp2_with fail
  refine (heavy4 _ _ _ _ _ _ _ hbc hbm2 hd1 hd2).mono ?_
  rintro e w1 ⟨hv, rfl, hlight, hb1⟩
  have hbb1 := hb0.trans (hb1.mono (by simp))
  have c1 : w1.cell? ⟨w.heap.size, 1, none⟩ = some (.slice ao acts.length cap) := (hb1.cell (by simp)).trans (by simp)
  have F1 := Lib.hid c1
  have hz1 : w.heap.size + 1 ≤ w1.heap.size := by have := hb1.size; simp at this; omega
  clear hb1 hb0 c1
  cases hv
  case true =>
    go_wp2
    go_ret
    exact ⟨rfl, hbb1⟩
  case false =>
    obtain ⟨hl1, hl2⟩ := hlight rfl
    clear hlight
    go_wp2_with fail
    have hR1 : Rd (w1.alloc (.cells L1.toArray 5)) (w1.alloc (.cells L1.toArray 5)).heap.size 1 (.slice (some ⟨w1.heap.size, 0, none⟩) 512 512) Z.length (u8s Z) := by
      have hl : L1.length = 512 := by rw [HZ1.out, u8s_length, HZL.out]
      have := Rd.of_whole (Whole.new w1 5 L1) (by rw [hl]; unfold maxLen; omega)
      rw [hl] at this
      rw [HZL.out, ← HZ1.out]
      exact this
    refine (New_g _ hR1 (by rw [HZL.out]; omega)).mono ?_
    intro e w3 hN
    unfold NewP at hN
    rw [if_pos (by rw [HZL.out]; decide)] at hN
    obtain ⟨D, F, rfl, hD, hl3⟩ := hN
    have hz3 := hl3.size
    have hsz : (w1.alloc (.cells L1.toArray 5)).heap.size = w1.heap.size + 1 := by simp
    have HJ0 := Lib.hid (KH.start (w0 := w1) (B := w.heap.size + 1) hD (by omega) hz3 (((Below.refl w1.heap.size w1).alloc (Nat.le_refl _) (.cells L1.toArray 5)).mono hz1 |>.trans (hl3.belowB (by omega) (by simp))) (by rw [HZL.out]))
    clear hR1 hD hl3
    have HJ0' := Lib.hid (KL.start HJ0.out HZL.out HZ1.out)
    go_upto_region 6 with (go_at_call 7; refine (num4_any _ _).mono ?_; rintro e w' ⟨rfl, rfl⟩)
    go_cut [5, 6] (fun a b wx => ∃ g h, a = .slice (some ⟨g, 0, none⟩) 512 512 ∧ b = .slice (some ⟨h, 0, none⟩) 512 512 ∧ KL w1 wx (w.heap.size + 1) D Z Z 0 g h)
    case first =>
      go_wp2
      go_region
      all_goals go_wp2
      all_goals go_meet
      · exact ⟨_, _, rfl, rfl, (HJ0'.out.1)⟩
      · exact ⟨_, _, rfl, rfl, (HJ0'.out.2)⟩
    case rest =>
      obtain ⟨g0, h0, rfl, rfl, hKL⟩ := hcut
      have HKL := Lib.hid hKL
      clear hKL HJ0 HJ0' hmk1
      have HBw : Hid (∀ (wr : World) (Kp N : List UInt8) (j g : Nat), KL w1 wr (w.heap.size + 1) D Kp N j g h0 → Below w.heap.size w wr ∧ w.heap.size + 1 ≤ wr.heap.size) := Lib.hid (fun wr Kp N j g h => ⟨hbb1.trans (h.kh.1.mono (Nat.le_succ _)), h.kh.size⟩)
      go_upto_block 0 with fail
      go_cut [5] (fun a wx => ∃ (j g c : Nat) (Kp N : List UInt8), a = .slice (some ⟨g, 0, none⟩) 512 c ∧ 512 ≤ c ∧ c ≤ 9223372036854775807 ∧ j ≤ 40 ∧ KL w1 wx (w.heap.size + 1) D Kp N j g h0)
      case first =>
        go_wp2
        go_loopw [5, 7] (fun a i wr => ∃ (k g c : Nat) (Kp N : List UInt8), i = .int .i64 k ∧ a = .slice (some ⟨g, 0, none⟩) 512 c ∧ 512 ≤ c ∧ c ≤ 9223372036854775807 ∧ k ≤ acts.length ∧ k ≤ 20 ∧ Hid (KL w1 wr (w.heap.size + 1) D Kp N (2 * k) g h0)) (fun _ i _ => 20 - (intOf i).toNat)
        case atStart => exact ⟨0, g0, 512, Z, Z, rfl, rfl, by omega, by omega, by omega, by omega, HKL⟩
        case round =>
          obtain ⟨k, g, c, Kp, N, rfl, rfl, hc1, hc2, hk1, hk2, HR⟩ := hrel
          obtain ⟨hbw, hzr⟩ := HBw.out _ _ _ _ _ HR.out
          have e1 := (HR.out.kh.1.cell (p := ⟨w.heap.size, 1, none⟩) (by simp)).trans F1.out
          by_cases hlt : k < acts.length
          · by_cases hlt2 : k < 20
            · obtain ⟨a, ha⟩ : ∃ a, acts[k]? = some a := ⟨_, List.getElem?_eq_getElem hlt⟩
              obtain ⟨b, o, eo, hAk⟩ := act4_get HA.out ha
              subst eo
              obtain ⟨c0o, c1o, _, _, hbl⟩ := hAk
              have c0 := (hbw.cell (p := ⟨b, o + k * 4, none⟩) hbl).trans c0o
              have c1 := (hbw.cell (p := ⟨b, o + k * 4 + 1, none⟩) hbl).trans c1o
              obtain ⟨m, hm, hm8⟩ : ∃ m : Nat, within a.n 8 = (m : Int) ∧ m < 8 := ⟨(within a.n 8).toNat, by have := within_nn a.n 8 (by omega); omega, by have := within_lt a.n 8 (by omega); have := within_nn a.n 8 (by omega); omega⟩
              obtain ⟨y, hy⟩ : ∃ y, within a.dk 3 = y := ⟨_, rfl⟩
              have HM8 := Lib.hid hm
              have HY := Lib.hid hy
              have hcv := u8_ofNat (k := k) (by omega)
              have hL2l : L2.length = 64 := by rw [HL2.out, u8s_length, List.length_replicate]
              have HL2L := Lib.hid hL2l
              clear ha hm hy hL2l
              go_upto_block 2 with (go_at_call 8; refine (Within_any _ _ 8 (by omega) (by omega)).mono ?_; rintro e w' ⟨rfl, rfl⟩; rw [HM8.out])
              obtain ⟨wa, hwa⟩ : ∃ wa, wa = wr.alloc (.cells L2.toArray 5) := ⟨_, rfl⟩
              have hza : wa.heap.size = wr.heap.size + 1 := by rw [hwa]; simp
              have HW0 : Hid (Whole wa wr.heap.size 5 L2) := Lib.hid (hwa ▸ Whole.new wr 5 L2)
              have HBA : Hid (Below wr.heap.size wr wa) := Lib.hid (hwa ▸ (Below.refl wr.heap.size wr).alloc (Nat.le_refl _) _)
              rw [← hwa]
              clear hwa
              have HKA := Lib.hid (HR.out.kh.grow (Y := [wr.heap.size]) HBA.out (by simp; omega))
              have hgl : g < wr.heap.size ∧ h0 < wr.heap.size := by
                obtain ⟨_, _, _, _, _, _, _, _, h3⟩ := HR.out.kh
                exact ⟨(h3 g (by simp)).2.2, (h3 h0 (by simp)).2.2⟩
              have HLA := Lib.hid (HR.out.left0 HBA.out)
              obtain ⟨gb, hgb⟩ : ∃ gb, wr.heap.size = gb := ⟨_, rfl⟩
              rw [hgb] at HW0 HBA hza HKA hgl ⊢
              have HGB := Lib.hid hgb
              clear hgb
              have d0 := (HBA.out.cell (p := ⟨b, o + k * 4, none⟩) (by have := HGB.out; simp only; omega)).trans c0
              have d1 := (HBA.out.cell (p := ⟨w.heap.size, 1, none⟩) (by have := HGB.out; simp only; omega)).trans e1
              clear c0 c1 e1
              go_cut [10] (fun _ wx => ∃ L : List UInt8, L.length = 64 ∧ Whole wx gb 5 (u8s L) ∧ Left [gb] wa wx)
              case first =>
                go_wp2
                go_loopw [10] (fun s wx => ∃ (m : Nat) (L : List UInt8), s = .int .i64 m ∧ m ≤ 64 ∧ Hid (L.length = 64) ∧ Hid (Whole wx gb 5 (u8s L)) ∧ Hid (Left [gb] wa wx)) (fun s _ => 64 - (intOf s).toNat)
                case atStart => exact ⟨0, List.replicate 64 0, rfl, by omega, Lib.hid (by rw [List.length_replicate]), Lib.hid (by rw [← HL2.out]; exact HW0.out), Lib.hid (Left.refl _ _)⟩
                case round =>
                  obtain ⟨i, L, rfl, hi, HLL, HWL, HLF⟩ := hrel
                  by_cases hi2 : i < 64
                  · have v0 : wr.cell? ⟨gb, i, none⟩ = some (.int .u8 ((L.getD i 0).toNat : Int)) := by rw [HWL.out.cell]; exact u8s_getD L i (by rw [HLL.out]; exact hi2)
                    have f0 := HWL.out.free i
                    go_wp2
                    go_roundw
                    case rel => exact ⟨i + 1, L.set i (UInt8.ofNat (k + 1)), by go_num, by omega, Lib.hid (by rw [List.length_set]; exact HLL.out), Lib.hid (by rw [← u8s_set]; exact HWL.out.put i _), Lib.hid (HLF.out.trans ((Left.refl [gb] _).setCell (Or.inl (by simp)) _) (fun x hx => .inl hx))⟩
                    case measure => simp [intOf]; omega
                  · have hi3 : i = 64 := by omega
                    subst hi3
                    go_wp2
                    go_meet
                    exact ⟨L, HLL.out, HWL.out, HLF.out⟩
              case rest =>
                obtain ⟨L, hLL, hWL, hLF⟩ := hcut
                have hgn : ∀ j ∈ [gb], j ∉ [g, h0] := by simp; omega
                have hK1 : KH w1 wc (w.heap.size + 1) D Kp N (2 * k) [gb, g, h0] := HKA.out.own hLF (by simp)
                have HKC := Lib.hid (HLA.out.fx (hK1.sub (Y := [g, h0]) (by simp +contextual)) (FX.of_left hLF hgn))
                obtain ⟨id, M, hw1, hw2⟩ := hK1.write (by omega) HR.out.kl hm8 hLL hWL (by simp)
                have hgw : w.heap.size + 1 ≤ gb := by have := HGB.out; omega
                have d0' := cell_left' d0 hLF (p := ⟨b, o + k * 4, none⟩) (by simp; omega)
                have d1' := cell_left' d1 hLF (p := ⟨w.heap.size, 1, none⟩) (by simp; omega)
                have HC1 := Lib.hid hw1
                have HC2 := Lib.hid hw2
                have HLL := Lib.hid hLL
                have HWL := Lib.hid hWL
                have hzc := hK1.size
                clear hw1 hw2 hK1 hLF hLL hWL d0 d1
                go_wp2_with fail
                refine HC1.out.mono ?_
                rintro e w2 ⟨rfl, hM⟩
                have HM := Lib.hid hM
                clear hM
                go_wp2_with fail
                refine (HC2.out w2 HM.out).mono ?_
                rintro e w3 ⟨vo, vl, vc, rfl, hK3, hf3⟩
                have HK3 := Lib.hid (hK3.sub (Y := [g, h0]) (by simp +contextual))
                have HKL3 := Lib.hid (HKC.out.kc.fx hf3 (by simp) HKC.out.kl)
                have HNW3 := Lib.hid (hf3.whole (by simp) HKC.out.nw)
                have HWL3 := Lib.hid (hf3.whole (by simp) HWL.out)
                clear hK3 hf3
                obtain ⟨t, ht⟩ : ∃ t, 64 * m = t := ⟨_, rfl⟩
                have q1 : IntKind.i64.wrap ((m : Int) * 64) = (t : Int) := by rw [IntWalk.i64_in _ ⟨by omega, by omega⟩]; omega
                have ht8 : t + 64 ≤ 512 := by omega
                have HTT := Lib.hid ht
                have HPR := Lib.hid (show Rd w3 w3.heap.size 1 (.slice (some ⟨gb, 0, none⟩) 64 64) 64 (u8s L) by
                  have := Rd.of_whole HWL3.out (by rw [u8s_length, HLL.out]; unfold maxLen; omega)
                  rw [u8s_length, HLL.out] at this
                  exact this)
                have HNL := Lib.hid HR.out.nl
                clear ht
                go_wp2_with (first | (go_at_call 7; refine (num4_any _ _).mono ?_; rintro e w' ⟨rfl, rfl⟩) | (with_reducible refine wpList_copy (o := ⟨some 93, _, _, _, _, _⟩) rfl (.tmp 91) (.tmp 92) 22 22 rfl 5 Try.underlying22 sz_u8 _ _ _ 64 (.slice (some ⟨gb, 0, none⟩) 64 64) rfl rfl h0 t (u8s N) 5 HNW3.out w3.heap.size (u8s L) HPR.out ?_ ?_ ?_ (u8s_one _) ?_))
                · omega
                · rw [u8s_length, HNL.out]; exact ht8
                intro w4 hW4 hl4
                have hN4 : Whole w4 h0 5 (u8s (setSec N m L)) := by
                  rw [← set_row HLL.out, HTT.out]
                  exact hW4
                have hne4 : ∀ j ∈ [h0], j ∉ [g] := by
                  have := HR.out.ne
                  simp only [List.mem_singleton, forall_eq]
                  omega
                have HKL4 := Lib.hid (show KL w1 w4 (w.heap.size + 1) D Kp (setSec N m L) (2 * k + 1) g h0 from ⟨HK3.out.own hl4 (by simp), HR.out.kl, by rw [setSec_length (by rw [HNL.out]; omega) HLL.out]; exact HNL.out, HKL3.out.fx (X := [g]) (FX.of_left hl4 hne4) (by simp) HR.out.kl, hN4, HR.out.ne⟩)
                obtain ⟨hbw4, hzr4⟩ := HBw.out _ _ _ _ _ HKL4.out
                have i0 := (hbw4.cell (p := ⟨b, o + k * 4, none⟩) hbl).trans c0o
                have i1 := (HKL4.out.kh.1.cell (p := ⟨w.heap.size, 1, none⟩) (by simp)).trans F1.out
                clear hW4 hl4 hN4 hne4 d0' d1' q1
                by_cases hy0 : y = 0
                · subst hy0
                  obtain ⟨id2, M2, hw1, hw2⟩ := HKL4.out.kh.flush (by omega)
                  have HC3 := Lib.hid hw1
                  have HC4 := Lib.hid hw2
                  clear hw1 hw2
                  go_wp2_with (go_at_call 8; refine (Within_any _ _ 3 (by omega) (by omega)).mono ?_; rintro e w' ⟨rfl, rfl⟩; rw [HY.out])
                  refine HC3.out.mono ?_
                  rintro e w5 ⟨rfl, hM5⟩
                  have HM5 := Lib.hid hM5
                  clear hM5 i0 i1
                  go_wp2_with fail
                  refine (HC4.out w5 HM5.out).mono ?_
                  rintro e w6 ⟨vo2, vl2, vc2, rfl, hK6, hf6⟩
                  have HK6 := Lib.hid hK6
                  have HN6 := Lib.hid (hf6.whole (by simp) HKL4.out.nw)
                  have HR6 := Lib.hid (show Rd w6 w6.heap.size 1 (.slice (some ⟨h0, 0, none⟩) 512 512) (setSec N m L).length (u8s (setSec N m L)) by
                    have h512 := HKL4.out.nl
                    have := Rd.of_whole HN6.out (by rw [u8s_length, h512]; unfold maxLen; omega)
                    rw [u8s_length] at this
                    rw [h512] at this ⊢
                    exact this)
                  have HNL4 := Lib.hid HKL4.out.nl
                  clear hK6 hf6
                  go_wp2_with (go_at_call 7; refine (num4_any _ _).mono ?_; rintro e w' ⟨rfl, rfl⟩)
                  refine (CopyBytes_any w6 _ (setSec N m L) w6.heap.size HR6.out (Nat.le_refl _) (by rw [HNL4.out]; omega)).mono ?_
                  rintro e w7 ⟨v7, rfl, ho7, hb7⟩
                  rw [HNL4.out] at ho7
                  obtain ⟨g7, c7, rfl, hg7, hg7l, hc7, hm7⟩ := own_form ho7 (by omega)
                  have hc72 : c7 ≤ 9223372036854775807 := by unfold maxLen at hm7; omega
                  have hh0 : h0 < w6.heap.size := HN6.out.lt
                  have HKL7 := Lib.hid (show KL w1 w7 (w.heap.size + 1) D (setSec N m L) (setSec N m L) (2 * (k + 1)) g7 h0 from ⟨((HK6.out.grow (Y := [g7]) hb7 (by simp; omega)).sub (Y := [g7, h0]) (by simp +contextual)).more (by omega), HNL4.out, HNL4.out, fun i hi => ho7.cellAt i (by omega), HN6.out.belowH hb7, by omega⟩)
                  clear ho7 hb7 hm7
                  go_wp2
                  go_roundw
                  case rel => exact ⟨k + 1, g7, c7, setSec N m L, setSec N m L, by go_num, rfl, hc7, hc72, by omega, by omega, HKL7⟩
                  case measure => simp [intOf]; omega
                · have hyb : (y == 0) = false := beq_eq_false_iff_ne.2 hy0
                  have HKL7 := Lib.hid (show KL w1 w4 (w.heap.size + 1) D Kp (setSec N m L) (2 * (k + 1)) g h0 from ⟨HKL4.out.kh.more (by omega), HKL4.out.kl, HKL4.out.nl, HKL4.out.kc, HKL4.out.nw, HKL4.out.ne⟩)
                  go_wp2_with (go_at_call 8; refine (Within_any _ _ 3 (by omega) (by omega)).mono ?_; rintro e w' ⟨rfl, rfl⟩; rw [HY.out])
                  go_roundw
                  case rel => exact ⟨k + 1, g, c, Kp, setSec N m L, by go_num, rfl, hc1, hc2, by omega, by omega, HKL7⟩
                  case measure => simp [intOf]; omega
            · have hk3 : k = 20 := by omega
              subst hk3
              go_wp2
              go_meet
              exact ⟨_, g, c, Kp, N, rfl, hc1, hc2, by omega, HR.out⟩
          · have hk3 : k = acts.length := by omega
            subst hk3
            go_wp2
            go_meet
            exact ⟨_, g, c, Kp, N, rfl, hc1, hc2, by omega, HR.out⟩
      case rest =>
        obtain ⟨j, g, c, Kp, N, rfl, hc1, hc2, hj40, hKc⟩ := hcut
        have HKL := Lib.hid hKc
        clear hKc
        obtain ⟨hbw, hzr⟩ := HBw.out _ _ _ _ _ HKL.out
        have e1 := (HKL.out.kh.1.cell (p := ⟨w.heap.size, 1, none⟩) (by simp)).trans F1.out
        by_cases hn1 : 0 < acts.length
        · obtain ⟨a0, ha0⟩ : ∃ a, acts[0]? = some a := ⟨_, List.getElem?_eq_getElem hn1⟩
          obtain ⟨b, o, eo, hA0⟩ := act4_get HA.out ha0
          subst eo
          obtain ⟨_, _, _, ⟨pv, c3o, hpr⟩, hbl⟩ := hA0
          rw [Nat.zero_mul, Nat.add_zero] at c3o
          have c3 := (hbw.cell (p := ⟨b, o + 3, none⟩) hbl).trans c3o
          obtain ⟨po, pc, rfl, hpc1, hpc2⟩ := hpr.form
          have hpc3 : pc ≤ 9223372036854775807 := by unfold maxLen at hpc2; omega
          have HPR := Lib.hid (hpr.below hbw)
          have HOK0 := Lib.hid (HOK.out a0 (List.mem_of_getElem? ha0))
          clear ha0 hpr c3o hpc2
          by_cases hpl : a0.picks.length < 100
          · as_aux_lemma =>
              obtain ⟨M, hc1, hc2⟩ := HKL.out.kh.crash HKL.out.kl (by omega) (pv := (.slice po a0.picks.length pc)) (picks := a0.picks) (B0 := w.heap.size) HPR.out (by omega) (by omega) HOK0.out.2
              have HC1 := Lib.hid hc1
              have HC2 := Lib.hid hc2
              clear hc1 hc2
              go_wp2_with fail
              refine HC1.out.mono ?_
              rintro e w2 ⟨gx, cx, x, rfl, hcx, hcm, hx, htorn, hcells, hM, hfx, hb2⟩
              have hcm2 : cx ≤ 9223372036854775807 := by unfold maxLen at hcm; omega
              have HXL := Lib.hid hx
              have HT := Lib.hid htorn
              have HCX := Lib.hid hcells
              have HM := Lib.hid hM
              have HN2 := Lib.hid (hfx.whole (by simp) HKL.out.nw)
              have HK2 := Lib.hid (HKL.out.kc.fx hfx (by simp) HKL.out.kl)
              have HB2 := Lib.hid hb2
              have HNL := Lib.hid HKL.out.nl
              have HKPL := Lib.hid HKL.out.kl
              clear hx htorn hcells hM hfx hb2 hcm
              go_wp2
              go_loopw [18] (fun i wr => ∃ (n nd : Nat), i = .int .i64 n ∧ n ≤ 8 ∧ wr = w2.drewN nd) (fun i _ => 8 - (intOf i).toNat)
              case atStart => exact ⟨0, 0, rfl, by omega, rfl⟩
              case round =>
                obtain ⟨n, nd, rfl, hn8, rfl⟩ := hrel
                by_cases hlt : n < 8
                · obtain ⟨q, hq, hq1, hq2⟩ := HT.out n hlt
                  have HQ1 := Lib.hid hq1
                  have HQ2 := Lib.hid hq2
                  obtain ⟨t, ht⟩ : ∃ t, 64 * n = t := ⟨_, rfl⟩
                  have q1 : IntKind.i64.wrap ((n : Int) * 64) = (t : Int) := by rw [IntWalk.i64_in _ ⟨by omega, by omega⟩]; omega
                  have ht8 : t + 64 ≤ 512 := by omega
                  have HTT := Lib.hid ht
                  clear hq1 hq2 ht
                  go_upto_block 6 with fail
                  go_cut [19] (fun s wx => ∃ (k nd : Nat), s = .int .i64 k ∧ q ≤ k ∧ k ≤ 64 ∧ wx = w2.drewN nd)
                  case first =>
                    go_wp2
                    go_loopw [19] (fun s wx => ∃ (k nd : Nat), s = .int .i64 k ∧ k ≤ 64 ∧ wx = w2.drewN nd) (fun s _ => 64 - (intOf s).toNat)
                    case atStart => exact ⟨0, _, rfl, by omega, rfl⟩
                    case round =>
                      obtain ⟨k, nd2, rfl, hk64, rfl⟩ := hrel
                      by_cases hk : k < 64
                      · have hkb : decide ((k : Int) < 64) = true := decide_eq_true (by omega)
                        obtain ⟨p, hp⟩ : ∃ p, t + k = p := ⟨_, rfl⟩
                        have q2 : IntKind.i64.wrap ((t : Int) + (k : Int)) = (p : Int) := by rw [IntWalk.i64_in _ ⟨by omega, by omega⟩]; omega
                        have hp5 : p < 512 := by omega
                        have hp6 : (p : Int) < 512 := by omega
                        have hp7 : (0 : Int) ≤ (p : Int) := by omega
                        have x0 : w2.cell? ⟨gx, p, none⟩ = some (.int .u8 ((x.getD p 0).toNat : Int)) := by rw [HCX.out p hp5]; exact u8s_getD x p (by rw [HXL.out]; exact hp5)
                        have n0 : w2.cell? ⟨h0, p, none⟩ = some (.int .u8 ((N.getD p 0).toNat : Int)) := by rw [HN2.out.cell]; exact u8s_getD N p (by rw [HNL.out]; exact hp5)
                        obtain ⟨zx, hzx⟩ : ∃ z, x.getD p 0 = z := ⟨_, rfl⟩
                        obtain ⟨zn, hzn⟩ : ∃ z, N.getD p 0 = z := ⟨_, rfl⟩
                        rw [hzx] at x0
                        rw [hzn] at n0
                        have HZX := Lib.hid hzx
                        have HZN := Lib.hid hzn
                        have HPP := Lib.hid hp
                        clear hzx hzn hp
                        by_cases he : zx = zn
                        · subst he
                          go_wp2
                          refine wp_region_held_drew (S := fun wx => wx.cell? ⟨gx, p, none⟩ = some (.int .u8 (zx.toNat : Int)) ∧ wx.cell? ⟨h0, p, none⟩ = some (.int .u8 (zx.toNat : Int))) (by kernel_rfl) ⟨x0, n0⟩ (fun hHeld => ?_)
                          refine take_h 0 ⟨?_, ?_, ?_, by kernel_rfl, by kernel_rfl, by kernel_rfl, ?_, ?_, by assumption, ?_⟩
                          rotate_left 2
                          · (simp only [List.getElem?_toArray, List.getElem?_cons_zero]; exact rfl)
                          · exact fun _ _ _ h => h
                          · first
                              | (refine Or.inr ⟨by rfl, ?_⟩; exact rfl)
                              | (refine Or.inl ⟨by rfl, ?_⟩
                                 intro w hSw
                                 (try dsimp only at hSw)
                                 (try go_split_ands)
                                 go_simp
                                 (first | done | with_reducible rfl))
                          try simp only [Act.put, List.setIfInBounds_toArray, List.set_cons_zero, List.set_cons_succ]
                          refine take_h 1 ⟨?_, ?_, ?_, by kernel_rfl, by kernel_rfl, by kernel_rfl, ?_, ?_, by assumption, ?_⟩
                          rotate_left 2
                          · (simp only [List.getElem?_toArray, List.getElem?_cons_succ, List.getElem?_cons_zero]; exact rfl)
                          · exact fun _ _ _ h => h
                          · first
                              | (refine Or.inr ⟨by rfl, ?_⟩; exact rfl)
                              | (refine Or.inl ⟨by rfl, ?_⟩
                                 intro w hSw
                                 (try dsimp only at hSw)
                                 (try go_split_ands)
                                 go_simp
                                 (first | done | with_reducible rfl))
                          try simp only [Act.put, List.setIfInBounds_toArray, List.set_cons_zero, List.set_cons_succ]
                          refine take_h 2 ⟨?_, ?_, ?_, by kernel_rfl, by kernel_rfl, by kernel_rfl, ?_, ?_, by assumption, ?_⟩
                          rotate_left 2
                          · (simp only [List.getElem?_toArray, List.getElem?_cons_succ, List.getElem?_cons_zero]; exact rfl)
                          · exact fun _ _ _ h => h
                          · first
                              | (refine Or.inr ⟨by rfl, ?_⟩; exact rfl)
                              | (refine Or.inl ⟨by rfl, ?_⟩
                                 intro w hSw
                                 (try dsimp only at hSw)
                                 (try go_split_ands)
                                 go_simp
                                 (first | done | with_reducible rfl))
                          try simp only [Act.put, List.setIfInBounds_toArray, List.set_cons_zero, List.set_cons_succ]
                          refine take_h 3 ⟨?_, ?_, ?_, by kernel_rfl, by kernel_rfl, by kernel_rfl, ?_, ?_, by assumption, ?_⟩
                          rotate_left 2
                          · (simp only [List.getElem?_toArray, List.getElem?_cons_succ, List.getElem?_cons_zero]; exact rfl)
                          · exact fun _ _ _ h => h
                          · first
                              | (refine Or.inr ⟨by rfl, ?_⟩; exact rfl)
                              | (refine Or.inl ⟨by rfl, ?_⟩
                                 intro w hSw
                                 (try dsimp only at hSw)
                                 (try go_split_ands)
                                 go_simp
                                 (first | done | with_reducible rfl))
                          try simp only [Act.put, List.setIfInBounds_toArray, List.set_cons_zero, List.set_cons_succ]
                          refine take_h 4 ⟨?_, ?_, ?_, by kernel_rfl, by kernel_rfl, by kernel_rfl, ?_, ?_, by assumption, ?_⟩
                          rotate_left 2
                          · (simp only [List.getElem?_toArray, List.getElem?_cons_succ, List.getElem?_cons_zero]; exact rfl)
                          · exact fun _ _ _ h => h
                          · first
                              | (refine Or.inr ⟨by rfl, ?_⟩; exact rfl)
                              | (refine Or.inl ⟨by rfl, ?_⟩
                                 intro w hSw
                                 (try dsimp only at hSw)
                                 (try go_split_ands)
                                 go_simp
                                 (first | done | with_reducible rfl))
                          try simp only [Act.put, List.setIfInBounds_toArray, List.set_cons_zero, List.set_cons_succ]
                          refine take_h 5 ⟨?_, ?_, ?_, by kernel_rfl, by kernel_rfl, by kernel_rfl, ?_, ?_, by assumption, ?_⟩
                          rotate_left 2
                          · (simp only [List.getElem?_toArray, List.getElem?_cons_succ, List.getElem?_cons_zero]; exact rfl)
                          · exact fun _ _ _ h => h
                          · first
                              | (refine Or.inr ⟨by rfl, ?_⟩; exact rfl)
                              | (refine Or.inl ⟨by rfl, ?_⟩
                                 intro w hSw
                                 (try dsimp only at hSw)
                                 (try go_split_ands)
                                 go_simp
                                 (first | done | with_reducible rfl))
                          try simp only [Act.put, List.setIfInBounds_toArray, List.set_cons_zero, List.set_cons_succ]
                          refine take_h 6 ⟨?_, ?_, ?_, by kernel_rfl, by kernel_rfl, by kernel_rfl, ?_, ?_, by assumption, ?_⟩
                          rotate_left 2
                          · (simp only [List.getElem?_toArray, List.getElem?_cons_succ, List.getElem?_cons_zero]; exact rfl)
                          · exact fun _ _ _ h => h
                          · first
                              | (refine Or.inr ⟨by rfl, ?_⟩; exact rfl)
                              | (refine Or.inl ⟨by rfl, ?_⟩
                                 intro w hSw
                                 (try dsimp only at hSw)
                                 (try go_split_ands)
                                 go_simp
                                 (first | done | with_reducible rfl))
                          try simp only [Act.put, List.setIfInBounds_toArray, List.set_cons_zero, List.set_cons_succ]
                          refine take_h 7 ⟨?_, ?_, ?_, by kernel_rfl, by kernel_rfl, by kernel_rfl, ?_, ?_, by assumption, ?_⟩
                          rotate_left 2
                          · (simp only [List.getElem?_toArray, List.getElem?_cons_succ, List.getElem?_cons_zero]; exact rfl)
                          · exact fun _ _ _ h => h
                          · first
                              | (refine Or.inr ⟨by rfl, ?_⟩; exact rfl)
                              | (refine Or.inl ⟨by rfl, ?_⟩
                                 intro w hSw
                                 (try dsimp only at hSw)
                                 (try go_split_ands)
                                 go_simp
                                 (first | done | with_reducible rfl))
                          try simp only [Act.put, List.setIfInBounds_toArray, List.set_cons_zero, List.set_cons_succ]
                          refine take_h 8 ⟨?_, ?_, ?_, by kernel_rfl, by kernel_rfl, by kernel_rfl, ?_, ?_, by assumption, ?_⟩
                          rotate_left 2
                          · (simp only [List.getElem?_toArray, List.getElem?_cons_succ, List.getElem?_cons_zero]; exact rfl)
                          · exact fun _ _ _ h => h
                          · first
                              | (refine Or.inr ⟨by rfl, ?_⟩; exact rfl)
                              | (refine Or.inl ⟨by rfl, ?_⟩
                                 intro w hSw
                                 (try dsimp only at hSw)
                                 (try go_split_ands)
                                 go_simp
                                 (first | done | with_reducible rfl))
                          try simp only [Act.put, List.setIfInBounds_toArray, List.set_cons_zero, List.set_cons_succ]
                          refine take_h 9 ⟨?_, ?_, ?_, by kernel_rfl, by kernel_rfl, by kernel_rfl, ?_, ?_, by assumption, ?_⟩
                          rotate_left 2
                          · (simp only [List.getElem?_toArray, List.getElem?_cons_succ, List.getElem?_cons_zero]; exact rfl)
                          · exact fun _ _ _ h => h
                          · first
                              | (refine Or.inr ⟨by rfl, ?_⟩; exact rfl)
                              | (refine Or.inl ⟨by rfl, ?_⟩
                                 intro w hSw
                                 (try dsimp only at hSw)
                                 (try go_split_ands)
                                 go_simp
                                 (first | done | with_reducible rfl))
                          try simp only [Act.put, List.setIfInBounds_toArray, List.set_cons_zero, List.set_cons_succ]
                          refine take_h 10 ⟨?_, ?_, ?_, by kernel_rfl, by kernel_rfl, by kernel_rfl, ?_, ?_, by assumption, ?_⟩
                          rotate_left 2
                          · (simp only [List.getElem?_toArray, List.getElem?_cons_succ, List.getElem?_cons_zero]; exact rfl)
                          · exact fun _ _ _ h => h
                          · first
                              | (refine Or.inr ⟨by rfl, ?_⟩; exact rfl)
                              | (refine Or.inl ⟨by rfl, ?_⟩
                                 intro w hSw
                                 (try dsimp only at hSw)
                                 (try go_split_ands)
                                 go_simp
                                 (first | done | with_reducible rfl))
                          try simp only [Act.put, List.setIfInBounds_toArray, List.set_cons_zero, List.set_cons_succ]
                          refine take_h 11 ⟨?_, ?_, ?_, by kernel_rfl, by kernel_rfl, by kernel_rfl, ?_, ?_, by assumption, ?_⟩
                          rotate_left 2
                          · (simp only [List.getElem?_toArray, List.getElem?_cons_succ, List.getElem?_cons_zero]; exact rfl)
                          · exact fun _ _ _ h => h
                          · first
                              | (refine Or.inr ⟨by rfl, ?_⟩; exact rfl)
                              | (refine Or.inl ⟨by rfl, ?_⟩
                                 intro w hSw
                                 (try dsimp only at hSw)
                                 (try go_split_ands)
                                 go_simp
                                 (first | done | with_reducible rfl))
                          try simp only [Act.put, List.setIfInBounds_toArray, List.set_cons_zero, List.set_cons_succ]
                          refine take_h 12 ⟨?_, ?_, ?_, by kernel_rfl, by kernel_rfl, by kernel_rfl, ?_, ?_, by assumption, ?_⟩
                          rotate_left 2
                          · (simp only [List.getElem?_toArray, List.getElem?_cons_succ, List.getElem?_cons_zero]; exact rfl)
                          · exact fun _ _ _ h => h
                          · first
                              | (refine Or.inr ⟨by rfl, ?_⟩; exact rfl)
                              | (refine Or.inl ⟨by rfl, ?_⟩
                                 intro w hSw
                                 (try dsimp only at hSw)
                                 (try go_split_ands)
                                 go_simp
                                 (first | done | with_reducible rfl))
                          try simp only [Act.put, List.setIfInBounds_toArray, List.set_cons_zero, List.set_cons_succ]
                          refine take_h 13 ⟨?_, ?_, ?_, by kernel_rfl, by kernel_rfl, by kernel_rfl, ?_, ?_, by assumption, ?_⟩
                          rotate_left 2
                          · (simp only [List.getElem?_toArray, List.getElem?_cons_succ, List.getElem?_cons_zero]; exact rfl)
                          · exact fun _ _ _ h => h
                          · first
                              | (refine Or.inr ⟨by rfl, ?_⟩; exact rfl)
                              | (refine Or.inl ⟨by rfl, ?_⟩
                                 intro w hSw
                                 (try dsimp only at hSw)
                                 (try go_split_ands)
                                 go_simp
                                 (first | done | with_reducible rfl))
                          try simp only [Act.put, List.setIfInBounds_toArray, List.set_cons_zero, List.set_cons_succ]
                          refine take_h 14 ⟨?_, ?_, ?_, by kernel_rfl, by kernel_rfl, by kernel_rfl, ?_, ?_, by assumption, ?_⟩
                          rotate_left 2
                          · (simp only [List.getElem?_toArray, List.getElem?_cons_succ, List.getElem?_cons_zero]; exact rfl)
                          · exact fun _ _ _ h => h
                          · first
                              | (refine Or.inr ⟨by rfl, ?_⟩; exact rfl)
                              | (refine Or.inl ⟨by rfl, ?_⟩
                                 intro w hSw
                                 (try dsimp only at hSw)
                                 (try go_split_ands)
                                 go_simp
                                 (first | done | with_reducible rfl))
                          try simp only [Act.put, List.setIfInBounds_toArray, List.set_cons_zero, List.set_cons_succ]
                          refine take_h 15 ⟨?_, ?_, ?_, by kernel_rfl, by kernel_rfl, by kernel_rfl, ?_, ?_, by assumption, ?_⟩
                          rotate_left 2
                          · (simp only [List.getElem?_toArray, List.getElem?_cons_succ, List.getElem?_cons_zero]; exact rfl)
                          · exact fun _ _ _ h => h
                          · first
                              | (refine Or.inr ⟨by rfl, ?_⟩; exact rfl)
                              | (refine Or.inl ⟨by rfl, ?_⟩
                                 intro w hSw
                                 (try dsimp only at hSw)
                                 (try go_split_ands)
                                 go_simp
                                 (first | done | with_reducible rfl))
                          try simp only [Act.put, List.setIfInBounds_toArray, List.set_cons_zero, List.set_cons_succ]
                          refine take_h 16 ⟨?_, ?_, ?_, by kernel_rfl, by kernel_rfl, by kernel_rfl, ?_, ?_, by assumption, ?_⟩
                          rotate_left 2
                          · (simp only [List.getElem?_toArray, List.getElem?_cons_succ, List.getElem?_cons_zero]; exact rfl)
                          · exact fun _ _ _ h => h
                          · first
                              | (refine Or.inr ⟨by rfl, ?_⟩; exact rfl)
                              | (refine Or.inl ⟨by rfl, ?_⟩
                                 intro w hSw
                                 (try dsimp only at hSw)
                                 (try go_split_ands)
                                 go_simp
                                 (first | done | with_reducible rfl))
                          try simp only [Act.put, List.setIfInBounds_toArray, List.set_cons_zero, List.set_cons_succ]
                          refine take_h 17 ⟨?_, ?_, ?_, by kernel_rfl, by kernel_rfl, by kernel_rfl, ?_, ?_, by assumption, ?_⟩
                          rotate_left 2
                          · (simp only [List.getElem?_toArray, List.getElem?_cons_succ, List.getElem?_cons_zero]; exact rfl)
                          · exact fun _ _ _ h => h
                          · first
                              | (refine Or.inr ⟨by rfl, ?_⟩; exact rfl)
                              | (refine Or.inl ⟨by rfl, ?_⟩
                                 intro w hSw
                                 (try dsimp only at hSw)
                                 (try go_split_ands)
                                 go_simp
                                 (first | done | with_reducible rfl))
                          try simp only [Act.put, List.setIfInBounds_toArray, List.set_cons_zero, List.set_cons_succ]
                          refine take_h 18 ⟨?_, ?_, ?_, by kernel_rfl, by kernel_rfl, by kernel_rfl, ?_, ?_, by assumption, ?_⟩
                          rotate_left 2
                          · (simp only [List.getElem?_toArray, List.getElem?_cons_succ, List.getElem?_cons_zero]; exact rfl)
                          · exact fun _ _ _ h => h
                          · first
                              | (refine Or.inr ⟨by rfl, ?_⟩; exact rfl)
                              | (refine Or.inl ⟨by rfl, ?_⟩
                                 intro w hSw
                                 (try dsimp only at hSw)
                                 (try go_split_ands)
                                 go_simp
                                 (first | done | with_reducible rfl))
                          try simp only [Act.put, List.setIfInBounds_toArray, List.set_cons_zero, List.set_cons_succ]
                          refine wpAnyH_done (by kernel_rfl) ?_ _
                          clear hHeld
                          go_wp2
                          go_roundw
                          case rel => exact ⟨k + 1, nd2 + 1, by go_num, by omega, rfl⟩
                          case measure => simp [intOf]; omega
                        · have hqk : q ≤ k := by
                            rcases Nat.lt_or_ge k q with h | h
                            · exfalso
                              apply he
                              have h1 := HQ1.out k h
                              rw [show 64 * n + k = p by rw [HTT.out]; exact HPP.out] at h1
                              rw [← HZX.out, ← HZN.out, List.getD_eq_getElem?_getD, List.getD_eq_getElem?_getD, h1]
                            · exact h
                          have hne : ((zx.toNat : Int) == (zn.toNat : Int)) = false := beq_eq_false_iff_ne.2 (fun h => he (UInt8.toNat_inj.1 (by omega)))
                          clear he
                          go_wp2
                          refine wp_region_held_drew (S := fun wx => wx.cell? ⟨gx, p, none⟩ = some (.int .u8 (zx.toNat : Int)) ∧ wx.cell? ⟨h0, p, none⟩ = some (.int .u8 (zn.toNat : Int))) (by kernel_rfl) ⟨x0, n0⟩ (fun hHeld => ?_)
                          refine take_h 0 ⟨?_, ?_, ?_, by kernel_rfl, by kernel_rfl, by kernel_rfl, ?_, ?_, by assumption, ?_⟩
                          rotate_left 2
                          · (simp only [List.getElem?_toArray, List.getElem?_cons_zero]; exact rfl)
                          · exact fun _ _ _ h => h
                          · first
                              | (refine Or.inr ⟨by rfl, ?_⟩; exact rfl)
                              | (refine Or.inl ⟨by rfl, ?_⟩
                                 intro w hSw
                                 (try dsimp only at hSw)
                                 (try go_split_ands)
                                 go_simp
                                 (first | done | with_reducible rfl))
                          try simp only [Act.put, List.setIfInBounds_toArray, List.set_cons_zero, List.set_cons_succ]
                          refine take_h 1 ⟨?_, ?_, ?_, by kernel_rfl, by kernel_rfl, by kernel_rfl, ?_, ?_, by assumption, ?_⟩
                          rotate_left 2
                          · (simp only [List.getElem?_toArray, List.getElem?_cons_succ, List.getElem?_cons_zero]; exact rfl)
                          · exact fun _ _ _ h => h
                          · first
                              | (refine Or.inr ⟨by rfl, ?_⟩; exact rfl)
                              | (refine Or.inl ⟨by rfl, ?_⟩
                                 intro w hSw
                                 (try dsimp only at hSw)
                                 (try go_split_ands)
                                 go_simp
                                 (first | done | with_reducible rfl))
                          try simp only [Act.put, List.setIfInBounds_toArray, List.set_cons_zero, List.set_cons_succ]
                          refine take_h 2 ⟨?_, ?_, ?_, by kernel_rfl, by kernel_rfl, by kernel_rfl, ?_, ?_, by assumption, ?_⟩
                          rotate_left 2
                          · (simp only [List.getElem?_toArray, List.getElem?_cons_succ, List.getElem?_cons_zero]; exact rfl)
                          · exact fun _ _ _ h => h
                          · first
                              | (refine Or.inr ⟨by rfl, ?_⟩; exact rfl)
                              | (refine Or.inl ⟨by rfl, ?_⟩
                                 intro w hSw
                                 (try dsimp only at hSw)
                                 (try go_split_ands)
                                 go_simp
                                 (first | done | with_reducible rfl))
                          try simp only [Act.put, List.setIfInBounds_toArray, List.set_cons_zero, List.set_cons_succ]
                          refine take_h 3 ⟨?_, ?_, ?_, by kernel_rfl, by kernel_rfl, by kernel_rfl, ?_, ?_, by assumption, ?_⟩
                          rotate_left 2
                          · (simp only [List.getElem?_toArray, List.getElem?_cons_succ, List.getElem?_cons_zero]; exact rfl)
                          · exact fun _ _ _ h => h
                          · first
                              | (refine Or.inr ⟨by rfl, ?_⟩; exact rfl)
                              | (refine Or.inl ⟨by rfl, ?_⟩
                                 intro w hSw
                                 (try dsimp only at hSw)
                                 (try go_split_ands)
                                 go_simp
                                 (first | done | with_reducible rfl))
                          try simp only [Act.put, List.setIfInBounds_toArray, List.set_cons_zero, List.set_cons_succ]
                          refine take_h 4 ⟨?_, ?_, ?_, by kernel_rfl, by kernel_rfl, by kernel_rfl, ?_, ?_, by assumption, ?_⟩
                          rotate_left 2
                          · (simp only [List.getElem?_toArray, List.getElem?_cons_succ, List.getElem?_cons_zero]; exact rfl)
                          · exact fun _ _ _ h => h
                          · first
                              | (refine Or.inr ⟨by rfl, ?_⟩; exact rfl)
                              | (refine Or.inl ⟨by rfl, ?_⟩
                                 intro w hSw
                                 (try dsimp only at hSw)
                                 (try go_split_ands)
                                 go_simp
                                 (first | done | with_reducible rfl))
                          try simp only [Act.put, List.setIfInBounds_toArray, List.set_cons_zero, List.set_cons_succ]
                          refine take_h 5 ⟨?_, ?_, ?_, by kernel_rfl, by kernel_rfl, by kernel_rfl, ?_, ?_, by assumption, ?_⟩
                          rotate_left 2
                          · (simp only [List.getElem?_toArray, List.getElem?_cons_succ, List.getElem?_cons_zero]; exact rfl)
                          · exact fun _ _ _ h => h
                          · first
                              | (refine Or.inr ⟨by rfl, ?_⟩; exact rfl)
                              | (refine Or.inl ⟨by rfl, ?_⟩
                                 intro w hSw
                                 (try dsimp only at hSw)
                                 (try go_split_ands)
                                 go_simp
                                 (first | done | with_reducible rfl))
                          try simp only [Act.put, List.setIfInBounds_toArray, List.set_cons_zero, List.set_cons_succ]
                          refine take_h 6 ⟨?_, ?_, ?_, by kernel_rfl, by kernel_rfl, by kernel_rfl, ?_, ?_, by assumption, ?_⟩
                          rotate_left 2
                          · (simp only [List.getElem?_toArray, List.getElem?_cons_succ, List.getElem?_cons_zero]; exact rfl)
                          · exact fun _ _ _ h => h
                          · first
                              | (refine Or.inr ⟨by rfl, ?_⟩; exact rfl)
                              | (refine Or.inl ⟨by rfl, ?_⟩
                                 intro w hSw
                                 (try dsimp only at hSw)
                                 (try go_split_ands)
                                 go_simp
                                 (first | done | with_reducible rfl))
                          try simp only [Act.put, List.setIfInBounds_toArray, List.set_cons_zero, List.set_cons_succ]
                          refine take_h 7 ⟨?_, ?_, ?_, by kernel_rfl, by kernel_rfl, by kernel_rfl, ?_, ?_, by assumption, ?_⟩
                          rotate_left 2
                          · (simp only [List.getElem?_toArray, List.getElem?_cons_succ, List.getElem?_cons_zero]; exact rfl)
                          · exact fun _ _ _ h => h
                          · first
                              | (refine Or.inr ⟨by rfl, ?_⟩; exact rfl)
                              | (refine Or.inl ⟨by rfl, ?_⟩
                                 intro w hSw
                                 (try dsimp only at hSw)
                                 (try go_split_ands)
                                 go_simp
                                 (first | done | with_reducible rfl))
                          try simp only [Act.put, List.setIfInBounds_toArray, List.set_cons_zero, List.set_cons_succ]
                          refine take_h 8 ⟨?_, ?_, ?_, by kernel_rfl, by kernel_rfl, by kernel_rfl, ?_, ?_, by assumption, ?_⟩
                          rotate_left 2
                          · (simp only [List.getElem?_toArray, List.getElem?_cons_succ, List.getElem?_cons_zero]; exact rfl)
                          · exact fun _ _ _ h => h
                          · first
                              | (refine Or.inr ⟨by rfl, ?_⟩; exact rfl)
                              | (refine Or.inl ⟨by rfl, ?_⟩
                                 intro w hSw
                                 (try dsimp only at hSw)
                                 (try go_split_ands)
                                 go_simp
                                 (first | done | with_reducible rfl))
                          try simp only [Act.put, List.setIfInBounds_toArray, List.set_cons_zero, List.set_cons_succ]
                          refine take_h 9 ⟨?_, ?_, ?_, by kernel_rfl, by kernel_rfl, by kernel_rfl, ?_, ?_, by assumption, ?_⟩
                          rotate_left 2
                          · (simp only [List.getElem?_toArray, List.getElem?_cons_succ, List.getElem?_cons_zero]; exact rfl)
                          · exact fun _ _ _ h => h
                          · first
                              | (refine Or.inr ⟨by rfl, ?_⟩; exact rfl)
                              | (refine Or.inl ⟨by rfl, ?_⟩
                                 intro w hSw
                                 (try dsimp only at hSw)
                                 (try go_split_ands)
                                 go_simp
                                 (first | done | with_reducible rfl))
                          try simp only [Act.put, List.setIfInBounds_toArray, List.set_cons_zero, List.set_cons_succ]
                          refine take_h 10 ⟨?_, ?_, ?_, by kernel_rfl, by kernel_rfl, by kernel_rfl, ?_, ?_, by assumption, ?_⟩
                          rotate_left 2
                          · (simp only [List.getElem?_toArray, List.getElem?_cons_succ, List.getElem?_cons_zero]; exact rfl)
                          · exact fun _ _ _ h => h
                          · first
                              | (refine Or.inr ⟨by rfl, ?_⟩; exact rfl)
                              | (refine Or.inl ⟨by rfl, ?_⟩
                                 intro w hSw
                                 (try dsimp only at hSw)
                                 (try go_split_ands)
                                 go_simp
                                 (first | done | with_reducible rfl))
                          try simp only [Act.put, List.setIfInBounds_toArray, List.set_cons_zero, List.set_cons_succ]
                          refine take_h 11 ⟨?_, ?_, ?_, by kernel_rfl, by kernel_rfl, by kernel_rfl, ?_, ?_, by assumption, ?_⟩
                          rotate_left 2
                          · (simp only [List.getElem?_toArray, List.getElem?_cons_succ, List.getElem?_cons_zero]; exact rfl)
                          · exact fun _ _ _ h => h
                          · first
                              | (refine Or.inr ⟨by rfl, ?_⟩; exact rfl)
                              | (refine Or.inl ⟨by rfl, ?_⟩
                                 intro w hSw
                                 (try dsimp only at hSw)
                                 (try go_split_ands)
                                 go_simp
                                 (first | done | with_reducible rfl))
                          try simp only [Act.put, List.setIfInBounds_toArray, List.set_cons_zero, List.set_cons_succ]
                          refine take_h 12 ⟨?_, ?_, ?_, by kernel_rfl, by kernel_rfl, by kernel_rfl, ?_, ?_, by assumption, ?_⟩
                          rotate_left 2
                          · (simp only [List.getElem?_toArray, List.getElem?_cons_succ, List.getElem?_cons_zero]; exact rfl)
                          · exact fun _ _ _ h => h
                          · first
                              | (refine Or.inr ⟨by rfl, ?_⟩; exact rfl)
                              | (refine Or.inl ⟨by rfl, ?_⟩
                                 intro w hSw
                                 (try dsimp only at hSw)
                                 (try go_split_ands)
                                 go_simp
                                 (first | done | with_reducible rfl))
                          try simp only [Act.put, List.setIfInBounds_toArray, List.set_cons_zero, List.set_cons_succ]
                          refine take_h 13 ⟨?_, ?_, ?_, by kernel_rfl, by kernel_rfl, by kernel_rfl, ?_, ?_, by assumption, ?_⟩
                          rotate_left 2
                          · (simp only [List.getElem?_toArray, List.getElem?_cons_succ, List.getElem?_cons_zero]; exact rfl)
                          · exact fun _ _ _ h => h
                          · first
                              | (refine Or.inr ⟨by rfl, ?_⟩; exact rfl)
                              | (refine Or.inl ⟨by rfl, ?_⟩
                                 intro w hSw
                                 (try dsimp only at hSw)
                                 (try go_split_ands)
                                 go_simp
                                 (first | done | with_reducible rfl))
                          try simp only [Act.put, List.setIfInBounds_toArray, List.set_cons_zero, List.set_cons_succ]
                          refine take_h 14 ⟨?_, ?_, ?_, by kernel_rfl, by kernel_rfl, by kernel_rfl, ?_, ?_, by assumption, ?_⟩
                          rotate_left 2
                          · (simp only [List.getElem?_toArray, List.getElem?_cons_succ, List.getElem?_cons_zero]; exact rfl)
                          · exact fun _ _ _ h => h
                          · first
                              | (refine Or.inr ⟨by rfl, ?_⟩; exact rfl)
                              | (refine Or.inl ⟨by rfl, ?_⟩
                                 intro w hSw
                                 (try dsimp only at hSw)
                                 (try go_split_ands)
                                 go_simp
                                 (first | done | with_reducible rfl))
                          try simp only [Act.put, List.setIfInBounds_toArray, List.set_cons_zero, List.set_cons_succ]
                          refine take_h 15 ⟨?_, ?_, ?_, by kernel_rfl, by kernel_rfl, by kernel_rfl, ?_, ?_, by assumption, ?_⟩
                          rotate_left 2
                          · (simp only [List.getElem?_toArray, List.getElem?_cons_succ, List.getElem?_cons_zero]; exact rfl)
                          · exact fun _ _ _ h => h
                          · first
                              | (refine Or.inr ⟨by rfl, ?_⟩; exact rfl)
                              | (refine Or.inl ⟨by rfl, ?_⟩
                                 intro w hSw
                                 (try dsimp only at hSw)
                                 (try go_split_ands)
                                 go_simp
                                 (first | done | with_reducible rfl))
                          try simp only [Act.put, List.setIfInBounds_toArray, List.set_cons_zero, List.set_cons_succ]
                          refine take_h 16 ⟨?_, ?_, ?_, by kernel_rfl, by kernel_rfl, by kernel_rfl, ?_, ?_, by assumption, ?_⟩
                          rotate_left 2
                          · (simp only [List.getElem?_toArray, List.getElem?_cons_succ, List.getElem?_cons_zero]; exact rfl)
                          · exact fun _ _ _ h => h
                          · first
                              | (refine Or.inr ⟨by rfl, ?_⟩; exact rfl)
                              | (refine Or.inl ⟨by rfl, ?_⟩
                                 intro w hSw
                                 (try dsimp only at hSw)
                                 (try go_split_ands)
                                 go_simp
                                 (first | done | with_reducible rfl))
                          try simp only [Act.put, List.setIfInBounds_toArray, List.set_cons_zero, List.set_cons_succ]
                          refine take_h 17 ⟨?_, ?_, ?_, by kernel_rfl, by kernel_rfl, by kernel_rfl, ?_, ?_, by assumption, ?_⟩
                          rotate_left 2
                          · (simp only [List.getElem?_toArray, List.getElem?_cons_succ, List.getElem?_cons_zero]; exact rfl)
                          · exact fun _ _ _ h => h
                          · first
                              | (refine Or.inr ⟨by rfl, ?_⟩; exact rfl)
                              | (refine Or.inl ⟨by rfl, ?_⟩
                                 intro w hSw
                                 (try dsimp only at hSw)
                                 (try go_split_ands)
                                 go_simp
                                 (first | done | with_reducible rfl))
                          try simp only [Act.put, List.setIfInBounds_toArray, List.set_cons_zero, List.set_cons_succ]
                          refine take_h 18 ⟨?_, ?_, ?_, by kernel_rfl, by kernel_rfl, by kernel_rfl, ?_, ?_, by assumption, ?_⟩
                          rotate_left 2
                          · (simp only [List.getElem?_toArray, List.getElem?_cons_succ, List.getElem?_cons_zero]; exact rfl)
                          · exact fun _ _ _ h => h
                          · first
                              | (refine Or.inr ⟨by rfl, ?_⟩; exact rfl)
                              | (refine Or.inl ⟨by rfl, ?_⟩
                                 intro w hSw
                                 (try dsimp only at hSw)
                                 (try go_split_ands)
                                 go_simp
                                 (first | done | with_reducible rfl))
                          try simp only [Act.put, List.setIfInBounds_toArray, List.set_cons_zero, List.set_cons_succ]
                          refine wpAnyH_done (by kernel_rfl) ?_ _
                          clear hHeld
                          go_wp2
                          go_meet
                          exact ⟨k, nd2 + 1, rfl, hqk, by omega, rfl⟩
                      · have hkb : decide ((k : Int) < 64) = false := decide_eq_false (by omega)
                        go_wp2
                        refine wp_region_held_drew (S := fun wx => True) (by kernel_rfl) trivial (fun hHeld => ?_)
                        refine take_h 0 ⟨?_, ?_, ?_, by kernel_rfl, by kernel_rfl, by kernel_rfl, ?_, ?_, by assumption, ?_⟩
                        rotate_left 2
                        · (simp only [List.getElem?_toArray, List.getElem?_cons_zero]; exact rfl)
                        · exact fun _ _ _ h => h
                        · first
                            | (refine Or.inr ⟨by rfl, ?_⟩; exact rfl)
                            | (refine Or.inl ⟨by rfl, ?_⟩
                               intro w hSw
                               (try dsimp only at hSw)
                               (try go_split_ands)
                               go_simp
                               (first | done | with_reducible rfl))
                        try simp only [Act.put, List.setIfInBounds_toArray, List.set_cons_zero, List.set_cons_succ]
                        refine take_h 1 ⟨?_, ?_, ?_, by kernel_rfl, by kernel_rfl, by kernel_rfl, ?_, ?_, by assumption, ?_⟩
                        rotate_left 2
                        · (simp only [List.getElem?_toArray, List.getElem?_cons_succ, List.getElem?_cons_zero]; exact rfl)
                        · exact fun _ _ _ h => h
                        · first
                            | (refine Or.inr ⟨by rfl, ?_⟩; exact rfl)
                            | (refine Or.inl ⟨by rfl, ?_⟩
                               intro w hSw
                               (try dsimp only at hSw)
                               (try go_split_ands)
                               go_simp
                               (first | done | with_reducible rfl))
                        try simp only [Act.put, List.setIfInBounds_toArray, List.set_cons_zero, List.set_cons_succ]
                        refine take_h 2 ⟨?_, ?_, ?_, by kernel_rfl, by kernel_rfl, by kernel_rfl, ?_, ?_, by assumption, ?_⟩
                        rotate_left 2
                        · (simp only [List.getElem?_toArray, List.getElem?_cons_succ, List.getElem?_cons_zero]; exact rfl)
                        · exact fun _ _ _ h => h
                        · first
                            | (refine Or.inr ⟨by rfl, ?_⟩; exact rfl)
                            | (refine Or.inl ⟨by rfl, ?_⟩
                               intro w hSw
                               (try dsimp only at hSw)
                               (try go_split_ands)
                               go_simp
                               (first | done | with_reducible rfl))
                        try simp only [Act.put, List.setIfInBounds_toArray, List.set_cons_zero, List.set_cons_succ]
                        refine take_h 3 ⟨?_, ?_, ?_, by kernel_rfl, by kernel_rfl, by kernel_rfl, ?_, ?_, by assumption, ?_⟩
                        rotate_left 2
                        · (simp only [List.getElem?_toArray, List.getElem?_cons_succ, List.getElem?_cons_zero]; exact rfl)
                        · exact fun _ _ _ h => h
                        · first
                            | (refine Or.inr ⟨by rfl, ?_⟩; exact rfl)
                            | (refine Or.inl ⟨by rfl, ?_⟩
                               intro w hSw
                               (try dsimp only at hSw)
                               (try go_split_ands)
                               go_simp
                               (first | done | with_reducible rfl))
                        try simp only [Act.put, List.setIfInBounds_toArray, List.set_cons_zero, List.set_cons_succ]
                        refine take_h 4 ⟨?_, ?_, ?_, by kernel_rfl, by kernel_rfl, by kernel_rfl, ?_, ?_, by assumption, ?_⟩
                        rotate_left 2
                        · (simp only [List.getElem?_toArray, List.getElem?_cons_succ, List.getElem?_cons_zero]; exact rfl)
                        · exact fun _ _ _ h => h
                        · first
                            | (refine Or.inr ⟨by rfl, ?_⟩; exact rfl)
                            | (refine Or.inl ⟨by rfl, ?_⟩
                               intro w hSw
                               (try dsimp only at hSw)
                               (try go_split_ands)
                               go_simp
                               (first | done | with_reducible rfl))
                        try simp only [Act.put, List.setIfInBounds_toArray, List.set_cons_zero, List.set_cons_succ]
                        refine take_h 5 ⟨?_, ?_, ?_, by kernel_rfl, by kernel_rfl, by kernel_rfl, ?_, ?_, by assumption, ?_⟩
                        rotate_left 2
                        · (simp only [List.getElem?_toArray, List.getElem?_cons_succ, List.getElem?_cons_zero]; exact rfl)
                        · exact fun _ _ _ h => h
                        · first
                            | (refine Or.inr ⟨by rfl, ?_⟩; exact rfl)
                            | (refine Or.inl ⟨by rfl, ?_⟩
                               intro w hSw
                               (try dsimp only at hSw)
                               (try go_split_ands)
                               go_simp
                               (first | done | with_reducible rfl))
                        try simp only [Act.put, List.setIfInBounds_toArray, List.set_cons_zero, List.set_cons_succ]
                        refine take_h 6 ⟨?_, ?_, ?_, by kernel_rfl, by kernel_rfl, by kernel_rfl, ?_, ?_, by assumption, ?_⟩
                        rotate_left 2
                        · (simp only [List.getElem?_toArray, List.getElem?_cons_succ, List.getElem?_cons_zero]; exact rfl)
                        · exact fun _ _ _ h => h
                        · first
                            | (refine Or.inr ⟨by rfl, ?_⟩; exact rfl)
                            | (refine Or.inl ⟨by rfl, ?_⟩
                               intro w hSw
                               (try dsimp only at hSw)
                               (try go_split_ands)
                               go_simp
                               (first | done | with_reducible rfl))
                        try simp only [Act.put, List.setIfInBounds_toArray, List.set_cons_zero, List.set_cons_succ]
                        refine take_h 7 ⟨?_, ?_, ?_, by kernel_rfl, by kernel_rfl, by kernel_rfl, ?_, ?_, by assumption, ?_⟩
                        rotate_left 2
                        · (simp only [List.getElem?_toArray, List.getElem?_cons_succ, List.getElem?_cons_zero]; exact rfl)
                        · exact fun _ _ _ h => h
                        · first
                            | (refine Or.inr ⟨by rfl, ?_⟩; exact rfl)
                            | (refine Or.inl ⟨by rfl, ?_⟩
                               intro w hSw
                               (try dsimp only at hSw)
                               (try go_split_ands)
                               go_simp
                               (first | done | with_reducible rfl))
                        try simp only [Act.put, List.setIfInBounds_toArray, List.set_cons_zero, List.set_cons_succ]
                        refine take_h 8 ⟨?_, ?_, ?_, by kernel_rfl, by kernel_rfl, by kernel_rfl, ?_, ?_, by assumption, ?_⟩
                        rotate_left 2
                        · (simp only [List.getElem?_toArray, List.getElem?_cons_succ, List.getElem?_cons_zero]; exact rfl)
                        · exact fun _ _ _ h => h
                        · first
                            | (refine Or.inr ⟨by rfl, ?_⟩; exact rfl)
                            | (refine Or.inl ⟨by rfl, ?_⟩
                               intro w hSw
                               (try dsimp only at hSw)
                               (try go_split_ands)
                               go_simp
                               (first | done | with_reducible rfl))
                        try simp only [Act.put, List.setIfInBounds_toArray, List.set_cons_zero, List.set_cons_succ]
                        refine take_h 9 ⟨?_, ?_, ?_, by kernel_rfl, by kernel_rfl, by kernel_rfl, ?_, ?_, by assumption, ?_⟩
                        rotate_left 2
                        · (simp only [List.getElem?_toArray, List.getElem?_cons_succ, List.getElem?_cons_zero]; exact rfl)
                        · exact fun _ _ _ h => h
                        · first
                            | (refine Or.inr ⟨by rfl, ?_⟩; exact rfl)
                            | (refine Or.inl ⟨by rfl, ?_⟩
                               intro w hSw
                               (try dsimp only at hSw)
                               (try go_split_ands)
                               go_simp
                               (first | done | with_reducible rfl))
                        try simp only [Act.put, List.setIfInBounds_toArray, List.set_cons_zero, List.set_cons_succ]
                        refine take_h 10 ⟨?_, ?_, ?_, by kernel_rfl, by kernel_rfl, by kernel_rfl, ?_, ?_, by assumption, ?_⟩
                        rotate_left 2
                        · (simp only [List.getElem?_toArray, List.getElem?_cons_succ, List.getElem?_cons_zero]; exact rfl)
                        · exact fun _ _ _ h => h
                        · first
                            | (refine Or.inr ⟨by rfl, ?_⟩; exact rfl)
                            | (refine Or.inl ⟨by rfl, ?_⟩
                               intro w hSw
                               (try dsimp only at hSw)
                               (try go_split_ands)
                               go_simp
                               (first | done | with_reducible rfl))
                        try simp only [Act.put, List.setIfInBounds_toArray, List.set_cons_zero, List.set_cons_succ]
                        refine take_h 11 ⟨?_, ?_, ?_, by kernel_rfl, by kernel_rfl, by kernel_rfl, ?_, ?_, by assumption, ?_⟩
                        rotate_left 2
                        · (simp only [List.getElem?_toArray, List.getElem?_cons_succ, List.getElem?_cons_zero]; exact rfl)
                        · exact fun _ _ _ h => h
                        · first
                            | (refine Or.inr ⟨by rfl, ?_⟩; exact rfl)
                            | (refine Or.inl ⟨by rfl, ?_⟩
                               intro w hSw
                               (try dsimp only at hSw)
                               (try go_split_ands)
                               go_simp
                               (first | done | with_reducible rfl))
                        try simp only [Act.put, List.setIfInBounds_toArray, List.set_cons_zero, List.set_cons_succ]
                        refine take_h 12 ⟨?_, ?_, ?_, by kernel_rfl, by kernel_rfl, by kernel_rfl, ?_, ?_, by assumption, ?_⟩
                        rotate_left 2
                        · (simp only [List.getElem?_toArray, List.getElem?_cons_succ, List.getElem?_cons_zero]; exact rfl)
                        · exact fun _ _ _ h => h
                        · first
                            | (refine Or.inr ⟨by rfl, ?_⟩; exact rfl)
                            | (refine Or.inl ⟨by rfl, ?_⟩
                               intro w hSw
                               (try dsimp only at hSw)
                               (try go_split_ands)
                               go_simp
                               (first | done | with_reducible rfl))
                        try simp only [Act.put, List.setIfInBounds_toArray, List.set_cons_zero, List.set_cons_succ]
                        refine take_h 13 ⟨?_, ?_, ?_, by kernel_rfl, by kernel_rfl, by kernel_rfl, ?_, ?_, by assumption, ?_⟩
                        rotate_left 2
                        · (simp only [List.getElem?_toArray, List.getElem?_cons_succ, List.getElem?_cons_zero]; exact rfl)
                        · exact fun _ _ _ h => h
                        · first
                            | (refine Or.inr ⟨by rfl, ?_⟩; exact rfl)
                            | (refine Or.inl ⟨by rfl, ?_⟩
                               intro w hSw
                               (try dsimp only at hSw)
                               (try go_split_ands)
                               go_simp
                               (first | done | with_reducible rfl))
                        try simp only [Act.put, List.setIfInBounds_toArray, List.set_cons_zero, List.set_cons_succ]
                        refine take_h 14 ⟨?_, ?_, ?_, by kernel_rfl, by kernel_rfl, by kernel_rfl, ?_, ?_, by assumption, ?_⟩
                        rotate_left 2
                        · (simp only [List.getElem?_toArray, List.getElem?_cons_succ, List.getElem?_cons_zero]; exact rfl)
                        · exact fun _ _ _ h => h
                        · first
                            | (refine Or.inr ⟨by rfl, ?_⟩; exact rfl)
                            | (refine Or.inl ⟨by rfl, ?_⟩
                               intro w hSw
                               (try dsimp only at hSw)
                               (try go_split_ands)
                               go_simp
                               (first | done | with_reducible rfl))
                        try simp only [Act.put, List.setIfInBounds_toArray, List.set_cons_zero, List.set_cons_succ]
                        refine take_h 15 ⟨?_, ?_, ?_, by kernel_rfl, by kernel_rfl, by kernel_rfl, ?_, ?_, by assumption, ?_⟩
                        rotate_left 2
                        · (simp only [List.getElem?_toArray, List.getElem?_cons_succ, List.getElem?_cons_zero]; exact rfl)
                        · exact fun _ _ _ h => h
                        · first
                            | (refine Or.inr ⟨by rfl, ?_⟩; exact rfl)
                            | (refine Or.inl ⟨by rfl, ?_⟩
                               intro w hSw
                               (try dsimp only at hSw)
                               (try go_split_ands)
                               go_simp
                               (first | done | with_reducible rfl))
                        try simp only [Act.put, List.setIfInBounds_toArray, List.set_cons_zero, List.set_cons_succ]
                        refine take_h 16 ⟨?_, ?_, ?_, by kernel_rfl, by kernel_rfl, by kernel_rfl, ?_, ?_, by assumption, ?_⟩
                        rotate_left 2
                        · (simp only [List.getElem?_toArray, List.getElem?_cons_succ, List.getElem?_cons_zero]; exact rfl)
                        · exact fun _ _ _ h => h
                        · first
                            | (refine Or.inr ⟨by rfl, ?_⟩; exact rfl)
                            | (refine Or.inl ⟨by rfl, ?_⟩
                               intro w hSw
                               (try dsimp only at hSw)
                               (try go_split_ands)
                               go_simp
                               (first | done | with_reducible rfl))
                        try simp only [Act.put, List.setIfInBounds_toArray, List.set_cons_zero, List.set_cons_succ]
                        refine take_h 17 ⟨?_, ?_, ?_, by kernel_rfl, by kernel_rfl, by kernel_rfl, ?_, ?_, by assumption, ?_⟩
                        rotate_left 2
                        · (simp only [List.getElem?_toArray, List.getElem?_cons_succ, List.getElem?_cons_zero]; exact rfl)
                        · exact fun _ _ _ h => h
                        · first
                            | (refine Or.inr ⟨by rfl, ?_⟩; exact rfl)
                            | (refine Or.inl ⟨by rfl, ?_⟩
                               intro w hSw
                               (try dsimp only at hSw)
                               (try go_split_ands)
                               go_simp
                               (first | done | with_reducible rfl))
                        try simp only [Act.put, List.setIfInBounds_toArray, List.set_cons_zero, List.set_cons_succ]
                        refine take_h 18 ⟨?_, ?_, ?_, by kernel_rfl, by kernel_rfl, by kernel_rfl, ?_, ?_, by assumption, ?_⟩
                        rotate_left 2
                        · (simp only [List.getElem?_toArray, List.getElem?_cons_succ, List.getElem?_cons_zero]; exact rfl)
                        · exact fun _ _ _ h => h
                        · first
                            | (refine Or.inr ⟨by rfl, ?_⟩; exact rfl)
                            | (refine Or.inl ⟨by rfl, ?_⟩
                               intro w hSw
                               (try dsimp only at hSw)
                               (try go_split_ands)
                               go_simp
                               (first | done | with_reducible rfl))
                        try simp only [Act.put, List.setIfInBounds_toArray, List.set_cons_zero, List.set_cons_succ]
                        refine wpAnyH_done (by kernel_rfl) ?_ _
                        clear hHeld
                        go_wp2
                        go_meet
                        exact ⟨k, nd2 + 1, rfl, by omega, by omega, rfl⟩
                  case rest =>
                    obtain ⟨k0, nd3, rfl, hk0, hk1, rfl⟩ := hcut
                    go_wp2
                    go_loopw [19] (fun s wx => ∃ (k nd : Nat), s = .int .i64 k ∧ q ≤ k ∧ k ≤ 64 ∧ wx = w2.drewN nd) (fun s _ => 64 - (intOf s).toNat)
                    case atStart => exact ⟨k0, _, rfl, hk0, hk1, rfl⟩
                    case round =>
                      obtain ⟨k, nd2, rfl, hqk, hk64, rfl⟩ := hrel
                      by_cases hk : k < 64
                      · obtain ⟨p, hp⟩ : ∃ p, t + k = p := ⟨_, rfl⟩
                        have q2 : IntKind.i64.wrap ((t : Int) + (k : Int)) = (p : Int) := by rw [IntWalk.i64_in _ ⟨by omega, by omega⟩]; omega
                        have hp5 : p < 512 := by omega
                        have hp6 : (p : Int) < 512 := by omega
                        have hp7 : (0 : Int) ≤ (p : Int) := by omega
                        have x0 : w2.cell? ⟨gx, p, none⟩ = some (.int .u8 ((x.getD p 0).toNat : Int)) := by rw [HCX.out p hp5]; exact u8s_getD x p (by rw [HXL.out]; exact hp5)
                        have n0 : w2.cell? ⟨g, p, none⟩ = some (.int .u8 ((x.getD p 0).toNat : Int)) := by
                          have h1 := HQ2.out k hqk hk
                          rw [show 64 * n + k = p by rw [HTT.out]; exact hp] at h1
                          rw [HK2.out p hp5, u8s_getD Kp p (by rw [HKPL.out]; exact hp5), List.getD_eq_getElem?_getD, List.getD_eq_getElem?_getD, h1]
                        obtain ⟨zx, hzx⟩ : ∃ z, x.getD p 0 = z := ⟨_, rfl⟩
                        rw [hzx] at x0 n0
                        clear hzx hp
                        go_wp2
                        refine wp_region_held_drew (S := fun wx => wx.cell? ⟨gx, p, none⟩ = some (.int .u8 (zx.toNat : Int)) ∧ wx.cell? ⟨g, p, none⟩ = some (.int .u8 (zx.toNat : Int))) (by kernel_rfl) ⟨x0, n0⟩ (fun hHeld => ?_)
                        refine take_h 0 ⟨?_, ?_, ?_, by kernel_rfl, by kernel_rfl, by kernel_rfl, ?_, ?_, by assumption, ?_⟩
                        rotate_left 2
                        · (simp only [List.getElem?_toArray, List.getElem?_cons_zero]; exact rfl)
                        · exact fun _ _ _ h => h
                        · first
                            | (refine Or.inr ⟨by rfl, ?_⟩; exact rfl)
                            | (refine Or.inl ⟨by rfl, ?_⟩
                               intro w hSw
                               (try dsimp only at hSw)
                               (try go_split_ands)
                               go_simp
                               (first | done | with_reducible rfl))
                        try simp only [Act.put, List.setIfInBounds_toArray, List.set_cons_zero, List.set_cons_succ]
                        refine take_h 1 ⟨?_, ?_, ?_, by kernel_rfl, by kernel_rfl, by kernel_rfl, ?_, ?_, by assumption, ?_⟩
                        rotate_left 2
                        · (simp only [List.getElem?_toArray, List.getElem?_cons_succ, List.getElem?_cons_zero]; exact rfl)
                        · exact fun _ _ _ h => h
                        · first
                            | (refine Or.inr ⟨by rfl, ?_⟩; exact rfl)
                            | (refine Or.inl ⟨by rfl, ?_⟩
                               intro w hSw
                               (try dsimp only at hSw)
                               (try go_split_ands)
                               go_simp
                               (first | done | with_reducible rfl))
                        try simp only [Act.put, List.setIfInBounds_toArray, List.set_cons_zero, List.set_cons_succ]
                        refine take_h 2 ⟨?_, ?_, ?_, by kernel_rfl, by kernel_rfl, by kernel_rfl, ?_, ?_, by assumption, ?_⟩
                        rotate_left 2
                        · (simp only [List.getElem?_toArray, List.getElem?_cons_succ, List.getElem?_cons_zero]; exact rfl)
                        · exact fun _ _ _ h => h
                        · first
                            | (refine Or.inr ⟨by rfl, ?_⟩; exact rfl)
                            | (refine Or.inl ⟨by rfl, ?_⟩
                               intro w hSw
                               (try dsimp only at hSw)
                               (try go_split_ands)
                               go_simp
                               (first | done | with_reducible rfl))
                        try simp only [Act.put, List.setIfInBounds_toArray, List.set_cons_zero, List.set_cons_succ]
                        refine take_h 3 ⟨?_, ?_, ?_, by kernel_rfl, by kernel_rfl, by kernel_rfl, ?_, ?_, by assumption, ?_⟩
                        rotate_left 2
                        · (simp only [List.getElem?_toArray, List.getElem?_cons_succ, List.getElem?_cons_zero]; exact rfl)
                        · exact fun _ _ _ h => h
                        · first
                            | (refine Or.inr ⟨by rfl, ?_⟩; exact rfl)
                            | (refine Or.inl ⟨by rfl, ?_⟩
                               intro w hSw
                               (try dsimp only at hSw)
                               (try go_split_ands)
                               go_simp
                               (first | done | with_reducible rfl))
                        try simp only [Act.put, List.setIfInBounds_toArray, List.set_cons_zero, List.set_cons_succ]
                        refine take_h 4 ⟨?_, ?_, ?_, by kernel_rfl, by kernel_rfl, by kernel_rfl, ?_, ?_, by assumption, ?_⟩
                        rotate_left 2
                        · (simp only [List.getElem?_toArray, List.getElem?_cons_succ, List.getElem?_cons_zero]; exact rfl)
                        · exact fun _ _ _ h => h
                        · first
                            | (refine Or.inr ⟨by rfl, ?_⟩; exact rfl)
                            | (refine Or.inl ⟨by rfl, ?_⟩
                               intro w hSw
                               (try dsimp only at hSw)
                               (try go_split_ands)
                               go_simp
                               (first | done | with_reducible rfl))
                        try simp only [Act.put, List.setIfInBounds_toArray, List.set_cons_zero, List.set_cons_succ]
                        refine take_h 5 ⟨?_, ?_, ?_, by kernel_rfl, by kernel_rfl, by kernel_rfl, ?_, ?_, by assumption, ?_⟩
                        rotate_left 2
                        · (simp only [List.getElem?_toArray, List.getElem?_cons_succ, List.getElem?_cons_zero]; exact rfl)
                        · exact fun _ _ _ h => h
                        · first
                            | (refine Or.inr ⟨by rfl, ?_⟩; exact rfl)
                            | (refine Or.inl ⟨by rfl, ?_⟩
                               intro w hSw
                               (try dsimp only at hSw)
                               (try go_split_ands)
                               go_simp
                               (first | done | with_reducible rfl))
                        try simp only [Act.put, List.setIfInBounds_toArray, List.set_cons_zero, List.set_cons_succ]
                        refine take_h 6 ⟨?_, ?_, ?_, by kernel_rfl, by kernel_rfl, by kernel_rfl, ?_, ?_, by assumption, ?_⟩
                        rotate_left 2
                        · (simp only [List.getElem?_toArray, List.getElem?_cons_succ, List.getElem?_cons_zero]; exact rfl)
                        · exact fun _ _ _ h => h
                        · first
                            | (refine Or.inr ⟨by rfl, ?_⟩; exact rfl)
                            | (refine Or.inl ⟨by rfl, ?_⟩
                               intro w hSw
                               (try dsimp only at hSw)
                               (try go_split_ands)
                               go_simp
                               (first | done | with_reducible rfl))
                        try simp only [Act.put, List.setIfInBounds_toArray, List.set_cons_zero, List.set_cons_succ]
                        refine take_h 7 ⟨?_, ?_, ?_, by kernel_rfl, by kernel_rfl, by kernel_rfl, ?_, ?_, by assumption, ?_⟩
                        rotate_left 2
                        · (simp only [List.getElem?_toArray, List.getElem?_cons_succ, List.getElem?_cons_zero]; exact rfl)
                        · exact fun _ _ _ h => h
                        · first
                            | (refine Or.inr ⟨by rfl, ?_⟩; exact rfl)
                            | (refine Or.inl ⟨by rfl, ?_⟩
                               intro w hSw
                               (try dsimp only at hSw)
                               (try go_split_ands)
                               go_simp
                               (first | done | with_reducible rfl))
                        try simp only [Act.put, List.setIfInBounds_toArray, List.set_cons_zero, List.set_cons_succ]
                        refine take_h 8 ⟨?_, ?_, ?_, by kernel_rfl, by kernel_rfl, by kernel_rfl, ?_, ?_, by assumption, ?_⟩
                        rotate_left 2
                        · (simp only [List.getElem?_toArray, List.getElem?_cons_succ, List.getElem?_cons_zero]; exact rfl)
                        · exact fun _ _ _ h => h
                        · first
                            | (refine Or.inr ⟨by rfl, ?_⟩; exact rfl)
                            | (refine Or.inl ⟨by rfl, ?_⟩
                               intro w hSw
                               (try dsimp only at hSw)
                               (try go_split_ands)
                               go_simp
                               (first | done | with_reducible rfl))
                        try simp only [Act.put, List.setIfInBounds_toArray, List.set_cons_zero, List.set_cons_succ]
                        refine take_h 9 ⟨?_, ?_, ?_, by kernel_rfl, by kernel_rfl, by kernel_rfl, ?_, ?_, by assumption, ?_⟩
                        rotate_left 2
                        · (simp only [List.getElem?_toArray, List.getElem?_cons_succ, List.getElem?_cons_zero]; exact rfl)
                        · exact fun _ _ _ h => h
                        · first
                            | (refine Or.inr ⟨by rfl, ?_⟩; exact rfl)
                            | (refine Or.inl ⟨by rfl, ?_⟩
                               intro w hSw
                               (try dsimp only at hSw)
                               (try go_split_ands)
                               go_simp
                               (first | done | with_reducible rfl))
                        try simp only [Act.put, List.setIfInBounds_toArray, List.set_cons_zero, List.set_cons_succ]
                        refine take_h 10 ⟨?_, ?_, ?_, by kernel_rfl, by kernel_rfl, by kernel_rfl, ?_, ?_, by assumption, ?_⟩
                        rotate_left 2
                        · (simp only [List.getElem?_toArray, List.getElem?_cons_succ, List.getElem?_cons_zero]; exact rfl)
                        · exact fun _ _ _ h => h
                        · first
                            | (refine Or.inr ⟨by rfl, ?_⟩; exact rfl)
                            | (refine Or.inl ⟨by rfl, ?_⟩
                               intro w hSw
                               (try dsimp only at hSw)
                               (try go_split_ands)
                               go_simp
                               (first | done | with_reducible rfl))
                        try simp only [Act.put, List.setIfInBounds_toArray, List.set_cons_zero, List.set_cons_succ]
                        refine take_h 11 ⟨?_, ?_, ?_, by kernel_rfl, by kernel_rfl, by kernel_rfl, ?_, ?_, by assumption, ?_⟩
                        rotate_left 2
                        · (simp only [List.getElem?_toArray, List.getElem?_cons_succ, List.getElem?_cons_zero]; exact rfl)
                        · exact fun _ _ _ h => h
                        · first
                            | (refine Or.inr ⟨by rfl, ?_⟩; exact rfl)
                            | (refine Or.inl ⟨by rfl, ?_⟩
                               intro w hSw
                               (try dsimp only at hSw)
                               (try go_split_ands)
                               go_simp
                               (first | done | with_reducible rfl))
                        try simp only [Act.put, List.setIfInBounds_toArray, List.set_cons_zero, List.set_cons_succ]
                        refine take_h 12 ⟨?_, ?_, ?_, by kernel_rfl, by kernel_rfl, by kernel_rfl, ?_, ?_, by assumption, ?_⟩
                        rotate_left 2
                        · (simp only [List.getElem?_toArray, List.getElem?_cons_succ, List.getElem?_cons_zero]; exact rfl)
                        · exact fun _ _ _ h => h
                        · first
                            | (refine Or.inr ⟨by rfl, ?_⟩; exact rfl)
                            | (refine Or.inl ⟨by rfl, ?_⟩
                               intro w hSw
                               (try dsimp only at hSw)
                               (try go_split_ands)
                               go_simp
                               (first | done | with_reducible rfl))
                        try simp only [Act.put, List.setIfInBounds_toArray, List.set_cons_zero, List.set_cons_succ]
                        refine take_h 13 ⟨?_, ?_, ?_, by kernel_rfl, by kernel_rfl, by kernel_rfl, ?_, ?_, by assumption, ?_⟩
                        rotate_left 2
                        · (simp only [List.getElem?_toArray, List.getElem?_cons_succ, List.getElem?_cons_zero]; exact rfl)
                        · exact fun _ _ _ h => h
                        · first
                            | (refine Or.inr ⟨by rfl, ?_⟩; exact rfl)
                            | (refine Or.inl ⟨by rfl, ?_⟩
                               intro w hSw
                               (try dsimp only at hSw)
                               (try go_split_ands)
                               go_simp
                               (first | done | with_reducible rfl))
                        try simp only [Act.put, List.setIfInBounds_toArray, List.set_cons_zero, List.set_cons_succ]
                        refine take_h 14 ⟨?_, ?_, ?_, by kernel_rfl, by kernel_rfl, by kernel_rfl, ?_, ?_, by assumption, ?_⟩
                        rotate_left 2
                        · (simp only [List.getElem?_toArray, List.getElem?_cons_succ, List.getElem?_cons_zero]; exact rfl)
                        · exact fun _ _ _ h => h
                        · first
                            | (refine Or.inr ⟨by rfl, ?_⟩; exact rfl)
                            | (refine Or.inl ⟨by rfl, ?_⟩
                               intro w hSw
                               (try dsimp only at hSw)
                               (try go_split_ands)
                               go_simp
                               (first | done | with_reducible rfl))
                        try simp only [Act.put, List.setIfInBounds_toArray, List.set_cons_zero, List.set_cons_succ]
                        refine wpAnyH_done (by kernel_rfl) ?_ _
                        clear hHeld
                        go_wp2
                        go_roundw
                        case rel => exact ⟨k + 1, nd2 + 1, by go_num, by omega, by omega, rfl⟩
                        case measure => simp [intOf]; omega
                      · have hk6 : k = 64 := by omega
                        subst hk6
                        clear hk
                        go_wp2
                        go_roundw
                        case rel => exact ⟨n + 1, nd2, by go_num, by omega, rfl⟩
                        case measure => simp [intOf]; omega
                · have hn : n = 8 := by omega
                  subst hn
                  have HRD := Lib.hid (HC2.out w2 HM.out (w2.drewN nd) ((Left.refl [] w2).drewN nd))
                  go_wp2_with fail
                  refine HRD.out.mono ?_
                  rintro e w4 ⟨rfl, hb4⟩
                  have HB4 := Lib.hid (HB2.out.trans (below_drewN (Below.refl _ _) nd |>.trans hb4))
                  have hzw4 := HB4.out.size
                  clear hb4
                  go_wp2_with (first | (go_at_call 7; refine (num4_any _ _).mono ?_; rintro e w' ⟨rfl, rfl⟩))
                  refine (wakes4_any w4).mono ?_
                  rintro e w5 ⟨rfl, hb5⟩
                  have hb6 := hbb1.trans ((HB4.out.trans (hb5.mono (by omega))).mono (Nat.le_succ _))
                  clear hb5
                  go_wp2
                  go_ret
                  exact ⟨rfl, hb6⟩
          · as_aux_lemma =>
              obtain ⟨M, hc1, hc2⟩ := HKL.out.kh.crash HKL.out.kl (by omega) (pv := (.slice none 0 0)) (picks := ([] : List Int)) (B0 := w.heap.size) (Rd.nil_ _ _ _) (by omega) (by simp) (by simp)
              have HC1 := Lib.hid hc1
              have HC2 := Lib.hid hc2
              clear hc1 hc2
              go_wp2_with fail
              refine HC1.out.mono ?_
              rintro e w2 ⟨gx, cx, x, rfl, hcx, hcm, hx, htorn, hcells, hM, hfx, hb2⟩
              have hcm2 : cx ≤ 9223372036854775807 := by unfold maxLen at hcm; omega
              have HXL := Lib.hid hx
              have HT := Lib.hid htorn
              have HCX := Lib.hid hcells
              have HM := Lib.hid hM
              have HN2 := Lib.hid (hfx.whole (by simp) HKL.out.nw)
              have HK2 := Lib.hid (HKL.out.kc.fx hfx (by simp) HKL.out.kl)
              have HB2 := Lib.hid hb2
              have HNL := Lib.hid HKL.out.nl
              have HKPL := Lib.hid HKL.out.kl
              clear hx htorn hcells hM hfx hb2 hcm
              go_wp2
              go_loopw [18] (fun i wr => ∃ (n nd : Nat), i = .int .i64 n ∧ n ≤ 8 ∧ wr = w2.drewN nd) (fun i _ => 8 - (intOf i).toNat)
              case atStart => exact ⟨0, 0, rfl, by omega, rfl⟩
              case round =>
                obtain ⟨n, nd, rfl, hn8, rfl⟩ := hrel
                by_cases hlt : n < 8
                · obtain ⟨q, hq, hq1, hq2⟩ := HT.out n hlt
                  have HQ1 := Lib.hid hq1
                  have HQ2 := Lib.hid hq2
                  obtain ⟨t, ht⟩ : ∃ t, 64 * n = t := ⟨_, rfl⟩
                  have q1 : IntKind.i64.wrap ((n : Int) * 64) = (t : Int) := by rw [IntWalk.i64_in _ ⟨by omega, by omega⟩]; omega
                  have ht8 : t + 64 ≤ 512 := by omega
                  have HTT := Lib.hid ht
                  clear hq1 hq2 ht
                  go_upto_block 6 with fail
                  go_cut [19] (fun s wx => ∃ (k nd : Nat), s = .int .i64 k ∧ q ≤ k ∧ k ≤ 64 ∧ wx = w2.drewN nd)
                  case first =>
                    go_wp2
                    go_loopw [19] (fun s wx => ∃ (k nd : Nat), s = .int .i64 k ∧ k ≤ 64 ∧ wx = w2.drewN nd) (fun s _ => 64 - (intOf s).toNat)
                    case atStart => exact ⟨0, _, rfl, by omega, rfl⟩
                    case round =>
                      obtain ⟨k, nd2, rfl, hk64, rfl⟩ := hrel
                      by_cases hk : k < 64
                      · have hkb : decide ((k : Int) < 64) = true := decide_eq_true (by omega)
                        obtain ⟨p, hp⟩ : ∃ p, t + k = p := ⟨_, rfl⟩
                        have q2 : IntKind.i64.wrap ((t : Int) + (k : Int)) = (p : Int) := by rw [IntWalk.i64_in _ ⟨by omega, by omega⟩]; omega
                        have hp5 : p < 512 := by omega
                        have hp6 : (p : Int) < 512 := by omega
                        have hp7 : (0 : Int) ≤ (p : Int) := by omega
                        have x0 : w2.cell? ⟨gx, p, none⟩ = some (.int .u8 ((x.getD p 0).toNat : Int)) := by rw [HCX.out p hp5]; exact u8s_getD x p (by rw [HXL.out]; exact hp5)
                        have n0 : w2.cell? ⟨h0, p, none⟩ = some (.int .u8 ((N.getD p 0).toNat : Int)) := by rw [HN2.out.cell]; exact u8s_getD N p (by rw [HNL.out]; exact hp5)
                        obtain ⟨zx, hzx⟩ : ∃ z, x.getD p 0 = z := ⟨_, rfl⟩
                        obtain ⟨zn, hzn⟩ : ∃ z, N.getD p 0 = z := ⟨_, rfl⟩
                        rw [hzx] at x0
                        rw [hzn] at n0
                        have HZX := Lib.hid hzx
                        have HZN := Lib.hid hzn
                        have HPP := Lib.hid hp
                        clear hzx hzn hp
                        by_cases he : zx = zn
                        · subst he
                          go_wp2
                          refine wp_region_held_drew (S := fun wx => wx.cell? ⟨gx, p, none⟩ = some (.int .u8 (zx.toNat : Int)) ∧ wx.cell? ⟨h0, p, none⟩ = some (.int .u8 (zx.toNat : Int))) (by kernel_rfl) ⟨x0, n0⟩ (fun hHeld => ?_)
                          refine take_h 0 ⟨?_, ?_, ?_, by kernel_rfl, by kernel_rfl, by kernel_rfl, ?_, ?_, by assumption, ?_⟩
                          rotate_left 2
                          · (simp only [List.getElem?_toArray, List.getElem?_cons_zero]; exact rfl)
                          · exact fun _ _ _ h => h
                          · first
                              | (refine Or.inr ⟨by rfl, ?_⟩; exact rfl)
                              | (refine Or.inl ⟨by rfl, ?_⟩
                                 intro w hSw
                                 (try dsimp only at hSw)
                                 (try go_split_ands)
                                 go_simp
                                 (first | done | with_reducible rfl))
                          try simp only [Act.put, List.setIfInBounds_toArray, List.set_cons_zero, List.set_cons_succ]
                          refine take_h 1 ⟨?_, ?_, ?_, by kernel_rfl, by kernel_rfl, by kernel_rfl, ?_, ?_, by assumption, ?_⟩
                          rotate_left 2
                          · (simp only [List.getElem?_toArray, List.getElem?_cons_succ, List.getElem?_cons_zero]; exact rfl)
                          · exact fun _ _ _ h => h
                          · first
                              | (refine Or.inr ⟨by rfl, ?_⟩; exact rfl)
                              | (refine Or.inl ⟨by rfl, ?_⟩
                                 intro w hSw
                                 (try dsimp only at hSw)
                                 (try go_split_ands)
                                 go_simp
                                 (first | done | with_reducible rfl))
                          try simp only [Act.put, List.setIfInBounds_toArray, List.set_cons_zero, List.set_cons_succ]
                          refine take_h 2 ⟨?_, ?_, ?_, by kernel_rfl, by kernel_rfl, by kernel_rfl, ?_, ?_, by assumption, ?_⟩
                          rotate_left 2
                          · (simp only [List.getElem?_toArray, List.getElem?_cons_succ, List.getElem?_cons_zero]; exact rfl)
                          · exact fun _ _ _ h => h
                          · first
                              | (refine Or.inr ⟨by rfl, ?_⟩; exact rfl)
                              | (refine Or.inl ⟨by rfl, ?_⟩
                                 intro w hSw
                                 (try dsimp only at hSw)
                                 (try go_split_ands)
                                 go_simp
                                 (first | done | with_reducible rfl))
                          try simp only [Act.put, List.setIfInBounds_toArray, List.set_cons_zero, List.set_cons_succ]
                          refine take_h 3 ⟨?_, ?_, ?_, by kernel_rfl, by kernel_rfl, by kernel_rfl, ?_, ?_, by assumption, ?_⟩
                          rotate_left 2
                          · (simp only [List.getElem?_toArray, List.getElem?_cons_succ, List.getElem?_cons_zero]; exact rfl)
                          · exact fun _ _ _ h => h
                          · first
                              | (refine Or.inr ⟨by rfl, ?_⟩; exact rfl)
                              | (refine Or.inl ⟨by rfl, ?_⟩
                                 intro w hSw
                                 (try dsimp only at hSw)
                                 (try go_split_ands)
                                 go_simp
                                 (first | done | with_reducible rfl))
                          try simp only [Act.put, List.setIfInBounds_toArray, List.set_cons_zero, List.set_cons_succ]
                          refine take_h 4 ⟨?_, ?_, ?_, by kernel_rfl, by kernel_rfl, by kernel_rfl, ?_, ?_, by assumption, ?_⟩
                          rotate_left 2
                          · (simp only [List.getElem?_toArray, List.getElem?_cons_succ, List.getElem?_cons_zero]; exact rfl)
                          · exact fun _ _ _ h => h
                          · first
                              | (refine Or.inr ⟨by rfl, ?_⟩; exact rfl)
                              | (refine Or.inl ⟨by rfl, ?_⟩
                                 intro w hSw
                                 (try dsimp only at hSw)
                                 (try go_split_ands)
                                 go_simp
                                 (first | done | with_reducible rfl))
                          try simp only [Act.put, List.setIfInBounds_toArray, List.set_cons_zero, List.set_cons_succ]
                          refine take_h 5 ⟨?_, ?_, ?_, by kernel_rfl, by kernel_rfl, by kernel_rfl, ?_, ?_, by assumption, ?_⟩
                          rotate_left 2
                          · (simp only [List.getElem?_toArray, List.getElem?_cons_succ, List.getElem?_cons_zero]; exact rfl)
                          · exact fun _ _ _ h => h
                          · first
                              | (refine Or.inr ⟨by rfl, ?_⟩; exact rfl)
                              | (refine Or.inl ⟨by rfl, ?_⟩
                                 intro w hSw
                                 (try dsimp only at hSw)
                                 (try go_split_ands)
                                 go_simp
                                 (first | done | with_reducible rfl))
                          try simp only [Act.put, List.setIfInBounds_toArray, List.set_cons_zero, List.set_cons_succ]
                          refine take_h 6 ⟨?_, ?_, ?_, by kernel_rfl, by kernel_rfl, by kernel_rfl, ?_, ?_, by assumption, ?_⟩
                          rotate_left 2
                          · (simp only [List.getElem?_toArray, List.getElem?_cons_succ, List.getElem?_cons_zero]; exact rfl)
                          · exact fun _ _ _ h => h
                          · first
                              | (refine Or.inr ⟨by rfl, ?_⟩; exact rfl)
                              | (refine Or.inl ⟨by rfl, ?_⟩
                                 intro w hSw
                                 (try dsimp only at hSw)
                                 (try go_split_ands)
                                 go_simp
                                 (first | done | with_reducible rfl))
                          try simp only [Act.put, List.setIfInBounds_toArray, List.set_cons_zero, List.set_cons_succ]
                          refine take_h 7 ⟨?_, ?_, ?_, by kernel_rfl, by kernel_rfl, by kernel_rfl, ?_, ?_, by assumption, ?_⟩
                          rotate_left 2
                          · (simp only [List.getElem?_toArray, List.getElem?_cons_succ, List.getElem?_cons_zero]; exact rfl)
                          · exact fun _ _ _ h => h
                          · first
                              | (refine Or.inr ⟨by rfl, ?_⟩; exact rfl)
                              | (refine Or.inl ⟨by rfl, ?_⟩
                                 intro w hSw
                                 (try dsimp only at hSw)
                                 (try go_split_ands)
                                 go_simp
                                 (first | done | with_reducible rfl))
                          try simp only [Act.put, List.setIfInBounds_toArray, List.set_cons_zero, List.set_cons_succ]
                          refine take_h 8 ⟨?_, ?_, ?_, by kernel_rfl, by kernel_rfl, by kernel_rfl, ?_, ?_, by assumption, ?_⟩
                          rotate_left 2
                          · (simp only [List.getElem?_toArray, List.getElem?_cons_succ, List.getElem?_cons_zero]; exact rfl)
                          · exact fun _ _ _ h => h
                          · first
                              | (refine Or.inr ⟨by rfl, ?_⟩; exact rfl)
                              | (refine Or.inl ⟨by rfl, ?_⟩
                                 intro w hSw
                                 (try dsimp only at hSw)
                                 (try go_split_ands)
                                 go_simp
                                 (first | done | with_reducible rfl))
                          try simp only [Act.put, List.setIfInBounds_toArray, List.set_cons_zero, List.set_cons_succ]
                          refine take_h 9 ⟨?_, ?_, ?_, by kernel_rfl, by kernel_rfl, by kernel_rfl, ?_, ?_, by assumption, ?_⟩
                          rotate_left 2
                          · (simp only [List.getElem?_toArray, List.getElem?_cons_succ, List.getElem?_cons_zero]; exact rfl)
                          · exact fun _ _ _ h => h
                          · first
                              | (refine Or.inr ⟨by rfl, ?_⟩; exact rfl)
                              | (refine Or.inl ⟨by rfl, ?_⟩
                                 intro w hSw
                                 (try dsimp only at hSw)
                                 (try go_split_ands)
                                 go_simp
                                 (first | done | with_reducible rfl))
                          try simp only [Act.put, List.setIfInBounds_toArray, List.set_cons_zero, List.set_cons_succ]
                          refine take_h 10 ⟨?_, ?_, ?_, by kernel_rfl, by kernel_rfl, by kernel_rfl, ?_, ?_, by assumption, ?_⟩
                          rotate_left 2
                          · (simp only [List.getElem?_toArray, List.getElem?_cons_succ, List.getElem?_cons_zero]; exact rfl)
                          · exact fun _ _ _ h => h
                          · first
                              | (refine Or.inr ⟨by rfl, ?_⟩; exact rfl)
                              | (refine Or.inl ⟨by rfl, ?_⟩
                                 intro w hSw
                                 (try dsimp only at hSw)
                                 (try go_split_ands)
                                 go_simp
                                 (first | done | with_reducible rfl))
                          try simp only [Act.put, List.setIfInBounds_toArray, List.set_cons_zero, List.set_cons_succ]
                          refine take_h 11 ⟨?_, ?_, ?_, by kernel_rfl, by kernel_rfl, by kernel_rfl, ?_, ?_, by assumption, ?_⟩
                          rotate_left 2
                          · (simp only [List.getElem?_toArray, List.getElem?_cons_succ, List.getElem?_cons_zero]; exact rfl)
                          · exact fun _ _ _ h => h
                          · first
                              | (refine Or.inr ⟨by rfl, ?_⟩; exact rfl)
                              | (refine Or.inl ⟨by rfl, ?_⟩
                                 intro w hSw
                                 (try dsimp only at hSw)
                                 (try go_split_ands)
                                 go_simp
                                 (first | done | with_reducible rfl))
                          try simp only [Act.put, List.setIfInBounds_toArray, List.set_cons_zero, List.set_cons_succ]
                          refine take_h 12 ⟨?_, ?_, ?_, by kernel_rfl, by kernel_rfl, by kernel_rfl, ?_, ?_, by assumption, ?_⟩
                          rotate_left 2
                          · (simp only [List.getElem?_toArray, List.getElem?_cons_succ, List.getElem?_cons_zero]; exact rfl)
                          · exact fun _ _ _ h => h
                          · first
                              | (refine Or.inr ⟨by rfl, ?_⟩; exact rfl)
                              | (refine Or.inl ⟨by rfl, ?_⟩
                                 intro w hSw
                                 (try dsimp only at hSw)
                                 (try go_split_ands)
                                 go_simp
                                 (first | done | with_reducible rfl))
                          try simp only [Act.put, List.setIfInBounds_toArray, List.set_cons_zero, List.set_cons_succ]
                          refine take_h 13 ⟨?_, ?_, ?_, by kernel_rfl, by kernel_rfl, by kernel_rfl, ?_, ?_, by assumption, ?_⟩
                          rotate_left 2
                          · (simp only [List.getElem?_toArray, List.getElem?_cons_succ, List.getElem?_cons_zero]; exact rfl)
                          · exact fun _ _ _ h => h
                          · first
                              | (refine Or.inr ⟨by rfl, ?_⟩; exact rfl)
                              | (refine Or.inl ⟨by rfl, ?_⟩
                                 intro w hSw
                                 (try dsimp only at hSw)
                                 (try go_split_ands)
                                 go_simp
                                 (first | done | with_reducible rfl))
                          try simp only [Act.put, List.setIfInBounds_toArray, List.set_cons_zero, List.set_cons_succ]
                          refine take_h 14 ⟨?_, ?_, ?_, by kernel_rfl, by kernel_rfl, by kernel_rfl, ?_, ?_, by assumption, ?_⟩
                          rotate_left 2
                          · (simp only [List.getElem?_toArray, List.getElem?_cons_succ, List.getElem?_cons_zero]; exact rfl)
                          · exact fun _ _ _ h => h
                          · first
                              | (refine Or.inr ⟨by rfl, ?_⟩; exact rfl)
                              | (refine Or.inl ⟨by rfl, ?_⟩
                                 intro w hSw
                                 (try dsimp only at hSw)
                                 (try go_split_ands)
                                 go_simp
                                 (first | done | with_reducible rfl))
                          try simp only [Act.put, List.setIfInBounds_toArray, List.set_cons_zero, List.set_cons_succ]
                          refine take_h 15 ⟨?_, ?_, ?_, by kernel_rfl, by kernel_rfl, by kernel_rfl, ?_, ?_, by assumption, ?_⟩
                          rotate_left 2
                          · (simp only [List.getElem?_toArray, List.getElem?_cons_succ, List.getElem?_cons_zero]; exact rfl)
                          · exact fun _ _ _ h => h
                          · first
                              | (refine Or.inr ⟨by rfl, ?_⟩; exact rfl)
                              | (refine Or.inl ⟨by rfl, ?_⟩
                                 intro w hSw
                                 (try dsimp only at hSw)
                                 (try go_split_ands)
                                 go_simp
                                 (first | done | with_reducible rfl))
                          try simp only [Act.put, List.setIfInBounds_toArray, List.set_cons_zero, List.set_cons_succ]
                          refine take_h 16 ⟨?_, ?_, ?_, by kernel_rfl, by kernel_rfl, by kernel_rfl, ?_, ?_, by assumption, ?_⟩
                          rotate_left 2
                          · (simp only [List.getElem?_toArray, List.getElem?_cons_succ, List.getElem?_cons_zero]; exact rfl)
                          · exact fun _ _ _ h => h
                          · first
                              | (refine Or.inr ⟨by rfl, ?_⟩; exact rfl)
                              | (refine Or.inl ⟨by rfl, ?_⟩
                                 intro w hSw
                                 (try dsimp only at hSw)
                                 (try go_split_ands)
                                 go_simp
                                 (first | done | with_reducible rfl))
                          try simp only [Act.put, List.setIfInBounds_toArray, List.set_cons_zero, List.set_cons_succ]
                          refine take_h 17 ⟨?_, ?_, ?_, by kernel_rfl, by kernel_rfl, by kernel_rfl, ?_, ?_, by assumption, ?_⟩
                          rotate_left 2
                          · (simp only [List.getElem?_toArray, List.getElem?_cons_succ, List.getElem?_cons_zero]; exact rfl)
                          · exact fun _ _ _ h => h
                          · first
                              | (refine Or.inr ⟨by rfl, ?_⟩; exact rfl)
                              | (refine Or.inl ⟨by rfl, ?_⟩
                                 intro w hSw
                                 (try dsimp only at hSw)
                                 (try go_split_ands)
                                 go_simp
                                 (first | done | with_reducible rfl))
                          try simp only [Act.put, List.setIfInBounds_toArray, List.set_cons_zero, List.set_cons_succ]
                          refine take_h 18 ⟨?_, ?_, ?_, by kernel_rfl, by kernel_rfl, by kernel_rfl, ?_, ?_, by assumption, ?_⟩
                          rotate_left 2
                          · (simp only [List.getElem?_toArray, List.getElem?_cons_succ, List.getElem?_cons_zero]; exact rfl)
                          · exact fun _ _ _ h => h
                          · first
                              | (refine Or.inr ⟨by rfl, ?_⟩; exact rfl)
                              | (refine Or.inl ⟨by rfl, ?_⟩
                                 intro w hSw
                                 (try dsimp only at hSw)
                                 (try go_split_ands)
                                 go_simp
                                 (first | done | with_reducible rfl))
                          try simp only [Act.put, List.setIfInBounds_toArray, List.set_cons_zero, List.set_cons_succ]
                          refine wpAnyH_done (by kernel_rfl) ?_ _
                          clear hHeld
                          go_wp2
                          go_roundw
                          case rel => exact ⟨k + 1, nd2 + 1, by go_num, by omega, rfl⟩
                          case measure => simp [intOf]; omega
                        · have hqk : q ≤ k := by
                            rcases Nat.lt_or_ge k q with h | h
                            · exfalso
                              apply he
                              have h1 := HQ1.out k h
                              rw [show 64 * n + k = p by rw [HTT.out]; exact HPP.out] at h1
                              rw [← HZX.out, ← HZN.out, List.getD_eq_getElem?_getD, List.getD_eq_getElem?_getD, h1]
                            · exact h
                          have hne : ((zx.toNat : Int) == (zn.toNat : Int)) = false := beq_eq_false_iff_ne.2 (fun h => he (UInt8.toNat_inj.1 (by omega)))
                          clear he
                          go_wp2
                          refine wp_region_held_drew (S := fun wx => wx.cell? ⟨gx, p, none⟩ = some (.int .u8 (zx.toNat : Int)) ∧ wx.cell? ⟨h0, p, none⟩ = some (.int .u8 (zn.toNat : Int))) (by kernel_rfl) ⟨x0, n0⟩ (fun hHeld => ?_)
                          refine take_h 0 ⟨?_, ?_, ?_, by kernel_rfl, by kernel_rfl, by kernel_rfl, ?_, ?_, by assumption, ?_⟩
                          rotate_left 2
                          · (simp only [List.getElem?_toArray, List.getElem?_cons_zero]; exact rfl)
                          · exact fun _ _ _ h => h
                          · first
                              | (refine Or.inr ⟨by rfl, ?_⟩; exact rfl)
                              | (refine Or.inl ⟨by rfl, ?_⟩
                                 intro w hSw
                                 (try dsimp only at hSw)
                                 (try go_split_ands)
                                 go_simp
                                 (first | done | with_reducible rfl))
                          try simp only [Act.put, List.setIfInBounds_toArray, List.set_cons_zero, List.set_cons_succ]
                          refine take_h 1 ⟨?_, ?_, ?_, by kernel_rfl, by kernel_rfl, by kernel_rfl, ?_, ?_, by assumption, ?_⟩
                          rotate_left 2
                          · (simp only [List.getElem?_toArray, List.getElem?_cons_succ, List.getElem?_cons_zero]; exact rfl)
                          · exact fun _ _ _ h => h
                          · first
                              | (refine Or.inr ⟨by rfl, ?_⟩; exact rfl)
                              | (refine Or.inl ⟨by rfl, ?_⟩
                                 intro w hSw
                                 (try dsimp only at hSw)
                                 (try go_split_ands)
                                 go_simp
                                 (first | done | with_reducible rfl))
                          try simp only [Act.put, List.setIfInBounds_toArray, List.set_cons_zero, List.set_cons_succ]
                          refine take_h 2 ⟨?_, ?_, ?_, by kernel_rfl, by kernel_rfl, by kernel_rfl, ?_, ?_, by assumption, ?_⟩
                          rotate_left 2
                          · (simp only [List.getElem?_toArray, List.getElem?_cons_succ, List.getElem?_cons_zero]; exact rfl)
                          · exact fun _ _ _ h => h
                          · first
                              | (refine Or.inr ⟨by rfl, ?_⟩; exact rfl)
                              | (refine Or.inl ⟨by rfl, ?_⟩
                                 intro w hSw
                                 (try dsimp only at hSw)
                                 (try go_split_ands)
                                 go_simp
                                 (first | done | with_reducible rfl))
                          try simp only [Act.put, List.setIfInBounds_toArray, List.set_cons_zero, List.set_cons_succ]
                          refine take_h 3 ⟨?_, ?_, ?_, by kernel_rfl, by kernel_rfl, by kernel_rfl, ?_, ?_, by assumption, ?_⟩
                          rotate_left 2
                          · (simp only [List.getElem?_toArray, List.getElem?_cons_succ, List.getElem?_cons_zero]; exact rfl)
                          · exact fun _ _ _ h => h
                          · first
                              | (refine Or.inr ⟨by rfl, ?_⟩; exact rfl)
                              | (refine Or.inl ⟨by rfl, ?_⟩
                                 intro w hSw
                                 (try dsimp only at hSw)
                                 (try go_split_ands)
                                 go_simp
                                 (first | done | with_reducible rfl))
                          try simp only [Act.put, List.setIfInBounds_toArray, List.set_cons_zero, List.set_cons_succ]
                          refine take_h 4 ⟨?_, ?_, ?_, by kernel_rfl, by kernel_rfl, by kernel_rfl, ?_, ?_, by assumption, ?_⟩
                          rotate_left 2
                          · (simp only [List.getElem?_toArray, List.getElem?_cons_succ, List.getElem?_cons_zero]; exact rfl)
                          · exact fun _ _ _ h => h
                          · first
                              | (refine Or.inr ⟨by rfl, ?_⟩; exact rfl)
                              | (refine Or.inl ⟨by rfl, ?_⟩
                                 intro w hSw
                                 (try dsimp only at hSw)
                                 (try go_split_ands)
                                 go_simp
                                 (first | done | with_reducible rfl))
                          try simp only [Act.put, List.setIfInBounds_toArray, List.set_cons_zero, List.set_cons_succ]
                          refine take_h 5 ⟨?_, ?_, ?_, by kernel_rfl, by kernel_rfl, by kernel_rfl, ?_, ?_, by assumption, ?_⟩
                          rotate_left 2
                          · (simp only [List.getElem?_toArray, List.getElem?_cons_succ, List.getElem?_cons_zero]; exact rfl)
                          · exact fun _ _ _ h => h
                          · first
                              | (refine Or.inr ⟨by rfl, ?_⟩; exact rfl)
                              | (refine Or.inl ⟨by rfl, ?_⟩
                                 intro w hSw
                                 (try dsimp only at hSw)
                                 (try go_split_ands)
                                 go_simp
                                 (first | done | with_reducible rfl))
                          try simp only [Act.put, List.setIfInBounds_toArray, List.set_cons_zero, List.set_cons_succ]
                          refine take_h 6 ⟨?_, ?_, ?_, by kernel_rfl, by kernel_rfl, by kernel_rfl, ?_, ?_, by assumption, ?_⟩
                          rotate_left 2
                          · (simp only [List.getElem?_toArray, List.getElem?_cons_succ, List.getElem?_cons_zero]; exact rfl)
                          · exact fun _ _ _ h => h
                          · first
                              | (refine Or.inr ⟨by rfl, ?_⟩; exact rfl)
                              | (refine Or.inl ⟨by rfl, ?_⟩
                                 intro w hSw
                                 (try dsimp only at hSw)
                                 (try go_split_ands)
                                 go_simp
                                 (first | done | with_reducible rfl))
                          try simp only [Act.put, List.setIfInBounds_toArray, List.set_cons_zero, List.set_cons_succ]
                          refine take_h 7 ⟨?_, ?_, ?_, by kernel_rfl, by kernel_rfl, by kernel_rfl, ?_, ?_, by assumption, ?_⟩
                          rotate_left 2
                          · (simp only [List.getElem?_toArray, List.getElem?_cons_succ, List.getElem?_cons_zero]; exact rfl)
                          · exact fun _ _ _ h => h
                          · first
                              | (refine Or.inr ⟨by rfl, ?_⟩; exact rfl)
                              | (refine Or.inl ⟨by rfl, ?_⟩
                                 intro w hSw
                                 (try dsimp only at hSw)
                                 (try go_split_ands)
                                 go_simp
                                 (first | done | with_reducible rfl))
                          try simp only [Act.put, List.setIfInBounds_toArray, List.set_cons_zero, List.set_cons_succ]
                          refine take_h 8 ⟨?_, ?_, ?_, by kernel_rfl, by kernel_rfl, by kernel_rfl, ?_, ?_, by assumption, ?_⟩
                          rotate_left 2
                          · (simp only [List.getElem?_toArray, List.getElem?_cons_succ, List.getElem?_cons_zero]; exact rfl)
                          · exact fun _ _ _ h => h
                          · first
                              | (refine Or.inr ⟨by rfl, ?_⟩; exact rfl)
                              | (refine Or.inl ⟨by rfl, ?_⟩
                                 intro w hSw
                                 (try dsimp only at hSw)
                                 (try go_split_ands)
                                 go_simp
                                 (first | done | with_reducible rfl))
                          try simp only [Act.put, List.setIfInBounds_toArray, List.set_cons_zero, List.set_cons_succ]
                          refine take_h 9 ⟨?_, ?_, ?_, by kernel_rfl, by kernel_rfl, by kernel_rfl, ?_, ?_, by assumption, ?_⟩
                          rotate_left 2
                          · (simp only [List.getElem?_toArray, List.getElem?_cons_succ, List.getElem?_cons_zero]; exact rfl)
                          · exact fun _ _ _ h => h
                          · first
                              | (refine Or.inr ⟨by rfl, ?_⟩; exact rfl)
                              | (refine Or.inl ⟨by rfl, ?_⟩
                                 intro w hSw
                                 (try dsimp only at hSw)
                                 (try go_split_ands)
                                 go_simp
                                 (first | done | with_reducible rfl))
                          try simp only [Act.put, List.setIfInBounds_toArray, List.set_cons_zero, List.set_cons_succ]
                          refine take_h 10 ⟨?_, ?_, ?_, by kernel_rfl, by kernel_rfl, by kernel_rfl, ?_, ?_, by assumption, ?_⟩
                          rotate_left 2
                          · (simp only [List.getElem?_toArray, List.getElem?_cons_succ, List.getElem?_cons_zero]; exact rfl)
                          · exact fun _ _ _ h => h
                          · first
                              | (refine Or.inr ⟨by rfl, ?_⟩; exact rfl)
                              | (refine Or.inl ⟨by rfl, ?_⟩
                                 intro w hSw
                                 (try dsimp only at hSw)
                                 (try go_split_ands)
                                 go_simp
                                 (first | done | with_reducible rfl))
                          try simp only [Act.put, List.setIfInBounds_toArray, List.set_cons_zero, List.set_cons_succ]
                          refine take_h 11 ⟨?_, ?_, ?_, by kernel_rfl, by kernel_rfl, by kernel_rfl, ?_, ?_, by assumption, ?_⟩
                          rotate_left 2
                          · (simp only [List.getElem?_toArray, List.getElem?_cons_succ, List.getElem?_cons_zero]; exact rfl)
                          · exact fun _ _ _ h => h
                          · first
                              | (refine Or.inr ⟨by rfl, ?_⟩; exact rfl)
                              | (refine Or.inl ⟨by rfl, ?_⟩
                                 intro w hSw
                                 (try dsimp only at hSw)
                                 (try go_split_ands)
                                 go_simp
                                 (first | done | with_reducible rfl))
                          try simp only [Act.put, List.setIfInBounds_toArray, List.set_cons_zero, List.set_cons_succ]
                          refine take_h 12 ⟨?_, ?_, ?_, by kernel_rfl, by kernel_rfl, by kernel_rfl, ?_, ?_, by assumption, ?_⟩
                          rotate_left 2
                          · (simp only [List.getElem?_toArray, List.getElem?_cons_succ, List.getElem?_cons_zero]; exact rfl)
                          · exact fun _ _ _ h => h
                          · first
                              | (refine Or.inr ⟨by rfl, ?_⟩; exact rfl)
                              | (refine Or.inl ⟨by rfl, ?_⟩
                                 intro w hSw
                                 (try dsimp only at hSw)
                                 (try go_split_ands)
                                 go_simp
                                 (first | done | with_reducible rfl))
                          try simp only [Act.put, List.setIfInBounds_toArray, List.set_cons_zero, List.set_cons_succ]
                          refine take_h 13 ⟨?_, ?_, ?_, by kernel_rfl, by kernel_rfl, by kernel_rfl, ?_, ?_, by assumption, ?_⟩
                          rotate_left 2
                          · (simp only [List.getElem?_toArray, List.getElem?_cons_succ, List.getElem?_cons_zero]; exact rfl)
                          · exact fun _ _ _ h => h
                          · first
                              | (refine Or.inr ⟨by rfl, ?_⟩; exact rfl)
                              | (refine Or.inl ⟨by rfl, ?_⟩
                                 intro w hSw
                                 (try dsimp only at hSw)
                                 (try go_split_ands)
                                 go_simp
                                 (first | done | with_reducible rfl))
                          try simp only [Act.put, List.setIfInBounds_toArray, List.set_cons_zero, List.set_cons_succ]
                          refine take_h 14 ⟨?_, ?_, ?_, by kernel_rfl, by kernel_rfl, by kernel_rfl, ?_, ?_, by assumption, ?_⟩
                          rotate_left 2
                          · (simp only [List.getElem?_toArray, List.getElem?_cons_succ, List.getElem?_cons_zero]; exact rfl)
                          · exact fun _ _ _ h => h
                          · first
                              | (refine Or.inr ⟨by rfl, ?_⟩; exact rfl)
                              | (refine Or.inl ⟨by rfl, ?_⟩
                                 intro w hSw
                                 (try dsimp only at hSw)
                                 (try go_split_ands)
                                 go_simp
                                 (first | done | with_reducible rfl))
                          try simp only [Act.put, List.setIfInBounds_toArray, List.set_cons_zero, List.set_cons_succ]
                          refine take_h 15 ⟨?_, ?_, ?_, by kernel_rfl, by kernel_rfl, by kernel_rfl, ?_, ?_, by assumption, ?_⟩
                          rotate_left 2
                          · (simp only [List.getElem?_toArray, List.getElem?_cons_succ, List.getElem?_cons_zero]; exact rfl)
                          · exact fun _ _ _ h => h
                          · first
                              | (refine Or.inr ⟨by rfl, ?_⟩; exact rfl)
                              | (refine Or.inl ⟨by rfl, ?_⟩
                                 intro w hSw
                                 (try dsimp only at hSw)
                                 (try go_split_ands)
                                 go_simp
                                 (first | done | with_reducible rfl))
                          try simp only [Act.put, List.setIfInBounds_toArray, List.set_cons_zero, List.set_cons_succ]
                          refine take_h 16 ⟨?_, ?_, ?_, by kernel_rfl, by kernel_rfl, by kernel_rfl, ?_, ?_, by assumption, ?_⟩
                          rotate_left 2
                          · (simp only [List.getElem?_toArray, List.getElem?_cons_succ, List.getElem?_cons_zero]; exact rfl)
                          · exact fun _ _ _ h => h
                          · first
                              | (refine Or.inr ⟨by rfl, ?_⟩; exact rfl)
                              | (refine Or.inl ⟨by rfl, ?_⟩
                                 intro w hSw
                                 (try dsimp only at hSw)
                                 (try go_split_ands)
                                 go_simp
                                 (first | done | with_reducible rfl))
                          try simp only [Act.put, List.setIfInBounds_toArray, List.set_cons_zero, List.set_cons_succ]
                          refine take_h 17 ⟨?_, ?_, ?_, by kernel_rfl, by kernel_rfl, by kernel_rfl, ?_, ?_, by assumption, ?_⟩
                          rotate_left 2
                          · (simp only [List.getElem?_toArray, List.getElem?_cons_succ, List.getElem?_cons_zero]; exact rfl)
                          · exact fun _ _ _ h => h
                          · first
                              | (refine Or.inr ⟨by rfl, ?_⟩; exact rfl)
                              | (refine Or.inl ⟨by rfl, ?_⟩
                                 intro w hSw
                                 (try dsimp only at hSw)
                                 (try go_split_ands)
                                 go_simp
                                 (first | done | with_reducible rfl))
                          try simp only [Act.put, List.setIfInBounds_toArray, List.set_cons_zero, List.set_cons_succ]
                          refine take_h 18 ⟨?_, ?_, ?_, by kernel_rfl, by kernel_rfl, by kernel_rfl, ?_, ?_, by assumption, ?_⟩
                          rotate_left 2
                          · (simp only [List.getElem?_toArray, List.getElem?_cons_succ, List.getElem?_cons_zero]; exact rfl)
                          · exact fun _ _ _ h => h
                          · first
                              | (refine Or.inr ⟨by rfl, ?_⟩; exact rfl)
                              | (refine Or.inl ⟨by rfl, ?_⟩
                                 intro w hSw
                                 (try dsimp only at hSw)
                                 (try go_split_ands)
                                 go_simp
                                 (first | done | with_reducible rfl))
                          try simp only [Act.put, List.setIfInBounds_toArray, List.set_cons_zero, List.set_cons_succ]
                          refine wpAnyH_done (by kernel_rfl) ?_ _
                          clear hHeld
                          go_wp2
                          go_meet
                          exact ⟨k, nd2 + 1, rfl, hqk, by omega, rfl⟩
                      · have hkb : decide ((k : Int) < 64) = false := decide_eq_false (by omega)
                        go_wp2
                        refine wp_region_held_drew (S := fun wx => True) (by kernel_rfl) trivial (fun hHeld => ?_)
                        refine take_h 0 ⟨?_, ?_, ?_, by kernel_rfl, by kernel_rfl, by kernel_rfl, ?_, ?_, by assumption, ?_⟩
                        rotate_left 2
                        · (simp only [List.getElem?_toArray, List.getElem?_cons_zero]; exact rfl)
                        · exact fun _ _ _ h => h
                        · first
                            | (refine Or.inr ⟨by rfl, ?_⟩; exact rfl)
                            | (refine Or.inl ⟨by rfl, ?_⟩
                               intro w hSw
                               (try dsimp only at hSw)
                               (try go_split_ands)
                               go_simp
                               (first | done | with_reducible rfl))
                        try simp only [Act.put, List.setIfInBounds_toArray, List.set_cons_zero, List.set_cons_succ]
                        refine take_h 1 ⟨?_, ?_, ?_, by kernel_rfl, by kernel_rfl, by kernel_rfl, ?_, ?_, by assumption, ?_⟩
                        rotate_left 2
                        · (simp only [List.getElem?_toArray, List.getElem?_cons_succ, List.getElem?_cons_zero]; exact rfl)
                        · exact fun _ _ _ h => h
                        · first
                            | (refine Or.inr ⟨by rfl, ?_⟩; exact rfl)
                            | (refine Or.inl ⟨by rfl, ?_⟩
                               intro w hSw
                               (try dsimp only at hSw)
                               (try go_split_ands)
                               go_simp
                               (first | done | with_reducible rfl))
                        try simp only [Act.put, List.setIfInBounds_toArray, List.set_cons_zero, List.set_cons_succ]
                        refine take_h 2 ⟨?_, ?_, ?_, by kernel_rfl, by kernel_rfl, by kernel_rfl, ?_, ?_, by assumption, ?_⟩
                        rotate_left 2
                        · (simp only [List.getElem?_toArray, List.getElem?_cons_succ, List.getElem?_cons_zero]; exact rfl)
                        · exact fun _ _ _ h => h
                        · first
                            | (refine Or.inr ⟨by rfl, ?_⟩; exact rfl)
                            | (refine Or.inl ⟨by rfl, ?_⟩
                               intro w hSw
                               (try dsimp only at hSw)
                               (try go_split_ands)
                               go_simp
                               (first | done | with_reducible rfl))
                        try simp only [Act.put, List.setIfInBounds_toArray, List.set_cons_zero, List.set_cons_succ]
                        refine take_h 3 ⟨?_, ?_, ?_, by kernel_rfl, by kernel_rfl, by kernel_rfl, ?_, ?_, by assumption, ?_⟩
                        rotate_left 2
                        · (simp only [List.getElem?_toArray, List.getElem?_cons_succ, List.getElem?_cons_zero]; exact rfl)
                        · exact fun _ _ _ h => h
                        · first
                            | (refine Or.inr ⟨by rfl, ?_⟩; exact rfl)
                            | (refine Or.inl ⟨by rfl, ?_⟩
                               intro w hSw
                               (try dsimp only at hSw)
                               (try go_split_ands)
                               go_simp
                               (first | done | with_reducible rfl))
                        try simp only [Act.put, List.setIfInBounds_toArray, List.set_cons_zero, List.set_cons_succ]
                        refine take_h 4 ⟨?_, ?_, ?_, by kernel_rfl, by kernel_rfl, by kernel_rfl, ?_, ?_, by assumption, ?_⟩
                        rotate_left 2
                        · (simp only [List.getElem?_toArray, List.getElem?_cons_succ, List.getElem?_cons_zero]; exact rfl)
                        · exact fun _ _ _ h => h
                        · first
                            | (refine Or.inr ⟨by rfl, ?_⟩; exact rfl)
                            | (refine Or.inl ⟨by rfl, ?_⟩
                               intro w hSw
                               (try dsimp only at hSw)
                               (try go_split_ands)
                               go_simp
                               (first | done | with_reducible rfl))
                        try simp only [Act.put, List.setIfInBounds_toArray, List.set_cons_zero, List.set_cons_succ]
                        refine take_h 5 ⟨?_, ?_, ?_, by kernel_rfl, by kernel_rfl, by kernel_rfl, ?_, ?_, by assumption, ?_⟩
                        rotate_left 2
                        · (simp only [List.getElem?_toArray, List.getElem?_cons_succ, List.getElem?_cons_zero]; exact rfl)
                        · exact fun _ _ _ h => h
                        · first
                            | (refine Or.inr ⟨by rfl, ?_⟩; exact rfl)
                            | (refine Or.inl ⟨by rfl, ?_⟩
                               intro w hSw
                               (try dsimp only at hSw)
                               (try go_split_ands)
                               go_simp
                               (first | done | with_reducible rfl))
                        try simp only [Act.put, List.setIfInBounds_toArray, List.set_cons_zero, List.set_cons_succ]
                        refine take_h 6 ⟨?_, ?_, ?_, by kernel_rfl, by kernel_rfl, by kernel_rfl, ?_, ?_, by assumption, ?_⟩
                        rotate_left 2
                        · (simp only [List.getElem?_toArray, List.getElem?_cons_succ, List.getElem?_cons_zero]; exact rfl)
                        · exact fun _ _ _ h => h
                        · first
                            | (refine Or.inr ⟨by rfl, ?_⟩; exact rfl)
                            | (refine Or.inl ⟨by rfl, ?_⟩
                               intro w hSw
                               (try dsimp only at hSw)
                               (try go_split_ands)
                               go_simp
                               (first | done | with_reducible rfl))
                        try simp only [Act.put, List.setIfInBounds_toArray, List.set_cons_zero, List.set_cons_succ]
                        refine take_h 7 ⟨?_, ?_, ?_, by kernel_rfl, by kernel_rfl, by kernel_rfl, ?_, ?_, by assumption, ?_⟩
                        rotate_left 2
                        · (simp only [List.getElem?_toArray, List.getElem?_cons_succ, List.getElem?_cons_zero]; exact rfl)
                        · exact fun _ _ _ h => h
                        · first
                            | (refine Or.inr ⟨by rfl, ?_⟩; exact rfl)
                            | (refine Or.inl ⟨by rfl, ?_⟩
                               intro w hSw
                               (try dsimp only at hSw)
                               (try go_split_ands)
                               go_simp
                               (first | done | with_reducible rfl))
                        try simp only [Act.put, List.setIfInBounds_toArray, List.set_cons_zero, List.set_cons_succ]
                        refine take_h 8 ⟨?_, ?_, ?_, by kernel_rfl, by kernel_rfl, by kernel_rfl, ?_, ?_, by assumption, ?_⟩
                        rotate_left 2
                        · (simp only [List.getElem?_toArray, List.getElem?_cons_succ, List.getElem?_cons_zero]; exact rfl)
                        · exact fun _ _ _ h => h
                        · first
                            | (refine Or.inr ⟨by rfl, ?_⟩; exact rfl)
                            | (refine Or.inl ⟨by rfl, ?_⟩
                               intro w hSw
                               (try dsimp only at hSw)
                               (try go_split_ands)
                               go_simp
                               (first | done | with_reducible rfl))
                        try simp only [Act.put, List.setIfInBounds_toArray, List.set_cons_zero, List.set_cons_succ]
                        refine take_h 9 ⟨?_, ?_, ?_, by kernel_rfl, by kernel_rfl, by kernel_rfl, ?_, ?_, by assumption, ?_⟩
                        rotate_left 2
                        · (simp only [List.getElem?_toArray, List.getElem?_cons_succ, List.getElem?_cons_zero]; exact rfl)
                        · exact fun _ _ _ h => h
                        · first
                            | (refine Or.inr ⟨by rfl, ?_⟩; exact rfl)
                            | (refine Or.inl ⟨by rfl, ?_⟩
                               intro w hSw
                               (try dsimp only at hSw)
                               (try go_split_ands)
                               go_simp
                               (first | done | with_reducible rfl))
                        try simp only [Act.put, List.setIfInBounds_toArray, List.set_cons_zero, List.set_cons_succ]
                        refine take_h 10 ⟨?_, ?_, ?_, by kernel_rfl, by kernel_rfl, by kernel_rfl, ?_, ?_, by assumption, ?_⟩
                        rotate_left 2
                        · (simp only [List.getElem?_toArray, List.getElem?_cons_succ, List.getElem?_cons_zero]; exact rfl)
                        · exact fun _ _ _ h => h
                        · first
                            | (refine Or.inr ⟨by rfl, ?_⟩; exact rfl)
                            | (refine Or.inl ⟨by rfl, ?_⟩
                               intro w hSw
                               (try dsimp only at hSw)
                               (try go_split_ands)
                               go_simp
                               (first | done | with_reducible rfl))
                        try simp only [Act.put, List.setIfInBounds_toArray, List.set_cons_zero, List.set_cons_succ]
                        refine take_h 11 ⟨?_, ?_, ?_, by kernel_rfl, by kernel_rfl, by kernel_rfl, ?_, ?_, by assumption, ?_⟩
                        rotate_left 2
                        · (simp only [List.getElem?_toArray, List.getElem?_cons_succ, List.getElem?_cons_zero]; exact rfl)
                        · exact fun _ _ _ h => h
                        · first
                            | (refine Or.inr ⟨by rfl, ?_⟩; exact rfl)
                            | (refine Or.inl ⟨by rfl, ?_⟩
                               intro w hSw
                               (try dsimp only at hSw)
                               (try go_split_ands)
                               go_simp
                               (first | done | with_reducible rfl))
                        try simp only [Act.put, List.setIfInBounds_toArray, List.set_cons_zero, List.set_cons_succ]
                        refine take_h 12 ⟨?_, ?_, ?_, by kernel_rfl, by kernel_rfl, by kernel_rfl, ?_, ?_, by assumption, ?_⟩
                        rotate_left 2
                        · (simp only [List.getElem?_toArray, List.getElem?_cons_succ, List.getElem?_cons_zero]; exact rfl)
                        · exact fun _ _ _ h => h
                        · first
                            | (refine Or.inr ⟨by rfl, ?_⟩; exact rfl)
                            | (refine Or.inl ⟨by rfl, ?_⟩
                               intro w hSw
                               (try dsimp only at hSw)
                               (try go_split_ands)
                               go_simp
                               (first | done | with_reducible rfl))
                        try simp only [Act.put, List.setIfInBounds_toArray, List.set_cons_zero, List.set_cons_succ]
                        refine take_h 13 ⟨?_, ?_, ?_, by kernel_rfl, by kernel_rfl, by kernel_rfl, ?_, ?_, by assumption, ?_⟩
                        rotate_left 2
                        · (simp only [List.getElem?_toArray, List.getElem?_cons_succ, List.getElem?_cons_zero]; exact rfl)
                        · exact fun _ _ _ h => h
                        · first
                            | (refine Or.inr ⟨by rfl, ?_⟩; exact rfl)
                            | (refine Or.inl ⟨by rfl, ?_⟩
                               intro w hSw
                               (try dsimp only at hSw)
                               (try go_split_ands)
                               go_simp
                               (first | done | with_reducible rfl))
                        try simp only [Act.put, List.setIfInBounds_toArray, List.set_cons_zero, List.set_cons_succ]
                        refine take_h 14 ⟨?_, ?_, ?_, by kernel_rfl, by kernel_rfl, by kernel_rfl, ?_, ?_, by assumption, ?_⟩
                        rotate_left 2
                        · (simp only [List.getElem?_toArray, List.getElem?_cons_succ, List.getElem?_cons_zero]; exact rfl)
                        · exact fun _ _ _ h => h
                        · first
                            | (refine Or.inr ⟨by rfl, ?_⟩; exact rfl)
                            | (refine Or.inl ⟨by rfl, ?_⟩
                               intro w hSw
                               (try dsimp only at hSw)
                               (try go_split_ands)
                               go_simp
                               (first | done | with_reducible rfl))
                        try simp only [Act.put, List.setIfInBounds_toArray, List.set_cons_zero, List.set_cons_succ]
                        refine take_h 15 ⟨?_, ?_, ?_, by kernel_rfl, by kernel_rfl, by kernel_rfl, ?_, ?_, by assumption, ?_⟩
                        rotate_left 2
                        · (simp only [List.getElem?_toArray, List.getElem?_cons_succ, List.getElem?_cons_zero]; exact rfl)
                        · exact fun _ _ _ h => h
                        · first
                            | (refine Or.inr ⟨by rfl, ?_⟩; exact rfl)
                            | (refine Or.inl ⟨by rfl, ?_⟩
                               intro w hSw
                               (try dsimp only at hSw)
                               (try go_split_ands)
                               go_simp
                               (first | done | with_reducible rfl))
                        try simp only [Act.put, List.setIfInBounds_toArray, List.set_cons_zero, List.set_cons_succ]
                        refine take_h 16 ⟨?_, ?_, ?_, by kernel_rfl, by kernel_rfl, by kernel_rfl, ?_, ?_, by assumption, ?_⟩
                        rotate_left 2
                        · (simp only [List.getElem?_toArray, List.getElem?_cons_succ, List.getElem?_cons_zero]; exact rfl)
                        · exact fun _ _ _ h => h
                        · first
                            | (refine Or.inr ⟨by rfl, ?_⟩; exact rfl)
                            | (refine Or.inl ⟨by rfl, ?_⟩
                               intro w hSw
                               (try dsimp only at hSw)
                               (try go_split_ands)
                               go_simp
                               (first | done | with_reducible rfl))
                        try simp only [Act.put, List.setIfInBounds_toArray, List.set_cons_zero, List.set_cons_succ]
                        refine take_h 17 ⟨?_, ?_, ?_, by kernel_rfl, by kernel_rfl, by kernel_rfl, ?_, ?_, by assumption, ?_⟩
                        rotate_left 2
                        · (simp only [List.getElem?_toArray, List.getElem?_cons_succ, List.getElem?_cons_zero]; exact rfl)
                        · exact fun _ _ _ h => h
                        · first
                            | (refine Or.inr ⟨by rfl, ?_⟩; exact rfl)
                            | (refine Or.inl ⟨by rfl, ?_⟩
                               intro w hSw
                               (try dsimp only at hSw)
                               (try go_split_ands)
                               go_simp
                               (first | done | with_reducible rfl))
                        try simp only [Act.put, List.setIfInBounds_toArray, List.set_cons_zero, List.set_cons_succ]
                        refine take_h 18 ⟨?_, ?_, ?_, by kernel_rfl, by kernel_rfl, by kernel_rfl, ?_, ?_, by assumption, ?_⟩
                        rotate_left 2
                        · (simp only [List.getElem?_toArray, List.getElem?_cons_succ, List.getElem?_cons_zero]; exact rfl)
                        · exact fun _ _ _ h => h
                        · first
                            | (refine Or.inr ⟨by rfl, ?_⟩; exact rfl)
                            | (refine Or.inl ⟨by rfl, ?_⟩
                               intro w hSw
                               (try dsimp only at hSw)
                               (try go_split_ands)
                               go_simp
                               (first | done | with_reducible rfl))
                        try simp only [Act.put, List.setIfInBounds_toArray, List.set_cons_zero, List.set_cons_succ]
                        refine wpAnyH_done (by kernel_rfl) ?_ _
                        clear hHeld
                        go_wp2
                        go_meet
                        exact ⟨k, nd2 + 1, rfl, by omega, by omega, rfl⟩
                  case rest =>
                    obtain ⟨k0, nd3, rfl, hk0, hk1, rfl⟩ := hcut
                    go_wp2
                    go_loopw [19] (fun s wx => ∃ (k nd : Nat), s = .int .i64 k ∧ q ≤ k ∧ k ≤ 64 ∧ wx = w2.drewN nd) (fun s _ => 64 - (intOf s).toNat)
                    case atStart => exact ⟨k0, _, rfl, hk0, hk1, rfl⟩
                    case round =>
                      obtain ⟨k, nd2, rfl, hqk, hk64, rfl⟩ := hrel
                      by_cases hk : k < 64
                      · obtain ⟨p, hp⟩ : ∃ p, t + k = p := ⟨_, rfl⟩
                        have q2 : IntKind.i64.wrap ((t : Int) + (k : Int)) = (p : Int) := by rw [IntWalk.i64_in _ ⟨by omega, by omega⟩]; omega
                        have hp5 : p < 512 := by omega
                        have hp6 : (p : Int) < 512 := by omega
                        have hp7 : (0 : Int) ≤ (p : Int) := by omega
                        have x0 : w2.cell? ⟨gx, p, none⟩ = some (.int .u8 ((x.getD p 0).toNat : Int)) := by rw [HCX.out p hp5]; exact u8s_getD x p (by rw [HXL.out]; exact hp5)
                        have n0 : w2.cell? ⟨g, p, none⟩ = some (.int .u8 ((x.getD p 0).toNat : Int)) := by
                          have h1 := HQ2.out k hqk hk
                          rw [show 64 * n + k = p by rw [HTT.out]; exact hp] at h1
                          rw [HK2.out p hp5, u8s_getD Kp p (by rw [HKPL.out]; exact hp5), List.getD_eq_getElem?_getD, List.getD_eq_getElem?_getD, h1]
                        obtain ⟨zx, hzx⟩ : ∃ z, x.getD p 0 = z := ⟨_, rfl⟩
                        rw [hzx] at x0 n0
                        clear hzx hp
                        go_wp2
                        refine wp_region_held_drew (S := fun wx => wx.cell? ⟨gx, p, none⟩ = some (.int .u8 (zx.toNat : Int)) ∧ wx.cell? ⟨g, p, none⟩ = some (.int .u8 (zx.toNat : Int))) (by kernel_rfl) ⟨x0, n0⟩ (fun hHeld => ?_)
                        refine take_h 0 ⟨?_, ?_, ?_, by kernel_rfl, by kernel_rfl, by kernel_rfl, ?_, ?_, by assumption, ?_⟩
                        rotate_left 2
                        · (simp only [List.getElem?_toArray, List.getElem?_cons_zero]; exact rfl)
                        · exact fun _ _ _ h => h
                        · first
                            | (refine Or.inr ⟨by rfl, ?_⟩; exact rfl)
                            | (refine Or.inl ⟨by rfl, ?_⟩
                               intro w hSw
                               (try dsimp only at hSw)
                               (try go_split_ands)
                               go_simp
                               (first | done | with_reducible rfl))
                        try simp only [Act.put, List.setIfInBounds_toArray, List.set_cons_zero, List.set_cons_succ]
                        refine take_h 1 ⟨?_, ?_, ?_, by kernel_rfl, by kernel_rfl, by kernel_rfl, ?_, ?_, by assumption, ?_⟩
                        rotate_left 2
                        · (simp only [List.getElem?_toArray, List.getElem?_cons_succ, List.getElem?_cons_zero]; exact rfl)
                        · exact fun _ _ _ h => h
                        · first
                            | (refine Or.inr ⟨by rfl, ?_⟩; exact rfl)
                            | (refine Or.inl ⟨by rfl, ?_⟩
                               intro w hSw
                               (try dsimp only at hSw)
                               (try go_split_ands)
                               go_simp
                               (first | done | with_reducible rfl))
                        try simp only [Act.put, List.setIfInBounds_toArray, List.set_cons_zero, List.set_cons_succ]
                        refine take_h 2 ⟨?_, ?_, ?_, by kernel_rfl, by kernel_rfl, by kernel_rfl, ?_, ?_, by assumption, ?_⟩
                        rotate_left 2
                        · (simp only [List.getElem?_toArray, List.getElem?_cons_succ, List.getElem?_cons_zero]; exact rfl)
                        · exact fun _ _ _ h => h
                        · first
                            | (refine Or.inr ⟨by rfl, ?_⟩; exact rfl)
                            | (refine Or.inl ⟨by rfl, ?_⟩
                               intro w hSw
                               (try dsimp only at hSw)
                               (try go_split_ands)
                               go_simp
                               (first | done | with_reducible rfl))
                        try simp only [Act.put, List.setIfInBounds_toArray, List.set_cons_zero, List.set_cons_succ]
                        refine take_h 3 ⟨?_, ?_, ?_, by kernel_rfl, by kernel_rfl, by kernel_rfl, ?_, ?_, by assumption, ?_⟩
                        rotate_left 2
                        · (simp only [List.getElem?_toArray, List.getElem?_cons_succ, List.getElem?_cons_zero]; exact rfl)
                        · exact fun _ _ _ h => h
                        · first
                            | (refine Or.inr ⟨by rfl, ?_⟩; exact rfl)
                            | (refine Or.inl ⟨by rfl, ?_⟩
                               intro w hSw
                               (try dsimp only at hSw)
                               (try go_split_ands)
                               go_simp
                               (first | done | with_reducible rfl))
                        try simp only [Act.put, List.setIfInBounds_toArray, List.set_cons_zero, List.set_cons_succ]
                        refine take_h 4 ⟨?_, ?_, ?_, by kernel_rfl, by kernel_rfl, by kernel_rfl, ?_, ?_, by assumption, ?_⟩
                        rotate_left 2
                        · (simp only [List.getElem?_toArray, List.getElem?_cons_succ, List.getElem?_cons_zero]; exact rfl)
                        · exact fun _ _ _ h => h
                        · first
                            | (refine Or.inr ⟨by rfl, ?_⟩; exact rfl)
                            | (refine Or.inl ⟨by rfl, ?_⟩
                               intro w hSw
                               (try dsimp only at hSw)
                               (try go_split_ands)
                               go_simp
                               (first | done | with_reducible rfl))
                        try simp only [Act.put, List.setIfInBounds_toArray, List.set_cons_zero, List.set_cons_succ]
                        refine take_h 5 ⟨?_, ?_, ?_, by kernel_rfl, by kernel_rfl, by kernel_rfl, ?_, ?_, by assumption, ?_⟩
                        rotate_left 2
                        · (simp only [List.getElem?_toArray, List.getElem?_cons_succ, List.getElem?_cons_zero]; exact rfl)
                        · exact fun _ _ _ h => h
                        · first
                            | (refine Or.inr ⟨by rfl, ?_⟩; exact rfl)
                            | (refine Or.inl ⟨by rfl, ?_⟩
                               intro w hSw
                               (try dsimp only at hSw)
                               (try go_split_ands)
                               go_simp
                               (first | done | with_reducible rfl))
                        try simp only [Act.put, List.setIfInBounds_toArray, List.set_cons_zero, List.set_cons_succ]
                        refine take_h 6 ⟨?_, ?_, ?_, by kernel_rfl, by kernel_rfl, by kernel_rfl, ?_, ?_, by assumption, ?_⟩
                        rotate_left 2
                        · (simp only [List.getElem?_toArray, List.getElem?_cons_succ, List.getElem?_cons_zero]; exact rfl)
                        · exact fun _ _ _ h => h
                        · first
                            | (refine Or.inr ⟨by rfl, ?_⟩; exact rfl)
                            | (refine Or.inl ⟨by rfl, ?_⟩
                               intro w hSw
                               (try dsimp only at hSw)
                               (try go_split_ands)
                               go_simp
                               (first | done | with_reducible rfl))
                        try simp only [Act.put, List.setIfInBounds_toArray, List.set_cons_zero, List.set_cons_succ]
                        refine take_h 7 ⟨?_, ?_, ?_, by kernel_rfl, by kernel_rfl, by kernel_rfl, ?_, ?_, by assumption, ?_⟩
                        rotate_left 2
                        · (simp only [List.getElem?_toArray, List.getElem?_cons_succ, List.getElem?_cons_zero]; exact rfl)
                        · exact fun _ _ _ h => h
                        · first
                            | (refine Or.inr ⟨by rfl, ?_⟩; exact rfl)
                            | (refine Or.inl ⟨by rfl, ?_⟩
                               intro w hSw
                               (try dsimp only at hSw)
                               (try go_split_ands)
                               go_simp
                               (first | done | with_reducible rfl))
                        try simp only [Act.put, List.setIfInBounds_toArray, List.set_cons_zero, List.set_cons_succ]
                        refine take_h 8 ⟨?_, ?_, ?_, by kernel_rfl, by kernel_rfl, by kernel_rfl, ?_, ?_, by assumption, ?_⟩
                        rotate_left 2
                        · (simp only [List.getElem?_toArray, List.getElem?_cons_succ, List.getElem?_cons_zero]; exact rfl)
                        · exact fun _ _ _ h => h
                        · first
                            | (refine Or.inr ⟨by rfl, ?_⟩; exact rfl)
                            | (refine Or.inl ⟨by rfl, ?_⟩
                               intro w hSw
                               (try dsimp only at hSw)
                               (try go_split_ands)
                               go_simp
                               (first | done | with_reducible rfl))
                        try simp only [Act.put, List.setIfInBounds_toArray, List.set_cons_zero, List.set_cons_succ]
                        refine take_h 9 ⟨?_, ?_, ?_, by kernel_rfl, by kernel_rfl, by kernel_rfl, ?_, ?_, by assumption, ?_⟩
                        rotate_left 2
                        · (simp only [List.getElem?_toArray, List.getElem?_cons_succ, List.getElem?_cons_zero]; exact rfl)
                        · exact fun _ _ _ h => h
                        · first
                            | (refine Or.inr ⟨by rfl, ?_⟩; exact rfl)
                            | (refine Or.inl ⟨by rfl, ?_⟩
                               intro w hSw
                               (try dsimp only at hSw)
                               (try go_split_ands)
                               go_simp
                               (first | done | with_reducible rfl))
                        try simp only [Act.put, List.setIfInBounds_toArray, List.set_cons_zero, List.set_cons_succ]
                        refine take_h 10 ⟨?_, ?_, ?_, by kernel_rfl, by kernel_rfl, by kernel_rfl, ?_, ?_, by assumption, ?_⟩
                        rotate_left 2
                        · (simp only [List.getElem?_toArray, List.getElem?_cons_succ, List.getElem?_cons_zero]; exact rfl)
                        · exact fun _ _ _ h => h
                        · first
                            | (refine Or.inr ⟨by rfl, ?_⟩; exact rfl)
                            | (refine Or.inl ⟨by rfl, ?_⟩
                               intro w hSw
                               (try dsimp only at hSw)
                               (try go_split_ands)
                               go_simp
                               (first | done | with_reducible rfl))
                        try simp only [Act.put, List.setIfInBounds_toArray, List.set_cons_zero, List.set_cons_succ]
                        refine take_h 11 ⟨?_, ?_, ?_, by kernel_rfl, by kernel_rfl, by kernel_rfl, ?_, ?_, by assumption, ?_⟩
                        rotate_left 2
                        · (simp only [List.getElem?_toArray, List.getElem?_cons_succ, List.getElem?_cons_zero]; exact rfl)
                        · exact fun _ _ _ h => h
                        · first
                            | (refine Or.inr ⟨by rfl, ?_⟩; exact rfl)
                            | (refine Or.inl ⟨by rfl, ?_⟩
                               intro w hSw
                               (try dsimp only at hSw)
                               (try go_split_ands)
                               go_simp
                               (first | done | with_reducible rfl))
                        try simp only [Act.put, List.setIfInBounds_toArray, List.set_cons_zero, List.set_cons_succ]
                        refine take_h 12 ⟨?_, ?_, ?_, by kernel_rfl, by kernel_rfl, by kernel_rfl, ?_, ?_, by assumption, ?_⟩
                        rotate_left 2
                        · (simp only [List.getElem?_toArray, List.getElem?_cons_succ, List.getElem?_cons_zero]; exact rfl)
                        · exact fun _ _ _ h => h
                        · first
                            | (refine Or.inr ⟨by rfl, ?_⟩; exact rfl)
                            | (refine Or.inl ⟨by rfl, ?_⟩
                               intro w hSw
                               (try dsimp only at hSw)
                               (try go_split_ands)
                               go_simp
                               (first | done | with_reducible rfl))
                        try simp only [Act.put, List.setIfInBounds_toArray, List.set_cons_zero, List.set_cons_succ]
                        refine take_h 13 ⟨?_, ?_, ?_, by kernel_rfl, by kernel_rfl, by kernel_rfl, ?_, ?_, by assumption, ?_⟩
                        rotate_left 2
                        · (simp only [List.getElem?_toArray, List.getElem?_cons_succ, List.getElem?_cons_zero]; exact rfl)
                        · exact fun _ _ _ h => h
                        · first
                            | (refine Or.inr ⟨by rfl, ?_⟩; exact rfl)
                            | (refine Or.inl ⟨by rfl, ?_⟩
                               intro w hSw
                               (try dsimp only at hSw)
                               (try go_split_ands)
                               go_simp
                               (first | done | with_reducible rfl))
                        try simp only [Act.put, List.setIfInBounds_toArray, List.set_cons_zero, List.set_cons_succ]
                        refine take_h 14 ⟨?_, ?_, ?_, by kernel_rfl, by kernel_rfl, by kernel_rfl, ?_, ?_, by assumption, ?_⟩
                        rotate_left 2
                        · (simp only [List.getElem?_toArray, List.getElem?_cons_succ, List.getElem?_cons_zero]; exact rfl)
                        · exact fun _ _ _ h => h
                        · first
                            | (refine Or.inr ⟨by rfl, ?_⟩; exact rfl)
                            | (refine Or.inl ⟨by rfl, ?_⟩
                               intro w hSw
                               (try dsimp only at hSw)
                               (try go_split_ands)
                               go_simp
                               (first | done | with_reducible rfl))
                        try simp only [Act.put, List.setIfInBounds_toArray, List.set_cons_zero, List.set_cons_succ]
                        refine wpAnyH_done (by kernel_rfl) ?_ _
                        clear hHeld
                        go_wp2
                        go_roundw
                        case rel => exact ⟨k + 1, nd2 + 1, by go_num, by omega, by omega, rfl⟩
                        case measure => simp [intOf]; omega
                      · have hk6 : k = 64 := by omega
                        subst hk6
                        clear hk
                        go_wp2
                        go_roundw
                        case rel => exact ⟨n + 1, nd2, by go_num, by omega, rfl⟩
                        case measure => simp [intOf]; omega
                · have hn : n = 8 := by omega
                  subst hn
                  have HRD := Lib.hid (HC2.out w2 HM.out (w2.drewN nd) ((Left.refl [] w2).drewN nd))
                  go_wp2_with fail
                  refine HRD.out.mono ?_
                  rintro e w4 ⟨rfl, hb4⟩
                  have HB4 := Lib.hid (HB2.out.trans (below_drewN (Below.refl _ _) nd |>.trans hb4))
                  have hzw4 := HB4.out.size
                  clear hb4
                  go_wp2_with (first | (go_at_call 7; refine (num4_any _ _).mono ?_; rintro e w' ⟨rfl, rfl⟩))
                  refine (wakes4_any w4).mono ?_
                  rintro e w5 ⟨rfl, hb5⟩
                  have hb6 := hbb1.trans ((HB4.out.trans (hb5.mono (by omega))).mono (Nat.le_succ _))
                  clear hb5
                  go_wp2
                  go_ret
                  exact ⟨rfl, hb6⟩
        · as_aux_lemma =>
            obtain ⟨M, hc1, hc2⟩ := HKL.out.kh.crash HKL.out.kl (by omega) (pv := (.slice none 0 0)) (picks := ([] : List Int)) (B0 := w.heap.size) (Rd.nil_ _ _ _) (by omega) (by simp) (by simp)
            have HC1 := Lib.hid hc1
            have HC2 := Lib.hid hc2
            clear hc1 hc2
            go_wp2_with fail
            refine HC1.out.mono ?_
            rintro e w2 ⟨gx, cx, x, rfl, hcx, hcm, hx, htorn, hcells, hM, hfx, hb2⟩
            have hcm2 : cx ≤ 9223372036854775807 := by unfold maxLen at hcm; omega
            have HXL := Lib.hid hx
            have HT := Lib.hid htorn
            have HCX := Lib.hid hcells
            have HM := Lib.hid hM
            have HN2 := Lib.hid (hfx.whole (by simp) HKL.out.nw)
            have HK2 := Lib.hid (HKL.out.kc.fx hfx (by simp) HKL.out.kl)
            have HB2 := Lib.hid hb2
            have HNL := Lib.hid HKL.out.nl
            have HKPL := Lib.hid HKL.out.kl
            clear hx htorn hcells hM hfx hb2 hcm
            go_wp2
            go_loopw [18] (fun i wr => ∃ (n nd : Nat), i = .int .i64 n ∧ n ≤ 8 ∧ wr = w2.drewN nd) (fun i _ => 8 - (intOf i).toNat)
            case atStart => exact ⟨0, 0, rfl, by omega, rfl⟩
            case round =>
              obtain ⟨n, nd, rfl, hn8, rfl⟩ := hrel
              by_cases hlt : n < 8
              · obtain ⟨q, hq, hq1, hq2⟩ := HT.out n hlt
                have HQ1 := Lib.hid hq1
                have HQ2 := Lib.hid hq2
                obtain ⟨t, ht⟩ : ∃ t, 64 * n = t := ⟨_, rfl⟩
                have q1 : IntKind.i64.wrap ((n : Int) * 64) = (t : Int) := by rw [IntWalk.i64_in _ ⟨by omega, by omega⟩]; omega
                have ht8 : t + 64 ≤ 512 := by omega
                have HTT := Lib.hid ht
                clear hq1 hq2 ht
                go_upto_block 6 with fail
                go_cut [19] (fun s wx => ∃ (k nd : Nat), s = .int .i64 k ∧ q ≤ k ∧ k ≤ 64 ∧ wx = w2.drewN nd)
                case first =>
                  go_wp2
                  go_loopw [19] (fun s wx => ∃ (k nd : Nat), s = .int .i64 k ∧ k ≤ 64 ∧ wx = w2.drewN nd) (fun s _ => 64 - (intOf s).toNat)
                  case atStart => exact ⟨0, _, rfl, by omega, rfl⟩
                  case round =>
                    obtain ⟨k, nd2, rfl, hk64, rfl⟩ := hrel
                    by_cases hk : k < 64
                    · have hkb : decide ((k : Int) < 64) = true := decide_eq_true (by omega)
                      obtain ⟨p, hp⟩ : ∃ p, t + k = p := ⟨_, rfl⟩
                      have q2 : IntKind.i64.wrap ((t : Int) + (k : Int)) = (p : Int) := by rw [IntWalk.i64_in _ ⟨by omega, by omega⟩]; omega
                      have hp5 : p < 512 := by omega
                      have hp6 : (p : Int) < 512 := by omega
                      have hp7 : (0 : Int) ≤ (p : Int) := by omega
                      have x0 : w2.cell? ⟨gx, p, none⟩ = some (.int .u8 ((x.getD p 0).toNat : Int)) := by rw [HCX.out p hp5]; exact u8s_getD x p (by rw [HXL.out]; exact hp5)
                      have n0 : w2.cell? ⟨h0, p, none⟩ = some (.int .u8 ((N.getD p 0).toNat : Int)) := by rw [HN2.out.cell]; exact u8s_getD N p (by rw [HNL.out]; exact hp5)
                      obtain ⟨zx, hzx⟩ : ∃ z, x.getD p 0 = z := ⟨_, rfl⟩
                      obtain ⟨zn, hzn⟩ : ∃ z, N.getD p 0 = z := ⟨_, rfl⟩
                      rw [hzx] at x0
                      rw [hzn] at n0
                      have HZX := Lib.hid hzx
                      have HZN := Lib.hid hzn
                      have HPP := Lib.hid hp
                      clear hzx hzn hp
                      by_cases he : zx = zn
                      · subst he
                        go_wp2
                        refine wp_region_held_drew (S := fun wx => wx.cell? ⟨gx, p, none⟩ = some (.int .u8 (zx.toNat : Int)) ∧ wx.cell? ⟨h0, p, none⟩ = some (.int .u8 (zx.toNat : Int))) (by kernel_rfl) ⟨x0, n0⟩ (fun hHeld => ?_)
                        refine take_h 0 ⟨?_, ?_, ?_, by kernel_rfl, by kernel_rfl, by kernel_rfl, ?_, ?_, by assumption, ?_⟩
                        rotate_left 2
                        · (simp only [List.getElem?_toArray, List.getElem?_cons_zero]; exact rfl)
                        · exact fun _ _ _ h => h
                        · first
                            | (refine Or.inr ⟨by rfl, ?_⟩; exact rfl)
                            | (refine Or.inl ⟨by rfl, ?_⟩
                               intro w hSw
                               (try dsimp only at hSw)
                               (try go_split_ands)
                               go_simp
                               (first | done | with_reducible rfl))
                        try simp only [Act.put, List.setIfInBounds_toArray, List.set_cons_zero, List.set_cons_succ]
                        refine take_h 1 ⟨?_, ?_, ?_, by kernel_rfl, by kernel_rfl, by kernel_rfl, ?_, ?_, by assumption, ?_⟩
                        rotate_left 2
                        · (simp only [List.getElem?_toArray, List.getElem?_cons_succ, List.getElem?_cons_zero]; exact rfl)
                        · exact fun _ _ _ h => h
                        · first
                            | (refine Or.inr ⟨by rfl, ?_⟩; exact rfl)
                            | (refine Or.inl ⟨by rfl, ?_⟩
                               intro w hSw
                               (try dsimp only at hSw)
                               (try go_split_ands)
                               go_simp
                               (first | done | with_reducible rfl))
                        try simp only [Act.put, List.setIfInBounds_toArray, List.set_cons_zero, List.set_cons_succ]
                        refine take_h 2 ⟨?_, ?_, ?_, by kernel_rfl, by kernel_rfl, by kernel_rfl, ?_, ?_, by assumption, ?_⟩
                        rotate_left 2
                        · (simp only [List.getElem?_toArray, List.getElem?_cons_succ, List.getElem?_cons_zero]; exact rfl)
                        · exact fun _ _ _ h => h
                        · first
                            | (refine Or.inr ⟨by rfl, ?_⟩; exact rfl)
                            | (refine Or.inl ⟨by rfl, ?_⟩
                               intro w hSw
                               (try dsimp only at hSw)
                               (try go_split_ands)
                               go_simp
                               (first | done | with_reducible rfl))
                        try simp only [Act.put, List.setIfInBounds_toArray, List.set_cons_zero, List.set_cons_succ]
                        refine take_h 3 ⟨?_, ?_, ?_, by kernel_rfl, by kernel_rfl, by kernel_rfl, ?_, ?_, by assumption, ?_⟩
                        rotate_left 2
                        · (simp only [List.getElem?_toArray, List.getElem?_cons_succ, List.getElem?_cons_zero]; exact rfl)
                        · exact fun _ _ _ h => h
                        · first
                            | (refine Or.inr ⟨by rfl, ?_⟩; exact rfl)
                            | (refine Or.inl ⟨by rfl, ?_⟩
                               intro w hSw
                               (try dsimp only at hSw)
                               (try go_split_ands)
                               go_simp
                               (first | done | with_reducible rfl))
                        try simp only [Act.put, List.setIfInBounds_toArray, List.set_cons_zero, List.set_cons_succ]
                        refine take_h 4 ⟨?_, ?_, ?_, by kernel_rfl, by kernel_rfl, by kernel_rfl, ?_, ?_, by assumption, ?_⟩
                        rotate_left 2
                        · (simp only [List.getElem?_toArray, List.getElem?_cons_succ, List.getElem?_cons_zero]; exact rfl)
                        · exact fun _ _ _ h => h
                        · first
                            | (refine Or.inr ⟨by rfl, ?_⟩; exact rfl)
                            | (refine Or.inl ⟨by rfl, ?_⟩
                               intro w hSw
                               (try dsimp only at hSw)
                               (try go_split_ands)
                               go_simp
                               (first | done | with_reducible rfl))
                        try simp only [Act.put, List.setIfInBounds_toArray, List.set_cons_zero, List.set_cons_succ]
                        refine take_h 5 ⟨?_, ?_, ?_, by kernel_rfl, by kernel_rfl, by kernel_rfl, ?_, ?_, by assumption, ?_⟩
                        rotate_left 2
                        · (simp only [List.getElem?_toArray, List.getElem?_cons_succ, List.getElem?_cons_zero]; exact rfl)
                        · exact fun _ _ _ h => h
                        · first
                            | (refine Or.inr ⟨by rfl, ?_⟩; exact rfl)
                            | (refine Or.inl ⟨by rfl, ?_⟩
                               intro w hSw
                               (try dsimp only at hSw)
                               (try go_split_ands)
                               go_simp
                               (first | done | with_reducible rfl))
                        try simp only [Act.put, List.setIfInBounds_toArray, List.set_cons_zero, List.set_cons_succ]
                        refine take_h 6 ⟨?_, ?_, ?_, by kernel_rfl, by kernel_rfl, by kernel_rfl, ?_, ?_, by assumption, ?_⟩
                        rotate_left 2
                        · (simp only [List.getElem?_toArray, List.getElem?_cons_succ, List.getElem?_cons_zero]; exact rfl)
                        · exact fun _ _ _ h => h
                        · first
                            | (refine Or.inr ⟨by rfl, ?_⟩; exact rfl)
                            | (refine Or.inl ⟨by rfl, ?_⟩
                               intro w hSw
                               (try dsimp only at hSw)
                               (try go_split_ands)
                               go_simp
                               (first | done | with_reducible rfl))
                        try simp only [Act.put, List.setIfInBounds_toArray, List.set_cons_zero, List.set_cons_succ]
                        refine take_h 7 ⟨?_, ?_, ?_, by kernel_rfl, by kernel_rfl, by kernel_rfl, ?_, ?_, by assumption, ?_⟩
                        rotate_left 2
                        · (simp only [List.getElem?_toArray, List.getElem?_cons_succ, List.getElem?_cons_zero]; exact rfl)
                        · exact fun _ _ _ h => h
                        · first
                            | (refine Or.inr ⟨by rfl, ?_⟩; exact rfl)
                            | (refine Or.inl ⟨by rfl, ?_⟩
                               intro w hSw
                               (try dsimp only at hSw)
                               (try go_split_ands)
                               go_simp
                               (first | done | with_reducible rfl))
                        try simp only [Act.put, List.setIfInBounds_toArray, List.set_cons_zero, List.set_cons_succ]
                        refine take_h 8 ⟨?_, ?_, ?_, by kernel_rfl, by kernel_rfl, by kernel_rfl, ?_, ?_, by assumption, ?_⟩
                        rotate_left 2
                        · (simp only [List.getElem?_toArray, List.getElem?_cons_succ, List.getElem?_cons_zero]; exact rfl)
                        · exact fun _ _ _ h => h
                        · first
                            | (refine Or.inr ⟨by rfl, ?_⟩; exact rfl)
                            | (refine Or.inl ⟨by rfl, ?_⟩
                               intro w hSw
                               (try dsimp only at hSw)
                               (try go_split_ands)
                               go_simp
                               (first | done | with_reducible rfl))
                        try simp only [Act.put, List.setIfInBounds_toArray, List.set_cons_zero, List.set_cons_succ]
                        refine take_h 9 ⟨?_, ?_, ?_, by kernel_rfl, by kernel_rfl, by kernel_rfl, ?_, ?_, by assumption, ?_⟩
                        rotate_left 2
                        · (simp only [List.getElem?_toArray, List.getElem?_cons_succ, List.getElem?_cons_zero]; exact rfl)
                        · exact fun _ _ _ h => h
                        · first
                            | (refine Or.inr ⟨by rfl, ?_⟩; exact rfl)
                            | (refine Or.inl ⟨by rfl, ?_⟩
                               intro w hSw
                               (try dsimp only at hSw)
                               (try go_split_ands)
                               go_simp
                               (first | done | with_reducible rfl))
                        try simp only [Act.put, List.setIfInBounds_toArray, List.set_cons_zero, List.set_cons_succ]
                        refine take_h 10 ⟨?_, ?_, ?_, by kernel_rfl, by kernel_rfl, by kernel_rfl, ?_, ?_, by assumption, ?_⟩
                        rotate_left 2
                        · (simp only [List.getElem?_toArray, List.getElem?_cons_succ, List.getElem?_cons_zero]; exact rfl)
                        · exact fun _ _ _ h => h
                        · first
                            | (refine Or.inr ⟨by rfl, ?_⟩; exact rfl)
                            | (refine Or.inl ⟨by rfl, ?_⟩
                               intro w hSw
                               (try dsimp only at hSw)
                               (try go_split_ands)
                               go_simp
                               (first | done | with_reducible rfl))
                        try simp only [Act.put, List.setIfInBounds_toArray, List.set_cons_zero, List.set_cons_succ]
                        refine take_h 11 ⟨?_, ?_, ?_, by kernel_rfl, by kernel_rfl, by kernel_rfl, ?_, ?_, by assumption, ?_⟩
                        rotate_left 2
                        · (simp only [List.getElem?_toArray, List.getElem?_cons_succ, List.getElem?_cons_zero]; exact rfl)
                        · exact fun _ _ _ h => h
                        · first
                            | (refine Or.inr ⟨by rfl, ?_⟩; exact rfl)
                            | (refine Or.inl ⟨by rfl, ?_⟩
                               intro w hSw
                               (try dsimp only at hSw)
                               (try go_split_ands)
                               go_simp
                               (first | done | with_reducible rfl))
                        try simp only [Act.put, List.setIfInBounds_toArray, List.set_cons_zero, List.set_cons_succ]
                        refine take_h 12 ⟨?_, ?_, ?_, by kernel_rfl, by kernel_rfl, by kernel_rfl, ?_, ?_, by assumption, ?_⟩
                        rotate_left 2
                        · (simp only [List.getElem?_toArray, List.getElem?_cons_succ, List.getElem?_cons_zero]; exact rfl)
                        · exact fun _ _ _ h => h
                        · first
                            | (refine Or.inr ⟨by rfl, ?_⟩; exact rfl)
                            | (refine Or.inl ⟨by rfl, ?_⟩
                               intro w hSw
                               (try dsimp only at hSw)
                               (try go_split_ands)
                               go_simp
                               (first | done | with_reducible rfl))
                        try simp only [Act.put, List.setIfInBounds_toArray, List.set_cons_zero, List.set_cons_succ]
                        refine take_h 13 ⟨?_, ?_, ?_, by kernel_rfl, by kernel_rfl, by kernel_rfl, ?_, ?_, by assumption, ?_⟩
                        rotate_left 2
                        · (simp only [List.getElem?_toArray, List.getElem?_cons_succ, List.getElem?_cons_zero]; exact rfl)
                        · exact fun _ _ _ h => h
                        · first
                            | (refine Or.inr ⟨by rfl, ?_⟩; exact rfl)
                            | (refine Or.inl ⟨by rfl, ?_⟩
                               intro w hSw
                               (try dsimp only at hSw)
                               (try go_split_ands)
                               go_simp
                               (first | done | with_reducible rfl))
                        try simp only [Act.put, List.setIfInBounds_toArray, List.set_cons_zero, List.set_cons_succ]
                        refine take_h 14 ⟨?_, ?_, ?_, by kernel_rfl, by kernel_rfl, by kernel_rfl, ?_, ?_, by assumption, ?_⟩
                        rotate_left 2
                        · (simp only [List.getElem?_toArray, List.getElem?_cons_succ, List.getElem?_cons_zero]; exact rfl)
                        · exact fun _ _ _ h => h
                        · first
                            | (refine Or.inr ⟨by rfl, ?_⟩; exact rfl)
                            | (refine Or.inl ⟨by rfl, ?_⟩
                               intro w hSw
                               (try dsimp only at hSw)
                               (try go_split_ands)
                               go_simp
                               (first | done | with_reducible rfl))
                        try simp only [Act.put, List.setIfInBounds_toArray, List.set_cons_zero, List.set_cons_succ]
                        refine take_h 15 ⟨?_, ?_, ?_, by kernel_rfl, by kernel_rfl, by kernel_rfl, ?_, ?_, by assumption, ?_⟩
                        rotate_left 2
                        · (simp only [List.getElem?_toArray, List.getElem?_cons_succ, List.getElem?_cons_zero]; exact rfl)
                        · exact fun _ _ _ h => h
                        · first
                            | (refine Or.inr ⟨by rfl, ?_⟩; exact rfl)
                            | (refine Or.inl ⟨by rfl, ?_⟩
                               intro w hSw
                               (try dsimp only at hSw)
                               (try go_split_ands)
                               go_simp
                               (first | done | with_reducible rfl))
                        try simp only [Act.put, List.setIfInBounds_toArray, List.set_cons_zero, List.set_cons_succ]
                        refine take_h 16 ⟨?_, ?_, ?_, by kernel_rfl, by kernel_rfl, by kernel_rfl, ?_, ?_, by assumption, ?_⟩
                        rotate_left 2
                        · (simp only [List.getElem?_toArray, List.getElem?_cons_succ, List.getElem?_cons_zero]; exact rfl)
                        · exact fun _ _ _ h => h
                        · first
                            | (refine Or.inr ⟨by rfl, ?_⟩; exact rfl)
                            | (refine Or.inl ⟨by rfl, ?_⟩
                               intro w hSw
                               (try dsimp only at hSw)
                               (try go_split_ands)
                               go_simp
                               (first | done | with_reducible rfl))
                        try simp only [Act.put, List.setIfInBounds_toArray, List.set_cons_zero, List.set_cons_succ]
                        refine take_h 17 ⟨?_, ?_, ?_, by kernel_rfl, by kernel_rfl, by kernel_rfl, ?_, ?_, by assumption, ?_⟩
                        rotate_left 2
                        · (simp only [List.getElem?_toArray, List.getElem?_cons_succ, List.getElem?_cons_zero]; exact rfl)
                        · exact fun _ _ _ h => h
                        · first
                            | (refine Or.inr ⟨by rfl, ?_⟩; exact rfl)
                            | (refine Or.inl ⟨by rfl, ?_⟩
                               intro w hSw
                               (try dsimp only at hSw)
                               (try go_split_ands)
                               go_simp
                               (first | done | with_reducible rfl))
                        try simp only [Act.put, List.setIfInBounds_toArray, List.set_cons_zero, List.set_cons_succ]
                        refine take_h 18 ⟨?_, ?_, ?_, by kernel_rfl, by kernel_rfl, by kernel_rfl, ?_, ?_, by assumption, ?_⟩
                        rotate_left 2
                        · (simp only [List.getElem?_toArray, List.getElem?_cons_succ, List.getElem?_cons_zero]; exact rfl)
                        · exact fun _ _ _ h => h
                        · first
                            | (refine Or.inr ⟨by rfl, ?_⟩; exact rfl)
                            | (refine Or.inl ⟨by rfl, ?_⟩
                               intro w hSw
                               (try dsimp only at hSw)
                               (try go_split_ands)
                               go_simp
                               (first | done | with_reducible rfl))
                        try simp only [Act.put, List.setIfInBounds_toArray, List.set_cons_zero, List.set_cons_succ]
                        refine wpAnyH_done (by kernel_rfl) ?_ _
                        clear hHeld
                        go_wp2
                        go_roundw
                        case rel => exact ⟨k + 1, nd2 + 1, by go_num, by omega, rfl⟩
                        case measure => simp [intOf]; omega
                      · have hqk : q ≤ k := by
                          rcases Nat.lt_or_ge k q with h | h
                          · exfalso
                            apply he
                            have h1 := HQ1.out k h
                            rw [show 64 * n + k = p by rw [HTT.out]; exact HPP.out] at h1
                            rw [← HZX.out, ← HZN.out, List.getD_eq_getElem?_getD, List.getD_eq_getElem?_getD, h1]
                          · exact h
                        have hne : ((zx.toNat : Int) == (zn.toNat : Int)) = false := beq_eq_false_iff_ne.2 (fun h => he (UInt8.toNat_inj.1 (by omega)))
                        clear he
                        go_wp2
                        refine wp_region_held_drew (S := fun wx => wx.cell? ⟨gx, p, none⟩ = some (.int .u8 (zx.toNat : Int)) ∧ wx.cell? ⟨h0, p, none⟩ = some (.int .u8 (zn.toNat : Int))) (by kernel_rfl) ⟨x0, n0⟩ (fun hHeld => ?_)
                        refine take_h 0 ⟨?_, ?_, ?_, by kernel_rfl, by kernel_rfl, by kernel_rfl, ?_, ?_, by assumption, ?_⟩
                        rotate_left 2
                        · (simp only [List.getElem?_toArray, List.getElem?_cons_zero]; exact rfl)
                        · exact fun _ _ _ h => h
                        · first
                            | (refine Or.inr ⟨by rfl, ?_⟩; exact rfl)
                            | (refine Or.inl ⟨by rfl, ?_⟩
                               intro w hSw
                               (try dsimp only at hSw)
                               (try go_split_ands)
                               go_simp
                               (first | done | with_reducible rfl))
                        try simp only [Act.put, List.setIfInBounds_toArray, List.set_cons_zero, List.set_cons_succ]
                        refine take_h 1 ⟨?_, ?_, ?_, by kernel_rfl, by kernel_rfl, by kernel_rfl, ?_, ?_, by assumption, ?_⟩
                        rotate_left 2
                        · (simp only [List.getElem?_toArray, List.getElem?_cons_succ, List.getElem?_cons_zero]; exact rfl)
                        · exact fun _ _ _ h => h
                        · first
                            | (refine Or.inr ⟨by rfl, ?_⟩; exact rfl)
                            | (refine Or.inl ⟨by rfl, ?_⟩
                               intro w hSw
                               (try dsimp only at hSw)
                               (try go_split_ands)
                               go_simp
                               (first | done | with_reducible rfl))
                        try simp only [Act.put, List.setIfInBounds_toArray, List.set_cons_zero, List.set_cons_succ]
                        refine take_h 2 ⟨?_, ?_, ?_, by kernel_rfl, by kernel_rfl, by kernel_rfl, ?_, ?_, by assumption, ?_⟩
                        rotate_left 2
                        · (simp only [List.getElem?_toArray, List.getElem?_cons_succ, List.getElem?_cons_zero]; exact rfl)
                        · exact fun _ _ _ h => h
                        · first
                            | (refine Or.inr ⟨by rfl, ?_⟩; exact rfl)
                            | (refine Or.inl ⟨by rfl, ?_⟩
                               intro w hSw
                               (try dsimp only at hSw)
                               (try go_split_ands)
                               go_simp
                               (first | done | with_reducible rfl))
                        try simp only [Act.put, List.setIfInBounds_toArray, List.set_cons_zero, List.set_cons_succ]
                        refine take_h 3 ⟨?_, ?_, ?_, by kernel_rfl, by kernel_rfl, by kernel_rfl, ?_, ?_, by assumption, ?_⟩
                        rotate_left 2
                        · (simp only [List.getElem?_toArray, List.getElem?_cons_succ, List.getElem?_cons_zero]; exact rfl)
                        · exact fun _ _ _ h => h
                        · first
                            | (refine Or.inr ⟨by rfl, ?_⟩; exact rfl)
                            | (refine Or.inl ⟨by rfl, ?_⟩
                               intro w hSw
                               (try dsimp only at hSw)
                               (try go_split_ands)
                               go_simp
                               (first | done | with_reducible rfl))
                        try simp only [Act.put, List.setIfInBounds_toArray, List.set_cons_zero, List.set_cons_succ]
                        refine take_h 4 ⟨?_, ?_, ?_, by kernel_rfl, by kernel_rfl, by kernel_rfl, ?_, ?_, by assumption, ?_⟩
                        rotate_left 2
                        · (simp only [List.getElem?_toArray, List.getElem?_cons_succ, List.getElem?_cons_zero]; exact rfl)
                        · exact fun _ _ _ h => h
                        · first
                            | (refine Or.inr ⟨by rfl, ?_⟩; exact rfl)
                            | (refine Or.inl ⟨by rfl, ?_⟩
                               intro w hSw
                               (try dsimp only at hSw)
                               (try go_split_ands)
                               go_simp
                               (first | done | with_reducible rfl))
                        try simp only [Act.put, List.setIfInBounds_toArray, List.set_cons_zero, List.set_cons_succ]
                        refine take_h 5 ⟨?_, ?_, ?_, by kernel_rfl, by kernel_rfl, by kernel_rfl, ?_, ?_, by assumption, ?_⟩
                        rotate_left 2
                        · (simp only [List.getElem?_toArray, List.getElem?_cons_succ, List.getElem?_cons_zero]; exact rfl)
                        · exact fun _ _ _ h => h
                        · first
                            | (refine Or.inr ⟨by rfl, ?_⟩; exact rfl)
                            | (refine Or.inl ⟨by rfl, ?_⟩
                               intro w hSw
                               (try dsimp only at hSw)
                               (try go_split_ands)
                               go_simp
                               (first | done | with_reducible rfl))
                        try simp only [Act.put, List.setIfInBounds_toArray, List.set_cons_zero, List.set_cons_succ]
                        refine take_h 6 ⟨?_, ?_, ?_, by kernel_rfl, by kernel_rfl, by kernel_rfl, ?_, ?_, by assumption, ?_⟩
                        rotate_left 2
                        · (simp only [List.getElem?_toArray, List.getElem?_cons_succ, List.getElem?_cons_zero]; exact rfl)
                        · exact fun _ _ _ h => h
                        · first
                            | (refine Or.inr ⟨by rfl, ?_⟩; exact rfl)
                            | (refine Or.inl ⟨by rfl, ?_⟩
                               intro w hSw
                               (try dsimp only at hSw)
                               (try go_split_ands)
                               go_simp
                               (first | done | with_reducible rfl))
                        try simp only [Act.put, List.setIfInBounds_toArray, List.set_cons_zero, List.set_cons_succ]
                        refine take_h 7 ⟨?_, ?_, ?_, by kernel_rfl, by kernel_rfl, by kernel_rfl, ?_, ?_, by assumption, ?_⟩
                        rotate_left 2
                        · (simp only [List.getElem?_toArray, List.getElem?_cons_succ, List.getElem?_cons_zero]; exact rfl)
                        · exact fun _ _ _ h => h
                        · first
                            | (refine Or.inr ⟨by rfl, ?_⟩; exact rfl)
                            | (refine Or.inl ⟨by rfl, ?_⟩
                               intro w hSw
                               (try dsimp only at hSw)
                               (try go_split_ands)
                               go_simp
                               (first | done | with_reducible rfl))
                        try simp only [Act.put, List.setIfInBounds_toArray, List.set_cons_zero, List.set_cons_succ]
                        refine take_h 8 ⟨?_, ?_, ?_, by kernel_rfl, by kernel_rfl, by kernel_rfl, ?_, ?_, by assumption, ?_⟩
                        rotate_left 2
                        · (simp only [List.getElem?_toArray, List.getElem?_cons_succ, List.getElem?_cons_zero]; exact rfl)
                        · exact fun _ _ _ h => h
                        · first
                            | (refine Or.inr ⟨by rfl, ?_⟩; exact rfl)
                            | (refine Or.inl ⟨by rfl, ?_⟩
                               intro w hSw
                               (try dsimp only at hSw)
                               (try go_split_ands)
                               go_simp
                               (first | done | with_reducible rfl))
                        try simp only [Act.put, List.setIfInBounds_toArray, List.set_cons_zero, List.set_cons_succ]
                        refine take_h 9 ⟨?_, ?_, ?_, by kernel_rfl, by kernel_rfl, by kernel_rfl, ?_, ?_, by assumption, ?_⟩
                        rotate_left 2
                        · (simp only [List.getElem?_toArray, List.getElem?_cons_succ, List.getElem?_cons_zero]; exact rfl)
                        · exact fun _ _ _ h => h
                        · first
                            | (refine Or.inr ⟨by rfl, ?_⟩; exact rfl)
                            | (refine Or.inl ⟨by rfl, ?_⟩
                               intro w hSw
                               (try dsimp only at hSw)
                               (try go_split_ands)
                               go_simp
                               (first | done | with_reducible rfl))
                        try simp only [Act.put, List.setIfInBounds_toArray, List.set_cons_zero, List.set_cons_succ]
                        refine take_h 10 ⟨?_, ?_, ?_, by kernel_rfl, by kernel_rfl, by kernel_rfl, ?_, ?_, by assumption, ?_⟩
                        rotate_left 2
                        · (simp only [List.getElem?_toArray, List.getElem?_cons_succ, List.getElem?_cons_zero]; exact rfl)
                        · exact fun _ _ _ h => h
                        · first
                            | (refine Or.inr ⟨by rfl, ?_⟩; exact rfl)
                            | (refine Or.inl ⟨by rfl, ?_⟩
                               intro w hSw
                               (try dsimp only at hSw)
                               (try go_split_ands)
                               go_simp
                               (first | done | with_reducible rfl))
                        try simp only [Act.put, List.setIfInBounds_toArray, List.set_cons_zero, List.set_cons_succ]
                        refine take_h 11 ⟨?_, ?_, ?_, by kernel_rfl, by kernel_rfl, by kernel_rfl, ?_, ?_, by assumption, ?_⟩
                        rotate_left 2
                        · (simp only [List.getElem?_toArray, List.getElem?_cons_succ, List.getElem?_cons_zero]; exact rfl)
                        · exact fun _ _ _ h => h
                        · first
                            | (refine Or.inr ⟨by rfl, ?_⟩; exact rfl)
                            | (refine Or.inl ⟨by rfl, ?_⟩
                               intro w hSw
                               (try dsimp only at hSw)
                               (try go_split_ands)
                               go_simp
                               (first | done | with_reducible rfl))
                        try simp only [Act.put, List.setIfInBounds_toArray, List.set_cons_zero, List.set_cons_succ]
                        refine take_h 12 ⟨?_, ?_, ?_, by kernel_rfl, by kernel_rfl, by kernel_rfl, ?_, ?_, by assumption, ?_⟩
                        rotate_left 2
                        · (simp only [List.getElem?_toArray, List.getElem?_cons_succ, List.getElem?_cons_zero]; exact rfl)
                        · exact fun _ _ _ h => h
                        · first
                            | (refine Or.inr ⟨by rfl, ?_⟩; exact rfl)
                            | (refine Or.inl ⟨by rfl, ?_⟩
                               intro w hSw
                               (try dsimp only at hSw)
                               (try go_split_ands)
                               go_simp
                               (first | done | with_reducible rfl))
                        try simp only [Act.put, List.setIfInBounds_toArray, List.set_cons_zero, List.set_cons_succ]
                        refine take_h 13 ⟨?_, ?_, ?_, by kernel_rfl, by kernel_rfl, by kernel_rfl, ?_, ?_, by assumption, ?_⟩
                        rotate_left 2
                        · (simp only [List.getElem?_toArray, List.getElem?_cons_succ, List.getElem?_cons_zero]; exact rfl)
                        · exact fun _ _ _ h => h
                        · first
                            | (refine Or.inr ⟨by rfl, ?_⟩; exact rfl)
                            | (refine Or.inl ⟨by rfl, ?_⟩
                               intro w hSw
                               (try dsimp only at hSw)
                               (try go_split_ands)
                               go_simp
                               (first | done | with_reducible rfl))
                        try simp only [Act.put, List.setIfInBounds_toArray, List.set_cons_zero, List.set_cons_succ]
                        refine take_h 14 ⟨?_, ?_, ?_, by kernel_rfl, by kernel_rfl, by kernel_rfl, ?_, ?_, by assumption, ?_⟩
                        rotate_left 2
                        · (simp only [List.getElem?_toArray, List.getElem?_cons_succ, List.getElem?_cons_zero]; exact rfl)
                        · exact fun _ _ _ h => h
                        · first
                            | (refine Or.inr ⟨by rfl, ?_⟩; exact rfl)
                            | (refine Or.inl ⟨by rfl, ?_⟩
                               intro w hSw
                               (try dsimp only at hSw)
                               (try go_split_ands)
                               go_simp
                               (first | done | with_reducible rfl))
                        try simp only [Act.put, List.setIfInBounds_toArray, List.set_cons_zero, List.set_cons_succ]
                        refine take_h 15 ⟨?_, ?_, ?_, by kernel_rfl, by kernel_rfl, by kernel_rfl, ?_, ?_, by assumption, ?_⟩
                        rotate_left 2
                        · (simp only [List.getElem?_toArray, List.getElem?_cons_succ, List.getElem?_cons_zero]; exact rfl)
                        · exact fun _ _ _ h => h
                        · first
                            | (refine Or.inr ⟨by rfl, ?_⟩; exact rfl)
                            | (refine Or.inl ⟨by rfl, ?_⟩
                               intro w hSw
                               (try dsimp only at hSw)
                               (try go_split_ands)
                               go_simp
                               (first | done | with_reducible rfl))
                        try simp only [Act.put, List.setIfInBounds_toArray, List.set_cons_zero, List.set_cons_succ]
                        refine take_h 16 ⟨?_, ?_, ?_, by kernel_rfl, by kernel_rfl, by kernel_rfl, ?_, ?_, by assumption, ?_⟩
                        rotate_left 2
                        · (simp only [List.getElem?_toArray, List.getElem?_cons_succ, List.getElem?_cons_zero]; exact rfl)
                        · exact fun _ _ _ h => h
                        · first
                            | (refine Or.inr ⟨by rfl, ?_⟩; exact rfl)
                            | (refine Or.inl ⟨by rfl, ?_⟩
                               intro w hSw
                               (try dsimp only at hSw)
                               (try go_split_ands)
                               go_simp
                               (first | done | with_reducible rfl))
                        try simp only [Act.put, List.setIfInBounds_toArray, List.set_cons_zero, List.set_cons_succ]
                        refine take_h 17 ⟨?_, ?_, ?_, by kernel_rfl, by kernel_rfl, by kernel_rfl, ?_, ?_, by assumption, ?_⟩
                        rotate_left 2
                        · (simp only [List.getElem?_toArray, List.getElem?_cons_succ, List.getElem?_cons_zero]; exact rfl)
                        · exact fun _ _ _ h => h
                        · first
                            | (refine Or.inr ⟨by rfl, ?_⟩; exact rfl)
                            | (refine Or.inl ⟨by rfl, ?_⟩
                               intro w hSw
                               (try dsimp only at hSw)
                               (try go_split_ands)
                               go_simp
                               (first | done | with_reducible rfl))
                        try simp only [Act.put, List.setIfInBounds_toArray, List.set_cons_zero, List.set_cons_succ]
                        refine take_h 18 ⟨?_, ?_, ?_, by kernel_rfl, by kernel_rfl, by kernel_rfl, ?_, ?_, by assumption, ?_⟩
                        rotate_left 2
                        · (simp only [List.getElem?_toArray, List.getElem?_cons_succ, List.getElem?_cons_zero]; exact rfl)
                        · exact fun _ _ _ h => h
                        · first
                            | (refine Or.inr ⟨by rfl, ?_⟩; exact rfl)
                            | (refine Or.inl ⟨by rfl, ?_⟩
                               intro w hSw
                               (try dsimp only at hSw)
                               (try go_split_ands)
                               go_simp
                               (first | done | with_reducible rfl))
                        try simp only [Act.put, List.setIfInBounds_toArray, List.set_cons_zero, List.set_cons_succ]
                        refine wpAnyH_done (by kernel_rfl) ?_ _
                        clear hHeld
                        go_wp2
                        go_meet
                        exact ⟨k, nd2 + 1, rfl, hqk, by omega, rfl⟩
                    · have hkb : decide ((k : Int) < 64) = false := decide_eq_false (by omega)
                      go_wp2
                      refine wp_region_held_drew (S := fun wx => True) (by kernel_rfl) trivial (fun hHeld => ?_)
                      refine take_h 0 ⟨?_, ?_, ?_, by kernel_rfl, by kernel_rfl, by kernel_rfl, ?_, ?_, by assumption, ?_⟩
                      rotate_left 2
                      · (simp only [List.getElem?_toArray, List.getElem?_cons_zero]; exact rfl)
                      · exact fun _ _ _ h => h
                      · first
                          | (refine Or.inr ⟨by rfl, ?_⟩; exact rfl)
                          | (refine Or.inl ⟨by rfl, ?_⟩
                             intro w hSw
                             (try dsimp only at hSw)
                             (try go_split_ands)
                             go_simp
                             (first | done | with_reducible rfl))
                      try simp only [Act.put, List.setIfInBounds_toArray, List.set_cons_zero, List.set_cons_succ]
                      refine take_h 1 ⟨?_, ?_, ?_, by kernel_rfl, by kernel_rfl, by kernel_rfl, ?_, ?_, by assumption, ?_⟩
                      rotate_left 2
                      · (simp only [List.getElem?_toArray, List.getElem?_cons_succ, List.getElem?_cons_zero]; exact rfl)
                      · exact fun _ _ _ h => h
                      · first
                          | (refine Or.inr ⟨by rfl, ?_⟩; exact rfl)
                          | (refine Or.inl ⟨by rfl, ?_⟩
                             intro w hSw
                             (try dsimp only at hSw)
                             (try go_split_ands)
                             go_simp
                             (first | done | with_reducible rfl))
                      try simp only [Act.put, List.setIfInBounds_toArray, List.set_cons_zero, List.set_cons_succ]
                      refine take_h 2 ⟨?_, ?_, ?_, by kernel_rfl, by kernel_rfl, by kernel_rfl, ?_, ?_, by assumption, ?_⟩
                      rotate_left 2
                      · (simp only [List.getElem?_toArray, List.getElem?_cons_succ, List.getElem?_cons_zero]; exact rfl)
                      · exact fun _ _ _ h => h
                      · first
                          | (refine Or.inr ⟨by rfl, ?_⟩; exact rfl)
                          | (refine Or.inl ⟨by rfl, ?_⟩
                             intro w hSw
                             (try dsimp only at hSw)
                             (try go_split_ands)
                             go_simp
                             (first | done | with_reducible rfl))
                      try simp only [Act.put, List.setIfInBounds_toArray, List.set_cons_zero, List.set_cons_succ]
                      refine take_h 3 ⟨?_, ?_, ?_, by kernel_rfl, by kernel_rfl, by kernel_rfl, ?_, ?_, by assumption, ?_⟩
                      rotate_left 2
                      · (simp only [List.getElem?_toArray, List.getElem?_cons_succ, List.getElem?_cons_zero]; exact rfl)
                      · exact fun _ _ _ h => h
                      · first
                          | (refine Or.inr ⟨by rfl, ?_⟩; exact rfl)
                          | (refine Or.inl ⟨by rfl, ?_⟩
                             intro w hSw
                             (try dsimp only at hSw)
                             (try go_split_ands)
                             go_simp
                             (first | done | with_reducible rfl))
                      try simp only [Act.put, List.setIfInBounds_toArray, List.set_cons_zero, List.set_cons_succ]
                      refine take_h 4 ⟨?_, ?_, ?_, by kernel_rfl, by kernel_rfl, by kernel_rfl, ?_, ?_, by assumption, ?_⟩
                      rotate_left 2
                      · (simp only [List.getElem?_toArray, List.getElem?_cons_succ, List.getElem?_cons_zero]; exact rfl)
                      · exact fun _ _ _ h => h
                      · first
                          | (refine Or.inr ⟨by rfl, ?_⟩; exact rfl)
                          | (refine Or.inl ⟨by rfl, ?_⟩
                             intro w hSw
                             (try dsimp only at hSw)
                             (try go_split_ands)
                             go_simp
                             (first | done | with_reducible rfl))
                      try simp only [Act.put, List.setIfInBounds_toArray, List.set_cons_zero, List.set_cons_succ]
                      refine take_h 5 ⟨?_, ?_, ?_, by kernel_rfl, by kernel_rfl, by kernel_rfl, ?_, ?_, by assumption, ?_⟩
                      rotate_left 2
                      · (simp only [List.getElem?_toArray, List.getElem?_cons_succ, List.getElem?_cons_zero]; exact rfl)
                      · exact fun _ _ _ h => h
                      · first
                          | (refine Or.inr ⟨by rfl, ?_⟩; exact rfl)
                          | (refine Or.inl ⟨by rfl, ?_⟩
                             intro w hSw
                             (try dsimp only at hSw)
                             (try go_split_ands)
                             go_simp
                             (first | done | with_reducible rfl))
                      try simp only [Act.put, List.setIfInBounds_toArray, List.set_cons_zero, List.set_cons_succ]
                      refine take_h 6 ⟨?_, ?_, ?_, by kernel_rfl, by kernel_rfl, by kernel_rfl, ?_, ?_, by assumption, ?_⟩
                      rotate_left 2
                      · (simp only [List.getElem?_toArray, List.getElem?_cons_succ, List.getElem?_cons_zero]; exact rfl)
                      · exact fun _ _ _ h => h
                      · first
                          | (refine Or.inr ⟨by rfl, ?_⟩; exact rfl)
                          | (refine Or.inl ⟨by rfl, ?_⟩
                             intro w hSw
                             (try dsimp only at hSw)
                             (try go_split_ands)
                             go_simp
                             (first | done | with_reducible rfl))
                      try simp only [Act.put, List.setIfInBounds_toArray, List.set_cons_zero, List.set_cons_succ]
                      refine take_h 7 ⟨?_, ?_, ?_, by kernel_rfl, by kernel_rfl, by kernel_rfl, ?_, ?_, by assumption, ?_⟩
                      rotate_left 2
                      · (simp only [List.getElem?_toArray, List.getElem?_cons_succ, List.getElem?_cons_zero]; exact rfl)
                      · exact fun _ _ _ h => h
                      · first
                          | (refine Or.inr ⟨by rfl, ?_⟩; exact rfl)
                          | (refine Or.inl ⟨by rfl, ?_⟩
                             intro w hSw
                             (try dsimp only at hSw)
                             (try go_split_ands)
                             go_simp
                             (first | done | with_reducible rfl))
                      try simp only [Act.put, List.setIfInBounds_toArray, List.set_cons_zero, List.set_cons_succ]
                      refine take_h 8 ⟨?_, ?_, ?_, by kernel_rfl, by kernel_rfl, by kernel_rfl, ?_, ?_, by assumption, ?_⟩
                      rotate_left 2
                      · (simp only [List.getElem?_toArray, List.getElem?_cons_succ, List.getElem?_cons_zero]; exact rfl)
                      · exact fun _ _ _ h => h
                      · first
                          | (refine Or.inr ⟨by rfl, ?_⟩; exact rfl)
                          | (refine Or.inl ⟨by rfl, ?_⟩
                             intro w hSw
                             (try dsimp only at hSw)
                             (try go_split_ands)
                             go_simp
                             (first | done | with_reducible rfl))
                      try simp only [Act.put, List.setIfInBounds_toArray, List.set_cons_zero, List.set_cons_succ]
                      refine take_h 9 ⟨?_, ?_, ?_, by kernel_rfl, by kernel_rfl, by kernel_rfl, ?_, ?_, by assumption, ?_⟩
                      rotate_left 2
                      · (simp only [List.getElem?_toArray, List.getElem?_cons_succ, List.getElem?_cons_zero]; exact rfl)
                      · exact fun _ _ _ h => h
                      · first
                          | (refine Or.inr ⟨by rfl, ?_⟩; exact rfl)
                          | (refine Or.inl ⟨by rfl, ?_⟩
                             intro w hSw
                             (try dsimp only at hSw)
                             (try go_split_ands)
                             go_simp
                             (first | done | with_reducible rfl))
                      try simp only [Act.put, List.setIfInBounds_toArray, List.set_cons_zero, List.set_cons_succ]
                      refine take_h 10 ⟨?_, ?_, ?_, by kernel_rfl, by kernel_rfl, by kernel_rfl, ?_, ?_, by assumption, ?_⟩
                      rotate_left 2
                      · (simp only [List.getElem?_toArray, List.getElem?_cons_succ, List.getElem?_cons_zero]; exact rfl)
                      · exact fun _ _ _ h => h
                      · first
                          | (refine Or.inr ⟨by rfl, ?_⟩; exact rfl)
                          | (refine Or.inl ⟨by rfl, ?_⟩
                             intro w hSw
                             (try dsimp only at hSw)
                             (try go_split_ands)
                             go_simp
                             (first | done | with_reducible rfl))
                      try simp only [Act.put, List.setIfInBounds_toArray, List.set_cons_zero, List.set_cons_succ]
                      refine take_h 11 ⟨?_, ?_, ?_, by kernel_rfl, by kernel_rfl, by kernel_rfl, ?_, ?_, by assumption, ?_⟩
                      rotate_left 2
                      · (simp only [List.getElem?_toArray, List.getElem?_cons_succ, List.getElem?_cons_zero]; exact rfl)
                      · exact fun _ _ _ h => h
                      · first
                          | (refine Or.inr ⟨by rfl, ?_⟩; exact rfl)
                          | (refine Or.inl ⟨by rfl, ?_⟩
                             intro w hSw
                             (try dsimp only at hSw)
                             (try go_split_ands)
                             go_simp
                             (first | done | with_reducible rfl))
                      try simp only [Act.put, List.setIfInBounds_toArray, List.set_cons_zero, List.set_cons_succ]
                      refine take_h 12 ⟨?_, ?_, ?_, by kernel_rfl, by kernel_rfl, by kernel_rfl, ?_, ?_, by assumption, ?_⟩
                      rotate_left 2
                      · (simp only [List.getElem?_toArray, List.getElem?_cons_succ, List.getElem?_cons_zero]; exact rfl)
                      · exact fun _ _ _ h => h
                      · first
                          | (refine Or.inr ⟨by rfl, ?_⟩; exact rfl)
                          | (refine Or.inl ⟨by rfl, ?_⟩
                             intro w hSw
                             (try dsimp only at hSw)
                             (try go_split_ands)
                             go_simp
                             (first | done | with_reducible rfl))
                      try simp only [Act.put, List.setIfInBounds_toArray, List.set_cons_zero, List.set_cons_succ]
                      refine take_h 13 ⟨?_, ?_, ?_, by kernel_rfl, by kernel_rfl, by kernel_rfl, ?_, ?_, by assumption, ?_⟩
                      rotate_left 2
                      · (simp only [List.getElem?_toArray, List.getElem?_cons_succ, List.getElem?_cons_zero]; exact rfl)
                      · exact fun _ _ _ h => h
                      · first
                          | (refine Or.inr ⟨by rfl, ?_⟩; exact rfl)
                          | (refine Or.inl ⟨by rfl, ?_⟩
                             intro w hSw
                             (try dsimp only at hSw)
                             (try go_split_ands)
                             go_simp
                             (first | done | with_reducible rfl))
                      try simp only [Act.put, List.setIfInBounds_toArray, List.set_cons_zero, List.set_cons_succ]
                      refine take_h 14 ⟨?_, ?_, ?_, by kernel_rfl, by kernel_rfl, by kernel_rfl, ?_, ?_, by assumption, ?_⟩
                      rotate_left 2
                      · (simp only [List.getElem?_toArray, List.getElem?_cons_succ, List.getElem?_cons_zero]; exact rfl)
                      · exact fun _ _ _ h => h
                      · first
                          | (refine Or.inr ⟨by rfl, ?_⟩; exact rfl)
                          | (refine Or.inl ⟨by rfl, ?_⟩
                             intro w hSw
                             (try dsimp only at hSw)
                             (try go_split_ands)
                             go_simp
                             (first | done | with_reducible rfl))
                      try simp only [Act.put, List.setIfInBounds_toArray, List.set_cons_zero, List.set_cons_succ]
                      refine take_h 15 ⟨?_, ?_, ?_, by kernel_rfl, by kernel_rfl, by kernel_rfl, ?_, ?_, by assumption, ?_⟩
                      rotate_left 2
                      · (simp only [List.getElem?_toArray, List.getElem?_cons_succ, List.getElem?_cons_zero]; exact rfl)
                      · exact fun _ _ _ h => h
                      · first
                          | (refine Or.inr ⟨by rfl, ?_⟩; exact rfl)
                          | (refine Or.inl ⟨by rfl, ?_⟩
                             intro w hSw
                             (try dsimp only at hSw)
                             (try go_split_ands)
                             go_simp
                             (first | done | with_reducible rfl))
                      try simp only [Act.put, List.setIfInBounds_toArray, List.set_cons_zero, List.set_cons_succ]
                      refine take_h 16 ⟨?_, ?_, ?_, by kernel_rfl, by kernel_rfl, by kernel_rfl, ?_, ?_, by assumption, ?_⟩
                      rotate_left 2
                      · (simp only [List.getElem?_toArray, List.getElem?_cons_succ, List.getElem?_cons_zero]; exact rfl)
                      · exact fun _ _ _ h => h
                      · first
                          | (refine Or.inr ⟨by rfl, ?_⟩; exact rfl)
                          | (refine Or.inl ⟨by rfl, ?_⟩
                             intro w hSw
                             (try dsimp only at hSw)
                             (try go_split_ands)
                             go_simp
                             (first | done | with_reducible rfl))
                      try simp only [Act.put, List.setIfInBounds_toArray, List.set_cons_zero, List.set_cons_succ]
                      refine take_h 17 ⟨?_, ?_, ?_, by kernel_rfl, by kernel_rfl, by kernel_rfl, ?_, ?_, by assumption, ?_⟩
                      rotate_left 2
                      · (simp only [List.getElem?_toArray, List.getElem?_cons_succ, List.getElem?_cons_zero]; exact rfl)
                      · exact fun _ _ _ h => h
                      · first
                          | (refine Or.inr ⟨by rfl, ?_⟩; exact rfl)
                          | (refine Or.inl ⟨by rfl, ?_⟩
                             intro w hSw
                             (try dsimp only at hSw)
                             (try go_split_ands)
                             go_simp
                             (first | done | with_reducible rfl))
                      try simp only [Act.put, List.setIfInBounds_toArray, List.set_cons_zero, List.set_cons_succ]
                      refine take_h 18 ⟨?_, ?_, ?_, by kernel_rfl, by kernel_rfl, by kernel_rfl, ?_, ?_, by assumption, ?_⟩
                      rotate_left 2
                      · (simp only [List.getElem?_toArray, List.getElem?_cons_succ, List.getElem?_cons_zero]; exact rfl)
                      · exact fun _ _ _ h => h
                      · first
                          | (refine Or.inr ⟨by rfl, ?_⟩; exact rfl)
                          | (refine Or.inl ⟨by rfl, ?_⟩
                             intro w hSw
                             (try dsimp only at hSw)
                             (try go_split_ands)
                             go_simp
                             (first | done | with_reducible rfl))
                      try simp only [Act.put, List.setIfInBounds_toArray, List.set_cons_zero, List.set_cons_succ]
                      refine wpAnyH_done (by kernel_rfl) ?_ _
                      clear hHeld
                      go_wp2
                      go_meet
                      exact ⟨k, nd2 + 1, rfl, by omega, by omega, rfl⟩
                case rest =>
                  obtain ⟨k0, nd3, rfl, hk0, hk1, rfl⟩ := hcut
                  go_wp2
                  go_loopw [19] (fun s wx => ∃ (k nd : Nat), s = .int .i64 k ∧ q ≤ k ∧ k ≤ 64 ∧ wx = w2.drewN nd) (fun s _ => 64 - (intOf s).toNat)
                  case atStart => exact ⟨k0, _, rfl, hk0, hk1, rfl⟩
                  case round =>
                    obtain ⟨k, nd2, rfl, hqk, hk64, rfl⟩ := hrel
                    by_cases hk : k < 64
                    · obtain ⟨p, hp⟩ : ∃ p, t + k = p := ⟨_, rfl⟩
                      have q2 : IntKind.i64.wrap ((t : Int) + (k : Int)) = (p : Int) := by rw [IntWalk.i64_in _ ⟨by omega, by omega⟩]; omega
                      have hp5 : p < 512 := by omega
                      have hp6 : (p : Int) < 512 := by omega
                      have hp7 : (0 : Int) ≤ (p : Int) := by omega
                      have x0 : w2.cell? ⟨gx, p, none⟩ = some (.int .u8 ((x.getD p 0).toNat : Int)) := by rw [HCX.out p hp5]; exact u8s_getD x p (by rw [HXL.out]; exact hp5)
                      have n0 : w2.cell? ⟨g, p, none⟩ = some (.int .u8 ((x.getD p 0).toNat : Int)) := by
                        have h1 := HQ2.out k hqk hk
                        rw [show 64 * n + k = p by rw [HTT.out]; exact hp] at h1
                        rw [HK2.out p hp5, u8s_getD Kp p (by rw [HKPL.out]; exact hp5), List.getD_eq_getElem?_getD, List.getD_eq_getElem?_getD, h1]
                      obtain ⟨zx, hzx⟩ : ∃ z, x.getD p 0 = z := ⟨_, rfl⟩
                      rw [hzx] at x0 n0
                      clear hzx hp
                      go_wp2
                      refine wp_region_held_drew (S := fun wx => wx.cell? ⟨gx, p, none⟩ = some (.int .u8 (zx.toNat : Int)) ∧ wx.cell? ⟨g, p, none⟩ = some (.int .u8 (zx.toNat : Int))) (by kernel_rfl) ⟨x0, n0⟩ (fun hHeld => ?_)
                      refine take_h 0 ⟨?_, ?_, ?_, by kernel_rfl, by kernel_rfl, by kernel_rfl, ?_, ?_, by assumption, ?_⟩
                      rotate_left 2
                      · (simp only [List.getElem?_toArray, List.getElem?_cons_zero]; exact rfl)
                      · exact fun _ _ _ h => h
                      · first
                          | (refine Or.inr ⟨by rfl, ?_⟩; exact rfl)
                          | (refine Or.inl ⟨by rfl, ?_⟩
                             intro w hSw
                             (try dsimp only at hSw)
                             (try go_split_ands)
                             go_simp
                             (first | done | with_reducible rfl))
                      try simp only [Act.put, List.setIfInBounds_toArray, List.set_cons_zero, List.set_cons_succ]
                      refine take_h 1 ⟨?_, ?_, ?_, by kernel_rfl, by kernel_rfl, by kernel_rfl, ?_, ?_, by assumption, ?_⟩
                      rotate_left 2
                      · (simp only [List.getElem?_toArray, List.getElem?_cons_succ, List.getElem?_cons_zero]; exact rfl)
                      · exact fun _ _ _ h => h
                      · first
                          | (refine Or.inr ⟨by rfl, ?_⟩; exact rfl)
                          | (refine Or.inl ⟨by rfl, ?_⟩
                             intro w hSw
                             (try dsimp only at hSw)
                             (try go_split_ands)
                             go_simp
                             (first | done | with_reducible rfl))
                      try simp only [Act.put, List.setIfInBounds_toArray, List.set_cons_zero, List.set_cons_succ]
                      refine take_h 2 ⟨?_, ?_, ?_, by kernel_rfl, by kernel_rfl, by kernel_rfl, ?_, ?_, by assumption, ?_⟩
                      rotate_left 2
                      · (simp only [List.getElem?_toArray, List.getElem?_cons_succ, List.getElem?_cons_zero]; exact rfl)
                      · exact fun _ _ _ h => h
                      · first
                          | (refine Or.inr ⟨by rfl, ?_⟩; exact rfl)
                          | (refine Or.inl ⟨by rfl, ?_⟩
                             intro w hSw
                             (try dsimp only at hSw)
                             (try go_split_ands)
                             go_simp
                             (first | done | with_reducible rfl))
                      try simp only [Act.put, List.setIfInBounds_toArray, List.set_cons_zero, List.set_cons_succ]
                      refine take_h 3 ⟨?_, ?_, ?_, by kernel_rfl, by kernel_rfl, by kernel_rfl, ?_, ?_, by assumption, ?_⟩
                      rotate_left 2
                      · (simp only [List.getElem?_toArray, List.getElem?_cons_succ, List.getElem?_cons_zero]; exact rfl)
                      · exact fun _ _ _ h => h
                      · first
                          | (refine Or.inr ⟨by rfl, ?_⟩; exact rfl)
                          | (refine Or.inl ⟨by rfl, ?_⟩
                             intro w hSw
                             (try dsimp only at hSw)
                             (try go_split_ands)
                             go_simp
                             (first | done | with_reducible rfl))
                      try simp only [Act.put, List.setIfInBounds_toArray, List.set_cons_zero, List.set_cons_succ]
                      refine take_h 4 ⟨?_, ?_, ?_, by kernel_rfl, by kernel_rfl, by kernel_rfl, ?_, ?_, by assumption, ?_⟩
                      rotate_left 2
                      · (simp only [List.getElem?_toArray, List.getElem?_cons_succ, List.getElem?_cons_zero]; exact rfl)
                      · exact fun _ _ _ h => h
                      · first
                          | (refine Or.inr ⟨by rfl, ?_⟩; exact rfl)
                          | (refine Or.inl ⟨by rfl, ?_⟩
                             intro w hSw
                             (try dsimp only at hSw)
                             (try go_split_ands)
                             go_simp
                             (first | done | with_reducible rfl))
                      try simp only [Act.put, List.setIfInBounds_toArray, List.set_cons_zero, List.set_cons_succ]
                      refine take_h 5 ⟨?_, ?_, ?_, by kernel_rfl, by kernel_rfl, by kernel_rfl, ?_, ?_, by assumption, ?_⟩
                      rotate_left 2
                      · (simp only [List.getElem?_toArray, List.getElem?_cons_succ, List.getElem?_cons_zero]; exact rfl)
                      · exact fun _ _ _ h => h
                      · first
                          | (refine Or.inr ⟨by rfl, ?_⟩; exact rfl)
                          | (refine Or.inl ⟨by rfl, ?_⟩
                             intro w hSw
                             (try dsimp only at hSw)
                             (try go_split_ands)
                             go_simp
                             (first | done | with_reducible rfl))
                      try simp only [Act.put, List.setIfInBounds_toArray, List.set_cons_zero, List.set_cons_succ]
                      refine take_h 6 ⟨?_, ?_, ?_, by kernel_rfl, by kernel_rfl, by kernel_rfl, ?_, ?_, by assumption, ?_⟩
                      rotate_left 2
                      · (simp only [List.getElem?_toArray, List.getElem?_cons_succ, List.getElem?_cons_zero]; exact rfl)
                      · exact fun _ _ _ h => h
                      · first
                          | (refine Or.inr ⟨by rfl, ?_⟩; exact rfl)
                          | (refine Or.inl ⟨by rfl, ?_⟩
                             intro w hSw
                             (try dsimp only at hSw)
                             (try go_split_ands)
                             go_simp
                             (first | done | with_reducible rfl))
                      try simp only [Act.put, List.setIfInBounds_toArray, List.set_cons_zero, List.set_cons_succ]
                      refine take_h 7 ⟨?_, ?_, ?_, by kernel_rfl, by kernel_rfl, by kernel_rfl, ?_, ?_, by assumption, ?_⟩
                      rotate_left 2
                      · (simp only [List.getElem?_toArray, List.getElem?_cons_succ, List.getElem?_cons_zero]; exact rfl)
                      · exact fun _ _ _ h => h
                      · first
                          | (refine Or.inr ⟨by rfl, ?_⟩; exact rfl)
                          | (refine Or.inl ⟨by rfl, ?_⟩
                             intro w hSw
                             (try dsimp only at hSw)
                             (try go_split_ands)
                             go_simp
                             (first | done | with_reducible rfl))
                      try simp only [Act.put, List.setIfInBounds_toArray, List.set_cons_zero, List.set_cons_succ]
                      refine take_h 8 ⟨?_, ?_, ?_, by kernel_rfl, by kernel_rfl, by kernel_rfl, ?_, ?_, by assumption, ?_⟩
                      rotate_left 2
                      · (simp only [List.getElem?_toArray, List.getElem?_cons_succ, List.getElem?_cons_zero]; exact rfl)
                      · exact fun _ _ _ h => h
                      · first
                          | (refine Or.inr ⟨by rfl, ?_⟩; exact rfl)
                          | (refine Or.inl ⟨by rfl, ?_⟩
                             intro w hSw
                             (try dsimp only at hSw)
                             (try go_split_ands)
                             go_simp
                             (first | done | with_reducible rfl))
                      try simp only [Act.put, List.setIfInBounds_toArray, List.set_cons_zero, List.set_cons_succ]
                      refine take_h 9 ⟨?_, ?_, ?_, by kernel_rfl, by kernel_rfl, by kernel_rfl, ?_, ?_, by assumption, ?_⟩
                      rotate_left 2
                      · (simp only [List.getElem?_toArray, List.getElem?_cons_succ, List.getElem?_cons_zero]; exact rfl)
                      · exact fun _ _ _ h => h
                      · first
                          | (refine Or.inr ⟨by rfl, ?_⟩; exact rfl)
                          | (refine Or.inl ⟨by rfl, ?_⟩
                             intro w hSw
                             (try dsimp only at hSw)
                             (try go_split_ands)
                             go_simp
                             (first | done | with_reducible rfl))
                      try simp only [Act.put, List.setIfInBounds_toArray, List.set_cons_zero, List.set_cons_succ]
                      refine take_h 10 ⟨?_, ?_, ?_, by kernel_rfl, by kernel_rfl, by kernel_rfl, ?_, ?_, by assumption, ?_⟩
                      rotate_left 2
                      · (simp only [List.getElem?_toArray, List.getElem?_cons_succ, List.getElem?_cons_zero]; exact rfl)
                      · exact fun _ _ _ h => h
                      · first
                          | (refine Or.inr ⟨by rfl, ?_⟩; exact rfl)
                          | (refine Or.inl ⟨by rfl, ?_⟩
                             intro w hSw
                             (try dsimp only at hSw)
                             (try go_split_ands)
                             go_simp
                             (first | done | with_reducible rfl))
                      try simp only [Act.put, List.setIfInBounds_toArray, List.set_cons_zero, List.set_cons_succ]
                      refine take_h 11 ⟨?_, ?_, ?_, by kernel_rfl, by kernel_rfl, by kernel_rfl, ?_, ?_, by assumption, ?_⟩
                      rotate_left 2
                      · (simp only [List.getElem?_toArray, List.getElem?_cons_succ, List.getElem?_cons_zero]; exact rfl)
                      · exact fun _ _ _ h => h
                      · first
                          | (refine Or.inr ⟨by rfl, ?_⟩; exact rfl)
                          | (refine Or.inl ⟨by rfl, ?_⟩
                             intro w hSw
                             (try dsimp only at hSw)
                             (try go_split_ands)
                             go_simp
                             (first | done | with_reducible rfl))
                      try simp only [Act.put, List.setIfInBounds_toArray, List.set_cons_zero, List.set_cons_succ]
                      refine take_h 12 ⟨?_, ?_, ?_, by kernel_rfl, by kernel_rfl, by kernel_rfl, ?_, ?_, by assumption, ?_⟩
                      rotate_left 2
                      · (simp only [List.getElem?_toArray, List.getElem?_cons_succ, List.getElem?_cons_zero]; exact rfl)
                      · exact fun _ _ _ h => h
                      · first
                          | (refine Or.inr ⟨by rfl, ?_⟩; exact rfl)
                          | (refine Or.inl ⟨by rfl, ?_⟩
                             intro w hSw
                             (try dsimp only at hSw)
                             (try go_split_ands)
                             go_simp
                             (first | done | with_reducible rfl))
                      try simp only [Act.put, List.setIfInBounds_toArray, List.set_cons_zero, List.set_cons_succ]
                      refine take_h 13 ⟨?_, ?_, ?_, by kernel_rfl, by kernel_rfl, by kernel_rfl, ?_, ?_, by assumption, ?_⟩
                      rotate_left 2
                      · (simp only [List.getElem?_toArray, List.getElem?_cons_succ, List.getElem?_cons_zero]; exact rfl)
                      · exact fun _ _ _ h => h
                      · first
                          | (refine Or.inr ⟨by rfl, ?_⟩; exact rfl)
                          | (refine Or.inl ⟨by rfl, ?_⟩
                             intro w hSw
                             (try dsimp only at hSw)
                             (try go_split_ands)
                             go_simp
                             (first | done | with_reducible rfl))
                      try simp only [Act.put, List.setIfInBounds_toArray, List.set_cons_zero, List.set_cons_succ]
                      refine take_h 14 ⟨?_, ?_, ?_, by kernel_rfl, by kernel_rfl, by kernel_rfl, ?_, ?_, by assumption, ?_⟩
                      rotate_left 2
                      · (simp only [List.getElem?_toArray, List.getElem?_cons_succ, List.getElem?_cons_zero]; exact rfl)
                      · exact fun _ _ _ h => h
                      · first
                          | (refine Or.inr ⟨by rfl, ?_⟩; exact rfl)
                          | (refine Or.inl ⟨by rfl, ?_⟩
                             intro w hSw
                             (try dsimp only at hSw)
                             (try go_split_ands)
                             go_simp
                             (first | done | with_reducible rfl))
                      try simp only [Act.put, List.setIfInBounds_toArray, List.set_cons_zero, List.set_cons_succ]
                      refine wpAnyH_done (by kernel_rfl) ?_ _
                      clear hHeld
                      go_wp2
                      go_roundw
                      case rel => exact ⟨k + 1, nd2 + 1, by go_num, by omega, by omega, rfl⟩
                      case measure => simp [intOf]; omega
                    · have hk6 : k = 64 := by omega
                      subst hk6
                      clear hk
                      go_wp2
                      go_roundw
                      case rel => exact ⟨n + 1, nd2, by go_num, by omega, rfl⟩
                      case measure => simp [intOf]; omega
              · have hn : n = 8 := by omega
                subst hn
                have HRD := Lib.hid (HC2.out w2 HM.out (w2.drewN nd) ((Left.refl [] w2).drewN nd))
                go_wp2_with fail
                refine HRD.out.mono ?_
                rintro e w4 ⟨rfl, hb4⟩
                have HB4 := Lib.hid (HB2.out.trans (below_drewN (Below.refl _ _) nd |>.trans hb4))
                have hzw4 := HB4.out.size
                clear hb4
                go_wp2_with (first | (go_at_call 7; refine (num4_any _ _).mono ?_; rintro e w' ⟨rfl, rfl⟩))
                refine (wakes4_any w4).mono ?_
                rintro e w5 ⟨rfl, hb5⟩
                have hb6 := hbb1.trans ((HB4.out.trans (hb5.mono (by omega))).mono (Nat.le_succ _))
                clear hb5
                go_wp2
                go_ret
                exact ⟨rfl, hb6⟩
end Go.Proofs.Ytbhoiibcfibmhaa
