/- MemExact: the walk: for every script the law returns true and leaves what was there alone. -/

import Derived.Test.YtfffehbipcikoaaMemAct
import Derived.Deep.DeepCutAuto
import Derived.Deep.RegionHeld3
namespace Go.Proofs.Ytfffehbipcikoaa
open Go.RowKit

theorem num_ref_any (n m : Int) (w : World) : Calls Try.prog 26 #[.int .i64 n, .int .i64 m] w fun e w' => e = .returned (.bool (decide (0 ≤ n) && decide (n ≤ m))) ∧ w = w' := by
  by_cases h : 0 ≤ n
  · go_enter Try.func26, Try.ntmps26
    go_wp2
    go_ret
    exact ⟨by simp [h], rfl⟩
  · have h' : n < 0 := by omega
    have hf : Hid ((decide (0 ≤ n) && decide (n ≤ m)) = false) := Lib.hid (by rw [decide_eq_false h]; rfl)
    clear h
    go_enter Try.func26, Try.ntmps26
    go_wp2
    go_ret
    exact ⟨by rw [hf.out]; rfl, rfl⟩

theorem acell_left {w w' : World} {A off x : Nat} {v : Value} (h : w.cell? ⟨A, off, none⟩ = some v) (hl : Left [x] w w') (hx : A ≠ x) : w'.cell? ⟨A, off, none⟩ = some v :=
  (World.cell?_of_block (w := w) (hl.block A (World.block_lt_of_cell? w _ h) (by simpa using hx))).trans h

theorem acells_left {w w' : World} {A x : Nat} {v1 v2 v3 : Value} (h : w.cell? ⟨A, 1, none⟩ = some v1 ∧ w.cell? ⟨A, 2, none⟩ = some v2 ∧ w.cell? ⟨A, 3, none⟩ = some v3) (hl : Left [x] w w') (hx : A ≠ x) :
    w'.cell? ⟨A, 1, none⟩ = some v1 ∧ w'.cell? ⟨A, 2, none⟩ = some v2 ∧ w'.cell? ⟨A, 3, none⟩ = some v3 := ⟨acell_left h.1 hl hx, acell_left h.2.1 hl hx, acell_left h.2.2 hl hx⟩

theorem cell_bel {w w' : World} {p : Addr} {v : Value} (h : w.cell? p = some v) (hb : Below w.heap.size w w') : w'.cell? p = some v := (hb.cell (World.block_lt_of_cell? w _ h)).trans h
theorem cells_bel {w w' : World} {p q : Addr} {v u : Value} (h : w.cell? p = some v ∧ w.cell? q = some u) (hb : Below w.heap.size w w') : w'.cell? p = some v ∧ w'.cell? q = some u := ⟨cell_bel h.1 hb, cell_bel h.2 hb⟩
theorem acells2_left {w w' : World} {A x : Nat} {v1 v4 : Value} (h : w.cell? ⟨A, 1, none⟩ = some v1 ∧ w.cell? ⟨A, 4, none⟩ = some v4) (hl : Left [x] w w') (hx : A ≠ x) :
    w'.cell? ⟨A, 1, none⟩ = some v1 ∧ w'.cell? ⟨A, 4, none⟩ = some v4 := ⟨acell_left h.1 hl hx, acell_left h.2 hl hx⟩

theorem below_of_drew {B : Nat} {w w' : World} (h : Below B w.drew w') : Below B w w' := ⟨h.os, h.tape, h.output, h.size, h.block⟩

def kPut (j : Int) : Bool := j == 3 || j == 4 || j == 5
def kRead (j : Int) : Bool := j == 6 || j == 7
def kWrite (j : Int) : Bool := j == 8 || j == 9

/-- What the walk knows at each round's head: both memories hold B; what was there is as it was. -/
structure Both (w0 w : World) (B0 m d rm rd N : Nat) (B : List UInt8) : Prop where
  len : B.length = N
  mem : MemAt 114 w m d B
  ref : MemAt 52 w rm rd B
  low : Below B0 w0 w
theorem Both.drewN {w0 w : World} {B0 m d rm rd N : Nat} {B : List UInt8} (h : Both w0 w B0 m d rm rd N B) (n : Nat) : Both w0 (w.drewN n) B0 m d rm rd N B := ⟨h.len, ⟨h.mem.head, h.mem.bytes⟩, ⟨h.ref.head, h.ref.bytes⟩, below_drewN h.low _⟩
theorem Both.belowH {w0 w w' : World} {B0 m d rm rd N : Nat} {B : List UInt8} (h : Both w0 w B0 m d rm rd N B) (hb : Below w.heap.size w w') (hB : B0 ≤ w.heap.size) : Both w0 w' B0 m d rm rd N B := ⟨h.len, h.mem.belowH hb, h.ref.belowH hb, h.low.trans (hb.mono hB)⟩

/-- Both memories were written, the one behind the other. -/
theorem Both.put_pq {w0 wa wp wq : World} {B0 m d rm rd N : Nat} {B B' : List UInt8} (h : Both w0 wa B0 m d rm rd N B) (hP : MemAt 114 wp m d B') (hlP : Left [d] wa wp) (hQ : MemAt 52 wq rm rd B') (hlQ : Left [rd] wp wq)
    (hl : B'.length = B.length) (h1 : B0 ≤ d) (h2 : B0 ≤ rd) (h3 : B0 ≤ wa.heap.size) (h4 : m ≠ rd) (h5 : d ≠ rd) : Both w0 wq B0 m d rm rd N B' :=
  ⟨hl.trans h.len, hP.left hlQ (by simpa using h4) (by simpa using h5), hQ, (h.low.trans (hlP.belowB h3 (by simpa using h1))).trans (hlQ.belowB (Nat.le_trans h3 hlP.size) (by simpa using h2))⟩
theorem Both.put_qp {w0 wa wp wq : World} {B0 m d rm rd N : Nat} {B B' : List UInt8} (h : Both w0 wa B0 m d rm rd N B) (hQ : MemAt 52 wq rm rd B') (hlQ : Left [rd] wa wq) (hP : MemAt 114 wp m d B') (hlP : Left [d] wq wp)
    (hl : B'.length = B.length) (h1 : B0 ≤ d) (h2 : B0 ≤ rd) (h3 : B0 ≤ wa.heap.size) (h4 : rm ≠ d) (h5 : d ≠ rd) : Both w0 wp B0 m d rm rd N B' :=
  ⟨hl.trans h.len, hP, hQ.left hlP (by simpa using h4) (by simpa using h5.symm), (h.low.trans (hlQ.belowB h3 (by simpa using h2))).trans (hlP.belowB (Nat.le_trans h3 hlQ.size) (by simpa using h1))⟩

set_option maxRecDepth 100000 in
set_option maxHeartbeats 4000000 in
theorem MemExact_no (N : Int) (lv : Value) (acts : List Act1) (w : World) (h : ActsAt w w.heap.size lv acts) (hN : N < 0 ∨ 65536 < N) :
    Calls Try.prog 5 #[.agg #[.int .i64 N, lv]] w fun e w' => e = .returned (.bool true) ∧ Below w.heap.size w w' := by
  obtain ⟨ao, cap, rfl, hc1, hc2, hacts⟩ := h
  have h' : ActsAt w w.heap.size (.slice ao acts.length cap) acts := ⟨ao, cap, rfl, hc1, hc2, hacts⟩
  have HS := Lib.hid h'
  clear hacts h'
  have HN := Lib.hid hN
  clear hN
  go_enter Try.func5, Try.ntmps5
  go_wp2_with fail
  have hbx0 := (Below.refl w.heap.size w).alloc (Nat.le_refl _) (.cells #[.int .i64 N, .slice ao acts.length cap] 33)
  refine (Heavy_any _ N (.slice ao acts.length cap) acts ((HS.out.below hbx0).more (by simp))).mono ?_
  rintro e w1 ⟨hv, rfl, hlight, hb1⟩
  have c0 := (hb1.cell (p := ⟨w.heap.size, 0, none⟩) (by simp)).trans (show _ = some (.int .i64 N) by simp)
  clear hlight
  cases hv
  · go_wp2_with fail
    refine (New_no N _ HN.out).mono ?_
    rintro e w2 ⟨rfl, rfl⟩
    go_wp2_with fail
    refine (num_ref_any _ _ _).mono ?_
    rintro e w2 ⟨rfl, rfl⟩
    have hf : (decide (0 ≤ N) && decide (N ≤ 65536)) = false := by
      have := HN.out
      simp
      omega
    rw [hf]
    clear hf
    go_wp2_with (go_at_call 20; refine (num_any _ _).mono ?_; rintro e w' ⟨rfl, rfl⟩)
    refine (wakes1_any _).mono ?_
    rintro e w9 ⟨rfl, hb9⟩
    go_wp2
    go_ret
    exact ⟨rfl, (hbx0.trans (hb1.mono (by simp))).trans (hb9.mono (by have := hb1.size; simp at this; omega))⟩
  · go_wp2
    go_ret
    exact ⟨rfl, hbx0.trans (hb1.mono (by simp))⟩

set_option maxRecDepth 100000 in
set_option maxHeartbeats 4000000 in
theorem MemExact_ok (N : Nat) (lv : Value) (acts : List Act1) (w : World) (h : ActsAt w w.heap.size lv acts) (hN : N ≤ 65536) :
    Calls Try.prog 5 #[.agg #[.int .i64 N, lv]] w fun e w' => e = .returned (.bool true) ∧ Below w.heap.size w w' := by
  obtain ⟨ao, cap, rfl, hc1, hc2, hacts⟩ := h
  have h' : ActsAt w w.heap.size (.slice ao acts.length cap) acts := ⟨ao, cap, rfl, hc1, hc2, hacts⟩
  have HS := Lib.hid h'
  have HA := Lib.hid hacts
  clear hacts h'
  go_enter Try.func5, Try.ntmps5
  go_wp2_with fail
  have hbx0 := (Below.refl w.heap.size w).alloc (Nat.le_refl _) (.cells #[.int .i64 N, .slice ao acts.length cap] 33)
  refine (Heavy_any _ N (.slice ao acts.length cap) acts ((HS.out.below hbx0).more (by simp))).mono ?_
  rintro e w1 ⟨hv, rfl, hlight, hb1⟩
  have c0 := (hb1.cell (p := ⟨w.heap.size, 0, none⟩) (by simp)).trans (show _ = some (.int .i64 N) by simp)
  have HL := Lib.hid hlight
  clear hlight
  cases hv
  · have hb1z := hb1.size
    simp at hb1z
    go_wp2_with fail
    refine (New_ok N _ hN).mono ?_
    rintro e w2 ⟨rfl, hm, hb2⟩
    have HM := Lib.hid hm
    have hb2z := hb2.size
    have hmz := hm.head.lt
    clear hm
    have c0' := (hb2.cell (p := ⟨w.heap.size, 0, none⟩) (by simp; omega)).trans c0
    go_wp2_with fail
    refine (num_ref_any _ _ _).mono ?_
    rintro e w' ⟨rfl, rfl⟩
    have hf : (decide ((0 : Int) ≤ N) && decide ((N : Int) ≤ 65536)) = true := by simp; omega
    rw [hf]
    have hmk := run_make_row' (P := Try.prog) 39 5 (.int .u8 0) 1 Try.underlying39 info_u8 rfl .i64 .i64 N (by omega) (by omega)
    rw [made_u8] at hmk
    obtain ⟨L0, hL0⟩ : ∃ L, L = u8s (List.replicate N 0) := ⟨_, rfl⟩
    rw [← hL0] at hmk
    have HL0 := Lib.hid hL0
    clear hL0 hf
    go_wp2_with (go_at_call 20; refine (num_any _ _).mono ?_; rintro e w' ⟨rfl, rfl⟩)
    have hBoth : Both (w.alloc (.cells #[.int .i64 N, .slice ao acts.length cap] 33)) ((w2.alloc (.cells L0.toArray 5)).alloc (.cells #[.slice (some ⟨w2.heap.size, 0, none⟩) N N] 52)) (w.heap.size + 1) (w1.heap.size + 1) w1.heap.size (w2.heap.size + 1) w2.heap.size N (List.replicate N 0) := by
      refine ⟨List.length_replicate, ?_, ⟨?_, ?_⟩, ?_⟩
      · exact (HM.out.belowH ((Below.refl _ _).alloc (Nat.le_refl _) _)).belowH ((Below.refl _ _).alloc (Nat.le_refl _) _)
      · have := Whole.new (w2.alloc (.cells L0.toArray 5)) 52 [.slice (some ⟨w2.heap.size, 0, none⟩) N N]
        simpa using this
      · rw [← HL0.out]
        exact (Whole.new w2 5 L0).alloc _
      · refine (((hb1.mono (by simp)).trans (hb2.mono (by omega))).alloc (by omega) _).alloc (by simp; omega) _
    obtain ⟨w3, hw3⟩ : ∃ w3, w3 = (w2.alloc (.cells L0.toArray 5)).alloc (.cells #[.slice (some ⟨w2.heap.size, 0, none⟩) N N] 52) := ⟨_, rfl⟩
    have hw3z : w3.heap.size = w2.heap.size + 2 := by rw [hw3]; simp
    rw [← hw3] at hBoth ⊢
    have HB3 := Lib.hid hBoth
    have hw3z2 : w2.heap.size + 2 ≤ w3.heap.size := by omega
    clear hBoth hw3 hw3z c0 c0' hmk
    go_loopw [7] (fun i wr => ∃ k : Nat, k ≤ acts.length ∧ k ≤ 30 ∧ i = .int .i64 k ∧ ∃ B : List UInt8, Hid (Both (w.alloc (.cells #[.int .i64 N, .slice ao acts.length cap] 33)) wr (w.heap.size + 1) (w1.heap.size + 1) w1.heap.size (w2.heap.size + 1) w2.heap.size N B)) (fun i _ => 30 - (intOf i).toNat)
    case atStart => exact ⟨0, by omega, by omega, rfl, _, HB3⟩
    case round =>
      obtain ⟨k, hk1, hk2, rfl, B, HB⟩ := hrel
      have hb := HB.out.low
      have c0 := (hb.cell (p := ⟨w.heap.size, 0, none⟩) (by simp)).trans (show _ = some (.int .i64 N) by simp)
      have c1 := (hb.cell (p := ⟨w.heap.size, 1, none⟩) (by simp)).trans (show _ = some (.slice ao acts.length cap) by simp)
      have hbz := hb.size
      have hmz1 := HB.out.ref.head.lt
      simp at hbz
      by_cases hk : k < acts.length ∧ k < 30
      · obtain ⟨hk3, hk4⟩ := hk
        obtain ⟨a, ha⟩ : ∃ a, acts[k]? = some a := ⟨_, List.getElem?_eq_getElem hk3⟩
        obtain ⟨b, o, rfl, hA⟩ := HA.out k a ha
        obtain ⟨d0, d1, d2, d3, bv, d4, hr, hbl, hu, hn⟩ := hA.below (hbx0.trans (hb.mono (by omega)))
        obtain ⟨bo, bcap, rfl, hbc, _⟩ := hr.form
        have hlt5 : a.b.length ≤ 500 := (HL.out trivial).2 k a ha
        have Ha := Lib.hid ha
        have HR := Lib.hid hr
        clear ha hr hA
        obtain ⟨j, hj⟩ : ∃ j, j = within a.dk 10 := ⟨_, rfl⟩
        have HJ := Lib.hid hj
        clear hj
        have HBa := Lib.hid (HB.out.belowH ((Below.refl _ _).alloc (Nat.le_refl _) (.cells #[.int .i64 a.dk, .int .i64 a.at_, .int .i64 a.n, .int .u64 a.v, .slice bo a.b.length bcap] 41)) (by omega))
        go_wp2_with fail
        refine (Within_any _ _ 10 (by omega) (by omega)).mono ?_
        rintro e w' ⟨rfl, rfl⟩
        rw [← HJ.out]
        obtain ⟨wa, hwa⟩ : ∃ wa, wa = wr.alloc (.cells #[.int .i64 a.dk, .int .i64 a.at_, .int .i64 a.n, .int .u64 a.v, .slice bo a.b.length bcap] 41) := ⟨_, rfl⟩
        have hwaz : wr.heap.size + 1 ≤ wa.heap.size := by rw [hwa]; simp
        have e1 : wa.cell? ⟨wr.heap.size, 1, none⟩ = some (.int .i64 a.at_) := by rw [hwa]; simp
        have e2 : wa.cell? ⟨wr.heap.size, 2, none⟩ = some (.int .i64 a.n) := by rw [hwa]; simp
        have e3 : wa.cell? ⟨wr.heap.size, 3, none⟩ = some (.int .u64 a.v) := by rw [hwa]; simp
        have e4 : wa.cell? ⟨wr.heap.size, 4, none⟩ = some (.slice bo a.b.length bcap) := by rw [hwa]; simp
        have HRa : Hid (Rd wa w.heap.size 1 (.slice bo a.b.length bcap) a.b.length (u8s a.b)) := by rw [hwa]; exact Lib.hid (HR.out.below ((Below.refl _ _).alloc (by omega) _))
        rw [← hwa] at HBa ⊢
        clear hwa d0 d1 d2 d3 d4
        go_upto_if 105 with fail
        go_cut [105] (fun s wx => s = .bool (kPut j) ∧ wx = wa)
        case first =>
          clear HBa HRa
          cases h3 : (j == 3)
          · cases h4 : (j == 4)
            · have HK : Hid (kPut j = (j == 5)) := Lib.hid (by unfold kPut; rw [h3, h4]; rfl)
              go_wp2
              go_meet
              exact ⟨by rw [HK.out], rfl⟩
            · have HK : Hid (kPut j = true) := Lib.hid (by unfold kPut; rw [h3, h4]; rfl)
              go_wp2
              go_meet
              exact ⟨by rw [HK.out], rfl⟩
          · have HK : Hid (kPut j = true) := Lib.hid (by unfold kPut; rw [h3]; rfl)
            go_wp2
            go_meet
            exact ⟨by rw [HK.out], rfl⟩
        case rest =>
          obtain ⟨rfl, hcw⟩ := hcut
          subst hcw
          have hlenB : B.length ≤ 65536 := by rw [HB.out.len]; exact hN
          cases hK : kPut j
          · have HK := Lib.hid hK
            clear hK
            go_upto_if 127 with fail
            go_cut [127] (fun s wx => s = .bool (kRead j) ∧ wx = wc)
            case first =>
              clear HBa HRa
              cases h3 : (j == 6)
              · have HK2 : Hid (kRead j = (j == 7)) := Lib.hid (by unfold kRead; rw [h3]; rfl)
                go_wp2
                go_meet
                exact ⟨by rw [HK2.out], rfl⟩
              · have HK2 : Hid (kRead j = true) := Lib.hid (by unfold kRead; rw [h3]; rfl)
                go_wp2
                go_meet
                exact ⟨by rw [HK2.out], rfl⟩
            case rest =>
              obtain ⟨rfl, hcw⟩ := hcut
              subst hcw
              cases hK2 : kRead j
              · have HK2 := Lib.hid hK2
                clear hK2
                go_upto_if 160 with fail
                go_cut [160] (fun s wx => s = .bool (kWrite j) ∧ wx = wc)
                case first =>
                  clear HBa HRa
                  cases h3 : (j == 8)
                  · have HK3 : Hid (kWrite j = (j == 9)) := Lib.hid (by unfold kWrite; rw [h3]; rfl)
                    go_wp2
                    go_meet
                    exact ⟨by rw [HK3.out], rfl⟩
                  · have HK3 : Hid (kWrite j = true) := Lib.hid (by unfold kWrite; rw [h3]; rfl)
                    go_wp2
                    go_meet
                    exact ⟨by rw [HK3.out], rfl⟩
                case rest =>
                  obtain ⟨rfl, hcw⟩ := hcut
                  subst hcw
                  cases hK3 : kWrite j
                  · have HK3 := Lib.hid hK3
                    clear hK3
                    go_wp2_with fail
                    refine (Get_any _ _ _ _ _ _ HBa.out.mem hlenB).mono ?_
                    rintro e w' ⟨rfl, rfl⟩
                    go_wp2_with fail
                    refine (rGet_any _ _ _ _ _ _ HBa.out.ref hlenB).mono ?_
                    rintro e w' ⟨rfl, rfl⟩
                    go_wp2_with (go_at_call 20; refine (num_any _ _).mono ?_; rintro e w' ⟨rfl, rfl⟩)
                    go_roundw
                    case rel => exact ⟨k + 1, by omega, by omega, by go_num, _, HBa⟩
                    case measure => simp [intOf]; omega
                  · have HK3 := Lib.hid hK3
                    clear hK3
                    have hne1 : wr.heap.size ≠ w1.heap.size := by omega
                    have hne2 : wr.heap.size ≠ w2.heap.size := by omega
                    go_wp2_with fail
                    refine (CopyBytes_any _ _ a.b w.heap.size HRa.out (by omega) (by omega)).mono ?_
                    rintro e wp ⟨v1, rfl, hown1, hb1p⟩
                    obtain ⟨o1, cap1, rfl, _⟩ := (Rd.of_own hown1).form
                    have HO1 := Lib.hid hown1
                    have HBp := Lib.hid (HBa.out.belowH hb1p (by omega))
                    have f1 := cell_bel e1 hb1p
                    have f4 := cell_bel e4 hb1p
                    have HRp := Lib.hid (HRa.out.below (hb1p.mono (by omega)))
                    have hpz := hb1p.size
                    clear hown1
                    go_wp2_with fail
                    refine (Write_any _ _ w1.heap.size B _ _ a.b HBp.out.mem hlenB (Rd.of_own HO1.out) (by omega)).mono ?_
                    rintro e wq ⟨rfl, hmP, hlP⟩
                    have HO2 := Lib.hid (own_left HO1.out hlP (by simp; omega))
                    have g1 := acell_left f1 hlP hne1
                    have g4 := acell_left f4 hlP hne1
                    have HRq := Lib.hid (HRp.out.below (hlP.belowB (by omega) (by simp; omega)))
                    have hqz := hlP.size
                    have HMq := Lib.hid hmP
                    have HQq := Lib.hid (HBp.out.ref.left hlP (by simp; omega) (by simp; omega))
                    clear hmP
                    go_wp2_with fail
                    refine (Bytes_any _ wc.heap.size _ a.b HO2.out (by omega) (by omega)).mono ?_
                    rintro e wz ⟨rfl, hbz2⟩
                    have hzz := hbz2.size
                    have i1 := (hbz2.cell (p := ⟨wr.heap.size, 1, none⟩) (by simp only; omega)).trans g1
                    have i4 := (hbz2.cell (p := ⟨wr.heap.size, 4, none⟩) (by simp only; omega)).trans g4
                    have HRz := Lib.hid ((HRq.out.below (hbz2.mono (by omega))).more (show w.heap.size ≤ wz.heap.size by omega))
                    have HMz : Hid (MemAt 114 wz (w1.heap.size + 1) w1.heap.size (writeB B a.at_ a.b)) := Lib.hid ⟨HMq.out.head.below hbz2 (by omega), HMq.out.bytes.below hbz2 (by omega)⟩
                    have HQz : Hid (MemAt 52 wz (w2.heap.size + 1) w2.heap.size B) := Lib.hid ⟨HQq.out.head.below hbz2 (by omega), HQq.out.bytes.below hbz2 (by omega)⟩
                    have hlowz := ((HBp.out.low).trans (hlP.belowB (B := w.heap.size + 1) (by omega) (by simp; omega))).trans (hbz2.mono (by omega))
                    clear f1 f4 g1 g4
                    go_upto_region 36 with fail
                    go_cut [181] (fun s wx => s = .bool false ∧ Both (w.alloc (.cells #[.int .i64 N, .slice (some ⟨b, o, none⟩) acts.length cap] 33)) wx (w.heap.size + 1) (w1.heap.size + 1) w1.heap.size (w2.heap.size + 1) w2.heap.size N (writeB B a.at_ a.b))
                    case first =>
                      go_region_held3 (fun w' => w'.cell? ⟨wr.heap.size, 1, none⟩ = some (.int .i64 a.at_) ∧ w'.cell? ⟨wr.heap.size, 4, none⟩ = some (.slice bo a.b.length bcap)) (first | exact acells2_left (by assumption) hlQ hne2 | exact acells2_left ⟨i1, i4⟩ hlQ hne2 | go_keep)
                        (first | (go_at_call 20; refine (num_any _ _).mono ?_; rintro e w' ⟨rfl, rfl⟩) | (go_at_call 33; refine (rWrite_any wz.drew _ w2.heap.size B _ _ a.b (show MemAt 52 wz.drew _ _ B from ⟨HQz.out.head, HQz.out.bytes⟩) hlenB (show Rd wz.drew wz.heap.size 1 _ _ _ from HRz.out)).mono ?_; rintro e wq2 ⟨rfl, hmQ, hlQ⟩))
                      all_goals
                        go_wp2_with fail
                        go_meet
                        refine ⟨by simp, (writeB_length _ _ _).trans HB.out.len, HMz.out.left hlQ.of_drew (by simp; omega) (by simp; omega), hmQ, hlowz.trans (hlQ.of_drew.belowB (by omega) (by simp; omega))⟩
                    case rest =>
                      obtain ⟨rfl, hB1⟩ := hcut
                      have HB1 := Lib.hid hB1
                      clear hB1
                      go_wp2
                      go_roundw
                      case rel => exact ⟨k + 1, by omega, by omega, by go_num, _, HB1⟩
                      case measure => simp [intOf]; omega
              · have HK2 := Lib.hid hK2
                clear hK2
                go_wp2_with fail
                refine (Read_any _ _ _ _ _ _ HBa.out.mem hlenB hn).mono ?_
                rintro e wp ⟨v1, rfl, hown1, hb1p⟩
                obtain ⟨o1, cap1, rfl, _⟩ := (Rd.of_own hown1).form
                have HO1 := Lib.hid hown1
                have HBp := Lib.hid (HBa.out.belowH hb1p (by omega))
                have f1 := cell_bel e1 hb1p
                have f2 := cell_bel e2 hb1p
                have hpz := hb1p.size
                clear hown1
                go_wp2_with fail
                refine (rRead_any _ _ _ _ _ _ HBp.out.ref hlenB).mono ?_
                rintro e wq ⟨v2, rfl, hown2, hb2q⟩
                obtain ⟨o2, cap2, rfl, _⟩ := (Rd.of_own hown2).form
                have HO2 := Lib.hid hown2
                have HO1q := Lib.hid (own_below HO1.out hb2q)
                have hqz := hb2q.size
                have hbq := hb1p.trans (hb2q.mono hpz)
                clear hown2
                have hrl : (readB B a.at_ a.n).length ≤ 1048576 := by
                  unfold readB
                  split <;> simp <;> omega
                go_wp2_with (first | (go_at_call 20; refine (num_any _ _).mono ?_; rintro e w' ⟨rfl, rfl⟩) | (go_at_call 29; refine (EqBytes_any _ _ _ (readB B a.at_ a.n) (readB B a.at_ a.n) _ _ (Rd.of_own HO1q.out) (Rd.of_own HO2.out)).mono ?_; rintro e we ⟨rfl, hbe⟩; rw [decide_eq_true rfl]) | (go_at_call 30; refine (Bytes_any _ wc.heap.size _ (readB B a.at_ a.n) (own_below HO1q.out hbe) (by have := hbe.size; omega) hrl).mono ?_; rintro e wy ⟨rfl, hby⟩))
                go_roundw
                case rel => exact ⟨k + 1, by omega, by omega, by go_num, B, Lib.hid (HBa.out.belowH ((hbq.trans (hbe.mono (by omega))).trans hby) (by omega))⟩
                case measure => simp [intOf]; omega
          · have HK := Lib.hid hK
            clear hK
            have hne1 : wr.heap.size ≠ w1.heap.size := by omega
            have hne2 : wr.heap.size ≠ w2.heap.size := by omega
            go_upto_region 22 with fail
            go_cut [126] (fun s wx => s = .bool false ∧ Both (w.alloc (.cells #[.int .i64 N, .slice (some ⟨b, o, none⟩) acts.length cap] 33)) wx (w.heap.size + 1) (w1.heap.size + 1) w1.heap.size (w2.heap.size + 1) w2.heap.size N (putV B a.at_ a.n a.v))
            case first =>
              go_region_held3 (fun w' => w'.cell? ⟨wr.heap.size, 1, none⟩ = some (.int .i64 a.at_) ∧ w'.cell? ⟨wr.heap.size, 2, none⟩ = some (.int .i64 a.n) ∧ w'.cell? ⟨wr.heap.size, 3, none⟩ = some (.int .u64 a.v)) (first | exact acells_left (by assumption) hlP hne1 | exact acells_left (by assumption) hlQ hne2 | exact acells_left ⟨e1, e2, e3⟩ hlP hne1 | exact acells_left ⟨e1, e2, e3⟩ hlQ hne2 | go_keep)
                (first | (go_at_call 20; refine (num_any _ _).mono ?_; rintro e w' ⟨rfl, rfl⟩) | (go_at_call 23; refine (Put_any _ _ w1.heap.size B _ _ _ ?_ hlenB).mono ?_; (first | exact (HBa.out.drewN 1).mem | exact (HBa.out.drewN 1).mem.left hlQ (by simp; omega) (by simp; omega)); rintro e wp ⟨rfl, hmP, hlP⟩) | (go_at_call 27; refine (rPut_any _ _ w2.heap.size B _ _ _ ?_ hlenB).mono ?_; (first | exact (HBa.out.drewN 1).ref | exact (HBa.out.drewN 1).ref.left hlP (by simp; omega) (by simp; omega)); rintro e wq ⟨rfl, hmQ, hlQ⟩))
              all_goals
                go_wp2_with fail
                go_meet
                refine ⟨by simp, ?_⟩
                first
                  | exact HBa.out.put_pq hmP hlP.of_drew hmQ hlQ (putV_length _ _ _ _) (by omega) (by omega) (by omega) (by omega) (by omega)
                  | exact HBa.out.put_qp hmQ hlQ.of_drew hmP hlP (putV_length _ _ _ _) (by omega) (by omega) (by omega) (by omega) (by omega)
            case rest =>
              obtain ⟨rfl, hB1⟩ := hcut
              have HB1 := Lib.hid hB1
              clear hB1
              go_wp2
              go_roundw
              case rel => exact ⟨k + 1, by omega, by omega, by go_num, _, HB1⟩
              case measure => simp [intOf]; omega
      · have hNe := HB.out.len
        subst hNe
        have hBN : Hid (readE B.length 0 B.length = 0 ∧ readB B 0 B.length = B) := Lib.hid (readB_all B B.length rfl)
        have hlenB : B.length ≤ 65536 := hN
        by_cases hk3 : k < acts.length
        · have hk4 : 30 ≤ k := by omega
          go_wp2_with fail
          refine (Read_any _ _ _ _ 0 B.length HB.out.mem hlenB (by omega)).mono ?_
          rintro e wp ⟨v1, rfl, hown1, hb1p⟩
          rw [hBN.out.1]
          rw [hBN.out.2] at hown1
          obtain ⟨o1, cap1, rfl, _⟩ := (Rd.of_own hown1).form
          have HO1 := Lib.hid hown1
          have HBp := Lib.hid (HB.out.belowH hb1p (by omega))
          have f0 := cell_bel c0 hb1p
          have f6 := HBp.out.ref.head.cell 0
          simp only [List.getElem?_cons_zero] at f6
          have hRr := Rd.of_whole HBp.out.ref.bytes (by rw [u8s_length]; unfold maxLen; omega)
          rw [u8s_length] at hRr
          have HRr := Lib.hid hRr
          have hpz := hb1p.size
          have HO1' : Hid (Rd wp wp.heap.size 1 (.slice o1 B.length cap1) B.length (u8s B)) := Lib.hid (Rd.of_own HO1.out)
          have HO1d : Hid (Rd wp.drew wp.heap.size 1 (.slice o1 B.length cap1) B.length (u8s B)) := HO1'
          have HRrd : Hid (Rd wp.drew wp.heap.size 1 (.slice (some ⟨w2.heap.size, 0, none⟩) B.length B.length) B.length (u8s B)) := HRr
          have HL9 := Lib.hid ((hbx0.trans (hb.mono (by omega))).trans (hb1p.mono (by omega)))
          have HZ9 : Hid (w.heap.size ≤ wp.heap.size) := Lib.hid (by omega)
          clear hown1 hRr
          go_wp2_with fail
          go_region_held3 (fun w' => w'.cell? ⟨w2.heap.size + 1, 0, none⟩ = some (.slice (some ⟨w2.heap.size, 0, none⟩) B.length B.length) ∧ w'.cell? ⟨w.heap.size, 0, none⟩ = some (.int .i64 B.length)) (first | exact cells_bel (by assumption) hbe | exact cells_bel (by assumption) hb9 | exact cells_bel ⟨f6, f0⟩ (below_of_drew hbe) | exact cells_bel (cells_bel ⟨f6, f0⟩ (below_of_drew hbe)) hb9 | go_keep)
            (first | (go_at_call 20; refine (num_any _ _).mono ?_; rintro e w' ⟨rfl, rfl⟩) | (go_at_call 29; refine (EqBytes_any wp.drew _ _ B B _ _ HO1d.out HRrd.out).mono ?_; rintro e we ⟨rfl, hbe⟩; rw [decide_eq_true rfl]) | (go_at_call 35; refine (Len_any _ _ w1.heap.size B (HBp.out.mem.belowH (below_of_drew hbe))).mono ?_; rintro e w' ⟨rfl, rfl⟩) | (go_at_call 25; refine (wakes1_any _).mono ?_; rintro e w9 ⟨rfl, hb9⟩))
          all_goals
            go_wp2
            go_ret
            exact ⟨rfl, HL9.out.trans (((below_of_drew hbe).mono HZ9.out).trans (hb9.mono (Nat.le_trans HZ9.out (below_of_drew hbe).size)))⟩
        · have hk4 : acts.length ≤ k := by omega
          go_wp2_with fail
          refine (Read_any _ _ _ _ 0 B.length HB.out.mem hlenB (by omega)).mono ?_
          rintro e wp ⟨v1, rfl, hown1, hb1p⟩
          rw [hBN.out.1]
          rw [hBN.out.2] at hown1
          obtain ⟨o1, cap1, rfl, _⟩ := (Rd.of_own hown1).form
          have HO1 := Lib.hid hown1
          have HBp := Lib.hid (HB.out.belowH hb1p (by omega))
          have f0 := cell_bel c0 hb1p
          have f6 := HBp.out.ref.head.cell 0
          simp only [List.getElem?_cons_zero] at f6
          have hRr := Rd.of_whole HBp.out.ref.bytes (by rw [u8s_length]; unfold maxLen; omega)
          rw [u8s_length] at hRr
          have HRr := Lib.hid hRr
          have hpz := hb1p.size
          have HO1' : Hid (Rd wp wp.heap.size 1 (.slice o1 B.length cap1) B.length (u8s B)) := Lib.hid (Rd.of_own HO1.out)
          have HO1d : Hid (Rd wp.drew wp.heap.size 1 (.slice o1 B.length cap1) B.length (u8s B)) := HO1'
          have HRrd : Hid (Rd wp.drew wp.heap.size 1 (.slice (some ⟨w2.heap.size, 0, none⟩) B.length B.length) B.length (u8s B)) := HRr
          have HL9 := Lib.hid ((hbx0.trans (hb.mono (by omega))).trans (hb1p.mono (by omega)))
          have HZ9 : Hid (w.heap.size ≤ wp.heap.size) := Lib.hid (by omega)
          clear hown1 hRr
          go_wp2_with fail
          go_region_held3 (fun w' => w'.cell? ⟨w2.heap.size + 1, 0, none⟩ = some (.slice (some ⟨w2.heap.size, 0, none⟩) B.length B.length) ∧ w'.cell? ⟨w.heap.size, 0, none⟩ = some (.int .i64 B.length)) (first | exact cells_bel (by assumption) hbe | exact cells_bel (by assumption) hb9 | exact cells_bel ⟨f6, f0⟩ (below_of_drew hbe) | exact cells_bel (cells_bel ⟨f6, f0⟩ (below_of_drew hbe)) hb9 | go_keep)
            (first | (go_at_call 20; refine (num_any _ _).mono ?_; rintro e w' ⟨rfl, rfl⟩) | (go_at_call 29; refine (EqBytes_any wp.drew _ _ B B _ _ HO1d.out HRrd.out).mono ?_; rintro e we ⟨rfl, hbe⟩; rw [decide_eq_true rfl]) | (go_at_call 35; refine (Len_any _ _ w1.heap.size B (HBp.out.mem.belowH (below_of_drew hbe))).mono ?_; rintro e w' ⟨rfl, rfl⟩) | (go_at_call 25; refine (wakes1_any _).mono ?_; rintro e w9 ⟨rfl, hb9⟩))
          all_goals
            go_wp2
            go_ret
            exact ⟨rfl, HL9.out.trans (((below_of_drew hbe).mono HZ9.out).trans (hb9.mono (Nat.le_trans HZ9.out (below_of_drew hbe).size)))⟩
  · go_wp2
    go_ret
    exact ⟨rfl, hbx0.trans (hb1.mono (by simp))⟩
end Go.Proofs.Ytfffehbipcikoaa
