/- Device.Pop, Push. -/


import Derived.Test.YtfffehbipcikoaaRing9
namespace Go.Proofs.Ytfffehbipcikoaa
open Go.RowKit Go.MapKept

/-- What the device reads of the next one that comes: its head. -/
def popHead (B : List UInt8) (q : Nat) (rd : Nat) : Int := getV B (16 * (q : Int) + 4 + 2 * ((rd % q : Nat) : Int)) 2
def popV (B : List UInt8) (q rd : Nat) : Option (List Buf) := chainV B q 17 (popHead B q rd) false []

set_option maxHeartbeats 1000000 in
theorem Pop_broken (w : World) (D : Nat) (q : Int) (m : Nat) (wr rd : Nat) (hH : DevAt w D m q true wr rd) :
    Calls Try.prog 40 #[.pointer (some ⟨D, 0, none⟩)] w fun e w' => e = .returned (.tuple #[.int .i64 0, .slice none 0 0, .bool false, .int .i64 6]) ∧ w' = w := by
  have c5 : w.cell? ⟨D, 5, none⟩ = some (.bool true) := by rw [hH.cell]; rfl
  clear hH
  go_enter Try.func40, Try.ntmps40
  go_wp2
  ((try simp only [Exit.inBlock, Exit.then]); refine bodyPost_ret (results_tmp4 rfl _ _ _) rfl ?_)
  exact ⟨rfl, rfl⟩

set_option maxHeartbeats 1000000 in
theorem Pop_none (w : World) (D : Nat) (q : Nat) (m d : Nat) (wrt rd : Nat) (B : List UInt8) (hD : DevAt w D m q false wrt rd) (hM : MemAt 114 w m d B) (hB : B.length ≤ 65536) (hr : rd ≤ 65535) (hq : 1 ≤ q ∧ q ≤ 64) (hk : aheadV B (16 * (q : Int) + 2) rd = 0) :
    Calls Try.prog 40 #[.pointer (some ⟨D, 0, none⟩)] w fun e w' => e = .returned (.tuple #[.int .i64 0, .slice none 0 0, .bool false, .int .i64 0]) ∧ Left [] w w' := by
  obtain ⟨w0, hw0⟩ : ∃ w0, w0 = w := ⟨_, rfl⟩
  have HLe : Hid (Left [] w0 w) := Lib.hid (hw0 ▸ Left.refl _ _)
  have c0 : w.cell? ⟨D, 0, none⟩ = some (.int .i64 (q : Nat)) := by rw [hD.cell]; rfl
  have c1 : w.cell? ⟨D, 1, none⟩ = some (.int .i64 (16 * (q : Nat))) := by rw [hD.cell]; rfl
  have c5 : w.cell? ⟨D, 5, none⟩ = some (.bool false) := by rw [hD.cell]; rfl
  have c7 : w.cell? ⟨D, 7, none⟩ = some (.int .i64 rd) := by rw [hD.cell]; rfl
  have HH := Lib.hid (HalfC.of_whole (r := []) (by rw [List.append_nil]; exact hD))
  have HM := Lib.hid hM
  have HDr := Lib.hid hD
  have HK := Lib.hid hk
  clear hD hM hk
  go_enter Try.func40, Try.ntmps40
  go_wp2_with fail
  have hwu : IntKind.i64.wrap (16 * (q : Int) + 2) = 16 * (q : Int) + 2 := IntWalk.i64_in _ ⟨by omega, by omega⟩
  go_quiet ((go_at_call 68; exact Calls.quiet_of (hahead_any _ D _ m d false wrt rd B (16 * (q : Int) + 2) (HH.out.drewN _) (HM.out.drewN _) hB hr)))
  clear hwu
  replace c0 : (w.drewN nq).cell? ⟨D, 0, none⟩ = some (.int .i64 (q : Nat)) := c0
  replace c1 : (w.drewN nq).cell? ⟨D, 1, none⟩ = some (.int .i64 (16 * (q : Nat))) := c1
  replace c7 : (w.drewN nq).cell? ⟨D, 7, none⟩ = some (.int .i64 rd) := c7
  replace HH : Hid (HalfC (w.drewN nq) D (q : Nat) m false wrt rd) := Lib.hid (HH.out.drewN nq)
  replace HM : Hid (MemAt 114 (w.drewN nq) m d B) := Lib.hid (HM.out.drewN nq)
  replace HDr : Hid (DevAt (w.drewN nq) D m (q : Nat) false wrt rd) := Lib.hid (HDr.out.drewN nq)
  replace HLe : Hid (Left [] w0 (w.drewN nq)) := Lib.hid (HLe.out.drewN nq)
  clear c5
  generalize w.drewN nq = w1 at c0 c1 c7 HH HM HDr HLe ⊢
  have c5 : True := trivial
  rw [HK.out]
  go_wp2
  ((try simp only [Exit.inBlock, Exit.then]); refine bodyPost_ret (results_tmp4 rfl _ _ _) rfl ?_)
  exact ⟨rfl, by have := HLe.out; rwa [hw0] at this⟩

set_option maxRecDepth 20000 in
set_option maxHeartbeats 2000000 in
theorem Pop_bad (w : World) (D : Nat) (q : Nat) (m d : Nat) (wrt rd : Nat) (B : List UInt8) (hd : Nat) (k : Int) (hD : DevAt w D m q false wrt rd) (hM : MemAt 114 w m d B) (hB : B.length ≤ 65536) (hr : rd ≤ 65535) (hq : 1 ≤ q ∧ q ≤ 64)
    (hk : aheadV B (16 * (q : Int) + 2) rd = k) (hk0 : k ≠ 0) (hhd : popHead B q rd = hd) (hp : (q : Int) < k ∨ chainV B q 17 hd false [] = none) :
    Calls Try.prog 40 #[.pointer (some ⟨D, 0, none⟩)] w fun e w' => e = .returned (.tuple #[.int .i64 0, .slice none 0 0, .bool false, .int .i64 1]) ∧ DevAt w' D m q true wrt rd ∧ Left [D] w w' := by
  obtain ⟨rr, hrr⟩ : ∃ rr : Nat, rd % q = rr := ⟨_, rfl⟩
  have hrr2 : rr ≤ 63 := by have := Nat.mod_lt rd hq.1; omega
  have htm : ((rd : Int)).tmod (q : Int) = (rr : Int) := by rw [← hrr]; rfl
  have hq0 : ¬ q = 0 := by omega
  unfold popHead at hhd
  rw [hrr] at hhd
  have hg1 := getV_lt B (16 * (q : Int) + 4 + 2 * (rr : Int)) 2
  rw [hhd] at hg1
  have hd1 : hd ≤ 65535 := by have := hg1.2.2 (by omega); omega
  have hkb : 0 ≤ k ∧ k < 65536 := by rw [← hk]; unfold aheadV; omega
  obtain ⟨hkb1, hkb2⟩ := hkb
  have HHD := Lib.hid hhd
  clear hhd hg1 hrr
  obtain ⟨w0, hw0⟩ : ∃ w0, w0 = w := ⟨_, rfl⟩
  have HLe : Hid (Left [] w0 w) := Lib.hid (hw0 ▸ Left.refl _ _)
  have c0 : w.cell? ⟨D, 0, none⟩ = some (.int .i64 (q : Nat)) := by rw [hD.cell]; rfl
  have c1 : w.cell? ⟨D, 1, none⟩ = some (.int .i64 (16 * (q : Nat))) := by rw [hD.cell]; rfl
  have c5 : w.cell? ⟨D, 5, none⟩ = some (.bool false) := by rw [hD.cell]; rfl
  have c7 : w.cell? ⟨D, 7, none⟩ = some (.int .i64 rd) := by rw [hD.cell]; rfl
  have HH := Lib.hid (HalfC.of_whole (r := []) (by rw [List.append_nil]; exact hD))
  have HM := Lib.hid hM
  have HDr := Lib.hid hD
  have HK := Lib.hid hk
  clear hD hM hk
  go_enter Try.func40, Try.ntmps40
  go_wp2_with fail
  have hwu : IntKind.i64.wrap (16 * (q : Int) + 2) = 16 * (q : Int) + 2 := IntWalk.i64_in _ ⟨by omega, by omega⟩
  go_quiet ((go_at_call 68; exact Calls.quiet_of (hahead_any _ D _ m d false wrt rd B (16 * (q : Int) + 2) (HH.out.drewN _) (HM.out.drewN _) hB hr)))
  clear hwu
  replace c0 : (w.drewN nq).cell? ⟨D, 0, none⟩ = some (.int .i64 (q : Nat)) := c0
  replace c1 : (w.drewN nq).cell? ⟨D, 1, none⟩ = some (.int .i64 (16 * (q : Nat))) := c1
  replace c7 : (w.drewN nq).cell? ⟨D, 7, none⟩ = some (.int .i64 rd) := c7
  replace HH : Hid (HalfC (w.drewN nq) D (q : Nat) m false wrt rd) := Lib.hid (HH.out.drewN nq)
  replace HM : Hid (MemAt 114 (w.drewN nq) m d B) := Lib.hid (HM.out.drewN nq)
  replace HDr : Hid (DevAt (w.drewN nq) D m (q : Nat) false wrt rd) := Lib.hid (HDr.out.drewN nq)
  replace HLe : Hid (Left [] w0 (w.drewN nq)) := Lib.hid (HLe.out.drewN nq)
  clear c5
  generalize w.drewN nq = w1 at c0 c1 c7 HH HM HDr HLe ⊢
  have c5 : True := trivial
  rw [HK.out]
  have hk0' : (k == 0) = false := beq_eq_false_iff_ne.2 hk0
  have hw2 : IntKind.i64.wrap (2 * (rr : Int)) = 2 * (rr : Int) := IntWalk.i64_in _ ⟨by omega, by omega⟩
  have hw1 : IntKind.i64.wrap (16 * (q : Int) + 4) = 16 * (q : Int) + 4 := IntWalk.i64_in _ ⟨by omega, by omega⟩
  have hw3 : IntKind.i64.wrap (16 * (q : Int) + 4 + 2 * (rr : Int)) = 16 * (q : Int) + 4 + 2 * (rr : Int) := IntWalk.i64_in _ ⟨by omega, by omega⟩
  go_wp2_with fail
  go_quiet ((go_at_call 69; exact Calls.quiet_of_same (hget_q _ D _ m d false wrt rd B _ 2 (HH.out.drewN _) (HM.out.drewN _) hB (by omega))))
  clear hw1 hw2 hw3 htm
  replace c0 : (w1.drewN nq).cell? ⟨D, 0, none⟩ = some (.int .i64 (q : Nat)) := c0
  replace c1 : (w1.drewN nq).cell? ⟨D, 1, none⟩ = some (.int .i64 (16 * (q : Nat))) := c1
  replace c7 : (w1.drewN nq).cell? ⟨D, 7, none⟩ = some (.int .i64 rd) := c7
  replace HH : Hid (HalfC (w1.drewN nq) D (q : Nat) m false wrt rd) := Lib.hid (HH.out.drewN nq)
  replace HM : Hid (MemAt 114 (w1.drewN nq) m d B) := Lib.hid (HM.out.drewN nq)
  replace HDr : Hid (DevAt (w1.drewN nq) D m (q : Nat) false wrt rd) := Lib.hid (HDr.out.drewN nq)
  replace HLe : Hid (Left [] w0 (w1.drewN nq)) := Lib.hid (HLe.out.drewN nq)
  clear c5
  generalize w1.drewN nq = w2 at c0 c1 c7 HH HM HDr HLe ⊢
  have c5 : True := trivial
  rw [HHD.out]
  go_wp2_with fail
  refine (chain_any w2 D q m d false wrt rd B hd HH.out HM.out hB hq hd1).mono ?_
  rintro e w3 ⟨lv, rfl, hlv, hb3⟩
  obtain ⟨R, hR⟩ : ∃ R, chainV B q 17 hd false [] = R := ⟨_, rfl⟩
  rw [hR] at hlv hp ⊢
  have HLV := Lib.hid hlv
  have HD3 := Lib.hid (Whole.belowH HDr.out hb3)
  have HL3 := Lib.hid ((HLe.out.trans (T := []) (Left.of_below hb3 []) (by simp)))
  have hsz3 := hb3.size
  have k0 : w3.cell? ⟨D, 0, none⟩ = some (.int .i64 (q : Nat)) := by rw [HD3.out.cell]; rfl
  have k7 : w3.cell? ⟨D, 7, none⟩ = some (.int .i64 rd) := by rw [HD3.out.cell]; rfl
  clear c0 c1 c7 hlv hb3 hR
  have HP := Lib.hid hp
  clear hp
  by_cases hgt : (q : Int) < k
  · cases R with
    | none =>
      go_wp2_with fail
      refine (breaks_any w3 D 125 _ m false wrt rd [] (by rw [List.append_nil]; exact HD3.out)).mono ?_
      rintro e w4 ⟨rfl, hW4, hL4⟩
      go_wp2
      ((try simp only [Exit.inBlock, Exit.then]); refine bodyPost_ret (results_tmp4 rfl _ _ _) rfl ?_)
      refine ⟨rfl, by rw [List.append_nil] at hW4; exact hW4, ?_⟩
      have := (HL3.out.mono (T := [D]) (by simp)).trans (T := [D]) hL4 (by simp)
      rwa [hw0] at this
    | some l =>
      go_wp2_with fail
      refine (breaks_any w3 D 125 _ m false wrt rd [] (by rw [List.append_nil]; exact HD3.out)).mono ?_
      rintro e w4 ⟨rfl, hW4, hL4⟩
      go_wp2
      ((try simp only [Exit.inBlock, Exit.then]); refine bodyPost_ret (results_tmp4 rfl _ _ _) rfl ?_)
      refine ⟨rfl, by rw [List.append_nil] at hW4; exact hW4, ?_⟩
      have := (HL3.out.mono (T := [D]) (by simp)).trans (T := [D]) hL4 (by simp)
      rwa [hw0] at this
  · have hgt' : k ≤ (q : Int) := by omega
    have hRn : R = none := HP.out.resolve_left hgt
    subst hRn
    go_wp2_with fail
    refine (breaks_any w3 D 125 _ m false wrt rd [] (by rw [List.append_nil]; exact HD3.out)).mono ?_
    rintro e w4 ⟨rfl, hW4, hL4⟩
    go_wp2
    ((try simp only [Exit.inBlock, Exit.then]); refine bodyPost_ret (results_tmp4 rfl _ _ _) rfl ?_)
    refine ⟨rfl, by rw [List.append_nil] at hW4; exact hW4, ?_⟩
    have := (HL3.out.mono (T := [D]) (by simp)).trans (T := [D]) hL4 (by simp)
    rwa [hw0] at this

set_option maxRecDepth 20000 in
set_option maxHeartbeats 2000000 in
theorem Pop_ok (w : World) (D : Nat) (q : Nat) (m d : Nat) (wrt rd : Nat) (B : List UInt8) (hd : Nat) (k : Int) (l : List Buf) (hD : DevAt w D m q false wrt rd) (hM : MemAt 114 w m d B) (hB : B.length ≤ 65536) (hr : rd ≤ 65535) (hq : 1 ≤ q ∧ q ≤ 64)
    (hk : aheadV B (16 * (q : Int) + 2) rd = k) (hk0 : k ≠ 0) (hkq : k ≤ q) (hhd : popHead B q rd = hd) (hp : chainV B q 17 hd false [] = some l) :
    Calls Try.prog 40 #[.pointer (some ⟨D, 0, none⟩)] w fun e w' => ∃ lv, e = .returned (.tuple #[.int .i64 hd, lv, .bool true, .int .i64 0]) ∧ w'.ownsRow w.heap.size 89 3 lv l.length (bufCells l) ∧ DevAt w' D m q false wrt ((rd + 1) % 65536) ∧ Left [D] w w' := by
  obtain ⟨rr, hrr⟩ : ∃ rr : Nat, rd % q = rr := ⟨_, rfl⟩
  have hrr2 : rr ≤ 63 := by have := Nat.mod_lt rd hq.1; omega
  have htm : ((rd : Int)).tmod (q : Int) = (rr : Int) := by rw [← hrr]; rfl
  have hq0 : ¬ q = 0 := by omega
  unfold popHead at hhd
  rw [hrr] at hhd
  have hg1 := getV_lt B (16 * (q : Int) + 4 + 2 * (rr : Int)) 2
  rw [hhd] at hg1
  have hd1 : hd ≤ 65535 := by have := hg1.2.2 (by omega); omega
  have hkb : 0 ≤ k ∧ k < 65536 := by rw [← hk]; unfold aheadV; omega
  obtain ⟨hkb1, hkb2⟩ := hkb
  have HHD := Lib.hid hhd
  clear hhd hg1 hrr
  obtain ⟨w0, hw0⟩ : ∃ w0, w0 = w := ⟨_, rfl⟩
  have HLe : Hid (Left [] w0 w) := Lib.hid (hw0 ▸ Left.refl _ _)
  have c0 : w.cell? ⟨D, 0, none⟩ = some (.int .i64 (q : Nat)) := by rw [hD.cell]; rfl
  have c1 : w.cell? ⟨D, 1, none⟩ = some (.int .i64 (16 * (q : Nat))) := by rw [hD.cell]; rfl
  have c5 : w.cell? ⟨D, 5, none⟩ = some (.bool false) := by rw [hD.cell]; rfl
  have c7 : w.cell? ⟨D, 7, none⟩ = some (.int .i64 rd) := by rw [hD.cell]; rfl
  have HH := Lib.hid (HalfC.of_whole (r := []) (by rw [List.append_nil]; exact hD))
  have HM := Lib.hid hM
  have HDr := Lib.hid hD
  have HK := Lib.hid hk
  clear hD hM hk
  go_enter Try.func40, Try.ntmps40
  go_wp2_with fail
  have hwu : IntKind.i64.wrap (16 * (q : Int) + 2) = 16 * (q : Int) + 2 := IntWalk.i64_in _ ⟨by omega, by omega⟩
  go_quiet ((go_at_call 68; exact Calls.quiet_of (hahead_any _ D _ m d false wrt rd B (16 * (q : Int) + 2) (HH.out.drewN _) (HM.out.drewN _) hB hr)))
  clear hwu
  replace c0 : (w.drewN nq).cell? ⟨D, 0, none⟩ = some (.int .i64 (q : Nat)) := c0
  replace c1 : (w.drewN nq).cell? ⟨D, 1, none⟩ = some (.int .i64 (16 * (q : Nat))) := c1
  replace c7 : (w.drewN nq).cell? ⟨D, 7, none⟩ = some (.int .i64 rd) := c7
  replace HH : Hid (HalfC (w.drewN nq) D (q : Nat) m false wrt rd) := Lib.hid (HH.out.drewN nq)
  replace HM : Hid (MemAt 114 (w.drewN nq) m d B) := Lib.hid (HM.out.drewN nq)
  replace HDr : Hid (DevAt (w.drewN nq) D m (q : Nat) false wrt rd) := Lib.hid (HDr.out.drewN nq)
  replace HLe : Hid (Left [] w0 (w.drewN nq)) := Lib.hid (HLe.out.drewN nq)
  clear c5
  generalize w.drewN nq = w1 at c0 c1 c7 HH HM HDr HLe ⊢
  have c5 : True := trivial
  rw [HK.out]
  have hk0' : (k == 0) = false := beq_eq_false_iff_ne.2 hk0
  have hw2 : IntKind.i64.wrap (2 * (rr : Int)) = 2 * (rr : Int) := IntWalk.i64_in _ ⟨by omega, by omega⟩
  have hw1 : IntKind.i64.wrap (16 * (q : Int) + 4) = 16 * (q : Int) + 4 := IntWalk.i64_in _ ⟨by omega, by omega⟩
  have hw3 : IntKind.i64.wrap (16 * (q : Int) + 4 + 2 * (rr : Int)) = 16 * (q : Int) + 4 + 2 * (rr : Int) := IntWalk.i64_in _ ⟨by omega, by omega⟩
  go_wp2_with fail
  go_quiet ((go_at_call 69; exact Calls.quiet_of_same (hget_q _ D _ m d false wrt rd B _ 2 (HH.out.drewN _) (HM.out.drewN _) hB (by omega))))
  clear hw1 hw2 hw3 htm
  replace c0 : (w1.drewN nq).cell? ⟨D, 0, none⟩ = some (.int .i64 (q : Nat)) := c0
  replace c1 : (w1.drewN nq).cell? ⟨D, 1, none⟩ = some (.int .i64 (16 * (q : Nat))) := c1
  replace c7 : (w1.drewN nq).cell? ⟨D, 7, none⟩ = some (.int .i64 rd) := c7
  replace HH : Hid (HalfC (w1.drewN nq) D (q : Nat) m false wrt rd) := Lib.hid (HH.out.drewN nq)
  replace HM : Hid (MemAt 114 (w1.drewN nq) m d B) := Lib.hid (HM.out.drewN nq)
  replace HDr : Hid (DevAt (w1.drewN nq) D m (q : Nat) false wrt rd) := Lib.hid (HDr.out.drewN nq)
  replace HLe : Hid (Left [] w0 (w1.drewN nq)) := Lib.hid (HLe.out.drewN nq)
  clear c5
  generalize w1.drewN nq = w2 at c0 c1 c7 HH HM HDr HLe ⊢
  have c5 : True := trivial
  rw [HHD.out]
  go_wp2_with fail
  refine (chain_any w2 D q m d false wrt rd B hd HH.out HM.out hB hq hd1).mono ?_
  rintro e w3 ⟨lv, rfl, hlv, hb3⟩
  obtain ⟨R, hR⟩ : ∃ R, chainV B q 17 hd false [] = R := ⟨_, rfl⟩
  rw [hR] at hlv hp ⊢
  have HLV := Lib.hid hlv
  have HD3 := Lib.hid (Whole.belowH HDr.out hb3)
  have HL3 := Lib.hid ((HLe.out.trans (T := []) (Left.of_below hb3 []) (by simp)))
  have hsz3 := hb3.size
  have k0 : w3.cell? ⟨D, 0, none⟩ = some (.int .i64 (q : Nat)) := by rw [HD3.out.cell]; rfl
  have k7 : w3.cell? ⟨D, 7, none⟩ = some (.int .i64 rd) := by rw [HD3.out.cell]; rfl
  clear c0 c1 c7 hlv hb3 hR
  subst hp
  have f7 := HD3.out.free 7
  go_wp2
  have hwt : ((rd : Int) + 1) % 65536 = (((rd + 1) % 65536 : Nat) : Int) := by omega
  rw [hwt]
  ((try simp only [Exit.inBlock, Exit.then]); refine bodyPost_ret (results_tmp4 rfl _ _ _) rfl ?_)
  have hL5 : Left [D] w3 (w3.setCell ⟨D, 7, none⟩ (.int .i64 ((rd + 1) % 65536 : Nat))) := (Left.refl _ _).setCell (Or.inl (by simp)) _
  have hDl := HDr.out.lt
  have hsz := HLe.out.size
  rw [hw0] at hsz
  refine ⟨lv, rfl, ?_, ?_, ?_⟩
  · exact own_base (own_left HLV.out hL5 (by simp; omega)) hsz
  · exact HD3.out.put 7 (.int .i64 ((rd + 1) % 65536 : Nat))
  · have := (HL3.out.mono (T := [D]) (by simp)).trans (T := [D]) hL5 (by simp)
    rwa [hw0] at this

theorem Push_broken (w : World) (D : Nat) (q : Int) (m : Nat) (wr rd : Nat) (head n : Int) (hH : DevAt w D m q true wr rd) :
    Calls Try.prog 42 #[.pointer (some ⟨D, 0, none⟩), .int .i64 head, .int .i64 n] w fun e w' => e = .returned (.int .i64 6) ∧ w' = w := by
  have c5 : w.cell? ⟨D, 5, none⟩ = some (.bool true) := by rw [hH.cell]; rfl
  clear hH
  go_enter Try.func42, Try.ntmps42
  go_wp2
  go_ret
  exact ⟨rfl, rfl⟩
set_option maxHeartbeats 1000000 in
theorem Push_form (w : World) (D : Nat) (q : Int) (m : Nat) (wr rd : Nat) (head n : Int) (hH : DevAt w D m q false wr rd) (hx : head < 0 ∨ q ≤ head ∨ n < 0 ∨ 4294967295 < n) :
    Calls Try.prog 42 #[.pointer (some ⟨D, 0, none⟩), .int .i64 head, .int .i64 n] w fun e w' => e = .returned (.int .i64 1) ∧ w' = w := by
  have c5 : w.cell? ⟨D, 5, none⟩ = some (.bool false) := by rw [hH.cell]; rfl
  have c0 : w.cell? ⟨D, 0, none⟩ = some (.int .i64 q) := by rw [hH.cell]; rfl
  clear hH
  by_cases h1 : head < 0
  · clear hx
    go_enter Try.func42, Try.ntmps42
    go_wp2
    go_ret
    exact ⟨rfl, rfl⟩
  · have h1' : 0 ≤ head := by omega
    by_cases h2 : q ≤ head
    · clear hx
      go_enter Try.func42, Try.ntmps42
      go_wp2
      go_ret
      exact ⟨rfl, rfl⟩
    · have h2' : head < q := by omega
      by_cases h3 : n < 0
      · clear hx
        go_enter Try.func42, Try.ntmps42
        go_wp2
        go_ret
        exact ⟨rfl, rfl⟩
      · have h3' : 0 ≤ n := by omega
        have h4 : 4294967295 < n := by omega
        clear hx
        go_enter Try.func42, Try.ntmps42
        go_wp2
        go_ret
        exact ⟨rfl, rfl⟩

/-- What Push leaves of memory. -/
def pushB (B : List UInt8) (q wr : Nat) (head n : Nat) : List UInt8 :=
  putV (putV (putV B (usedPos q wr) 4 head) (usedPos q wr + 4) 4 n) (usedAt q + 2) 2 ((wr + 1) % 65536)
set_option maxRecDepth 20000 in
set_option maxHeartbeats 2000000 in
theorem Push_ok (w : World) (D : Nat) (q : Nat) (m d : Nat) (wrt rd : Nat) (B : List UInt8) (head n : Nat) (hD : DevAt w D m q false wrt rd) (hM : MemAt 114 w m d B) (hB : B.length ≤ 65536) (hr : wrt ≤ 65535) (hq : 1 ≤ q ∧ q ≤ 64) (hh : head < q) (hn : n ≤ 4294967295) :
    Calls Try.prog 42 #[.pointer (some ⟨D, 0, none⟩), .int .i64 head, .int .i64 n] w fun e w' => e = .returned (.int .i64 0) ∧ DevAt w' D m q false ((wrt + 1) % 65536) rd ∧ MemAt 114 w' m d (pushB B q wrt head n) ∧ Left [D, d] w w' := by
  obtain ⟨rr, hrr⟩ : ∃ rr : Nat, wrt % q = rr := ⟨_, rfl⟩
  have hrr2 : rr ≤ 63 := by have := Nat.mod_lt wrt hq.1; omega
  have htm : ((wrt : Int)).tmod (q : Int) = (rr : Int) := by rw [← hrr]; rfl
  have hq0 : ¬ q = 0 := by omega
  obtain ⟨u, hu⟩ : ∃ u, usedAt (q : Nat) = u := ⟨_, rfl⟩
  have hu1 : 0 ≤ u ∧ u ≤ 2000 := by rw [← hu]; unfold usedAt; omega
  have HPB := Lib.hid (show pushB B q wrt head n = putV (putV (putV B (u + 4 + 8 * (rr : Int)) 4 head) (u + 4 + 8 * (rr : Int) + 4) 4 n) (u + 2) 2 ((wrt + 1) % 65536) by
    unfold pushB usedPos
    rw [hu, show ((q : Int).toNat) = q by simp, hrr])
  have c0 : w.cell? ⟨D, 0, none⟩ = some (.int .i64 (q : Nat)) := by rw [hD.cell]; rfl
  have c2 : w.cell? ⟨D, 2, none⟩ = some (.int .i64 u) := by rw [hD.cell, ← hu]; rfl
  have c5 : w.cell? ⟨D, 5, none⟩ = some (.bool false) := by rw [hD.cell]; rfl
  have c6 : w.cell? ⟨D, 6, none⟩ = some (.int .i64 wrt) := by rw [hD.cell]; rfl
  have HH := Lib.hid (HalfC.of_whole (r := []) (by rw [List.append_nil]; exact hD))
  have HM := Lib.hid hM
  have HDr := Lib.hid hD
  have hDd : D ≠ d := Whole.ne hD hM.bytes (by decide)
  have hDm : D ≠ m := Whole.ne hD hM.head (by decide)
  have HU := Lib.hid hu
  clear hD hM hrr hu
  go_enter Try.func42, Try.ntmps42
  have hw2 : IntKind.i64.wrap (8 * (rr : Int)) = 8 * (rr : Int) := IntWalk.i64_in _ ⟨by omega, by omega⟩
  have hw1 : IntKind.i64.wrap (u + 4) = u + 4 := IntWalk.i64_in _ ⟨by omega, by omega⟩
  have hw3 : IntKind.i64.wrap (u + 4 + 8 * (rr : Int)) = u + 4 + 8 * (rr : Int) := IntWalk.i64_in _ ⟨by omega, by omega⟩
  go_wp2_with fail
  go_quiet (fail)
  clear hw1 hw2 hw3 htm
  have hl1 : Left [] w (w.drewN nq) := (Left.refl [] w).drewN nq
  have HD1 := Lib.hid (Whole.drewN HDr.out nq)
  have HH1 := Lib.hid (HH.out.drewN nq)
  have HM1 := Lib.hid (HM.out.drewN nq)
  have hq2 := hq.2
  generalize w.drewN nq = w1 at hl1 HD1 HH1 HM1 ⊢
  have hw4 : IntKind.i64.wrap (u + 4 + 8 * (rr : Int) + 4) = u + 4 + 8 * (rr : Int) + 4 := IntWalk.i64_in _ ⟨by omega, by omega⟩
  go_wp2_with fail
  refine (hput_any w1 D _ m d false wrt rd B _ 4 head HH1.out HM1.out hB (by omega)).mono ?_
  rintro e w2 ⟨rfl, hm2, hl2⟩
  have hl2' : Left [D, d] w w2 := (hl1.mono (by simp)).trans (T := [d]) hl2 (by simp)
  have HM2 := Lib.hid hm2
  have HD2 := Lib.hid (Whole.left HD1.out hl2 (by simp [hDd]))
  have HH2 := Lib.hid (HalfC.of_whole (r := []) (by rw [List.append_nil]; exact HD2.out))
  clear hl1 hl2 hm2
  go_wp2_with fail
  refine (hput_any w2 D _ m d false wrt rd _ _ 4 n HH2.out HM2.out (by rw [putV_length]; exact hB) (by omega)).mono ?_
  rintro e w3 ⟨rfl, hm3, hl3⟩
  have hl3' : Left [D, d] w w3 := hl2'.trans (T := [d]) hl3 (by simp)
  have HM3 := Lib.hid hm3
  have HD3 := Lib.hid (Whole.left HD2.out hl3 (by simp [hDd]))
  have k6 : w3.cell? ⟨D, 6, none⟩ = some (.int .i64 wrt) := by rw [HD3.out.cell]; rfl
  have f6 := HD3.out.free 6
  clear hl2' hl3 hm3
  go_upto_region 9 with fail
  have hwt : ((wrt : Int) + 1) % 65536 = (((wrt + 1) % 65536 : Nat) : Int) := by omega
  rw [hwt]
  obtain ⟨wn, hwn⟩ : ∃ wn : Nat, (wrt + 1) % 65536 = wn := ⟨_, rfl⟩
  rw [hwn] at HPB ⊢
  have hwn2 : wn ≤ 65535 := by omega
  have hl4 : Left [D] w3 (w3.setCell ⟨D, 6, none⟩ (.int .i64 wn)) := (Left.refl _ _).setCell (Or.inl (by simp)) _
  have HD4 : Hid (DevAt (w3.setCell ⟨D, 6, none⟩ (.int .i64 wn)) D m q false wn rd) := Lib.hid (HD3.out.put 6 (.int .i64 wn))
  have HM4 := Lib.hid (HM3.out.left hl4 (by simp [hDm.symm]) (by simp [hDd.symm]))
  have hl4' : Left [D, d] w (w3.setCell ⟨D, 6, none⟩ (.int .i64 wn)) := hl3'.trans (T := [D]) hl4 (by simp)
  clear hwt hl3' hl4 k6 f6
  generalize w3.setCell ⟨D, 6, none⟩ (.int .i64 wn) = w4 at HD4 HM4 hl4' ⊢
  have i2 : w4.cell? ⟨D, 2, none⟩ = some (.int .i64 u) := by rw [HD4.out.cell, ← HU.out]; rfl
  have i6 : w4.cell? ⟨D, 6, none⟩ = some (.int .i64 wn) := by rw [HD4.out.cell]; rfl
  have HH4 := Lib.hid (HalfC.of_whole (r := []) (by rw [List.append_nil]; exact HD4.out))
  have HWN := Lib.hid hwn
  clear hwn
  have hw5 : IntKind.i64.wrap (u + 2) = u + 2 := IntWalk.i64_in _ ⟨by omega, by omega⟩
  refine wp_region_held_drew (S := fun wx => wx.cell? ⟨D, 2, none⟩ = some (.int .i64 u) ∧ wx.cell? ⟨D, 6, none⟩ = some (.int .i64 wn)) (by kernel_rfl) ⟨i2, i6⟩ (fun hHeld => ?_)
  refine take_h 0 ⟨?_, ?_, ?_, by kernel_rfl, by kernel_rfl, by kernel_rfl, ?_, ?_, by assumption, ?_⟩
  rotate_left 2
  · (simp only [List.getElem?_toArray, List.getElem?_cons_zero]; exact rfl)
  · exact fun _ _ _ h => h
  · first
      | (refine Or.inr ⟨by rfl, ?_⟩; exact rfl)
      | (refine Or.inl ⟨by rfl, ?_⟩
         intro w hSw
         (try dsimp only at hSw)
         (try go_split_ands)
         go_simp
         (first | done | with_reducible rfl))
  try simp only [Act.put, List.setIfInBounds_toArray, List.set_cons_zero, List.set_cons_succ]
  refine take_h 1 ⟨?_, ?_, ?_, by kernel_rfl, by kernel_rfl, by kernel_rfl, ?_, ?_, by assumption, ?_⟩
  rotate_left 2
  · (simp only [List.getElem?_toArray, List.getElem?_cons_succ, List.getElem?_cons_zero]; exact rfl)
  · exact fun _ _ _ h => h
  · first
      | (refine Or.inr ⟨by rfl, ?_⟩; exact rfl)
      | (refine Or.inl ⟨by rfl, ?_⟩
         intro w hSw
         (try dsimp only at hSw)
         (try go_split_ands)
         go_simp
         (first | done | with_reducible rfl))
  try simp only [Act.put, List.setIfInBounds_toArray, List.set_cons_zero, List.set_cons_succ]
  refine take_h 2 ⟨?_, ?_, ?_, by kernel_rfl, by kernel_rfl, by kernel_rfl, ?_, ?_, by assumption, ?_⟩
  rotate_left 2
  · (simp only [List.getElem?_toArray, List.getElem?_cons_succ, List.getElem?_cons_zero]; exact rfl)
  · exact fun _ _ _ h => h
  · first
      | (refine Or.inr ⟨by rfl, ?_⟩; exact rfl)
      | (refine Or.inl ⟨by rfl, ?_⟩
         intro w hSw
         (try dsimp only at hSw)
         (try go_split_ands)
         go_simp
         (first | done | with_reducible rfl))
  try simp only [Act.put, List.setIfInBounds_toArray, List.set_cons_zero, List.set_cons_succ]
  refine take_h 3 ⟨?_, ?_, ?_, by kernel_rfl, by kernel_rfl, by kernel_rfl, ?_, ?_, by assumption, ?_⟩
  rotate_left 2
  · (simp only [List.getElem?_toArray, List.getElem?_cons_succ, List.getElem?_cons_zero]; exact rfl)
  · exact fun _ _ _ h => h
  · first
      | (refine Or.inr ⟨by rfl, ?_⟩; exact rfl)
      | (refine Or.inl ⟨by rfl, ?_⟩
         intro w hSw
         (try dsimp only at hSw)
         (try go_split_ands)
         go_simp
         (first | done | with_reducible rfl))
  try simp only [Act.put, List.setIfInBounds_toArray, List.set_cons_zero, List.set_cons_succ]
  refine take_h 4 ⟨?_, ?_, ?_, by kernel_rfl, by kernel_rfl, by kernel_rfl, ?_, ?_, by assumption, ?_⟩
  rotate_left 2
  · (simp only [List.getElem?_toArray, List.getElem?_cons_succ, List.getElem?_cons_zero]; exact rfl)
  · exact fun _ _ _ h => h
  · first
      | (refine Or.inr ⟨by rfl, ?_⟩; exact rfl)
      | (refine Or.inl ⟨by rfl, ?_⟩
         intro w hSw
         (try dsimp only at hSw)
         (try go_split_ands)
         go_simp
         (first | done | with_reducible rfl))
  try simp only [Act.put, List.setIfInBounds_toArray, List.set_cons_zero, List.set_cons_succ]
  refine take_h 5 ⟨?_, ?_, ?_, by kernel_rfl, by kernel_rfl, by kernel_rfl, ?_, ?_, by assumption, ?_⟩
  rotate_left 2
  · (simp only [List.getElem?_toArray, List.getElem?_cons_succ, List.getElem?_cons_zero]; exact rfl)
  · exact fun _ _ _ h => h
  · first
      | (refine Or.inr ⟨by rfl, ?_⟩; exact rfl)
      | (refine Or.inl ⟨by rfl, ?_⟩
         intro w hSw
         (try dsimp only at hSw)
         (try go_split_ands)
         go_simp
         (first | done | with_reducible rfl))
  try simp only [Act.put, List.setIfInBounds_toArray, List.set_cons_zero, List.set_cons_succ]
  refine take_h 6 ⟨?_, ?_, ?_, by kernel_rfl, by kernel_rfl, by kernel_rfl, ?_, ?_, by assumption, ?_⟩
  rotate_left 2
  · (simp only [List.getElem?_toArray, List.getElem?_cons_succ, List.getElem?_cons_zero]; exact rfl)
  · exact fun _ _ _ h => h
  · first
      | (refine Or.inr ⟨by rfl, ?_⟩; exact rfl)
      | (refine Or.inl ⟨by rfl, ?_⟩
         intro w hSw
         (try dsimp only at hSw)
         (try go_split_ands)
         go_simp
         (first | done | with_reducible rfl))
  try simp only [Act.put, List.setIfInBounds_toArray, List.set_cons_zero, List.set_cons_succ]
  refine take_h 7 ⟨?_, ?_, ?_, by kernel_rfl, by kernel_rfl, by kernel_rfl, ?_, ?_, by assumption, ?_⟩
  rotate_left 2
  · (simp only [List.getElem?_toArray, List.getElem?_cons_succ, List.getElem?_cons_zero]; exact rfl)
  · exact fun _ _ _ h => h
  · first
      | (refine Or.inr ⟨by rfl, ?_⟩; exact rfl)
      | (refine Or.inl ⟨by rfl, ?_⟩
         intro w hSw
         (try dsimp only at hSw)
         (try go_split_ands)
         go_simp
         (first | done | with_reducible rfl))
  try simp only [Act.put, List.setIfInBounds_toArray, List.set_cons_zero, List.set_cons_succ]
  refine take_h 8 ⟨?_, ?_, ?_, by kernel_rfl, by kernel_rfl, by kernel_rfl, ?_, ?_, by assumption, ?_⟩
  rotate_left 2
  · (simp only [List.getElem?_toArray, List.getElem?_cons_succ, List.getElem?_cons_zero]; exact rfl)
  · exact fun _ _ _ h => h
  · first
      | (refine Or.inr ⟨by rfl, ?_⟩; exact rfl)
      | (refine Or.inl ⟨by rfl, ?_⟩
         intro w hSw
         (try dsimp only at hSw)
         (try go_split_ands)
         go_simp
         (first | done | with_reducible rfl))
  try simp only [Act.put, List.setIfInBounds_toArray, List.set_cons_zero, List.set_cons_succ]
  refine take_h 9 ⟨?_, ?_, ?_, by kernel_rfl, by kernel_rfl, by kernel_rfl, ?_, ?_, by assumption, ?_⟩
  rotate_left 2
  · (simp only [List.getElem?_toArray, List.getElem?_cons_succ, List.getElem?_cons_zero]; exact rfl)
  · exact fun _ _ _ h => h
  · first
      | (refine Or.inr ⟨by rfl, ?_⟩; exact rfl)
      | (refine Or.inl ⟨by rfl, ?_⟩
         intro w hSw
         (try dsimp only at hSw)
         (try go_split_ands)
         go_simp
         (first | done | with_reducible rfl))
  try simp only [Act.put, List.setIfInBounds_toArray, List.set_cons_zero, List.set_cons_succ]
  refine take_h 10 ⟨?_, ?_, ?_, by kernel_rfl, by kernel_rfl, by kernel_rfl, ?_, ?_, by assumption, ?_⟩
  rotate_left 2
  · (simp only [List.getElem?_toArray, List.getElem?_cons_succ, List.getElem?_cons_zero]; exact rfl)
  · exact fun _ _ _ h => h
  · first
      | (refine Or.inr ⟨by rfl, ?_⟩; exact rfl)
      | (refine Or.inl ⟨by rfl, ?_⟩
         intro w hSw
         (try dsimp only at hSw)
         (try go_split_ands)
         go_simp
         (first | done | with_reducible rfl))
  try simp only [Act.put, List.setIfInBounds_toArray, List.set_cons_zero, List.set_cons_succ]
  refine take_h 11 ⟨?_, ?_, ?_, by kernel_rfl, by kernel_rfl, by kernel_rfl, ?_, ?_, by assumption, ?_⟩
  rotate_left 2
  · (simp only [List.getElem?_toArray, List.getElem?_cons_succ, List.getElem?_cons_zero]; exact rfl)
  · exact fun _ _ _ h => h
  · first
      | (refine Or.inr ⟨by rfl, ?_⟩; exact rfl)
      | (refine Or.inl ⟨by rfl, ?_⟩
         intro w hSw
         (try dsimp only at hSw)
         (try go_split_ands)
         go_simp
         (first | done | with_reducible rfl))
  try simp only [Act.put, List.setIfInBounds_toArray, List.set_cons_zero, List.set_cons_succ]
  refine take_h 12 ⟨?_, ?_, ?_, by kernel_rfl, by kernel_rfl, by kernel_rfl, ?_, ?_, by assumption, ?_⟩
  rotate_left 2
  · (simp only [List.getElem?_toArray, List.getElem?_cons_succ, List.getElem?_cons_zero]; exact rfl)
  · exact fun _ _ _ h => h
  · first
      | (refine Or.inr ⟨by rfl, ?_⟩; exact rfl)
      | (refine Or.inl ⟨by rfl, ?_⟩
         intro w hSw
         (try dsimp only at hSw)
         (try go_split_ands)
         go_simp
         (first | done | with_reducible rfl))
  try simp only [Act.put, List.setIfInBounds_toArray, List.set_cons_zero, List.set_cons_succ]
  refine take_h 13 ⟨?_, ?_, ?_, by kernel_rfl, by kernel_rfl, by kernel_rfl, ?_, ?_, by assumption, ?_⟩
  rotate_left 2
  · (simp only [List.getElem?_toArray, List.getElem?_cons_succ, List.getElem?_cons_zero]; exact rfl)
  · exact fun _ _ _ h => h
  · first
      | (refine Or.inr ⟨by rfl, ?_⟩; exact rfl)
      | (refine Or.inl ⟨by rfl, ?_⟩
         intro w hSw
         (try dsimp only at hSw)
         (try go_split_ands)
         go_simp
         (first | done | with_reducible rfl))
  try simp only [Act.put, List.setIfInBounds_toArray, List.set_cons_zero, List.set_cons_succ]
  refine take_h 14 ⟨?_, ?_, ?_, by kernel_rfl, by kernel_rfl, by kernel_rfl, ?_, ?_, by assumption, ?_⟩
  rotate_left 2
  · (simp only [List.getElem?_toArray, List.getElem?_cons_succ, List.getElem?_cons_zero]; exact rfl)
  · exact fun _ _ _ h => h
  · first
      | (refine Or.inr ⟨by rfl, ?_⟩; exact rfl)
      | (refine Or.inl ⟨by rfl, ?_⟩
         intro w hSw
         (try dsimp only at hSw)
         (try go_split_ands)
         go_simp
         (first | done | with_reducible rfl))
  try simp only [Act.put, List.setIfInBounds_toArray, List.set_cons_zero, List.set_cons_succ]
  refine wpAnyH_ready (rs := [15]) (by kernel_rfl) (by simp) ?_
  refine call_h 15 ⟨?_, ?_, fun K hK => ?_⟩
  rotate_left 1
  · (simp only [List.getElem?_toArray, List.getElem?_cons_succ, List.getElem?_cons_zero]; exact rfl)
  go_simp
  (go_at_call 72; refine (hput_any _ D _ m d false wn rd _ _ _ wn HH4.out.drew HM4.out.drew (by rw [putV_length, putV_length]; exact hB) (by omega)).mono ?_; rintro e w5 ⟨rfl, hmP, hlP⟩)
  go_wp2_with fail
  have hl5 : Left [d] w4 w5 := ⟨hlP.os, hlP.tape, hlP.output, hlP.size, hlP.block⟩
  have j2 := cell_left' i2 hl5 (by simp [hDd])
  have j6 := cell_left' i6 hl5 (by simp [hDd])
  have HM5 := Lib.hid hmP
  have HL5 := Lib.hid hl5
  clear hmP hlP hl5 i2 i6
  refine hK.out _ _ ⟨j2, j6⟩ (fun hHeld => ?_)
  clear hK K
  (try simp only [Act.put, List.setIfInBounds_toArray, List.set_cons_zero, List.set_cons_succ])
  refine wpAnyH_done (by kernel_rfl) ?_ _
  clear hHeld
  go_wp2
  go_ret
  refine ⟨rfl, ?_, ?_, ?_⟩
  · rw [HWN.out]; exact Whole.left HD4.out HL5.out (by simp [hDd])
  · rw [HPB.out]
    exact HM5.out
  · exact hl4'.trans (T := [d]) HL5.out (by simp)
end Go.Proofs.Ytfffehbipcikoaa
