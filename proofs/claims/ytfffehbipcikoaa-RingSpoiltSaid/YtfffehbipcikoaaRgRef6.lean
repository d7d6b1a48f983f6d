/- The page's ring: Pop. -/

import Derived.Test.YtfffehbipcikoaaRgRef5
import Derived.Test.YtfffehbipcikoaaRing10
import Derived.Test.YtfffehbipcikoaaRgBufs
namespace Go.Proofs.Ytfffehbipcikoaa
open Go.RowKit

theorem rgetQ {w : World} {R bt bc bw m d q : Nat} {br : Bool} {added last : Nat} {tk : List Bool} {ch : List (List Nat)} {ws : List Int} {F : List Nat} {B : List UInt8} (h : RefAt w R bt bc bw m q br added last tk ch ws F) (hM : MemAt 52 w m d B) (hB : B.length ≤ 65536) (p n v : Int) (hn : n ≤ 4) (hv : getV B p n = v) (k : Nat) :
    Calls Try.prog 91 #[.pointer (some ⟨R, 0, none⟩), .int .i64 p, .int .i64 n] (w.drewN k) fun e w' => e = .returned (.int .i64 v) ∧ w' = w.drewN k :=
  (rgetN (h.drewN k) (hM.drewN k) hB p n v hn hv).mono fun e w' ⟨h1, h2⟩ => ⟨h1, h2.symm⟩

set_option maxHeartbeats 1000000 in
theorem rPop_broken (w : World) (R bt bc bw m q : Nat) (added last : Nat) (tk : List Bool) (ch : List (List Nat)) (ws : List Int) (F : List Nat) (h : RefAt w R bt bc bw m q true added last tk ch ws F) :
    Calls Try.prog 77 #[.pointer (some ⟨R, 0, none⟩)] w fun e w' => e = .returned (.tuple #[.int .i64 0, .slice none 0 0, .bool false, .int .i64 6]) ∧ w' = w := by
  have c9 : w.cell? ⟨R, 9, none⟩ = some (.bool true) := by rw [h.head.cell]; rfl
  clear h
  go_enter Try.func77, Try.ntmps77
  go_wp2
  ((try simp only [Exit.inBlock, Exit.then]); refine bodyPost_ret (results_tmp4 rfl _ _ _) rfl ?_)
  exact ⟨rfl, rfl⟩

set_option maxHeartbeats 1000000 in
theorem rPop_none (w : World) (R bt bc bw m d q : Nat) (added last : Nat) (tk : List Bool) (ch : List (List Nat)) (ws : List Int) (F : List Nat) (B : List UInt8) (h : RefAt w R bt bc bw m q false added last tk ch ws F) (hM : MemAt 52 w m d B) (hB : B.length ≤ 65536) (hr : last ≤ 65535) (hq : 1 ≤ q ∧ q ≤ 64) (k : Int) (hk : aheadV B (16 * (q : Int) + 2) last = k) (hk0 : k = 0) :
    Calls Try.prog 77 #[.pointer (some ⟨R, 0, none⟩)] w fun e w' => e = .returned (.tuple #[.int .i64 0, .slice none 0 0, .bool false, .int .i64 0]) ∧ Left [] w w' := by
  obtain ⟨w0, hw0⟩ : ∃ w0, w0 = w := ⟨_, rfl⟩
  have HLe : Hid (Left [] w0 w) := Lib.hid (hw0 ▸ Left.refl _ _)
  have HW0 := Lib.hid hw0
  have c1 : w.cell? ⟨R, 1, none⟩ = some (.int .i64 q) := by rw [h.head.cell]; rfl
  have c2 : w.cell? ⟨R, 2, none⟩ = some (.int .i64 (16 * (q : Int))) := by rw [h.head.cell]; rfl
  have c5 : w.cell? ⟨R, 5, none⟩ = some (.int .i64 last) := by rw [h.head.cell]; rfl
  have c9 : w.cell? ⟨R, 9, none⟩ = some (.bool false) := by rw [h.head.cell]; rfl
  have HM := Lib.hid hM
  have HR := Lib.hid h
  have hg := getV_lt B (16 * (q : Int) + 2) 2
  have hg1 := hg.1
  have hg2 := hg.2.2 (by omega)
  obtain ⟨gv, hgv⟩ : ∃ gv, getV B (16 * (q : Int) + 2) 2 = gv := ⟨_, rfl⟩
  rw [hgv] at hg1 hg2
  have hkb : 0 ≤ k ∧ k < 65536 := by rw [← hk]; unfold aheadV; omega
  obtain ⟨hkb1, hkb2⟩ := hkb
  have hah : Hid ((gv - last) % 65536 = k) := Lib.hid (by rw [← hk]; unfold aheadV; rw [hgv]; omega)
  have HGV := Lib.hid hgv
  have hwg : IntKind.i64.wrap (gv - last) = gv - last := IntWalk.i64_in _ ⟨by omega, by omega⟩
  have hwu : IntKind.i64.wrap (16 * (q : Int) + 2) = 16 * (q : Int) + 2 := IntWalk.i64_in _ ⟨by omega, by omega⟩
  clear h hM hk hg hgv hw0
  go_enter Try.func77, Try.ntmps77
  go_wp2_with fail
  go_quiet ((first | (go_at_call 91; exact Calls.quiet_of_same (rgetQ HR.out HM.out hB _ 2 gv (by omega) HGV.out _)) | (go_at_call 90; exact Calls.quiet_of_same (rMod_any _ (gv - last) (by omega) (by omega)))))
  clear hwg hwu
  replace c1 : (w.drewN nq).cell? ⟨R, 1, none⟩ = some (.int .i64 q) := c1
  replace c2 : (w.drewN nq).cell? ⟨R, 2, none⟩ = some (.int .i64 (16 * (q : Int))) := c2
  replace c5 : (w.drewN nq).cell? ⟨R, 5, none⟩ = some (.int .i64 last) := c5
  replace HM : Hid (MemAt 52 (w.drewN nq) m d B) := Lib.hid (HM.out.drewN nq)
  replace HR : Hid (RefAt (w.drewN nq) R bt bc bw m q false added last tk ch ws F) := Lib.hid (HR.out.drewN nq)
  replace HLe : Hid (Left [] w0 (w.drewN nq)) := Lib.hid (HLe.out.drewN nq)
  clear c9
  generalize w.drewN nq = w1 at c1 c2 c5 HM HR HLe ⊢
  have c9 : True := trivial
  rw [hah.out]
  subst hk0
  go_wp2
  ((try simp only [Exit.inBlock, Exit.then]); refine bodyPost_ret (results_tmp4 rfl _ _ _) rfl ?_)
  exact ⟨rfl, by have := HLe.out; rwa [HW0.out] at this⟩

set_option maxRecDepth 20000 in
set_option maxHeartbeats 2000000 in
theorem rPop_bad (w : World) (R bt bc bw m d q : Nat) (added last : Nat) (tk : List Bool) (ch : List (List Nat)) (ws : List Int) (F : List Nat) (B : List UInt8) (hd : Nat) (k : Int) (h : RefAt w R bt bc bw m q false added last tk ch ws F) (hM : MemAt 52 w m d B) (hB : B.length ≤ 65536) (hr : last ≤ 65535) (hq : 1 ≤ q ∧ q ≤ 64)
    (hk : aheadV B (16 * (q : Int) + 2) last = k) (hk0 : k ≠ 0) (hhd : popHead B q last = hd) (hp : (q : Int) < k ∨ walkV B q 17 hd [] = none ∨ ∃ l, walkV B q 17 hd [] = some l ∧ bufsB l = false) :
    Calls Try.prog 77 #[.pointer (some ⟨R, 0, none⟩)] w fun e w' => e = .returned (.tuple #[.int .i64 0, .slice none 0 0, .bool false, .int .i64 1]) ∧ RefAt w' R bt bc bw m q true added last tk ch ws F ∧ Left [R] w w' := by
  obtain ⟨rr, hrr⟩ : ∃ rr : Nat, last % q = rr := ⟨_, rfl⟩
  have hrr2 : rr ≤ 63 := by have := Nat.mod_lt last hq.1; omega
  have htm : ((last : Int)).tmod (q : Int) = (rr : Int) := by rw [← hrr]; rfl
  have hq0 : ¬ q = 0 := by omega
  unfold popHead at hhd
  rw [hrr] at hhd
  have hx1 := getV_lt B (16 * (q : Int) + 4 + 2 * (rr : Int)) 2
  rw [hhd] at hx1
  have hd1 : hd ≤ 65535 := by have := hx1.2.2 (by omega); omega
  have HHD := Lib.hid hhd
  clear hhd hx1 hrr
  obtain ⟨w0, hw0⟩ : ∃ w0, w0 = w := ⟨_, rfl⟩
  have HLe : Hid (Left [] w0 w) := Lib.hid (hw0 ▸ Left.refl _ _)
  have HW0 := Lib.hid hw0
  have c1 : w.cell? ⟨R, 1, none⟩ = some (.int .i64 q) := by rw [h.head.cell]; rfl
  have c2 : w.cell? ⟨R, 2, none⟩ = some (.int .i64 (16 * (q : Int))) := by rw [h.head.cell]; rfl
  have c5 : w.cell? ⟨R, 5, none⟩ = some (.int .i64 last) := by rw [h.head.cell]; rfl
  have c9 : w.cell? ⟨R, 9, none⟩ = some (.bool false) := by rw [h.head.cell]; rfl
  have HM := Lib.hid hM
  have HR := Lib.hid h
  have hg := getV_lt B (16 * (q : Int) + 2) 2
  have hg1 := hg.1
  have hg2 := hg.2.2 (by omega)
  obtain ⟨gv, hgv⟩ : ∃ gv, getV B (16 * (q : Int) + 2) 2 = gv := ⟨_, rfl⟩
  rw [hgv] at hg1 hg2
  have hkb : 0 ≤ k ∧ k < 65536 := by rw [← hk]; unfold aheadV; omega
  obtain ⟨hkb1, hkb2⟩ := hkb
  have hah : Hid ((gv - last) % 65536 = k) := Lib.hid (by rw [← hk]; unfold aheadV; rw [hgv]; omega)
  have HGV := Lib.hid hgv
  have hwg : IntKind.i64.wrap (gv - last) = gv - last := IntWalk.i64_in _ ⟨by omega, by omega⟩
  have hwu : IntKind.i64.wrap (16 * (q : Int) + 2) = 16 * (q : Int) + 2 := IntWalk.i64_in _ ⟨by omega, by omega⟩
  clear h hM hk hg hgv hw0
  go_enter Try.func77, Try.ntmps77
  go_wp2_with fail
  go_quiet ((first | (go_at_call 91; exact Calls.quiet_of_same (rgetQ HR.out HM.out hB _ 2 gv (by omega) HGV.out _)) | (go_at_call 90; exact Calls.quiet_of_same (rMod_any _ (gv - last) (by omega) (by omega)))))
  clear hwg hwu
  replace c1 : (w.drewN nq).cell? ⟨R, 1, none⟩ = some (.int .i64 q) := c1
  replace c2 : (w.drewN nq).cell? ⟨R, 2, none⟩ = some (.int .i64 (16 * (q : Int))) := c2
  replace c5 : (w.drewN nq).cell? ⟨R, 5, none⟩ = some (.int .i64 last) := c5
  replace HM : Hid (MemAt 52 (w.drewN nq) m d B) := Lib.hid (HM.out.drewN nq)
  replace HR : Hid (RefAt (w.drewN nq) R bt bc bw m q false added last tk ch ws F) := Lib.hid (HR.out.drewN nq)
  replace HLe : Hid (Left [] w0 (w.drewN nq)) := Lib.hid (HLe.out.drewN nq)
  clear c9
  generalize w.drewN nq = w1 at c1 c2 c5 HM HR HLe ⊢
  have c9 : True := trivial
  rw [hah.out]
  have hk0' : (k == 0) = false := beq_eq_false_iff_ne.2 hk0
  have hw2 : IntKind.i64.wrap (2 * (rr : Int)) = 2 * (rr : Int) := IntWalk.i64_in _ ⟨by omega, by omega⟩
  have hw1 : IntKind.i64.wrap (16 * (q : Int) + 4) = 16 * (q : Int) + 4 := IntWalk.i64_in _ ⟨by omega, by omega⟩
  have hw3 : IntKind.i64.wrap (16 * (q : Int) + 4 + 2 * (rr : Int)) = 16 * (q : Int) + 4 + 2 * (rr : Int) := IntWalk.i64_in _ ⟨by omega, by omega⟩
  go_wp2_with fail
  go_quiet ((go_at_call 91; exact Calls.quiet_of_same (rgetQ HR.out HM.out hB _ 2 (hd : Nat) (by omega) HHD.out _)))
  clear hw1 hw2 hw3 htm
  replace c1 : (w1.drewN nq).cell? ⟨R, 1, none⟩ = some (.int .i64 q) := c1
  replace c2 : (w1.drewN nq).cell? ⟨R, 2, none⟩ = some (.int .i64 (16 * (q : Int))) := c2
  replace c5 : (w1.drewN nq).cell? ⟨R, 5, none⟩ = some (.int .i64 last) := c5
  replace HM : Hid (MemAt 52 (w1.drewN nq) m d B) := Lib.hid (HM.out.drewN nq)
  replace HR : Hid (RefAt (w1.drewN nq) R bt bc bw m q false added last tk ch ws F) := Lib.hid (HR.out.drewN nq)
  replace HLe : Hid (Left [] w0 (w1.drewN nq)) := Lib.hid (HLe.out.drewN nq)
  clear c9
  generalize w1.drewN nq = w2 at c1 c2 c5 HM HR HLe ⊢
  have c9 : True := trivial
  go_wp2_with fail
  refine (rwalk_any w2 R bt bc bw m d q false added last tk ch ws F B hd HR.out HM.out hB hq hd1).mono ?_
  rintro e w3 ⟨lv, rfl, hlv, hb3⟩
  obtain ⟨Rr, hRr⟩ : ∃ Rr, walkV B q 17 hd [] = Rr := ⟨_, rfl⟩
  rw [hRr] at hlv hp ⊢
  have HLV := Lib.hid hlv
  have HR3 := Lib.hid (HR.out.below hb3)
  have HL3 := Lib.hid ((HLe.out.trans (T := []) (Left.of_below hb3 []) (by simp)))
  have hsz3 := hb3.size
  have k1 : w3.cell? ⟨R, 1, none⟩ = some (.int .i64 q) := by rw [HR3.out.head.cell]; rfl
  have k5 : w3.cell? ⟨R, 5, none⟩ = some (.int .i64 last) := by rw [HR3.out.head.cell]; rfl
  have HP := Lib.hid hp
  clear c1 c2 c5 hlv hb3 hRr hp
  by_cases hgt : (q : Int) < k
  · cases Rr with
    | none =>
      have k9 : w3.cell? ⟨R, 9, none⟩ = some (.bool false) := by rw [HR3.out.head.cell]; rfl
      have f9 := HR3.out.head.free 9
      go_wp2
      ((try simp only [Exit.inBlock, Exit.then]); refine bodyPost_ret (results_tmp4 rfl _ _ _) rfl ?_)
      have hL : Left [R] w3 (w3.setCell ⟨R, 9, none⟩ (.bool true)) := (Left.refl _ _).setCell (Or.inl (by simp)) _
      refine ⟨rfl, (HR3.out.head_ hL (HR3.out.head.put 9 (.bool true))), ?_⟩
      have := (HL3.out.mono (T := [R]) (by simp)).trans (T := [R]) hL (by simp)
      rwa [HW0.out] at this
    | some l =>
      have k9 : w3.cell? ⟨R, 9, none⟩ = some (.bool false) := by rw [HR3.out.head.cell]; rfl
      have f9 := HR3.out.head.free 9
      go_wp2
      ((try simp only [Exit.inBlock, Exit.then]); refine bodyPost_ret (results_tmp4 rfl _ _ _) rfl ?_)
      have hL : Left [R] w3 (w3.setCell ⟨R, 9, none⟩ (.bool true)) := (Left.refl _ _).setCell (Or.inl (by simp)) _
      refine ⟨rfl, (HR3.out.head_ hL (HR3.out.head.put 9 (.bool true))), ?_⟩
      have := (HL3.out.mono (T := [R]) (by simp)).trans (T := [R]) hL (by simp)
      rwa [HW0.out] at this
  · cases Rr with
    | none =>
      have k9 : w3.cell? ⟨R, 9, none⟩ = some (.bool false) := by rw [HR3.out.head.cell]; rfl
      have f9 := HR3.out.head.free 9
      go_wp2
      ((try simp only [Exit.inBlock, Exit.then]); refine bodyPost_ret (results_tmp4 rfl _ _ _) rfl ?_)
      have hL : Left [R] w3 (w3.setCell ⟨R, 9, none⟩ (.bool true)) := (Left.refl _ _).setCell (Or.inl (by simp)) _
      refine ⟨rfl, (HR3.out.head_ hL (HR3.out.head.put 9 (.bool true))), ?_⟩
      have := (HL3.out.mono (T := [R]) (by simp)).trans (T := [R]) hL (by simp)
      rwa [HW0.out] at this
    | some l =>
      have hb := HP.out
      have hbf : bufsB l = false := by
        rcases hb with h | h | ⟨l', h1, h2⟩
        · exact absurd h hgt
        · cases h
        · injection h1 with h1; rw [h1]; exact h2
      have HBF := Lib.hid hbf
      clear hb hbf HP
      have HRd := Lib.hid (Rd.of_own HLV.out)
      simp only [Option.getD_some] at HRd
      have HC : Hid (Calls Try.prog 44 #[lv] w3 fun e w' => e = .returned (.bool false) ∧ Below w3.heap.size w3 w') := Lib.hid ((rBufs_any w3 lv l _ HRd.out (Nat.le_refl _)).mono fun e w' ⟨h1, h2⟩ => ⟨by rw [h1, HBF.out], h2⟩)
      go_wp2_with fail
      refine HC.out.mono ?_
      rintro e w4 ⟨rfl, hb4⟩
      have HR4 := Lib.hid (HR3.out.below hb4)
      have HL4 := Lib.hid (HL3.out.trans (T := []) (Left.of_below hb4 []) (by simp))
      clear k1 k5 hb4
      have k9 : w4.cell? ⟨R, 9, none⟩ = some (.bool false) := by rw [HR4.out.head.cell]; rfl
      have f9 := HR4.out.head.free 9
      go_wp2
      ((try simp only [Exit.inBlock, Exit.then]); refine bodyPost_ret (results_tmp4 rfl _ _ _) rfl ?_)
      have hL : Left [R] w4 (w4.setCell ⟨R, 9, none⟩ (.bool true)) := (Left.refl _ _).setCell (Or.inl (by simp)) _
      refine ⟨rfl, (HR4.out.head_ hL (HR4.out.head.put 9 (.bool true))), ?_⟩
      have := (HL4.out.mono (T := [R]) (by simp)).trans (T := [R]) hL (by simp)
      rwa [HW0.out] at this

set_option maxRecDepth 20000 in
set_option maxHeartbeats 2000000 in
theorem rPop_ok (w : World) (R bt bc bw m d q : Nat) (added last : Nat) (tk : List Bool) (ch : List (List Nat)) (ws : List Int) (F : List Nat) (B : List UInt8) (hd : Nat) (k : Int) (l : List Buf) (h : RefAt w R bt bc bw m q false added last tk ch ws F) (hM : MemAt 52 w m d B) (hB : B.length ≤ 65536) (hr : last ≤ 65535) (hq : 1 ≤ q ∧ q ≤ 64)
    (hk : aheadV B (16 * (q : Int) + 2) last = k) (hk0 : k ≠ 0) (hkq : k ≤ q) (hhd : popHead B q last = hd) (hp : walkV B q 17 hd [] = some l) (hbl : bufsB l = true) :
    Calls Try.prog 77 #[.pointer (some ⟨R, 0, none⟩)] w fun e w' => ∃ lv, e = .returned (.tuple #[.int .i64 hd, lv, .bool true, .int .i64 0]) ∧ w'.ownsRow w.heap.size 89 3 lv l.length (bufCells l) ∧ RefAt w' R bt bc bw m q false added ((last + 1) % 65536) tk ch ws F ∧ Left [R] w w' := by
  have HBF := Lib.hid hbl
  clear hbl
  obtain ⟨rr, hrr⟩ : ∃ rr : Nat, last % q = rr := ⟨_, rfl⟩
  have hrr2 : rr ≤ 63 := by have := Nat.mod_lt last hq.1; omega
  have htm : ((last : Int)).tmod (q : Int) = (rr : Int) := by rw [← hrr]; rfl
  have hq0 : ¬ q = 0 := by omega
  unfold popHead at hhd
  rw [hrr] at hhd
  have hx1 := getV_lt B (16 * (q : Int) + 4 + 2 * (rr : Int)) 2
  rw [hhd] at hx1
  have hd1 : hd ≤ 65535 := by have := hx1.2.2 (by omega); omega
  have HHD := Lib.hid hhd
  clear hhd hx1 hrr
  obtain ⟨w0, hw0⟩ : ∃ w0, w0 = w := ⟨_, rfl⟩
  have HLe : Hid (Left [] w0 w) := Lib.hid (hw0 ▸ Left.refl _ _)
  have HW0 := Lib.hid hw0
  have c1 : w.cell? ⟨R, 1, none⟩ = some (.int .i64 q) := by rw [h.head.cell]; rfl
  have c2 : w.cell? ⟨R, 2, none⟩ = some (.int .i64 (16 * (q : Int))) := by rw [h.head.cell]; rfl
  have c5 : w.cell? ⟨R, 5, none⟩ = some (.int .i64 last) := by rw [h.head.cell]; rfl
  have c9 : w.cell? ⟨R, 9, none⟩ = some (.bool false) := by rw [h.head.cell]; rfl
  have HM := Lib.hid hM
  have HR := Lib.hid h
  have hg := getV_lt B (16 * (q : Int) + 2) 2
  have hg1 := hg.1
  have hg2 := hg.2.2 (by omega)
  obtain ⟨gv, hgv⟩ : ∃ gv, getV B (16 * (q : Int) + 2) 2 = gv := ⟨_, rfl⟩
  rw [hgv] at hg1 hg2
  have hkb : 0 ≤ k ∧ k < 65536 := by rw [← hk]; unfold aheadV; omega
  obtain ⟨hkb1, hkb2⟩ := hkb
  have hah : Hid ((gv - last) % 65536 = k) := Lib.hid (by rw [← hk]; unfold aheadV; rw [hgv]; omega)
  have HGV := Lib.hid hgv
  have hwg : IntKind.i64.wrap (gv - last) = gv - last := IntWalk.i64_in _ ⟨by omega, by omega⟩
  have hwu : IntKind.i64.wrap (16 * (q : Int) + 2) = 16 * (q : Int) + 2 := IntWalk.i64_in _ ⟨by omega, by omega⟩
  clear h hM hk hg hgv hw0
  go_enter Try.func77, Try.ntmps77
  go_wp2_with fail
  go_quiet ((first | (go_at_call 91; exact Calls.quiet_of_same (rgetQ HR.out HM.out hB _ 2 gv (by omega) HGV.out _)) | (go_at_call 90; exact Calls.quiet_of_same (rMod_any _ (gv - last) (by omega) (by omega)))))
  clear hwg hwu
  replace c1 : (w.drewN nq).cell? ⟨R, 1, none⟩ = some (.int .i64 q) := c1
  replace c2 : (w.drewN nq).cell? ⟨R, 2, none⟩ = some (.int .i64 (16 * (q : Int))) := c2
  replace c5 : (w.drewN nq).cell? ⟨R, 5, none⟩ = some (.int .i64 last) := c5
  replace HM : Hid (MemAt 52 (w.drewN nq) m d B) := Lib.hid (HM.out.drewN nq)
  replace HR : Hid (RefAt (w.drewN nq) R bt bc bw m q false added last tk ch ws F) := Lib.hid (HR.out.drewN nq)
  replace HLe : Hid (Left [] w0 (w.drewN nq)) := Lib.hid (HLe.out.drewN nq)
  clear c9
  generalize w.drewN nq = w1 at c1 c2 c5 HM HR HLe ⊢
  have c9 : True := trivial
  rw [hah.out]
  have hk0' : (k == 0) = false := beq_eq_false_iff_ne.2 hk0
  have hw2 : IntKind.i64.wrap (2 * (rr : Int)) = 2 * (rr : Int) := IntWalk.i64_in _ ⟨by omega, by omega⟩
  have hw1 : IntKind.i64.wrap (16 * (q : Int) + 4) = 16 * (q : Int) + 4 := IntWalk.i64_in _ ⟨by omega, by omega⟩
  have hw3 : IntKind.i64.wrap (16 * (q : Int) + 4 + 2 * (rr : Int)) = 16 * (q : Int) + 4 + 2 * (rr : Int) := IntWalk.i64_in _ ⟨by omega, by omega⟩
  go_wp2_with fail
  go_quiet ((go_at_call 91; exact Calls.quiet_of_same (rgetQ HR.out HM.out hB _ 2 (hd : Nat) (by omega) HHD.out _)))
  clear hw1 hw2 hw3 htm
  replace c1 : (w1.drewN nq).cell? ⟨R, 1, none⟩ = some (.int .i64 q) := c1
  replace c2 : (w1.drewN nq).cell? ⟨R, 2, none⟩ = some (.int .i64 (16 * (q : Int))) := c2
  replace c5 : (w1.drewN nq).cell? ⟨R, 5, none⟩ = some (.int .i64 last) := c5
  replace HM : Hid (MemAt 52 (w1.drewN nq) m d B) := Lib.hid (HM.out.drewN nq)
  replace HR : Hid (RefAt (w1.drewN nq) R bt bc bw m q false added last tk ch ws F) := Lib.hid (HR.out.drewN nq)
  replace HLe : Hid (Left [] w0 (w1.drewN nq)) := Lib.hid (HLe.out.drewN nq)
  clear c9
  generalize w1.drewN nq = w2 at c1 c2 c5 HM HR HLe ⊢
  have c9 : True := trivial
  go_wp2_with fail
  refine (rwalk_any w2 R bt bc bw m d q false added last tk ch ws F B hd HR.out HM.out hB hq hd1).mono ?_
  rintro e w3 ⟨lv, rfl, hlv, hb3⟩
  obtain ⟨Rr, hRr⟩ : ∃ Rr, walkV B q 17 hd [] = Rr := ⟨_, rfl⟩
  rw [hRr] at hlv hp ⊢
  have HLV := Lib.hid hlv
  have HR3 := Lib.hid (HR.out.below hb3)
  have HL3 := Lib.hid ((HLe.out.trans (T := []) (Left.of_below hb3 []) (by simp)))
  have hsz3 := hb3.size
  have k1 : w3.cell? ⟨R, 1, none⟩ = some (.int .i64 q) := by rw [HR3.out.head.cell]; rfl
  have k5 : w3.cell? ⟨R, 5, none⟩ = some (.int .i64 last) := by rw [HR3.out.head.cell]; rfl
  have HP := Lib.hid hp
  clear c1 c2 c5 hlv hb3 hRr hp
  have hp := HP.out
  subst hp
  have hgt : ¬ (q : Int) < k := by omega
  clear HP
  have HRd := Lib.hid (Rd.of_own HLV.out)
  simp only [Option.getD_some] at HRd
  have HC : Hid (Calls Try.prog 44 #[lv] w3 fun e w' => e = .returned (.bool true) ∧ Below w3.heap.size w3 w') := Lib.hid ((rBufs_any w3 lv l _ HRd.out (Nat.le_refl _)).mono fun e w' ⟨h1, h2⟩ => ⟨by rw [h1, HBF.out], h2⟩)
  go_wp2_with fail
  refine HC.out.mono ?_
  rintro e w4 ⟨rfl, hb4⟩
  have HR4 := Lib.hid (HR3.out.below hb4)
  have HL4 := Lib.hid (HL3.out.trans (T := []) (Left.of_below hb4 []) (by simp))
  have HLV4 := Lib.hid (own_below HLV.out hb4)
  have j5 : w4.cell? ⟨R, 5, none⟩ = some (.int .i64 last) := by rw [HR4.out.head.cell]; rfl
  have f5 := HR4.out.head.free 5
  clear k1 k5 hb4
  go_wp2
  have hwt : ((last : Int) + 1) % 65536 = (((last + 1) % 65536 : Nat) : Int) := by omega
  rw [hwt]
  ((try simp only [Exit.inBlock, Exit.then]); refine bodyPost_ret (results_tmp4 rfl _ _ _) rfl ?_)
  have hL5 : Left [R] w4 (w4.setCell ⟨R, 5, none⟩ (.int .i64 ((last + 1) % 65536 : Nat))) := (Left.refl _ _).setCell (Or.inl (by simp)) _
  have hRl := HR.out.head.lt
  have hsz := HLe.out.size
  rw [HW0.out] at hsz
  refine ⟨lv, rfl, ?_, ?_, ?_⟩
  · exact own_base (own_left HLV4.out hL5 (by simp; omega)) hsz
  · exact HR4.out.head_ hL5 (HR4.out.head.put 5 (.int .i64 ((last + 1) % 65536 : Nat)))
  · have := (HL4.out.mono (T := [R]) (by simp)).trans (T := [R]) hL5 (by simp)
    rwa [HW0.out] at this
end Go.Proofs.Ytfffehbipcikoaa
