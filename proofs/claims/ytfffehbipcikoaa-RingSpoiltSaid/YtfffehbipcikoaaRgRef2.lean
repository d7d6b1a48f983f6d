/- The page's ring: get, Used. -/

import Derived.Test.YtfffehbipcikoaaRgRef1
namespace Go.Proofs.Ytfffehbipcikoaa
open Go.RowKit

set_option maxHeartbeats 400000 in
theorem rget_any (w : World) (R m d : Nat) (B : List UInt8) (p n : Int) (h0 : w.cell? ⟨R, 0, none⟩ = some (.pointer (some ⟨m, 0, none⟩))) (hM : MemAt 52 w m d B) (hB : B.length ≤ 65536) :
    Calls Try.prog 91 #[.pointer (some ⟨R, 0, none⟩), .int .i64 p, .int .i64 n] w fun e w' => e = .returned (.int .i64 (wrap64 (getV B p n))) ∧ w' = w := by
  have HM := Lib.hid hM
  clear hM
  go_enter Try.func91, Try.ntmps91
  go_wp2_with fail
  refine (rGet_any _ _ _ _ _ _ HM.out hB).mono ?_
  rintro e w' ⟨rfl, hw⟩
  subst hw
  go_wp2
  go_ret
  exact ⟨rfl, rfl⟩
theorem rget_small (w : World) (R m d : Nat) (B : List UInt8) (p n : Int) (h0 : w.cell? ⟨R, 0, none⟩ = some (.pointer (some ⟨m, 0, none⟩))) (hM : MemAt 52 w m d B) (hB : B.length ≤ 65536) (hn : n ≤ 4) :
    Calls Try.prog 91 #[.pointer (some ⟨R, 0, none⟩), .int .i64 p, .int .i64 n] w fun e w' => e = .returned (.int .i64 (getV B p n)) ∧ w' = w := by
  refine (rget_any w R m d B p n h0 hM hB).mono fun e w' ⟨he, hw⟩ => ⟨?_, hw⟩
  have h1 := getV_lt B p n
  have h2 := h1.2.1 hn
  rw [he, IntWalk.wrap64_in _ ⟨by omega, by omega⟩]
theorem rMod_any (w : World) (p : Int) (h1 : -65536 < p) (h2 : p < 65536) :
    Calls Try.prog 90 #[.int .i64 p, .int .i64 65536] w fun e w' => e = .returned (.int .i64 (p % 65536)) ∧ w' = w := by
  by_cases h0 : 0 ≤ p
  · have ht : p.tmod 65536 = p := by rw [Int.tmod_eq_emod_of_nonneg h0]; omega
    have hp : Hid (p % 65536 = p) := Lib.hid (by omega)
    go_enter Try.func90, Try.ntmps90
    go_wp2
    go_ret
    exact ⟨by rw [hp.out]; rfl, rfl⟩
  · have ht : p.tmod 65536 = p := by
      obtain ⟨k, rfl⟩ : ∃ k : Int, p = -k := ⟨-p, by omega⟩
      rw [Int.neg_tmod, Int.tmod_eq_emod_of_nonneg (by omega)]
      omega
    have hp : Hid (p % 65536 = p + 65536) := Lib.hid (by omega)
    have h0' : p < 0 := by omega
    go_enter Try.func90, Try.ntmps90
    go_wp2
    go_ret
    exact ⟨by rw [hp.out]; rfl, rfl⟩
set_option maxHeartbeats 1000000 in
theorem rUsed_broken (w : World) (R bt bc bw m q : Nat) (added last : Nat) (tk : List Bool) (ch : List (List Nat)) (wr : List Int) (F : List Nat) (h : RefAt w R bt bc bw m q true added last tk ch wr F) :
    Calls Try.prog 76 #[.pointer (some ⟨R, 0, none⟩)] w fun e w' => e = .returned (.tuple #[.int .i64 0, .int .i64 0, .bool false, .int .i64 6]) ∧ w' = w := by
  have c9 : w.cell? ⟨R, 9, none⟩ = some (.bool true) := by rw [h.head.cell]; rfl
  clear h
  go_enter Try.func76, Try.ntmps76
  go_wp2
  ((try simp only [Exit.inBlock, Exit.then]); refine bodyPost_ret (results_tmp4 rfl _ _ _) rfl ?_)
  exact ⟨rfl, rfl⟩
set_option maxHeartbeats 1000000 in
theorem rUsed_none (w : World) (R bt bc bw m d q : Nat) (added last : Nat) (tk : List Bool) (ch : List (List Nat)) (wr : List Int) (F : List Nat) (B : List UInt8) (h : RefAt w R bt bc bw m q false added last tk ch wr F) (hM : MemAt 52 w m d B) (hB : B.length ≤ 65536) (hr : last ≤ 65535) (hq : 1 ≤ q ∧ q ≤ 64) (ha : aheadV B (usedAt q + 2) last = 0) :
    Calls Try.prog 76 #[.pointer (some ⟨R, 0, none⟩)] w fun e w' => e = .returned (.tuple #[.int .i64 0, .int .i64 0, .bool false, .int .i64 0]) ∧ Left [] w w' := by
  obtain ⟨u, hu⟩ : ∃ u, usedAt (q : Nat) = u := ⟨_, rfl⟩
  have hu1 : 0 ≤ u ∧ u ≤ 2000 := by rw [← hu]; unfold usedAt; omega
  rw [hu] at ha
  have c0 : w.cell? ⟨R, 0, none⟩ = some (.pointer (some ⟨m, 0, none⟩)) := by rw [h.head.cell]; rfl
  have c3 : w.cell? ⟨R, 3, none⟩ = some (.int .i64 u) := by rw [h.head.cell, ← hu]; rfl
  have c5 : w.cell? ⟨R, 5, none⟩ = some (.int .i64 last) := by rw [h.head.cell]; rfl
  have c9 : w.cell? ⟨R, 9, none⟩ = some (.bool false) := by rw [h.head.cell]; rfl
  have HM := Lib.hid hM
  have hg := getV_lt B (u + 2) 2
  have hg1 := hg.1
  have hg2 := hg.2.2 (by omega)
  obtain ⟨gv, hgv⟩ : ∃ gv, getV B (u + 2) 2 = gv := ⟨_, rfl⟩
  have HGV := Lib.hid hgv
  have HG2 : Hid (∀ n, Calls Try.prog 91 #[.pointer (some ⟨R, 0, none⟩), .int .i64 (u + 2), .int .i64 2] (w.drewN n) fun e w' => e = .returned (.int .i64 gv) ∧ w' = w.drewN n) := Lib.hid (fun n => by
    have := rget_small (w.drewN n) R m d B (u + 2) 2 c0 (HM.out.drewN n) hB (by omega)
    rw [hgv] at this
    exact this)
  rw [hgv] at hg1 hg2
  have hah : Hid ((gv - last) % 65536 = 0) := Lib.hid (by unfold aheadV at ha; rw [hgv] at ha; omega)
  have hwg : IntKind.i64.wrap (gv - last) = gv - last := IntWalk.i64_in _ ⟨by omega, by omega⟩
  have hwu : IntKind.i64.wrap (u + 2) = u + 2 := IntWalk.i64_in _ ⟨by omega, by omega⟩
  clear h hM hu ha hg hgv
  go_enter Try.func76, Try.ntmps76
  go_wp2_with fail
  go_quiet ((first | (go_at_call 91; exact Calls.quiet_of_same (HG2.out _)) | (go_at_call 90; exact Calls.quiet_of_same (rMod_any _ (gv - last) (by omega) (by omega)))))
  rw [hah.out]
  go_wp2
  ((try simp only [Exit.inBlock, Exit.then]); refine bodyPost_ret (results_tmp4 rfl _ _ _) rfl ?_)
  exact ⟨rfl, (Left.refl _ _).drewN _⟩
end Go.Proofs.Ytfffehbipcikoaa
