/- OutboxOnce: wakes, num. -/



import Derived.Test.YtndidkaoigjbiaaObLawP
namespace Go.Proofs.Ytndidkaoigjbiaa
open Go.RowKit
theorem num_any (e : Int) (w : World) : Calls Try.prog 7 #[.int .i64 e] w fun r w' => r = .returned (.int .i64 e) ∧ w' = w := by
  go_enter Try.func7, Try.ntmps7
  go_wp2
  go_ret
  exact ⟨rfl, rfl⟩
theorem pk_cells {w : World} {b o : Nat} {k : Pk} (h : w.rangeAt b o (eP.c k)) : w.cell? ⟨b, o, none⟩ = some (.int .i64 k.kind) ∧ w.cell? ⟨b, o + 16, none⟩ = some (.bool k.dup) ∧ w.cell? ⟨b, o + 17, none⟩ = some (.int .i64 k.q) ∧ w.cell? ⟨b, o + 18, none⟩ = some (.bool k.r) ∧ w.cell? ⟨b, o + 19, none⟩ = some (.string k.t) ∧ w.cell? ⟨b, o + 20, none⟩ = some (.int .i64 k.id) ∧ w.cell? ⟨b, o + 21, none⟩ = some (.string k.p) :=
  ⟨h 0 _ rfl, h 16 _ rfl, h 17 _ rfl, h 18 _ rfl, h 19 _ rfl, h 20 _ rfl, h 21 _ rfl⟩
def m0 : Msg := ⟨⟨#[97]⟩, ⟨#[]⟩, 1, false⟩
theorem OR.nil (w : World) : OR w (.agg #[.int .i64 0, .slice none 0 0, .slice none 0 0]) ⟨0, [], []⟩ :=
  ⟨_, _, rfl, Rd.of_own (World.ownsRow_nil w w.heap.size 61 6), Rd.of_own (World.ownsRow_nil w w.heap.size 34 4)⟩
set_option maxRecDepth 20000 in
set_option maxHeartbeats 4000000 in
theorem wakes_any (w : World) : Calls Try.prog 13 #[] w fun e w' => e = .returned (.bool true) ∧ Below w.heap.size w w' := by
  have hOf := Offer_up w _ ⟨0, [], []⟩ m0 (OR.nil w) (by refine ⟨by simp, by simp, by simp, by simp, by simp, by simp [ids], by simp⟩) rfl (by simp)
  have hR : fillO 0 [] ([] ++ [m0]) = (⟨1, [⟨1, m0, false⟩], []⟩, [⟨1, m0, false⟩]) := by simp [fillO, nid, nx, ids]
  simp only [hR] at hOf
  have HOF := Lib.hid hOf
  clear hOf hR
  go_enter Try.func13, Try.ntmps13
  go_wp2_with fail
  refine HOF.out.mono ?_
  rintro e w1 ⟨v1, lv, rfl, hO1, hL1, hb1⟩
  have hO1' := hO1
  obtain ⟨fv, qv, rfl, hF1, hQ1⟩ := hO1'
  obtain ⟨lo, lc, rfl, hlc, _⟩ := (Rd.of_own hL1).form
  obtain ⟨fo, fc, rfl, _, _⟩ := (Rd.of_own hF1).form
  obtain ⟨qo, qc, rfl, _, _⟩ := (Rd.of_own hQ1).form
  simp only [List.length_cons, List.length_nil, Nat.zero_add] at hL1 hlc hO1 hF1 hQ1 ⊢
  obtain ⟨w2, hw2⟩ : ∃ w2, w2 = w1.alloc (.cells #[.int .i64 1, .slice fo 1 fc, .slice qo 0 qc] 25) := ⟨_, rfl⟩
  have hb2 : Below w1.heap.size w1 w2 := by rw [hw2]; go_grown
  have hA2 : Whole w2 w1.heap.size 25 [.int .i64 1, .slice fo 1 fc, .slice qo 0 qc] := by rw [hw2]; exact Whole.new w1 25 _
  have hok : okO ⟨1, [⟨1, m0, false⟩], []⟩ := by
    refine ⟨by simp, by simp, by simp, by simp, ?_, by simp [ids], by simp⟩
    intro f hf
    simp only [List.mem_singleton] at hf
    subst hf
    rfl
  have hAck := Ack_ok w2 _ _ (hO1.rd.below hb2) hok 0 ⟨1, m0, false⟩ rfl rfl
  have hg : goneO ⟨1, [⟨1, m0, false⟩], []⟩ 0 = (⟨1, [], []⟩, []) := by simp [goneO, fillO]
  simp only [hg] at hAck
  have HACK := Lib.hid hAck
  have HL2 := Lib.hid (own_below hL1 hb2)
  have HW2 := Lib.hid hw2
  have HB2 := Lib.hid (b_tr hb1 hb2)
  obtain ⟨a0, a1, a2, a3, a4, a5⟩ := hA2.three
  have hA2' := Lib.hid hA2
  clear hO1 hF1 hQ1 hL1 hb1 hw2 hb2 hA2 hok hAck hg
  go_upto_region 2 with fail
  rw [← HW2.out]
  go_wp2_with fail
  refine HACK.out.mono ?_
  rintro e w3 ⟨v3, lv3, rfl, hO3, hL3, hb3⟩
  obtain ⟨fv3, qv3, rfl, hF3, hQ3⟩ := hO3
  obtain ⟨lo3, lc3, rfl, _, _⟩ := (Rd.of_own hL3).form
  obtain ⟨fo3, fc3, rfl, _, _⟩ := (Rd.of_own hF3).form
  obtain ⟨qo3, qc3, rfl, _, _⟩ := (Rd.of_own hQ3).form
  simp only [List.length_nil] at hL3 ⊢
  obtain ⟨w4, hw4⟩ : ∃ w4, w4 = w3.alloc (.cells #[.int .i64 1, .slice fo3 0 fc3, .slice qo3 0 qc3] 25) := ⟨_, rfl⟩
  have hb4 : Below w3.heap.size w3 w4 := by rw [hw4]; go_grown
  have hA4 : Whole w4 w3.heap.size 25 [.int .i64 1, .slice fo3 0 fc3, .slice qo3 0 qc3] := by rw [hw4]; exact Whole.new w3 25 _
  have hL4 := own_below (own_below HL2.out hb3) hb4
  obtain ⟨b, o, rfl, _, hcs⟩ := Enc.rd_cell (E := eP) (L := [pub ⟨1, m0, false⟩ false]) (i := 0) (Rd.of_own hL4) rfl rfl
  obtain ⟨k0, k1, k2, k3, k4, k5, k6⟩ := pk_cells (show w4.rangeAt b (o + 0 * 24) (eP.c _) from hcs)
  simp only [Nat.zero_mul, Nat.add_zero] at k5
  have k7 : w4.cell? ⟨b, o + 20, none⟩ = some (.int .i64 1) := k5
  obtain ⟨d0, d1, d2, d3, d4, d5⟩ := hA4.three
  have HB4 := Lib.hid (b_tr (b_tr HB2.out hb3) hb4)
  have HW4 := Lib.hid hw4
  clear hF3 hQ3 hL3 hb3 hw4 hb4 hA4 hL4 hcs k0 k1 k2 k3 k4 k5 k6 a0 a1 a2 a3 a4 a5
  go_upto_region 3 with fail
  rw [← HW4.out]
  go_wp2_with (go_at_call 7; refine (num_any _ _).mono ?_; rintro e w' ⟨rfl, rfl⟩)
  go_ret
  exact ⟨rfl, HB4.out⟩
end Go.Proofs.Ytndidkaoigjbiaa
