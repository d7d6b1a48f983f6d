/- The law's act, where something is asked back: Used. -/



import Derived.Test.YtfffehbipcikoaaRgSteps2
import Derived.Test.YtfffehbipcikoaaRgArg
namespace Go.Proofs.Ytfffehbipcikoaa
open Go.RowKit Go.MapKept

def actV (dk n at_ : Int) (lv : Value) (v : Nat) : Value := .agg #[.int .i64 dk, .int .i64 n, .int .i64 at_, lv, .int .u64 v]
def DoesH (base : Nat) (s : Nat → Nat) (q : Nat) (hs : List Nat) (w : World) (e : Ending) (w' : World) : Prop :=
  e = .returned (.bool true) ∧ (∃ hv' hs', JX w' base s q hv' hs' ∧ hs'.length ≤ hs.length + 1) ∧ Below base w w'
theorem JX.base_le {w : World} {base q : Nat} {s : Nat → Nat} {hv : Value} {hs : List Nat} (h : JX w base s q hv hs) : base ≤ w.heap.size := by
  obtain ⟨p, r, hJ, _⟩ := h
  have := hJ.old 0 (by omega)
  omega
theorem JX.belowP {w w' : World} {base q : Nat} {s : Nat → Nat} {hv : Value} {hs : List Nat} (h : JX w base s q hv hs) (hl : Left (PL s) w w') : Below base w w' := by
  obtain ⟨p, r, hJ, _⟩ := h
  exact hl.belowB (by have := hJ.old 0 (by omega); omega) (fun k hk => by obtain ⟨j, _, h2, rfl⟩ := PL_mem hk; exact (hJ.old j (by omega)).1)
theorem JX.belowQ {w w0 w' : World} {base q : Nat} {s : Nat → Nat} {hv : Value} {hs : List Nat} (h : JX w base s q hv hs) (hz : base ≤ w0.heap.size) (hl : Left (QL s) w0 w') : Below base w0 w' := by
  obtain ⟨p, r, hJ, _⟩ := h
  exact hl.belowB hz (fun k hk => by obtain ⟨j, _, h2, rfl⟩ := QL_mem hk; exact (hJ.old j (by omega)).1)
theorem JX.hal {w : World} {base q : Nat} {s : Nat → Nat} {hv : Value} {hs : List Nat} (h : JX w base s q hv hs) : Whole w (s 0) 138 (halCells s hv) ∧ s 0 < w.heap.size ∧ base ≤ s 0 ∧ s 0 ∉ PL s ∧ s 0 ∉ QL s := by
  obtain ⟨p, r, hJ, _⟩ := h
  refine ⟨hJ.hal, (hJ.old 0 (by omega)).2, (hJ.old 0 (by omega)).1, fun hm => ?_, fun hm => ?_⟩
  · obtain ⟨j, h1, h2, e⟩ := PL_mem hm
    have := (hJ.inj 0 j (by omega) (by omega)).1 e
    omega
  · obtain ⟨j, h1, h2, e⟩ := QL_mem hm
    have := (hJ.inj 0 j (by omega) (by omega)).1 e
    omega

set_option maxRecDepth 20000 in
set_option maxHeartbeats 2000000 in
theorem does_used (w : World) (base : Nat) (s : Nat → Nat) (q : Nat) (hv : Value) (hs : List Nat) (dk n at_ : Int) (lv : Value) (v : Nat) (h : JX w base s q hv hs) (kind : Int) (hk : kind = 3 ∨ kind = 4 ∨ kind = 5) :
    Calls Try.prog 48 #[.pointer (some ⟨s 0, 0, none⟩), actV dk n at_ lv v, .int .i64 kind] w (DoesH base s q hs w) := by
  unfold actV
  have hb0 := h.base_le
  have hb1 : Below base w (w.alloc (.cells #[.int .i64 dk, .int .i64 n, .int .i64 at_, lv, .int .u64 v] 77)) := (Below.refl _ _).alloc hb0 _
  have hJ1 : JX (w.alloc (.cells #[.int .i64 dk, .int .i64 n, .int .i64 at_, lv, .int .u64 v] 77)) base s q hv hs := h.left0 ((Left.refl _ _).alloc _)
  obtain ⟨hW, hlt, _, hnp, hnq⟩ := h.hal
  have c0 : w.cell? ⟨s 0, 0, none⟩ = some (.pointer (some ⟨s 6, 0, none⟩)) := by rw [hW.cell]; rfl
  have c1 : w.cell? ⟨s 0, 1, none⟩ = some (.pointer (some ⟨s 1, 0, none⟩)) := by rw [hW.cell]; rfl
  have c2 : w.cell? ⟨s 0, 2, none⟩ = some (.pointer (some ⟨s 5, 0, none⟩)) := by rw [hW.cell]; rfl
  have c3 : w.cell? ⟨s 0, 3, none⟩ = some (.pointer (some ⟨s 8, 0, none⟩)) := by rw [hW.cell]; rfl
  have c4 : w.cell? ⟨s 0, 4, none⟩ = some (.pointer (some ⟨s 10, 0, none⟩)) := by rw [hW.cell]; rfl
  have c5 : w.cell? ⟨s 0, 5, none⟩ = some (.pointer (some ⟨s 14, 0, none⟩)) := by rw [hW.cell]; rfl
  have c6 : w.cell? ⟨s 0, 6, none⟩ = some hv := by rw [hW.cell]; rfl
  obtain ⟨x, nn, ok, er, M, hc1, hc2⟩ := hJ1.used
  have HJ1 := Lib.hid hJ1
  have HB1 := Lib.hid hb1
  have HC1 := Lib.hid hc1
  have HC2 := Lib.hid hc2
  have HW := Lib.hid hW
  have HNP := Lib.hid hnp
  clear h hb1 hJ1 hW hc1 hc2
  rcases hk with rfl | rfl | rfl
  · go_enter Try.func48, Try.ntmps48
    go_wp2_with fail
    refine HC1.out.mono ?_
    rintro e w1 ⟨rfl, hM, hl1⟩
    have d4 : w1.cell? ⟨s 0, 4, none⟩ = some (.pointer (some ⟨s 10, 0, none⟩)) := by rw [((HW.out.alloc _).left hl1 HNP.out).cell]; rfl
    have HM := Lib.hid hM
    have HB2 := Lib.hid (HB1.out.trans (HJ1.out.belowP hl1))
    have hz1 := hl1.size
    simp only [World.size_alloc] at hz1
    clear hM hl1 c0 c1 c2 c3 c4 c5 c6
    go_wp2_with fail
    refine (HC2.out w1 HM.out).mono ?_
    rintro e w2 ⟨rfl, hJ2, hl2⟩
    have HJ2 := Lib.hid hJ2
    have HB3 := Lib.hid (HB2.out.trans (HJ1.out.belowQ (by omega) hl2))
    have hW2 := hJ2.hal.1
    have e1 : w2.cell? ⟨s 0, 1, none⟩ = some (.pointer (some ⟨s 1, 0, none⟩)) := by rw [hW2.cell]; rfl
    have e4 : w2.cell? ⟨s 0, 4, none⟩ = some (.pointer (some ⟨s 10, 0, none⟩)) := by rw [hW2.cell]; rfl
    clear hJ2 hl2 hW2 d4
    cases ok
    · go_wp2_with (go_at_call 16; refine (num2_any _ _).mono ?_; rintro e w' ⟨rfl, rfl⟩)
      obtain ⟨fn, hf1, hf2⟩ := HJ2.out.free
      have HF1 := Lib.hid hf1
      have HF2 := Lib.hid hf2
      clear hf1 hf2
      go_wp2_with fail
      go_quiet ((first | (go_at_call 39; exact Calls.quiet_of_same (HF1.out _)) | (go_at_call 81; exact Calls.quiet_of_same (HF2.out _))))
      go_wp2
      go_ret
      exact ⟨rfl, ⟨_, _, HJ2.out.left0 ((Left.refl _ _).drewN _), by first | (simp; done) | (simp; omega)⟩, below_drewN HB3.out _⟩
    · go_wp2_with (go_at_call 16; refine (num2_any _ _).mono ?_; rintro e w' ⟨rfl, rfl⟩)
      obtain ⟨fn, hf1, hf2⟩ := HJ2.out.free
      have HF1 := Lib.hid hf1
      have HF2 := Lib.hid hf2
      clear hf1 hf2
      go_wp2_with fail
      go_quiet ((first | (go_at_call 39; exact Calls.quiet_of_same (HF1.out _)) | (go_at_call 81; exact Calls.quiet_of_same (HF2.out _))))
      go_wp2
      go_ret
      exact ⟨rfl, ⟨_, _, HJ2.out.left0 ((Left.refl _ _).drewN _), by first | (simp; done) | (simp; omega)⟩, below_drewN HB3.out _⟩
  · go_enter Try.func48, Try.ntmps48
    go_wp2_with fail
    refine HC1.out.mono ?_
    rintro e w1 ⟨rfl, hM, hl1⟩
    have d4 : w1.cell? ⟨s 0, 4, none⟩ = some (.pointer (some ⟨s 10, 0, none⟩)) := by rw [((HW.out.alloc _).left hl1 HNP.out).cell]; rfl
    have HM := Lib.hid hM
    have HB2 := Lib.hid (HB1.out.trans (HJ1.out.belowP hl1))
    have hz1 := hl1.size
    simp only [World.size_alloc] at hz1
    clear hM hl1 c0 c1 c2 c3 c4 c5 c6
    go_wp2_with fail
    refine (HC2.out w1 HM.out).mono ?_
    rintro e w2 ⟨rfl, hJ2, hl2⟩
    have HJ2 := Lib.hid hJ2
    have HB3 := Lib.hid (HB2.out.trans (HJ1.out.belowQ (by omega) hl2))
    have hW2 := hJ2.hal.1
    have e1 : w2.cell? ⟨s 0, 1, none⟩ = some (.pointer (some ⟨s 1, 0, none⟩)) := by rw [hW2.cell]; rfl
    have e4 : w2.cell? ⟨s 0, 4, none⟩ = some (.pointer (some ⟨s 10, 0, none⟩)) := by rw [hW2.cell]; rfl
    clear hJ2 hl2 hW2 d4
    cases ok
    · go_wp2_with (go_at_call 16; refine (num2_any _ _).mono ?_; rintro e w' ⟨rfl, rfl⟩)
      obtain ⟨fn, hf1, hf2⟩ := HJ2.out.free
      have HF1 := Lib.hid hf1
      have HF2 := Lib.hid hf2
      clear hf1 hf2
      go_wp2_with fail
      go_quiet ((first | (go_at_call 39; exact Calls.quiet_of_same (HF1.out _)) | (go_at_call 81; exact Calls.quiet_of_same (HF2.out _))))
      go_wp2
      go_ret
      exact ⟨rfl, ⟨_, _, HJ2.out.left0 ((Left.refl _ _).drewN _), by first | (simp; done) | (simp; omega)⟩, below_drewN HB3.out _⟩
    · go_wp2_with (go_at_call 16; refine (num2_any _ _).mono ?_; rintro e w' ⟨rfl, rfl⟩)
      obtain ⟨fn, hf1, hf2⟩ := HJ2.out.free
      have HF1 := Lib.hid hf1
      have HF2 := Lib.hid hf2
      clear hf1 hf2
      go_wp2_with fail
      go_quiet ((first | (go_at_call 39; exact Calls.quiet_of_same (HF1.out _)) | (go_at_call 81; exact Calls.quiet_of_same (HF2.out _))))
      go_wp2
      go_ret
      exact ⟨rfl, ⟨_, _, HJ2.out.left0 ((Left.refl _ _).drewN _), by first | (simp; done) | (simp; omega)⟩, below_drewN HB3.out _⟩
  · go_enter Try.func48, Try.ntmps48
    go_wp2_with fail
    refine HC1.out.mono ?_
    rintro e w1 ⟨rfl, hM, hl1⟩
    have d4 : w1.cell? ⟨s 0, 4, none⟩ = some (.pointer (some ⟨s 10, 0, none⟩)) := by rw [((HW.out.alloc _).left hl1 HNP.out).cell]; rfl
    have HM := Lib.hid hM
    have HB2 := Lib.hid (HB1.out.trans (HJ1.out.belowP hl1))
    have hz1 := hl1.size
    simp only [World.size_alloc] at hz1
    clear hM hl1 c0 c1 c2 c3 c4 c5 c6
    go_wp2_with fail
    refine (HC2.out w1 HM.out).mono ?_
    rintro e w2 ⟨rfl, hJ2, hl2⟩
    have HJ2 := Lib.hid hJ2
    have HB3 := Lib.hid (HB2.out.trans (HJ1.out.belowQ (by omega) hl2))
    have hW2 := hJ2.hal.1
    have e1 : w2.cell? ⟨s 0, 1, none⟩ = some (.pointer (some ⟨s 1, 0, none⟩)) := by rw [hW2.cell]; rfl
    have e4 : w2.cell? ⟨s 0, 4, none⟩ = some (.pointer (some ⟨s 10, 0, none⟩)) := by rw [hW2.cell]; rfl
    clear hJ2 hl2 hW2 d4
    cases ok
    · go_wp2_with (go_at_call 16; refine (num2_any _ _).mono ?_; rintro e w' ⟨rfl, rfl⟩)
      obtain ⟨fn, hf1, hf2⟩ := HJ2.out.free
      have HF1 := Lib.hid hf1
      have HF2 := Lib.hid hf2
      clear hf1 hf2
      go_wp2_with fail
      go_quiet ((first | (go_at_call 39; exact Calls.quiet_of_same (HF1.out _)) | (go_at_call 81; exact Calls.quiet_of_same (HF2.out _))))
      go_wp2
      go_ret
      exact ⟨rfl, ⟨_, _, HJ2.out.left0 ((Left.refl _ _).drewN _), by first | (simp; done) | (simp; omega)⟩, below_drewN HB3.out _⟩
    · go_wp2_with (go_at_call 16; refine (num2_any _ _).mono ?_; rintro e w' ⟨rfl, rfl⟩)
      obtain ⟨fn, hf1, hf2⟩ := HJ2.out.free
      have HF1 := Lib.hid hf1
      have HF2 := Lib.hid hf2
      clear hf1 hf2
      go_wp2_with fail
      go_quiet ((first | (go_at_call 39; exact Calls.quiet_of_same (HF1.out _)) | (go_at_call 81; exact Calls.quiet_of_same (HF2.out _))))
      go_wp2
      go_ret
      exact ⟨rfl, ⟨_, _, HJ2.out.left0 ((Left.refl _ _).drewN _), by first | (simp; done) | (simp; omega)⟩, below_drewN HB3.out _⟩
end Go.Proofs.Ytfffehbipcikoaa
