/- The arguments of layer 20's laws: lists of pairs of texts; heavy, num, wakes. -/

import Derived.Test.YtimjbojoeacaeaaDoorTpRef
import Derived.Test.YtimjbojoeacaeaaDoorArgs
namespace Go.Proofs.YtimjbojoeacaeaaDoor
open Go.ChangeShapes Go.WideShapes Go.Deep Go.RowKit Go.Shelf Go.Proofs

/-- A filter (or not), a name (or not). -/
abbrev Ask1 := ByteArray × ByteArray
/-- The list of asks lies behind the slice value lv. -/
def AsksAt (w : World) (Bd : Nat) (lv : Value) (A : List Ask1) : Prop :=
  ∃ ao cap, lv = .slice ao A.length cap ∧ A.length ≤ cap ∧ cap ≤ 9223372036854775807 ∧
    ∀ i a, A[i]? = some a → ∃ b o, ao = some ⟨b, o, none⟩ ∧ b < Bd ∧ w.cell? ⟨b, o + i * 2, none⟩ = some (.string a.1) ∧ w.cell? ⟨b, o + i * 2 + 1, none⟩ = some (.string a.2) ∧ a.1.size ≤ 9223372036854775807 ∧ a.2.size ≤ 9223372036854775807
theorem AsksAt.below {w w' : World} {Bd : Nat} {lv : Value} {A : List Ask1} (h : AsksAt w Bd lv A) (hb : Below Bd w w') : AsksAt w' Bd lv A := by
  obtain ⟨ao, cap, h1, h2, h3, h4⟩ := h
  exact ⟨ao, cap, h1, h2, h3, fun i a ha => by
    obtain ⟨b, o, e, hlt, c1, c2, s1, s2⟩ := h4 i a ha
    exact ⟨b, o, e, hlt, (hb.cell (p := ⟨b, _, none⟩) hlt).trans c1, (hb.cell (p := ⟨b, _, none⟩) hlt).trans c2, s1, s2⟩⟩

theorem cellsAsk : Tryd.prog.cellsOf 25 = 2 := by kernel_rfl

set_option maxRecDepth 100000 in
theorem open_asks {H : Type} {enc : TypeId × Value → H} {W : World} {base : Nat} {v : Value} {d : DataW H} {p : List MemPlace} (hv : Value.okWide Tryd.prog W .any base 22 v)
    (h0 : DataW.Trod enc Tryd.prog W 0 (fun _ => true) true 22 v d p) : ∃ A : List Ask1, AsksAt W W.heap.size v A := by
  obtain ⟨ax, lx, cx, rfl⟩ := okWide_slice Tryd.underlying22 hv
  obtain ⟨fuel, hf⟩ := h0
  rcases open_rows Tryd.underlying22 Tryd.underlying25 (by kernel_rfl) cellsAsk (by decide) hf with h | ⟨a, len, cap, hcs, hl, hm, hrow⟩
  · simp [Value.cells] at h
    obtain ⟨rfl, rfl, rfl⟩ := h
    exact ⟨[], none, 0, rfl, by simp, by omega, fun i a ha => by simp at ha⟩
  · simp [Value.cells] at hcs
    obtain ⟨rfl, rfl, rfl⟩ := hcs
    have hex : ∀ i, i < lx → ∃ q : Ask1, a.spot = none ∧ a.block < W.heap.size ∧ W.cell? ⟨a.block, a.off + i * 2, none⟩ = some (.string q.1) ∧ W.cell? ⟨a.block, a.off + i * 2 + 1, none⟩ = some (.string q.2) ∧ q.1.size ≤ 9223372036854775807 ∧ q.2.size ≤ 9223372036854775807 := by
      intro i hi
      obtain ⟨hs, vs, m, hvl, hcell, hf⟩ := hrow i hi
      obtain ⟨x0, z0, g0, r0⟩ := hf 0 _ rfl
      obtain ⟨x1, z1, g1, r1⟩ := hf 1 _ rfl
      obtain ⟨q0, e0, _, w0⟩ := DataW.trod_string Tryd.underlying9 r0
      obtain ⟨q1, e1, _, w1⟩ := DataW.trod_string Tryd.underlying9 r1
      injection e0 with e0
      injection e1 with e1
      subst e0 e1
      have c0 := (hcell 0 (by decide)).trans g0
      have c1 := (hcell 1 (by decide)).trans g1
      have hlt := World.block_lt_of_cell? W _ c0
      exact ⟨(q0, q1), hs, hlt, c0, c1, w0, w1⟩
    obtain ⟨A, hal, hA⟩ := list_of_all lx hex
    refine ⟨A, some a, cx, by rw [hal], by omega, by unfold maxLen at hm; omega, fun i q hq => ?_⟩
    obtain ⟨hs, h1, h2, h3, h4, h5⟩ := hA i q hq
    obtain ⟨b, o, s⟩ := a
    simp only at hs
    subst hs
    exact ⟨b, o, rfl, h1, h2, h3, h4, h5⟩

def heavyB (a : Ask1) : Bool := decide (1000 < a.1.size) || decide (1000 < a.2.size)

set_option maxHeartbeats 400000 in
theorem heavy_any (w : World) (a : Ask1) (h1 : a.1.size ≤ 9223372036854775807) (h2 : a.2.size ≤ 9223372036854775807) :
    Calls Tryd.prog 11 #[.agg #[.string a.1, .string a.2]] w fun e w' => e = .returned (.bool (heavyB a)) ∧ Below w.heap.size w w' := by
  obtain ⟨f, t⟩ := a
  by_cases h : 1000 < f.size
  · have HT : Hid (heavyB (f, t) = true) := Lib.hid (by simp [heavyB, h])
    go_enter Tryd.func11, Tryd.ntmps11
    go_wp2
    go_ret
    exact ⟨by rw [HT.out]; rfl, (Below.refl _ _).alloc (Nat.le_refl _) _⟩
  · have HT : Hid (heavyB (f, t) = decide (1000 < t.size)) := Lib.hid (by simp [heavyB, h])
    have hz : ¬ (1000 : Int) < (f.size : Int) := by omega
    have hz2 : decide ((1000 : Int) < (t.size : Int)) = decide (1000 < t.size) := by rw [Bool.eq_iff_iff]; simp; omega
    go_enter Tryd.func11, Tryd.ntmps11
    go_wp2
    go_ret
    exact ⟨by rw [HT.out]; first | rfl | (rw [← hz2]; rfl), (Below.refl _ _).alloc (Nat.le_refl _) _⟩

theorem num_any (n : Int) (w : World) : Calls Tryd.prog 16 #[.int .i64 n] w fun e w' => e = .returned (.int .i64 n) ∧ w = w' := by
  go_enter Tryd.func16, Tryd.ntmps16
  go_wp2
  go_ret
  exact ⟨rfl, rfl⟩

theorem wake_res : mRes ⟨#[43, 47, 98]⟩ ⟨#[97, 47, 98]⟩ = .tuple #[.bool true, .int .i64 0] := by
  have h1 : ft ⟨#[43, 47, 98]⟩ = true := by decide +kernel
  have h2 : nm ⟨#[97, 47, 98]⟩ = true := by decide +kernel
  have h3 : fitB ⟨#[43, 47, 98]⟩ ⟨#[97, 47, 98]⟩ = true := by decide +kernel
  rw [mRes, h1, h2, h3]; rfl

set_option maxHeartbeats 400000 in
theorem wakes_any (w : World) (hE : Env w) : Calls Tryd.prog 17 #[] w fun e w' => e = .returned (.bool true) ∧ Below w.heap.size w w' := by
  go_enter Tryd.func17, Tryd.ntmps17
  go_wp2_with (first | (go_at_call 16; refine (num_any _ _).mono ?_; rintro e w' ⟨rfl, rfl⟩) | (go_at_call 15; refine (pMatch_any _ _ _ (by decide) (by decide) hE).mono ?_; rintro e w' ⟨rfl, hb⟩; rw [wake_res]))
  go_ret
  exact ⟨rfl, hb⟩
end Go.Proofs.YtimjbojoeacaeaaDoor
