/- Layer 4: wakes, num. -/

import Derived.Test.YtbhoiibcfibmhaaDlArg
import Derived.Test.YtbhoiibcfibmhaaDlStep
namespace Go.Proofs.Ytbhoiibcfibmhaa
open Go.RowKit Go.MapKept
theorem num4_any (n : Int) (w : World) : Calls Try.prog 7 #[.int .i64 n] w fun e w' => e = .returned (.int .i64 n) ∧ w = w' := by
  go_enter Try.func7, Try.ntmps7
  go_wp2
  go_ret
  exact ⟨rfl, rfl⟩
def k7 : List UInt8 := (List.replicate 64 0).set 3 7
def wk0 : DS := newS (List.replicate 128 0)
def wkA := askS wk0 1 1 k7 (isS wk0.K 1 && k7.length == 64)
def wkB := askS wkA.2.2 2 0 [] true
def wkC := compS wkB.2.2 0
def wkD := compS wkC.2.2.2 0
theorem wk_facts : wkA.2.1 = 0 ∧ wkB.2.1 = 0 ∧ wkC.2.2.1 = 0 ∧ wkD.2.2.1 = 0 ∧ wkD.2.2.2.K.length = 128 ∧ (crashK wkD.2.2.2.W [] wkD.2.2.2.K)[67]? = some 7 ∧ (0 ≤ wk0.last ∧ wk0.last ≤ 1000000000) ∧ (0 ≤ wkA.2.2.last ∧ wkA.2.2.last ≤ 1000000000) := by decide +kernel
theorem made_u8D (n : Nat) : (madeCells #[.int .u8 0] n) = (u8s (List.replicate n 0)).toArray := by
  apply Array.ext'
  rw [toList_madeCells_one]
  simp [u8s]
set_option maxRecDepth 20000 in
set_option maxHeartbeats 2000000 in
theorem wakes4_any (w : World) : Calls Try.prog 15 #[] w fun e w' => e = .returned (.bool true) ∧ Below w.heap.size w w' := by
  obtain ⟨L1, hL1⟩ : ∃ L, L = u8s (List.replicate 128 0) := ⟨_, rfl⟩
  obtain ⟨L2, hL2⟩ : ∃ L, L = u8s (List.replicate 64 0) := ⟨_, rfl⟩
  have hmk1 : ∀ w : World, (Instr.makeSlice 22 (.int .i64 128) (.int .i64 128)).run Try.prog w = .ok (.slice (some ⟨w.heap.size, 0, none⟩) 128 128) (w.alloc (.cells L1.toArray 5)) := fun w => by
    rw [hL1, ← made_u8D]
    exact run_make_row' (P := Try.prog) 22 5 (.int .u8 0) 1 Try.underlying22 inf_u8 rfl .i64 .i64 128 (by omega) (by omega) w
  have hmk2 : ∀ w : World, (Instr.makeSlice 22 (.int .i64 64) (.int .i64 64)).run Try.prog w = .ok (.slice (some ⟨w.heap.size, 0, none⟩) 64 64) (w.alloc (.cells L2.toArray 5)) := fun w => by
    rw [hL2, ← made_u8D]
    exact run_make_row' (P := Try.prog) 22 5 (.int .u8 0) 1 Try.underlying22 inf_u8 rfl .i64 .i64 64 (by omega) (by omega) w
  obtain ⟨a1, a2, a3, a4, a5, a6, a7, a8⟩ := wk_facts
  have hR1 : ∀ w : World, Rd (w.alloc (.cells L1.toArray 5)) (w.alloc (.cells L1.toArray 5)).heap.size 1 (.slice (some ⟨w.heap.size, 0, none⟩) 128 128) (List.replicate 128 (0 : UInt8)).length (u8s (List.replicate 128 0)) := fun w => by
    have hl : L1.length = 128 := by rw [hL1, u8s_length, List.length_replicate]
    have := Rd.of_whole (Whole.new w 5 L1) (by rw [hl]; unfold maxLen; omega)
    rw [hl] at this
    rw [List.length_replicate, ← hL1]
    exact this
  have HR1 := Lib.hid hR1
  have HF := Lib.hid (And.intro a1 (And.intro a2 (And.intro a3 (And.intro a4 (And.intro a5 (And.intro a6 (And.intro a7 a8)))))))
  have H2 := Lib.hid hL2
  clear hL1 hL2 hR1 a1 a2 a3 a4 a5 a6 a7 a8
  go_enter Try.func15, Try.ntmps15
  go_wp2_with fail
  refine (New_g _ (HR1.out w) (by rw [List.length_replicate]; omega)).mono ?_
  intro e w1 hN
  unfold NewP at hN
  rw [if_pos (by rw [List.length_replicate]; decide)] at hN
  obtain ⟨R, F, rfl, hD, hl⟩ := hN
  have HD : Hid (DkG w1 (w.alloc (.cells L1.toArray 5)).heap.size R F wk0) := Lib.hid hD
  have HB := Lib.hid ((((Left.refl [] w).alloc (.cells L1.toArray 5)).trans hl (by simp)).below)
  clear hD hl
  go_upto_region 5 with (go_at_call 7; refine (num4_any _ _).mono ?_; rintro e w' ⟨rfl, rfl⟩)
  have hW2 : Whole (w1.alloc (.cells L2.toArray 5)) w1.heap.size 5 L2 := Whole.new w1 5 L2
  have hl2 : Left [] w1 (w1.alloc (.cells L2.toArray 5)) := (Left.refl [] w1).alloc _
  obtain ⟨w2, hw2⟩ : ∃ w2, w2 = w1.alloc (.cells L2.toArray 5) := ⟨_, rfl⟩
  rw [← hw2] at hW2 hl2 ⊢
  obtain ⟨bb, hbb⟩ : ∃ bb, w1.heap.size = bb := ⟨_, rfl⟩
  rw [hbb] at hW2 ⊢
  have c3 : w2.cell? ⟨bb, 3, none⟩ = some (.int .u8 0) := by rw [hW2.cell, H2.out]; rfl
  have f3 := hW2.free 3
  have HW2 := Lib.hid hW2
  have HL2 := Lib.hid hl2
  have HBB := Lib.hid hbb
  clear hw2 hW2 hl2 hbb
  go_upto_region 6 with fail
  obtain ⟨w3, hw3⟩ : ∃ w3, w3 = w2.setCell ⟨bb, 3, none⟩ (.int .u8 7) := ⟨_, rfl⟩
  have hW3 : Whole w3 bb 5 (u8s k7) := by
    have := HW2.out.put 3 (.int .u8 7)
    rw [H2.out] at this
    rw [hw3]
    exact this
  have hl3 : Left [bb] w2 w3 := hw3 ▸ (Left.refl _ _).setCell (Or.inl (by simp)) _
  rw [← hw3]
  have hbF : bb ∉ F := fun hm => by have := (HD.out.lt bb hm).2; have := HBB.out; omega
  have hD3 := (HD.out.left HL2.out (by simp)).left hl3 (by simpa using hbF)
  have hb3 : Below w.heap.size w w3 := HB.out.trans (((HL2.out.mono (T := [bb]) (by simp)).trans hl3 (fun x hx => .inl hx)).belowB (B := w.heap.size) HB.out.size (by have := HB.out.size; have := HBB.out; simp only [List.mem_singleton]; omega))
  have hz3 := hb3.size
  have hws : (w.alloc (.cells L1.toArray 5)).heap.size = w.heap.size + 1 := by simp
  have hwr := Write_g hD3 (by have := HB.out.size; have := hl3.size; have := HL2.out.size; obtain ⟨_, _, _, _, _, hx⟩ := HD.out; have := (hx.lt _ hx.blk.1); omega) 1 (b := k7) (bv := .slice (some ⟨bb, 0, none⟩) 64 64) (fun w' hl => Rd.of_whole (hW3.left hl hbF) (by unfold maxLen; decide)) (by decide) HF.out.2.2.2.2.2.2.1
  have HWR := Lib.hid hwr
  have HB3 := Lib.hid hb3
  clear hw3 hW3 hl3 hD3 hwr hb3 hws c3 f3
  go_wp2_with fail
  refine HWR.out.mono ?_
  rintro e w4 ⟨rfl, F4, hD4, hl4, hF4⟩
  have HD4 : Hid (DkG w4 (w.alloc (.cells L1.toArray 5)).heap.size R F4 wkA.2.2) := Lib.hid hD4
  have hlo : ∀ k ∈ F, w.heap.size ≤ k := fun k hk => by have := (HD.out.lt k hk).1; simp at this; omega
  have HLO4 := Lib.hid (fun k (hk : k ∈ F4) => show w.heap.size ≤ k by rcases hF4 k hk with h | h; exact hlo k h; omega)
  have HB4 := Lib.hid (HB3.out.trans (hl4.belowB (B := w.heap.size) hz3 hlo))
  have HE4 : Hid ((askS wk0 1 1 k7 (isS wk0.K 1 && k7.length == 64)).2.1 = 0) := Lib.hid HF.out.1
  have hz4 := HB4.out.size
  have hbz4 : (w.alloc (.cells L1.toArray 5)).heap.size ≤ w4.heap.size := by obtain ⟨_, _, _, _, _, hx⟩ := HD4.out; have := hx.lt _ hx.blk.1; omega
  have HFL := Lib.hid (Flush_g HD4.out hbz4 HF.out.2.2.2.2.2.2.2)
  rw [HE4.out]
  generalize (askS wk0 1 1 k7 (isS wk0.K 1 && k7.length == 64)).1 = id1
  clear hD4 hl4 hF4 hlo hbz4
  go_wp2_with fail
  refine HFL.out.mono ?_
  rintro e w5 ⟨rfl, F5, hD5, hl5, hF5⟩
  have HD5 : Hid (DkG w5 (w.alloc (.cells L1.toArray 5)).heap.size R F5 wkB.2.2) := Lib.hid hD5
  have HLO5 := Lib.hid (fun k (hk : k ∈ F5) => show w.heap.size ≤ k by rcases hF5 k hk with h | h; exact HLO4.out k h; omega)
  have HB5 := Lib.hid (HB4.out.trans (hl5.belowB (B := w.heap.size) hz4 HLO4.out))
  have HE5 : Hid ((askS wkA.2.2 2 0 [] true).2.1 = 0) := Lib.hid HF.out.2.1
  have hz5 := HB5.out.size
  have hbz5 : (w.alloc (.cells L1.toArray 5)).heap.size ≤ w5.heap.size := by obtain ⟨_, _, _, _, _, hx⟩ := HD5.out; have := hx.lt _ hx.blk.1; omega
  have HC5 := Lib.hid (Complete_g HD5.out hbz5 0)
  rw [HE5.out]
  generalize (askS wkA.2.2 2 0 [] true).1 = id2
  clear hD5 hl5 hF5 hbz5
  go_wp2_with fail
  refine HC5.out.mono ?_
  rintro e w6 ⟨v6, rfl, ho6, F6, hD6, hl6, hF6, _⟩
  obtain ⟨v6o, v6c, rfl, _, _⟩ := (Rd.of_own ho6).form
  have HD6 : Hid (DkG w6 (w.alloc (.cells L1.toArray 5)).heap.size R F6 wkC.2.2.2) := Lib.hid hD6
  have HLO6 := Lib.hid (fun k (hk : k ∈ F6) => HLO5.out k (hF6 k hk))
  have HB6 := Lib.hid (HB5.out.trans (hl6.belowB (B := w.heap.size) hz5 HLO5.out))
  have HE6 : Hid ((compS wkB.2.2 0).2.2.1 = 0) := Lib.hid HF.out.2.2.1
  have hz6 := HB6.out.size
  have hbz6 : (w.alloc (.cells L1.toArray 5)).heap.size ≤ w6.heap.size := by obtain ⟨_, _, _, _, _, hx⟩ := HD6.out; have := hx.lt _ hx.blk.1; omega
  have HC6 := Lib.hid (Complete_g HD6.out hbz6 0)
  rw [HE6.out]
  generalize (compS wkB.2.2 0).1 = id3
  generalize (compS wkB.2.2 0).2.1.length = n6
  clear ho6 hD6 hl6 hF6 hbz6
  go_wp2_with fail
  refine HC6.out.mono ?_
  rintro e w7 ⟨v7, rfl, ho7, F7, hD7, hl7, hF7, _⟩
  obtain ⟨v7o, v7c, rfl, _, _⟩ := (Rd.of_own ho7).form
  have HD7 : Hid (DkG w7 (w.alloc (.cells L1.toArray 5)).heap.size R F7 wkD.2.2.2) := Lib.hid hD7
  have HLO7 := Lib.hid (fun k (hk : k ∈ F7) => HLO6.out k (hF7 k hk))
  have HB7 := Lib.hid (HB6.out.trans (hl7.belowB (B := w.heap.size) hz6 HLO6.out))
  have HE7 : Hid ((compS wkC.2.2.2 0).2.2.1 = 0) := Lib.hid HF.out.2.2.2.1
  have hz7 := HB7.out.size
  have hbz7 : (w.alloc (.cells L1.toArray 5)).heap.size ≤ w7.heap.size := by obtain ⟨_, _, _, _, _, hx⟩ := HD7.out; have := hx.lt _ hx.blk.1; omega
  have HC7 := Lib.hid (Crash_g HD7.out hbz7 (picks := []) (pv := .slice none 0 0) (B0 := 0) (Rd.nil_ _ _ _) (Nat.zero_le _) (by simp) (by simp))
  rw [HE7.out]
  generalize (compS wkC.2.2.2 0).1 = id4
  generalize (compS wkC.2.2.2 0).2.1.length = n7
  clear ho7 hD7 hl7 hF7 hbz7
  go_wp2_with fail
  refine HC7.out.mono ?_
  rintro e w8 ⟨v8, rfl, ho8, hD8, hl8⟩
  rw [HF.out.2.2.2.2.1] at ho8
  obtain ⟨g8, c8, rfl, _, _, hc8, hm8⟩ := own_form ho8 (by omega)
  have hcell : w8.cell? ⟨g8, 67, none⟩ = some (.int .u8 7) := by
    rw [ho8.cellAt 67 (by omega)]
    unfold u8s
    rw [List.getElem?_map, HF.out.2.2.2.2.2.1]
    rfl
  have HB8 := Lib.hid (HB7.out.trans (hl8.belowB (B := w.heap.size) hz7 HLO7.out))
  have hc82 : c8 ≤ 9223372036854775807 := by unfold maxLen at hm8; omega
  clear ho8 hD8 hl8 hm8
  go_wp2_with (go_at_call 7; refine (num4_any _ _).mono ?_; rintro e w' ⟨rfl, rfl⟩)
  go_ret
  exact ⟨rfl, HB8.out⟩
end Go.Proofs.Ytbhoiibcfibmhaa
