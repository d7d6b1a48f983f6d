/- The log: super. -/

import Derived.Test.YtcgdlmlolmfinaaLgPart
import Derived.Test.YtcgdlmlolmfinaaLgL
import Derived.Test.YtcgdlmlolmfinaaLgAt
namespace Go.Proofs.Ytcgdlmlolmfinaa
open Go.RowKit
def supK (g : Nat) (k : Nat) : List UInt8 := ((List.range k).map fun i => UInt8.ofNat (g / 256 ^ i % 256)) ++ List.replicate (64 - k) 0
theorem supK_set (g k : Nat) (hk : k < 64) : (supK g k).set k (UInt8.ofNat (g / 256 ^ k % 256)) = supK g (k + 1) := by
  unfold supK
  rw [List.set_append_right _ _ (by simp), List.length_map, List.length_range, Nat.sub_self, show 64 - k = (64 - (k + 1)) + 1 by omega, List.replicate_succ, List.set_cons_zero, List.range_succ, List.map_append]
  simp
section
variable {w w' w1 : World} {base R RD : Nat} {F F1 : List Nat} {s s1 s' : DS}
set_option maxRecDepth 20000 in
set_option maxHeartbeats 4000000 in
theorem lsuper (h0 : w.cell? ⟨R, 0, none⟩ = some (.pointer (some ⟨RD, 0, none⟩))) (hd : DkG w base RD F s) (hRF : R ∉ F) (hz : base ≤ w.heap.size) (r g : Nat) (hr : r ≤ 1) (hg : g < 4611686018427387904) (hlast : 0 ≤ s.last ∧ s.last ≤ 900000000) :
    Calls Try.prog 41 #[.pointer (some ⟨R, 0, none⟩), .int .i64 r, .int .i64 g] w fun e w' => e = .returned (.int .i64 (superS s r g).1) ∧ DkP w base RD F (superS s r g).2 w' := by
  have hRlt : R < w.heap.size := World.block_lt_of_cell? w _ h0
  have H0 := Lib.hid h0
  have HD := Lib.hid hd
  have HRF := Lib.hid hRF
  have HZ := Lib.hid hz
  have HRL := Lib.hid hRlt
  have HL := Lib.hid hlast
  have hmk := run_make_row' (P := Try.prog) 33 5 (.int .u8 0) 1 Try.underlying33 info_u8 rfl .i64 .i64 64 (by omega) (by omega)
  rw [made_u8L] at hmk
  simp only [show (((64 : Nat) : Nat) : Int) = 64 from rfl] at hmk
  obtain ⟨Z, hZ⟩ : ∃ Z, Z = u8s (List.replicate 64 0) := ⟨_, rfl⟩
  rw [← hZ] at hmk
  obtain ⟨B, hB⟩ : ∃ B, w.heap.size = B := ⟨_, rfl⟩
  have HI0 : Hid (Whole (w.alloc (.cells Z.toArray 5)) B 5 (u8s (supK g 0)) ∧ Left [] w (w.alloc (.cells Z.toArray 5))) := Lib.hid ⟨by rw [hZ, ← hB]; exact Whole.new w 5 _, (Left.refl _ _).alloc _⟩
  have HB := Lib.hid hB
  clear h0 hd hRF hz hZ hlast hRlt
  go_enter Try.func41, Try.ntmps41
  go_wp2
  go_loopw [11] (fun i wr => ∃ k : Nat, i = .int .i64 k ∧ k ≤ 8 ∧ Hid (Whole wr B 5 (u8s (supK g k)) ∧ Left [] w wr)) (fun i _ => 8 - (intOf i).toNat)
  case atStart => exact ⟨0, rfl, by omega, HI0⟩
  case round =>
    obtain ⟨k, rfl, hk, HI⟩ := hrel
    by_cases hlt : k < 8
    · have hlt' : (k : Int) < 8 := by omega
      have cB : wr.cell? ⟨B, k, none⟩ = some (.int .u8 0) := by
        rw [HI.out.1.cell]
        unfold supK u8s
        rw [List.map_append, List.getElem?_append_right (by simp), List.length_map, List.length_map, List.length_range, Nat.sub_self, show 64 - k = (63 - k) + 1 by omega, List.replicate_succ]
        rfl
      have fB := HI.out.1.free k
      have HI2 : Hid (Whole (wr.setCell ⟨B, k, none⟩ (.int .u8 ((g : Int) / 2 ^ (8 * k) % 256))) B 5 (u8s (supK g (k + 1))) ∧ Left [] w (wr.setCell ⟨B, k, none⟩ (.int .u8 ((g : Int) / 2 ^ (8 * k) % 256)))) := Lib.hid (by
        have e : ((g : Int) / 2 ^ (8 * k) % 256) = ((UInt8.ofNat (g / 256 ^ k % 256)).toNat : Int) := by
          have hp : (2 : Int) ^ (8 * k) = ((256 ^ k : Nat) : Int) := by
            rw [show (256 : Nat) = 2 ^ 8 from rfl, ← Nat.pow_mul, Int.natCast_pow]
            rfl
          rw [UInt8.toNat_ofNat', hp, ← Int.natCast_ediv]
          omega
        refine ⟨?_, HI.out.2.setCell (Or.inr (by have := HB.out; simp; omega)) _⟩
        have := HI.out.1.put k (.int .u8 ((g : Int) / 2 ^ (8 * k) % 256))
        rw [e, u8s_set, supK_set g k (by omega)] at this
        rw [e]
        exact this)
      go_wp2
      exact ⟨⟨k + 1, by go_num, by omega, HI2⟩, by simp [intOf]; omega⟩
    · have hk8 : k = 8 := by omega
      subst hk8
      have hBw : B = w.heap.size := HB.out.symm
      obtain ⟨wb, hwb⟩ : ∃ wb, wb = (if 0 < g then wr.setCell ⟨B, 63, none⟩ (.int .u8 1) else wr) := ⟨_, rfl⟩
      have c63 : wr.cell? ⟨B, 63, none⟩ = some (.int .u8 0) := by
        rw [HI.out.1.cell]
        unfold supK u8s
        rw [List.map_append, List.getElem?_append_right (by simp)]
        simp
      have f63 := HI.out.1.free 63
      have hsb : superB (g : Int) = if 0 < g then (supK g 8).set 63 1 else supK g 8 := by
        rw [superB_nat]
        unfold supK
        by_cases h : 0 < g
        · rw [if_pos h, if_pos h, List.set_append_right _ _ (by simp)]
          simp [List.replicate]
        · rw [if_neg h, if_neg h]
          simp [List.replicate]
      have HWB : Hid (Whole wb B 5 (u8s (superB g)) ∧ Left [] w wb) := Lib.hid (by
        rw [hsb, hwb]
        by_cases h : 0 < g
        · rw [if_pos h, if_pos h]
          refine ⟨?_, HI.out.2.setCell (Or.inr (by simp; omega)) _⟩
          have := HI.out.1.put 63 (.int .u8 1)
          rw [show (Value.int .u8 1) = .int .u8 ((1 : UInt8).toNat : Int) from rfl, u8s_set] at this
          exact this
        · rw [if_neg h, if_neg h]
          exact HI.out)
      have HFlt := Lib.hid HD.out.lt
      have cW : wb.cell? ⟨R, 0, none⟩ = some (.pointer (some ⟨RD, 0, none⟩)) := cell_left' H0.out HWB.out.2 (by simp)
      have HWR := Lib.hid (lwrite cW (HD.out.left0 HWB.out.2) HRF.out (by have := HWB.out.2.size; have := HZ.out; omega) (r * 2048) (bv := .slice (some ⟨B, 0, none⟩) 64 64) (b := superB g) (fun wx hx => by
        have hh := HWB.out.1.left hx (fun hm => by have := HFlt.out _ hm; omega)
        have := Rd.of_whole hh (by unfold maxLen; simp [u8s, superB_len])
        simpa [u8s, superB_len] using this) (by rw [superB_len]; omega) (by have := HL.out; omega))
      have e0 : (((r * 2048 : Nat) : Nat) : Int) = (r : Int) * 2048 := by omega
      obtain ⟨e2, s2, hW⟩ : ∃ e2 s2, wrS s (r * 2048) (superB g) = (e2, s2) := ⟨_, _, rfl⟩
      have hT2 := wr_last s (r * 2048) (superB g)
      rw [hW] at hT2
      rw [hW, e0] at HWR
      have HSU : Hid (superS s r g = if e2 ≠ 0 then (e2, s2) else flS s2) := Lib.hid (by unfold superS; rw [hW])
      have HT := Lib.hid hT2
      clear hsb e0 hW hT2 cW
      clear hBw
      by_cases hg0 : 0 < g
      · have hgI : (0 : Int) < (g : Int) := by omega
        rw [if_pos hg0] at hwb
        have hch := hwb.symm
        clear hwb hg0
        go_wp2_with fail
        refine HWR.out.mono ?_
        rintro e w3 ⟨rfl, F3, hd3, hl3, hf3⟩
        have hl3' : Left F w w3 := (HWB.out.2.mono (T := F) (by simp)).trans hl3 (fun k hk => .inl hk)
        have hf3' : ∀ x ∈ F3, x ∈ F ∨ w.heap.size ≤ x := fun x hx => by
          rcases hf3 x hx with h | h
          · exact .inl h
          · have := HWB.out.2.size; exact .inr (by omega)
        have c3 : w3.cell? ⟨R, 0, none⟩ = some (.pointer (some ⟨RD, 0, none⟩)) := cell_left' H0.out hl3' HRF.out
        have hR3 : R ∉ F3 := fun hm => by
          rcases hf3' _ hm with h | h
          · exact HRF.out h
          · have := HRL.out; omega
        have HFL := Lib.hid (lflush c3 hd3 hR3 (by have := hl3'.size; have := HZ.out; omega) (by have := HT.out; have := HL.out; omega))
        have H3 := Lib.hid (And.intro hd3 (And.intro hl3' hf3'))
        clear hd3 hl3 hf3 hl3' hf3' hR3 hch
        by_cases he2 : e2 = 0
        · subst he2
          have HE : Hid (superS s r g = flS s2) := Lib.hid (by rw [HSU.out]; simp)
          go_wp2_with fail
          refine HFL.out.mono ?_
          rintro e w4 ⟨rfl, F4, hd4, hl4, hf4⟩
          have HR := Lib.hid (DkP.trans H3.out.2.1 H3.out.2.2 ⟨F4, hd4, hl4, hf4⟩)
          clear hd4 hl4 hf4
          go_wp2
          go_ret
          rw [HE.out]
          exact ⟨rfl, HR.out⟩
        · have hne : (e2 != 0) = true := bne_iff_ne.2 he2
          have HE : Hid (superS s r g = (e2, s2)) := Lib.hid (by rw [HSU.out, if_pos he2])
          go_wp2
          go_ret
          rw [HE.out]
          exact ⟨rfl, F3, H3.out⟩
      · have hgI : ¬ ((0 : Int) < (g : Int)) := by omega
        rw [if_neg hg0] at hwb
        subst hwb
        have hch : True := trivial
        clear hg0
        go_wp2_with fail
        refine HWR.out.mono ?_
        rintro e w3 ⟨rfl, F3, hd3, hl3, hf3⟩
        have hl3' : Left F w w3 := (HWB.out.2.mono (T := F) (by simp)).trans hl3 (fun k hk => .inl hk)
        have hf3' : ∀ x ∈ F3, x ∈ F ∨ w.heap.size ≤ x := fun x hx => by
          rcases hf3 x hx with h | h
          · exact .inl h
          · have := HWB.out.2.size; exact .inr (by omega)
        have c3 : w3.cell? ⟨R, 0, none⟩ = some (.pointer (some ⟨RD, 0, none⟩)) := cell_left' H0.out hl3' HRF.out
        have hR3 : R ∉ F3 := fun hm => by
          rcases hf3' _ hm with h | h
          · exact HRF.out h
          · have := HRL.out; omega
        have HFL := Lib.hid (lflush c3 hd3 hR3 (by have := hl3'.size; have := HZ.out; omega) (by have := HT.out; have := HL.out; omega))
        have H3 := Lib.hid (And.intro hd3 (And.intro hl3' hf3'))
        clear hd3 hl3 hf3 hl3' hf3' hR3 hch
        by_cases he2 : e2 = 0
        · subst he2
          have HE : Hid (superS s r g = flS s2) := Lib.hid (by rw [HSU.out]; simp)
          go_wp2_with fail
          refine HFL.out.mono ?_
          rintro e w4 ⟨rfl, F4, hd4, hl4, hf4⟩
          have HR := Lib.hid (DkP.trans H3.out.2.1 H3.out.2.2 ⟨F4, hd4, hl4, hf4⟩)
          clear hd4 hl4 hf4
          go_wp2
          go_ret
          rw [HE.out]
          exact ⟨rfl, HR.out⟩
        · have hne : (e2 != 0) = true := bne_iff_ne.2 he2
          have HE : Hid (superS s r g = (e2, s2)) := Lib.hid (by rw [HSU.out, if_pos he2])
          go_wp2
          go_ret
          rw [HE.out]
          exact ⟨rfl, F3, H3.out⟩
end
end Go.Proofs.Ytcgdlmlolmfinaa
