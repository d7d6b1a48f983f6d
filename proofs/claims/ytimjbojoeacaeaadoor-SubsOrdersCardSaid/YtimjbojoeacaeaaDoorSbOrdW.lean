/- SubsOrders: the walk. -/


import Derived.Test.YtimjbojoeacaeaaDoorSbOrdP
import Derived.Test.YtimjbojoeacaeaaDoorSbExact
import Derived.Deep.RegionHeld3
namespace Go.Proofs.YtimjbojoeacaeaaDoor
open Go.RowKit Go.Shelf Go.Proofs


def zf (k : Nat) : ByteArray := ⟨#[122, 47, UInt8.ofNat (97 + k), 97]⟩
theorem zf_may {k : Nat} (hk : k < 16) : mayW ⟨zf k, 0⟩ = true := by
  have h : ∀ k, k < 16 → mayW ⟨zf k, 0⟩ = true := by decide +kernel
  exact h k hk
def ff (n : Nat) : ByteArray := ⟨#[111, 110, 101, 47, 109, 111, 114, 101, 47, UInt8.ofNat (97 + n), 47, 33, 63]⟩
theorem ff_may {n : Nat} (hn : n < 26) : mayW ⟨ff n, 0⟩ = true := by
  have h : ∀ n, n < 26 → mayW ⟨ff n, 0⟩ = true := by decide +kernel
  exact h n hn
theorem ff_add {M : List Wish1} {n : Nat} (h : subsB M = true) (hl : M.length = 16) (hn : n < 26) : ∃ R z, addL M ⟨ff n, 0⟩ = (R, z) ∧ (z = 5 ∨ (z = 0 ∧ thereW M (ff n) = true)) := by
  cases ht : thereW M (ff n)
  · refine ⟨[], 5, ?_, .inl rfl⟩
    unfold addL
    rw [h, ff_may hn, ht, if_pos (show (true && true) = true from rfl), if_neg (show ¬ (false = true) by decide), if_pos hl]
  · obtain ⟨M', h1, _⟩ := subsB_add h (ff_may hn) (.inr ht)
    exact ⟨M', 0, h1, .inr ⟨rfl, rfl⟩⟩
/-- Begins with "one/more/", and is longer. -/
def isOne (x : Wish1) : Bool := decide (9 < x.f.size) && ((x.f.extract 0 9).toList == [111, 110, 101, 47, 109, 111, 114, 101, 47])
theorem one_ff {n : Nat} (hn : n < 26) : (decide (9 < (ff n).size) && (((ff n).extract 0 9).toList == [111, 110, 101, 47, 109, 111, 114, 101, 47])) = true := by
  have h : ∀ n, n < 26 → (decide (9 < (ff n).size) && (((ff n).extract 0 9).toList == [111, 110, 101, 47, 109, 111, 114, 101, 47])) = true := by decide +kernel
  exact h n hn
theorem zf_inj {i j : Nat} (hi : i < 16) (hj : j < 16) (h : zf i = zf j) : i = j := by
  have h2 : (zf i).data[2]? = (zf j).data[2]? := by rw [h]
  have h3 : UInt8.ofNat (97 + i) = UInt8.ofNat (97 + j) := by simpa [zf] using h2
  have h4 := congrArg UInt8.toNat h3
  rw [UInt8.toNat_ofNat', UInt8.toNat_ofNat'] at h4
  omega
theorem zf_len {k : Nat} {M : List Wish1} (hk : k ≤ 16) (h : ∀ j, j < k → ∃ x ∈ M, x.f = zf j) : k ≤ M.length := by
  have := pigeons k zf (M.map fun x => x.f) (fun i j hi hj e => zf_inj (by omega) (by omega) e) (fun i hi => by
    obtain ⟨x, hx, he⟩ := h i hi
    rw [← he]
    exact List.mem_map_of_mem hx)
  rwa [List.length_map] at this
theorem short_cons {L : List Wish1} {x : Wish1} (h : Short L) (hx : x.f.size ≤ 100000) : Short (x :: L) := by
  intro i y hy
  cases i with
  | zero => simp at hy; subst hy; exact hx
  | succ i => exact h i y (by simpa using hy)

set_option maxRecDepth 20000 in
set_option maxHeartbeats 4000000 in
theorem SubsOrders_any (w : World) (sv lv : Value) (L : List Wish1) (A : List SAct) (hL : Rd w w.heap.size 2 sv L.length (wCells L)) (hR : ReachW L) (hA : ActsAt w w.heap.size lv A) (hl : L.length * 24 ≤ reachBytes) (hE : Env w) :
    Calls Tryd.prog 10 #[.agg #[sv, lv]] w fun e w' => e = .returned (.bool true) ∧ Below w.heap.size w w' := by
  have hb0 := (Below.refl w.heap.size w).alloc (Nat.le_refl _) (.cells #[sv, lv] 39)
  have hE0 := hE.below hb0
  obtain ⟨ao, cap, rfl, hc1, hc2⟩ := hL.form
  have hc3 : cap ≤ 9223372036854775807 := by unfold maxLen at hc2; omega
  have HA0 := Lib.hid hA
  obtain ⟨bo, cap2, rfl, hd1, hd2, hacts⟩ := hA
  have HL := Lib.hid (hL.below hb0)
  have HL' := Lib.hid hL
  have HR := Lib.hid hR
  have HM := Lib.hid hc2
  have Hl := Lib.hid hl
  clear hL hacts hR hc2 hl
  go_enter Tryd.func10, Tryd.ntmps10
  go_wp2_with fail
  have hz0 : w.heap.size ≤ (w.alloc (.cells #[.slice ao L.length cap, .slice bo A.length cap2] 39)).heap.size := by simp
  refine (heavy_any _ _ _ L A (HL.out.more hz0) HR.out ((show ActsAt _ _ _ _ from by obtain ⟨x1, x2, x3, x4, x5, x6⟩ := HA0.out; exact ⟨x1, x2, x3, x4, x5, fun i a ha => by obtain ⟨b, o, y1, y2, y3, y4⟩ := x6 i a ha; exact ⟨b, o, y1, by simp; omega, ⟨(hb0.cell (p := ⟨b, _, none⟩) y2).trans y3.1, (hb0.cell (p := ⟨b, _, none⟩) y2).trans y3.2.1, (hb0.cell (p := ⟨b, _, none⟩) y2).trans y3.2.2.1, (hb0.cell (p := ⟨b, _, none⟩) y2).trans y3.2.2.2⟩, y4⟩⟩)) Hl.out).mono ?_
  rintro e w1 ⟨hv, rfl, hlight, hb1⟩
  have hbb1 := bel_tr hb0 hb1
  have HLI := Lib.hid hlight
  clear hlight
  cases hv
  · have hlt := HLI.out rfl
    have hS : Short L := fun i x hx => by have := hlt.2.1 i x hx; omega
    have HLT := Lib.hid hlt
    have HS := Lib.hid hS
    have c0 : w1.cell? ⟨w.heap.size, 0, none⟩ = some (.slice ao L.length cap) := cell_bel (by simp) hb1
    have c1 : w1.cell? ⟨w.heap.size, 1, none⟩ = some (.slice bo A.length cap2) := cell_bel (by simp) hb1
    have hz1 := hbb1.size
    clear hlt hS HLI
    cases h1 : subsB L
    · have H1 := Lib.hid h1
      clear h1
      go_wp2_with (first | (go_at_call 23; refine (num_any _ _).mono ?_; rintro e w' ⟨rfl, rfl⟩) | (go_at_call 40; refine (Check_any _ _ L ((HL'.out.below hbb1).more hz1) HS.out (hE.below hbb1)).mono ?_; rintro e w2 ⟨rfl, hb2⟩; rw [H1.out]))
      go_ret
      exact ⟨rfl, bel_tr hbb1 hb2⟩
    · have hl16 := subsB_len h1
      have H1 := Lib.hid h1
      clear h1
      go_wp2_with (first | (go_at_call 23; refine (num_any _ _).mono ?_; rintro e w' ⟨rfl, rfl⟩) | (go_at_call 40; refine (Check_any _ _ L ((HL'.out.below hbb1).more hz1) HS.out (hE.below hbb1)).mono ?_; rintro e w2 ⟨rfl, hb2⟩; rw [H1.out]; have d0 := cell_bel c0 hb2))
      have hbb2 := bel_tr hbb1 hb2
      have D0 := Lib.hid (cell_bel c0 hb2)
      have D1 := Lib.hid (cell_bel c1 hb2)
      clear c0 c1
      have hw2z : w.heap.size + 1 ≤ w2.heap.size := by
        have z1 := hb1.size
        have z2 := hb2.size
        simp at z1
        omega
      go_loopw [3, 4, 5, 6, 7, 8, 9] (fun s3 i _ _ _ _ _ wr => ∃ k : Nat, k ≤ L.length ∧ ((k = 0 ∧ i = .int .i64 (-1)) ∨ ∃ j : Nat, k = j + 1 ∧ i = .int .i64 j) ∧ Rd wr wr.heap.size 2 s3 (L.drop k).length (wCells (L.drop k)) ∧ Below (w.heap.size + 1) w2 wr) (fun _ i _ _ _ _ _ _ => (intOf i + 1).toNat)
      case atStart =>
        refine ⟨L.length, Nat.le_refl _, ?_, by rw [List.drop_length]; exact Rd.nil_ _ _ _, Below.refl _ _⟩
        rcases L.length with _ | j
        · exact .inl ⟨rfl, by go_num⟩
        · exact .inr ⟨j, rfl, by go_num⟩
      case round =>
        obtain ⟨k, hk, hki, hB, hbr⟩ := hrel
        have e0 := (hbr.cell (p := ⟨w.heap.size, 0, none⟩) (by simp)).trans D0.out
        have hbw := hbb2.trans (hbr.mono (Nat.le_succ _))
        have hzr := hbr.size
        rcases hki with ⟨rfl, rfl⟩ | ⟨j, rfl, rfl⟩
        · rw [List.drop_zero] at hB
          have HB := Lib.hid hB
          clear hB
          go_wp2_with fail
          refine (EqW_any _ _ _ L L _ _ HB.out (HL'.out.below hbw) rfl).mono ?_
          rintro e w3 ⟨rfl, hb3⟩
          have hbr3 := bel_to hbr hb3 (by omega)
          have hbw3 := bel_tr hbw hb3
          have e03 := cell_bel e0 hb3
          have HB3 := Lib.hid ((HB.out.below hb3).more hb3.size)
          clear HB e0
          go_wp2
          go_loopw [10, 11, 12, 13, 14, 15, 16] (fun i _ _ _ _ _ _ wx => ∃ k : Nat, k ≤ L.length ∧ i = .int .i64 k ∧ Below w3.heap.size w3 wx) (fun i _ _ _ _ _ _ _ => L.length - (intOf i).toNat)
          case atStart => exact ⟨0, by omega, rfl, Below.refl _ _⟩
          case round =>
            obtain ⟨k, hk, rfl, hbx⟩ := hrel
            have hwx := bel_tr hbw3 hbx
            have e0x := cell_bel e03 hbx
            by_cases hlt : k < L.length
            · obtain ⟨y, hy⟩ : ∃ y, L[k]? = some y := ⟨_, List.getElem?_eq_getElem hlt⟩
              obtain ⟨b, o, rfl, hbl, f0, f1⟩ := wish_cell (HL'.out.below hwx) rfl hy
              obtain ⟨yf, yq⟩ := y
              have hyfl : yf.size ≤ 100000 := HS.out k ⟨yf, yq⟩ hy
              obtain ⟨p1, p2, p3, p4⟩ := drop_add H1.out hy
              simp only at f0 f1 p1 p3
              obtain ⟨X, hX⟩ : ∃ X, L.take k ++ L.drop (k + 1) = X := ⟨_, rfl⟩
              have hsX : Short X := short_of HS.out (fun x hx => by
                rw [← hX] at hx
                rcases List.mem_append.1 hx with h | h
                · exact List.mem_of_mem_take h
                · exact List.mem_of_mem_drop h)
              rw [hX] at p1 p2 p3 p4
              have P1 := Lib.hid p1
              have P3 := Lib.hid p3
              have P4 := Lib.hid p4
              have HSX := Lib.hid hsX
              clear p1 p2 p3 p4 hX hsX hy
              have hSb : ∀ wq : World, Below w3.heap.size w3 wq → Below w.heap.size w wq := fun wq h => bel_tr hbw3 h
              have HSb := Lib.hid hSb
              clear hSb
              go_wp2
              refine wp_region_held_drew (S := fun wq => wq.cell? ⟨w.heap.size, 0, none⟩ = some (.slice (some ⟨b, o, none⟩) L.length cap) ∧ wq.cell? ⟨b, o + k * 2, none⟩ = some (.string yf) ∧ Below w3.heap.size w3 wq) (by kernel_rfl) ⟨e0x, f0, hbx.drew⟩ (fun hHeld => ?_)
              refine take_h 0 ⟨?_, ?_, ?_, by kernel_rfl, by kernel_rfl, by kernel_rfl, ?_, ?_, by assumption, ?_⟩
              rotate_left 2
              · (simp only [List.getElem?_toArray, List.getElem?_cons_succ, List.getElem?_cons_zero]; exact rfl)
              · exact fun _ _ _ h => h
              · first
                  | (refine Or.inr ⟨by rfl, ?_⟩; exact rfl)
                  | (refine Or.inl ⟨by rfl, ?_⟩
                     intro w hSw
                     (try dsimp only at hSw)
                     (try go_split_ands)
                     go_simp
                     (first | done | with_reducible rfl))
              try simp only [Act.put, List.setIfInBounds_toArray, List.set_cons_zero, List.set_cons_succ]
              refine take_h 1 ⟨?_, ?_, ?_, by kernel_rfl, by kernel_rfl, by kernel_rfl, ?_, ?_, by assumption, ?_⟩
              rotate_left 2
              · (simp only [List.getElem?_toArray, List.getElem?_cons_succ, List.getElem?_cons_zero]; exact rfl)
              · exact fun _ _ _ h => h
              · first
                  | (refine Or.inr ⟨by rfl, ?_⟩; exact rfl)
                  | (refine Or.inl ⟨by rfl, ?_⟩
                     intro w hSw
                     (try dsimp only at hSw)
                     (try go_split_ands)
                     go_simp
                     (first | done | with_reducible rfl))
              try simp only [Act.put, List.setIfInBounds_toArray, List.set_cons_zero, List.set_cons_succ]
              refine take_h 2 ⟨?_, ?_, ?_, by kernel_rfl, by kernel_rfl, by kernel_rfl, ?_, ?_, by assumption, ?_⟩
              rotate_left 2
              · (simp only [List.getElem?_toArray, List.getElem?_cons_succ, List.getElem?_cons_zero]; exact rfl)
              · exact fun _ _ _ h => h
              · first
                  | (refine Or.inr ⟨by rfl, ?_⟩; exact rfl)
                  | (refine Or.inl ⟨by rfl, ?_⟩
                     intro w hSw
                     (try dsimp only at hSw)
                     (try go_split_ands)
                     go_simp
                     (first | done | with_reducible rfl))
              try simp only [Act.put, List.setIfInBounds_toArray, List.set_cons_zero, List.set_cons_succ]
              refine take_h 3 ⟨?_, ?_, ?_, by kernel_rfl, by kernel_rfl, by kernel_rfl, ?_, ?_, by assumption, ?_⟩
              rotate_left 2
              · (simp only [List.getElem?_toArray, List.getElem?_cons_succ, List.getElem?_cons_zero]; exact rfl)
              · exact fun _ _ _ h => h
              · first
                  | (refine Or.inr ⟨by rfl, ?_⟩; exact rfl)
                  | (refine Or.inl ⟨by rfl, ?_⟩
                     intro w hSw
                     (try dsimp only at hSw)
                     (try go_split_ands)
                     go_simp
                     (first | done | with_reducible rfl))
              try simp only [Act.put, List.setIfInBounds_toArray, List.set_cons_zero, List.set_cons_succ]
              refine take_h 4 ⟨?_, ?_, ?_, by kernel_rfl, by kernel_rfl, by kernel_rfl, ?_, ?_, by assumption, ?_⟩
              rotate_left 2
              · (simp only [List.getElem?_toArray, List.getElem?_cons_succ, List.getElem?_cons_zero]; exact rfl)
              · exact fun _ _ _ h => h
              · first
                  | (refine Or.inr ⟨by rfl, ?_⟩; exact rfl)
                  | (refine Or.inl ⟨by rfl, ?_⟩
                     intro w hSw
                     (try dsimp only at hSw)
                     (try go_split_ands)
                     go_simp
                     (first | done | with_reducible rfl))
              try simp only [Act.put, List.setIfInBounds_toArray, List.set_cons_zero, List.set_cons_succ]
              refine take_h 5 ⟨?_, ?_, ?_, by kernel_rfl, by kernel_rfl, by kernel_rfl, ?_, ?_, by assumption, ?_⟩
              rotate_left 2
              · (simp only [List.getElem?_toArray, List.getElem?_cons_succ, List.getElem?_cons_zero]; exact rfl)
              · exact fun _ _ _ h => h
              · first
                  | (refine Or.inr ⟨by rfl, ?_⟩; exact rfl)
                  | (refine Or.inl ⟨by rfl, ?_⟩
                     intro w hSw
                     (try dsimp only at hSw)
                     (try go_split_ands)
                     go_simp
                     (first | done | with_reducible rfl))
              try simp only [Act.put, List.setIfInBounds_toArray, List.set_cons_zero, List.set_cons_succ]
              refine take_h 6 ⟨?_, ?_, ?_, by kernel_rfl, by kernel_rfl, by kernel_rfl, ?_, ?_, by assumption, ?_⟩
              rotate_left 2
              · (simp only [List.getElem?_toArray, List.getElem?_cons_succ, List.getElem?_cons_zero]; exact rfl)
              · exact fun _ _ _ h => h
              · first
                  | (refine Or.inr ⟨by rfl, ?_⟩; exact rfl)
                  | (refine Or.inl ⟨by rfl, ?_⟩
                     intro w hSw
                     (try dsimp only at hSw)
                     (try go_split_ands)
                     go_simp
                     (first | done | with_reducible rfl))
              try simp only [Act.put, List.setIfInBounds_toArray, List.set_cons_zero, List.set_cons_succ]
              refine take_h 7 ⟨?_, ?_, ?_, by kernel_rfl, by kernel_rfl, by kernel_rfl, ?_, ?_, by assumption, ?_⟩
              rotate_left 2
              · (simp only [List.getElem?_toArray, List.getElem?_cons_succ, List.getElem?_cons_zero]; exact rfl)
              · exact fun _ _ _ h => h
              · first
                  | (refine Or.inr ⟨by rfl, ?_⟩; exact rfl)
                  | (refine Or.inl ⟨by rfl, ?_⟩
                     intro w hSw
                     (try dsimp only at hSw)
                     (try go_split_ands)
                     go_simp
                     (first | done | with_reducible rfl))
              try simp only [Act.put, List.setIfInBounds_toArray, List.set_cons_zero, List.set_cons_succ]
              refine wpAnyH_ready (rs := [8]) (by kernel_rfl) (by simp) ?_
              refine call_h 8 ⟨?_, ?_, fun K hK => ?_⟩
              rotate_left 1
              · (simp only [List.getElem?_toArray, List.getElem?_cons_succ, List.getElem?_cons_zero]; exact rfl)
              go_simp
              (go_at_call 42; refine (Drop_any _ _ L yf ((HL'.out.below (HSb.out _ hHeld.2.2)).more (HSb.out _ hHeld.2.2).size) HS.out (hE.below (HSb.out _ hHeld.2.2))).mono ?_; rintro e wb ⟨v11, rfl, ho11, hb11⟩; rw [P1.out] at ho11 ⊢)
              go_wp2_with fail
              have hbb := bel_tr hHeld.2.2 hb11
              have e0b := cell_bel hHeld.1 hb11
              have f0b := cell_bel hHeld.2.1 hb11
              have f1b := cell_bel f1 (bel_tr (Below.refl _ wr).drew hb11)
              have HO11 := Lib.hid (Rd.of_own ho11)
              clear ho11
              refine hK.out _ _ ⟨e0b, f0b, hbb⟩ (fun hHeld => ?_)
              clear hK K
              (try simp only [Act.put, List.setIfInBounds_toArray, List.set_cons_zero, List.set_cons_succ])
              refine take_h 9 ⟨?_, ?_, ?_, by kernel_rfl, by kernel_rfl, by kernel_rfl, ?_, ?_, by assumption, ?_⟩
              rotate_left 2
              · (simp only [List.getElem?_toArray, List.getElem?_cons_succ, List.getElem?_cons_zero]; exact rfl)
              · exact fun _ _ _ h => h
              · first
                  | (refine Or.inr ⟨by rfl, ?_⟩; exact rfl)
                  | (refine Or.inl ⟨by rfl, ?_⟩
                     intro w hSw
                     (try dsimp only at hSw)
                     (try go_split_ands)
                     go_simp
                     (first | done | with_reducible rfl))
              try simp only [Act.put, List.setIfInBounds_toArray, List.set_cons_zero, List.set_cons_succ]
              refine take_h 10 ⟨?_, ?_, ?_, by kernel_rfl, by kernel_rfl, by kernel_rfl, ?_, ?_, by assumption, ?_⟩
              rotate_left 2
              · (simp only [List.getElem?_toArray, List.getElem?_cons_succ, List.getElem?_cons_zero]; exact rfl)
              · exact fun _ _ _ h => h
              · first
                  | (refine Or.inr ⟨by rfl, ?_⟩; exact rfl)
                  | (refine Or.inl ⟨by rfl, ?_⟩
                     intro w hSw
                     (try dsimp only at hSw)
                     (try go_split_ands)
                     go_simp
                     (first | done | with_reducible rfl))
              try simp only [Act.put, List.setIfInBounds_toArray, List.set_cons_zero, List.set_cons_succ]
              refine take_h 11 ⟨?_, ?_, ?_, by kernel_rfl, by kernel_rfl, by kernel_rfl, ?_, ?_, by assumption, ?_⟩
              rotate_left 2
              · (simp only [List.getElem?_toArray, List.getElem?_cons_succ, List.getElem?_cons_zero]; exact rfl)
              · exact fun _ _ _ h => h
              · first
                  | (refine Or.inr ⟨by rfl, ?_⟩; exact rfl)
                  | (refine Or.inl ⟨by rfl, ?_⟩
                     intro w hSw
                     (try dsimp only at hSw)
                     (try go_split_ands)
                     go_simp
                     (first | done | with_reducible rfl))
              try simp only [Act.put, List.setIfInBounds_toArray, List.set_cons_zero, List.set_cons_succ]
              refine take_h 12 ⟨?_, ?_, ?_, by kernel_rfl, by kernel_rfl, by kernel_rfl, ?_, ?_, by assumption, ?_⟩
              rotate_left 2
              · (simp only [List.getElem?_toArray, List.getElem?_cons_succ, List.getElem?_cons_zero]; exact rfl)
              · exact fun _ _ _ h => h
              · first
                  | (refine Or.inr ⟨by rfl, ?_⟩; exact rfl)
                  | (refine Or.inl ⟨by rfl, ?_⟩
                     intro w hSw
                     (try dsimp only at hSw)
                     (try go_split_ands)
                     go_simp
                     (first | done | with_reducible rfl))
              try simp only [Act.put, List.setIfInBounds_toArray, List.set_cons_zero, List.set_cons_succ]
              refine take_h 13 ⟨?_, ?_, ?_, by kernel_rfl, by kernel_rfl, by kernel_rfl, ?_, ?_, by assumption, ?_⟩
              rotate_left 2
              · (simp only [List.getElem?_toArray, List.getElem?_cons_succ, List.getElem?_cons_zero]; exact rfl)
              · exact fun _ _ _ h => h
              · first
                  | (refine Or.inr ⟨by rfl, ?_⟩; exact rfl)
                  | (refine Or.inl ⟨by rfl, ?_⟩
                     intro w hSw
                     (try dsimp only at hSw)
                     (try go_split_ands)
                     go_simp
                     (first | done | with_reducible rfl))
              try simp only [Act.put, List.setIfInBounds_toArray, List.set_cons_zero, List.set_cons_succ]
              refine wpAnyH_done (by kernel_rfl) ?_ _
              clear hHeld
              have hwb := bel_tr hbw3 hbb
              go_wp2_with fail
              refine (Drop_any _ _ X yf HO11.out HSX.out (hE.below hwb)).mono ?_
              rintro e wc ⟨v13, rfl, _, hb13⟩
              rw [P3.out]
              have e0c := cell_bel e0b hb13
              have f0c := cell_bel f0b hb13
              have f1c := cell_bel f1b hb13
              have hwc := bel_tr hwb hb13
              go_wp2_with fail
              refine (Add_any _ _ X ⟨yf, yq⟩ ((HO11.out.below hb13).more hb13.size) HSX.out hyfl (hE.below hwc)).mono ?_
              rintro e wd ⟨v15, rfl, ho15, hb15⟩
              rw [P4.out] at ho15 ⊢
              have HO15 := Lib.hid (Rd.of_own ho15)
              have e0d := cell_bel e0c hb15
              have hwd := bel_tr hwc hb15
              have hxd := bel_tr hbb (bel_tr hb13 hb15)
              clear ho15
              go_wp2_with (go_at_call 23; refine (num_any _ _).mono ?_; rintro e w' ⟨rfl, rfl⟩)
              refine (EqW_any _ _ _ L L _ _ HO15.out (HL'.out.below hwd) rfl).mono ?_
              rintro e we ⟨rfl, hb16⟩
              have hxe := bel_tr hxd hb16
              go_wp2
              go_roundw
              case rel => exact ⟨k + 1, by omega, by go_num, hxe⟩
              case measure => simp [intOf]; omega
            · have hk3 : k = L.length := by omega
              subst hk3
              have HB4 := Lib.hid ((HB3.out.below hbx).more hbx.size)
              clear HB3 hlt hk
              have hwq := bel_tr hbw3 hbx
              obtain ⟨wq, hwq'⟩ : ∃ wq : World, wq = wr := ⟨_, rfl⟩
              rw [← hwq'] at HB4 hwq e0x ⊢
              have hw2q : Below (w.heap.size + 1) w2 wq := by rw [hwq']; exact bel_to hbr3 hbx (by have := hbr3.size; omega)
              clear hwq' hbx
              go_wp2
              go_loopw [3, 17, 18, 19] (fun s3 i _ _ wx => ∃ (k : Nat) (M : List Wish1), k ≤ 16 ∧ i = .int .i64 k ∧ Rd wx wx.heap.size 2 s3 M.length (wCells M) ∧ Hid (subsB M = true ∧ Short M ∧ ∀ j, j < k → ∃ x ∈ M, x.f = zf j) ∧ Below wq.heap.size wq wx) (fun _ i _ _ _ => 16 - (intOf i).toNat)
              case atStart => exact ⟨0, L, by omega, rfl, HB4.out, Lib.hid ⟨H1.out, HS.out, fun j hj => absurd hj (Nat.not_lt_zero _)⟩, Below.refl _ _⟩
              case round =>
                obtain ⟨k, M, hk, rfl, hM, HX, hbx⟩ := hrel
                have HMM := Lib.hid hM
                obtain ⟨ao4, cap4, rfl, hc41, hc42⟩ := hM.form
                clear hM
                have hc43 : cap4 ≤ 9223372036854775807 := by unfold maxLen at hc42; omega
                have hkM : k ≤ M.length := zf_len hk HX.out.2.2
                have hM16 := subsB_len HX.out.1
                clear hc42
                by_cases hlt : M.length < 16
                · have hk16 : k < 16 := by omega
                  have hconv : (convert 83 9 (.slice (some ⟨wr.heap.size, 0, none⟩) 2 2)).run Tryd.prog (wr.alloc (.cells #[.int .u8 (97 + (k : Int) % 26), .int .u8 (97 + (k : Int) / 26 % 26)] 5)) = .ok (.string ⟨#[UInt8.ofNat (97 + k), 97]⟩) (wr.alloc (.cells #[.int .u8 (97 + (k : Int) % 26), .int .u8 (97 + (k : Int) / 26 % 26)] 5)) := by
                    refine run_convert_bytes_back _ _ _ 5 ⟨wr.heap.size, 0, none⟩ 2 [UInt8.ofNat (97 + k), 97] Tryd.underlying83 Tryd.underlying5 Tryd.underlying9 (fun j hj => ?_)
                    have : j = 0 ∨ j = 1 := by simp at hj; omega
                    rcases this with rfl | rfl
                    · have e : (UInt8.ofNat (97 + k)).toNat = 97 + k := by rw [UInt8.toNat_ofNat']; omega
                      simp [add_flat, e]
                      omega
                    · simp [add_flat]
                      omega
                  have hzf : (⟨#[122, 47]⟩ ++ ⟨#[97 + UInt8.ofNat k, 97]⟩ : ByteArray) = zf k := by
                    unfold zf
                    rw [UInt8.ofNat_add]
                    rfl
                  have HZF := Lib.hid hzf
                  have hba := (Below.refl wr.heap.size wr).alloc (Nat.le_refl _) (.cells #[.int .u8 (97 + (k : Int) % 26), .int .u8 (97 + (k : Int) / 26 % 26)] 5)
                  have hzl : (zf k).size ≤ 100000 := by show 4 ≤ 100000; omega
                  obtain ⟨M', p1, p2, p3, p4, p5, p6⟩ := subsB_add HX.out.1 (zf_may hk16) (.inl hlt)
                  have P1 := Lib.hid p1
                  have HX' : Hid (subsB M' = true ∧ Short M' ∧ ∀ j, j < k + 1 → ∃ x ∈ M', x.f = zf j) := Lib.hid ⟨p2, short_of (short_cons (x := ⟨zf k, 0⟩) HX.out.2.1 hzl) (fun y hy => by
                    rcases p6 y hy with h | h
                    · subst h; exact List.mem_cons_self
                    · exact List.mem_cons_of_mem _ h), fun j hj => by
                    by_cases e : j = k
                    · subst e; exact ⟨_, p3, rfl⟩
                    · obtain ⟨x, hx, he⟩ := HX.out.2.2 j (by omega)
                      obtain ⟨z, hz, hzx⟩ := p4 x hx
                      exact ⟨z, hz, hzx.trans he⟩⟩
                  clear p1 p2 p3 p4 p5 p6 hzf
                  go_wp2_with fail
                  rw [HZF.out]
                  refine (Add_any _ _ M ⟨zf k, 0⟩ ((HMM.out.below hba).more hba.size) HX.out.2.1 hzl (hE.below (bel_tr (bel_tr hwq hbx) hba))).mono ?_
                  rintro e wb ⟨v18, rfl, ho18, hb18⟩
                  rw [P1.out] at ho18 ⊢
                  have HO18 := Lib.hid (Rd.of_own ho18)
                  clear ho18 hconv
                  go_wp2_with (go_at_call 23; refine (num_any _ _).mono ?_; rintro e w' ⟨rfl, rfl⟩)
                  go_roundw
                  case rel => exact ⟨k + 1, M', by omega, by go_num, HO18.out, HX', bel_tr hbx (bel_tr hba hb18)⟩
                  case measure => simp [intOf]; omega
                · have hl16 : ¬ (M.length : Int) < 16 := by omega
                  have HML : Hid (M.length = 16) := Lib.hid (by omega)
                  have d1 := cell_bel ((hw2q.cell (p := ⟨w.heap.size, 1, none⟩) (by simp)).trans D1.out) hbx
                  have hAm : A.length % 26 < 26 := by omega
                  obtain ⟨n26, hn26⟩ : ∃ n26 : Nat, A.length % 26 = n26 := ⟨_, rfl⟩
                  rw [hn26] at hAm
                  have hbx2 := bel_tr hwq hbx
                  have hconv : (convert 83 9 (.slice (some ⟨wr.heap.size, 0, none⟩) 1 1)).run Tryd.prog (wr.alloc (.cells #[.int .u8 (97 + (A.length : Int) % 26)] 5)) = .ok (.string ⟨#[UInt8.ofNat (97 + n26)]⟩) (wr.alloc (.cells #[.int .u8 (97 + (A.length : Int) % 26)] 5)) := by
                    refine run_convert_bytes_back _ _ _ 5 ⟨wr.heap.size, 0, none⟩ 1 [UInt8.ofNat (97 + n26)] Tryd.underlying83 Tryd.underlying5 Tryd.underlying9 (fun j hj => ?_)
                    have : j = 0 := by simp at hj; omega
                    subst this
                    have e : (UInt8.ofNat (97 + n26)).toNat = 97 + n26 := by rw [UInt8.toNat_ofNat']; omega
                    simp only [List.getElem_cons_zero, e]
                    simp [add_flat]
                    omega
                  clear hn26
                  have hff : (⟨#[111, 110, 101, 47, 109, 111, 114, 101, 47]⟩ ++ ⟨#[97 + UInt8.ofNat n26]⟩ ++ ⟨#[47, 33, 63]⟩ : ByteArray) = ff n26 := by
                    unfold ff
                    rw [UInt8.ofNat_add]
                    rfl
                  have HFF := Lib.hid hff
                  have hba := (Below.refl wr.heap.size wr).alloc (Nat.le_refl _) (.cells #[.int .u8 (97 + (A.length : Int) % 26)] 5)
                  have hzl : (ff n26).size ≤ 100000 := by show 13 ≤ 100000; omega
                  obtain ⟨R, z, hadd, hz⟩ : ∃ R z, addL M ⟨ff n26, 0⟩ = (R, z) ∧ (z = 5 ∨ (z = 0 ∧ thereW M (ff n26) = true)) := ff_add HX.out.1 HML.out hAm
                  have HADD := Lib.hid hadd
                  have HZ := Lib.hid hz
                  clear hadd hz hff
                  go_wp2_with fail
                  rw [HFF.out]
                  refine (Add_any _ _ M ⟨ff n26, 0⟩ ((HMM.out.below hba).more hba.size) HX.out.2.1 hzl (hE.below (bel_tr hbx2 hba))).mono ?_
                  rintro e wb ⟨v20, rfl, ho20, hb20⟩
                  rw [HADD.out]
                  have hbwb := bel_tr hbx2 (bel_tr hba hb20)
                  have HMb := Lib.hid (HMM.out.below (bel_tr hba hb20))
                  have hba20 := hba
                  clear ho20 hconv hba
                  go_wp2
                  go_loopw [22, 23] (fun t i wx => ∃ k : Nat, k ≤ M.length ∧ i = .int .i64 k ∧ t = .bool ((M.take k).any isOne) ∧ Below wb.heap.size wb wx) (fun _ i _ => M.length - (intOf i).toNat)
                  case atStart => exact ⟨0, by omega, rfl, rfl, Below.refl _ _⟩
                  case round =>
                    obtain ⟨k, hk, rfl, rfl, hbl⟩ := hrel
                    have hble := bel_tr (bel_tr hba20 hb20) hbl
                    by_cases hkM : k < M.length
                    · obtain ⟨y, hy⟩ : ∃ y, M[k]? = some y := ⟨_, List.getElem?_eq_getElem hkM⟩
                      obtain ⟨b, o, rfl, hbl2, f0, f1⟩ := wish_cell (HMM.out.below hble) rfl hy
                      have HNX : Hid ((M.take (k + 1)).any isOne = ((M.take k).any isOne || isOne y)) := Lib.hid (by rw [wtake_snoc M k y hy, List.any_append]; simp)
                      have HY := Lib.hid hy
                      clear hy
                      cases ht : (M.take k).any isOne
                      · have HT := Lib.hid ht
                        have hyl := HX.out.2.1 k y HY.out
                        clear ht
                        by_cases hs : 9 < y.f.size
                        · have HN : Hid (isOne y = ((y.f.extract 0 9).toList == [111, 110, 101, 47, 109, 111, 114, 101, 47])) := Lib.hid (by unfold isOne; rw [decide_eq_true hs]; rfl)
                          go_wp2
                          go_roundw
                          case rel => exact ⟨k + 1, by omega, by go_num, by rw [HNX.out, HT.out, HN.out]; rfl, hbl⟩
                          case measure => simp [intOf]; omega
                        · have HN : Hid (isOne y = false) := Lib.hid (by unfold isOne; rw [decide_eq_false hs]; rfl)
                          go_wp2
                          go_roundw
                          case rel => exact ⟨k + 1, by omega, by go_num, by rw [HNX.out, HT.out, HN.out]; rfl, hbl⟩
                          case measure => simp [intOf]; omega
                      · have HT := Lib.hid ht
                        clear ht
                        go_wp2
                        go_roundw
                        case rel => exact ⟨k + 1, by omega, by go_num, by rw [HNX.out, HT.out]; rfl, hbl⟩
                        case measure => simp [intOf]; omega
                    · have hk4 : k = M.length := by omega
                      subst hk4
                      rw [List.take_length]
                      cases ht : M.any isOne
                      · have hz5 : z = 5 := by
                          rcases HZ.out with h | ⟨_, h⟩
                          · exact h
                          · obtain ⟨x, hx, he⟩ := there_lt h
                            have hx1 : isOne x = true := by unfold isOne; rw [he]; exact one_ff hAm
                            rw [List.any_eq_false] at ht
                            exact absurd hx1 (ht x (List.mem_of_getElem? hx))
                        subst hz5
                        clear ht
                        go_wp2_with (first | (go_at_call 23; refine (num_any _ _).mono ?_; rintro e w' ⟨rfl, rfl⟩) | (go_at_call 25; refine (swakes_any _).mono ?_; rintro e w4 ⟨rfl, hb4⟩))
                        go_ret
                        exact ⟨rfl, bel_tr (bel_tr hbwb hbl) hb4⟩
                      · clear ht
                        go_wp2_with (first | (go_at_call 23; refine (num_any _ _).mono ?_; rintro e w' ⟨rfl, rfl⟩) | (go_at_call 25; refine (swakes_any _).mono ?_; rintro e w4 ⟨rfl, hb4⟩))
                        go_ret
                        exact ⟨rfl, bel_tr (bel_tr hbwb hbl) hb4⟩
        · obtain ⟨y, hy⟩ : ∃ y, L[j]? = some y := ⟨_, List.getElem?_eq_getElem (by omega)⟩
          obtain ⟨b, o, rfl, hbl, f0, f1⟩ := wish_cell (HL'.out.below hbw) rfl hy
          have hdr : L.drop j = y :: L.drop (j + 1) := by
            obtain ⟨hj, rfl⟩ := List.getElem?_eq_some_iff.1 hy
            exact List.drop_eq_getElem_cons hj
          have hsj : subsB (y :: L.drop (j + 1)) = true := hdr ▸ subsB_sub H1.out (List.drop_sublist j L)
          have hmy := subsB_mem H1.out y (List.mem_of_getElem? hy)
          obtain ⟨hq0, hq2⟩ := mayW_q hmy
          obtain ⟨R, hR⟩ : ∃ R, L.drop (j + 1) = R := ⟨_, rfl⟩
          rw [hR] at hB hdr hsj
          have HB := Lib.hid hB
          have HDR := Lib.hid hdr
          have HSJ := Lib.hid hsj
          have HMY := Lib.hid hmy
          obtain ⟨yf, yq⟩ := y
          simp only at f0 f1 hq0 hq2
          have HY := Lib.hid hy
          clear hB hdr hsj hmy hR hy
          have hR16 : R.length ≤ 15 := by have := subsB_len HSJ.out; rw [List.length_cons] at this; omega
          have HSR : Hid (Short R) := Lib.hid (short_of HS.out (fun x hx => List.mem_of_mem_drop (i := j) (by rw [HDR.out]; exact List.mem_cons_of_mem _ hx)))
          have hyfl : yf.size ≤ 100000 := HS.out j ⟨yf, yq⟩ HY.out
          obtain ⟨ao3, cap3, rfl, hc31, hc32⟩ := HB.out.form
          have hc33 : cap3 ≤ 9223372036854775807 := by unfold maxLen at hc32; omega
          clear hc32
          go_upto_region 9 with fail
          obtain ⟨q', hq'⟩ : ∃ q', (yq + 1) % 3 = q' := ⟨_, rfl⟩
          rw [hq']
          have hq0' : 0 ≤ q' := by omega
          have hq2' : q' ≤ 2 := by omega
          clear hq'
          obtain ⟨wa, hwa⟩ : ∃ wa, wa = wr.alloc (.cells #[.string yf, .int .i64 q'] 43) := ⟨_, rfl⟩
          rw [← hwa]
          have hba : Below wr.heap.size wr wa := hwa ▸ (Below.refl wr.heap.size wr).alloc (Nat.le_refl _) _
          have g0 : wa.cell? ⟨wr.heap.size, 0, none⟩ = some (.string yf) := by rw [hwa]; simp
          have g1 : wa.cell? ⟨wr.heap.size, 1, none⟩ = some (.int .i64 q') := by rw [hwa]; simp
          have hmx : mayW ⟨yf, q'⟩ = true := by
            have := HMY.out
            unfold mayW at this ⊢
            rw [Bool.and_eq_true] at this
            rw [this.1]
            simp [hq0', hq2']
          obtain ⟨hf1, hf2⟩ := add_front HSJ.out (x := ⟨yf, q'⟩) rfl hmx
          have HF1 := Lib.hid hf1
          have HF2 := Lib.hid (add_again hf2 (y := ⟨yf, yq⟩) rfl HMY.out)
          have HBa := Lib.hid ((HB.out.below hba).more hba.size)
          have hEa := hE.below (bel_tr hbw hba)
          clear hwa hmx hf1 hf2
          go_wp2_with fail
          refine (Add_any _ _ R ⟨yf, q'⟩ HBa.out HSR.out hyfl hEa).mono ?_
          rintro e wb ⟨v6, rfl, ho6, hb6⟩
          rw [HF1.out] at ho6 ⊢
          have hab := bel_tr hba hb6
          have HO6 := Lib.hid (Rd.of_own ho6)
          have e0b := cell_bel e0 hab
          have f0b := cell_bel f0 hab
          have f1b := cell_bel f1 hab
          clear ho6
          go_wp2_with fail
          refine (Add_any _ _ (⟨yf, q'⟩ :: R) ⟨yf, yq⟩ HO6.out (short_cons HSR.out hyfl) hyfl (hEa.below hb6)).mono ?_
          rintro e wc ⟨v8, rfl, ho8, hb8⟩
          rw [HF2.out] at ho8 ⊢
          have hac := bel_tr hab hb8
          have HO8 := Lib.hid (Rd.of_own ho8)
          clear ho8
          obtain ⟨ao8, cap8, rfl, hc81, hc82⟩ := HO8.out.form
          rw [List.length_cons] at hc81 ⊢
          have hln : (((R.length + 1 : Nat) : Int) != (R.length : Int) + 1) = false := by simp
          clear hc81 hc82
          go_wp2_with (go_at_call 23; refine (num_any _ _).mono ?_; rintro e w' ⟨rfl, rfl⟩)
          go_roundw
          case rel =>
            refine ⟨j, by omega, ?_, by rw [HDR.out]; exact HO8.out, bel_to hbr hac (by omega)⟩
            rcases j with _ | j
            · exact .inl ⟨rfl, by go_num⟩
            · exact .inr ⟨j, rfl, by go_num⟩
          case measure => first | (simp [intOf]; done) | (simp [intOf]; omega)
  · go_wp2
    go_ret
    exact ⟨rfl, hbb1⟩
end Go.Proofs.YtimjbojoeacaeaaDoor
